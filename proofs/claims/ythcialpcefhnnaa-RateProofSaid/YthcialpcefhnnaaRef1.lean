/- Contracts of the reference's numbers of any size (package tourbillonref01), first part: appending a digit; comparing, adding and subtracting lists of digits in base 10000. (With what follows it, in one text.) -/
import Derived.Test.YthcialpcefhnnaaWide1
import Derived.Test.YthcialpcefhnnaaGround
set_option linter.unusedVariables false
set_option linter.unusedSimpArgs false
/- Contracts of the reference's numbers of any size (package tourbillonref01), first part: appending a digit; comparing, adding and subtracting lists of digits in base 10000. -/
namespace Go.Proofs.Tb
open Go.RowKit
attribute [local go_sem] cell_set_same

/-- The element type of the digits. -/
abbrev TN : TypeId := 3
abbrev TS : TypeId := 31
/-- The base of the digits. -/
def BT : Nat := 10000
theorem two_BT : 2 ≤ BT := by unfold BT; omega
theorem BT_eq : BT = 10000 := rfl
def I64 (x : Nat) : Value := .int .i64 (x : Int)
theorem i64e {a b : Int} (h : a = b) : Value.int .i64 a = .int .i64 b := by rw [h]
/-- The digits of m, as values. -/
def LZ (m : Nat) : List Value := (digs BT m).map I64
theorem Sl.at_int {w : World} {A : Option Addr} {n c : Nat} {xs : List Nat} (h : Sl TN w A n c (xs.map I64)) (h0 : 0 < n) :
    ∃ b o, A = some ⟨b, o, none⟩ ∧ ∀ j, j < n → w.cell? ⟨b, o + j, none⟩ = some (.int .i64 ((xs.getD j 0 : Nat) : Int)) := by
  obtain ⟨b, o, hA, _, hc⟩ := h.at_ h0
  have hl := h.len
  refine ⟨b, o, hA, fun j hj => ?_⟩
  rw [hc j hj, map_getD _ _ _ (by simp at hl; omega)]
  rfl
/-- How two natural numbers compare. -/
def cmpN (m m' : Nat) : Int := if m < m' then -1 else if m' < m then 1 else 0
theorem cmpN_lt {m m' : Nat} (h : m < m') : cmpN m m' = -1 := if_pos h
theorem cmpN_gt {m m' : Nat} (h : m' < m) : cmpN m m' = 1 := by rw [cmpN, if_neg (by omega), if_pos h]
theorem cmpN_eq (m : Nat) : cmpN m m = 0 := by rw [cmpN, if_neg (by omega), if_neg (by omega)]
theorem Dg.nil (B : Nat) : Dg B [] := fun _ h => by cases h

set_option maxHeartbeats 800000 in
theorem zsizes_eqlen (A A' : Option Addr) (n c c' : Nat) (xs ys : List Nat) (w : World) (h : Sl TN w A n c (xs.map I64)) (h' : Sl TN w A' n c' (ys.map I64)) (hdx : Dg BT xs) (hdy : Dg BT ys) :
    Calls Try.prog 70 #[.slice A n c, .slice A' n c'] w (Ret (fun v _ => v = .int .i64 (cmpN (val BT xs) (val BT ys))) w) := by
  have hn := h.le
  have hc := h.cap
  have hl := h.len
  have hl' := h'.len
  rw [List.length_map] at hl hl'
  have HL := Lib.hid hl
  have HL' := Lib.hid hl'
  have HH := Lib.hid h
  have HH' := Lib.hid h'
  have HX := Lib.hid hdx
  have HY := Lib.hid hdy
  clear h hdx hl h' hdy hl'
  have hne0 : ((n : Int) != (n : Int)) = false := by simp
  go_enter Try.func70, Try.ntmps70
  go_wp2
  go_loopw [5] (fun i wr => ∃ k nq : Nat, k ≤ n ∧ val BT (xs.drop k) = val BT (ys.drop k) ∧ i = .int .i64 ((k : Int) - 1) ∧ wr = w.drewN nq) (fun i _ => (intOf i + 1).toNat)
  case atStart => exact ⟨n, 0, Nat.le_refl _, by rw [← HL.out, List.drop_length, HL.out, ← HL'.out, List.drop_length], rfl, rfl⟩
  case round =>
    obtain ⟨k, nq, hk, hv, rfl, rfl⟩ := hrel
    have HV := Lib.hid hv
    clear hv
    by_cases hk0 : 0 < k
    · obtain ⟨b, o, rfl, hcell⟩ := HH.out.at_int (by omega)
      obtain ⟨b', o', rfl, hcell'⟩ := HH'.out.at_int (by omega)
      have hcl := hcell (k - 1) (by omega)
      have hcl' := hcell' (k - 1) (by omega)
      clear hcell hcell'
      obtain ⟨d, hd⟩ : ∃ d, xs.getD (k - 1) 0 = d := ⟨_, rfl⟩
      obtain ⟨d', hd'⟩ : ∃ d, ys.getD (k - 1) 0 = d := ⟨_, rfl⟩
      rw [hd] at hcl
      rw [hd'] at hcl'
      have HD := Lib.hid hd
      have HD' := Lib.hid hd'
      clear hd hd'
      have hi0 : (0 : Int) ≤ (k : Int) - 1 := by omega
      have hi1 : (k : Int) - 1 < (n : Int) := by omega
      rcases Nat.lt_trichotomy d d' with hlt | heq | hgt
      · go_wp2
        go_quiet (fail)
        go_wp2
        go_returns
        exact ⟨_, rfl, i64e (cmpN_lt (cmp_at BT xs ys n k d d' HL.out HL'.out HX.out hk0 hk HV.out HD.out HD'.out hlt)).symm, below_drewN (below_drewN (Below.refl _ _) _) _⟩
      · subst heq
        have hn1 : ¬ d < d := by omega
        go_wp2
        go_quiet (fail)
        go_wp2
        go_quiet (fail)
        go_wp2
        go_roundw
        case rel => exact ⟨k - 1, _, by omega, drop_eq_step BT xs ys n k d HL.out HL'.out hk0 hk HV.out HD.out HD'.out, by go_num, rfl⟩
        case measure => simp [intOf]; omega
      · have hn1 : ¬ d < d' := by omega
        go_wp2
        go_quiet (fail)
        go_wp2
        go_quiet (fail)
        go_wp2
        go_returns
        have hlt := cmp_at BT ys xs n k d' d HL'.out HL.out HY.out hk0 hk HV.out.symm HD'.out HD.out hgt
        exact ⟨_, rfl, i64e (cmpN_gt hlt).symm, below_drewN (below_drewN (below_drewN (Below.refl _ _) _) _) _⟩
    · have : k = 0 := by omega
      subst this
      go_wp2
      go_returns
      have e1 : val BT xs = val BT ys := by simpa using HV.out
      exact ⟨_, rfl, i64e (by rw [e1, cmpN_eq]), below_drewN (Below.refl _ _) _⟩
set_option maxHeartbeats 800000 in
theorem zsizes_any (A A' : Option Addr) (n c n' c' : Nat) (m m' : Nat) (w : World) (h : Sl TN w A n c (LZ m)) (h' : Sl TN w A' n' c' (LZ m')) :
    Calls Try.prog 70 #[.slice A n c, .slice A' n' c'] w (Ret (fun v _ => v = .int .i64 (cmpN m m')) w) := by
  by_cases hnn : n = n'
  · subst hnn
    have := zsizes_eqlen A A' n c c' (digs BT m) (digs BT m') w h h' (digs_dg BT two_BT m) (digs_dg BT two_BT m')
    rw [val_digs BT two_BT, val_digs BT two_BT] at this
    exact this
  · have hl := h.len
    have hl' := h'.len
    have hc := h.cap
    have hc' := h'.cap
    have hle := h.le
    have hle' := h'.le
    simp only [LZ, List.length_map] at hl hl'
    have HL := Lib.hid hl
    have HL' := Lib.hid hl'
    clear h h' hl hl'
    have hne : ((n : Int) != (n' : Int)) = true := by rw [bne_iff_ne]; omega
    rcases Nat.lt_or_gt_of_ne hnn with hlt | hlt
    · go_enter Try.func70, Try.ntmps70
      go_wp2
      go_returns
      have hl := HL.out
      have hl' := HL'.out
      have := lt_of_dl_lt BT two_BT m m' (by unfold dl; omega)
      exact ⟨_, rfl, i64e (cmpN_lt this).symm, Below.refl _ _⟩
    · have hn1 : ¬ n < n' := by omega
      go_enter Try.func70, Try.ntmps70
      go_wp2
      go_returns
      have hl := HL.out
      have hl' := HL'.out
      have := lt_of_dl_lt BT two_BT m' m (by unfold dl; omega)
      exact ⟨_, rfl, i64e (cmpN_gt this).symm, Below.refl _ _⟩

theorem int_info : (Try.prog.info? 3).map (fun i => (i.zero, i.size, i.bytes)) = some (some (.int .i64 0), 1, 8) := by kernel_rfl
/-- v owns the digits cs, in a block from base on. -/
def Ow (base : Nat) (w : World) (v : Value) (cs : List Nat) : Prop := w.ownsRow base TN 1 v cs.length (cs.map I64)
theorem Ow.sl {base : Nat} {w : World} {v : Value} {cs : List Nat} (h : Ow base w v cs) : SL TN w v (cs.map I64) := Sl.of_own h
theorem Ow.nil (base : Nat) (w : World) : Ow base w (.slice none 0 0) [] := ⟨rfl, .inl ⟨rfl, rfl⟩⟩
theorem Ow.empty (base : Nat) (w : World) (h : base ≤ w.heap.size) : Ow base (w.alloc (.cells #[] TN)) (.slice (some ⟨w.heap.size, 0, none⟩) 0 0) [] :=
  World.ownsRow_lit w #[] 0 h (by unfold maxLen; omega) rfl
theorem own_ge {base : Nat} {w : World} {e : TypeId} {size n : Nat} {v : Value} {xs : List Value} (h : w.ownsRow base e size v n xs) : ∀ k, v.ownBlock = some k → base ≤ k := by
  intro k hk
  rcases h.2 with ⟨rfl, _⟩ | ⟨g, cap, cur, rfl, hb, _⟩
  · simp [Value.ownBlock] at hk
  · simp [Value.ownBlock] at hk
    omega
theorem Ow.alloc {base : Nat} {w : World} {v : Value} {cs : List Nat} (h : Ow base w v cs) (o : Obj) : Ow base (w.alloc o) v cs := World.ownsRow.alloc h o
/-- append of one digit to digits that the call owns. -/
theorem wp_app1 {ops : Array Oper} {rest : List Oper} {o : Oper} {a : Act} {Q : Exit → Act → World → Prop} {wr : World} (hgd : o.guard = none) (s x : Operand)
    (ho : o.op = .call { callee := .builtin .append, args := #[s, x], argTypes := #[TS, TS] }) (base : Nat) (v : Value) (xs : List Nat) (hs : a.eval s = v) (hown : Ow base wr v xs)
    (u : Value) (y : Nat) (hu : u = I64 y) (hx : a.eval x = .slice (some ⟨wr.heap.size, 0, none⟩) 1 1) (hn : xs.length ≤ 1000000000000) (hbase : base ≤ wr.heap.size)
    (h : ∀ v' w', Ow base w' v' (xs ++ [y]) → Below base wr w' → wpList Try.prog ops Q rest (a.put o.dst v') w') : wpList Try.prog ops Q (o :: rest) a (wr.alloc (.cells #[u] TN)) := by
  obtain ⟨i0, hi, hz0, hz1, hz2⟩ := info_parts int_info
  subst hu
  refine wpList_append_own _ hgd s x TS ho base TN i0 (.int .i64 0) 1 8 Try.underlying31 hi hz0 hz1 hz2 rfl (by decide) v xs.length (xs.map I64) hs (hown.alloc _) ⟨wr.heap.size, 0, none⟩ 1 1 [I64 y] hx rfl (cell_one_new _ _ _) ?_ ?_ ?_ ?_ ?_
  · intro u hu; rw [List.mem_singleton.1 hu]; rfl
  · unfold maxLen; omega
  · omega
  · simp; omega
  · intro v' w' h1 h2 _
    refine h v' w' ?_ ?_
    · unfold Ow; rw [List.map_append, List.length_append]; exact h1
    · exact ((Below.refl _ _).alloc hbase _).grown h2 (by simp; omega) (own_ge hown)

/-- v reads as digits whose value is m. -/
def DV (m : Nat) (v : Value) (w : World) : Prop := ∃ cs : List Nat, SL TN w v (cs.map I64) ∧ Dg BT cs ∧ val BT cs = m ∧ cs.length ≤ 900000000000

end Go.Proofs.Tb
/- Contracts of the reference's numbers of any size, second part: sums and differences of lists of digits. -/
namespace Go.Proofs.Tb
open Go.RowKit
attribute [local go_sem] cell_set_same

theorem app_val (B k cy y : Nat) (cs : List Nat) (hk : cs.length = k) : val B (cs ++ [y]) + B ^ (k + 1) * cy = val B cs + B ^ k * y + B ^ (k + 1) * cy := by
  rw [val_append, hk]; simp [val]
set_option maxHeartbeats 3200000 in
set_option maxRecDepth 100000 in
theorem zplus_any (X Y : Option Addr) (nx cx ny cy : Nat) (xs ys : List Nat) (w : World) (h : Sl TN w X nx cx (xs.map I64)) (h' : Sl TN w Y ny cy (ys.map I64)) (hdx : Dg BT xs) (hdy : Dg BT ys)
    (hbig : nx ≤ 800000000000) (hbig' : ny ≤ 800000000000) :
    Calls Try.prog 73 #[.slice X nx cx, .slice Y ny cy] w (Ret (DV (val BT xs + val BT ys)) w) := by
  have hc := h.cap
  have hc' := h'.cap
  have hn := h.le
  have hn' := h'.le
  have hl := h.len
  have hl' := h'.len
  rw [List.length_map] at hl hl'
  have HL := Lib.hid hl
  have HL' := Lib.hid hl'
  have HH := Lib.hid h
  have HH' := Lib.hid h'
  have HX := Lib.hid hdx
  have HY := Lib.hid hdy
  obtain ⟨mx, hmx⟩ : ∃ mx, max nx ny = mx := ⟨_, rfl⟩
  have hm1 : nx ≤ mx := by omega
  have hm2 : ny ≤ mx := by omega
  have hm3 : mx ≤ 800000000000 := by omega
  have HMX := Lib.hid hmx
  clear h hdx hl h' hdy hl' hmx
  go_enter Try.func73, Try.ntmps73
  go_wp2
  go_loopw [5, 6, 7] (fun out cy i wr => ∃ (k c : Nat) (cs : List Nat), k + c ≤ mx + 1 ∧ c ≤ 1 ∧ i = .int .i64 k ∧ cy = .int .i64 c ∧ cs.length = k ∧ Dg BT cs ∧ val BT cs + BT ^ k * c = val BT (xs.take k) + val BT (ys.take k) ∧ Ow w.heap.size wr out cs ∧ Below w.heap.size w wr) (fun _ cy i _ => 2 * (mx - (intOf i).toNat) + (intOf cy).toNat)
  case atStart => exact ⟨0, 0, [], by omega, by omega, rfl, rfl, rfl, Dg.nil _, by simp [val], Ow.empty _ _ (Nat.le_refl _), by go_grown⟩
  case round =>
    obtain ⟨k, cr, cs, hk, hcr, rfl, rfl, hcl, hcd, hv, hown, hbw⟩ := hrel
    have HV := Lib.hid hv
    have HCL := Lib.hid hcl
    have HCD := Lib.hid hcd
    have HO := Lib.hid hown
    clear hv hcl hcd hown
    have hd1 := HX.out.getD (by unfold BT; omega) k
    have hd2 := HY.out.getD (by unfold BT; omega) k
    rw [BT_eq] at hd1 hd2
    obtain ⟨dx, hdx⟩ : ∃ d, xs.getD k 0 = d := ⟨_, rfl⟩
    obtain ⟨dy, hdy⟩ : ∃ d, ys.getD k 0 = d := ⟨_, rfl⟩
    rw [hdx] at hd1
    rw [hdy] at hd2
    have HDX := Lib.hid hdx
    have HDY := Lib.hid hdy
    clear hdx hdy
    by_cases hkx : k < nx
    · obtain ⟨b, o, rfl, hcell⟩ := HH.out.at_int (by omega)
      have hcx : wr.cell? ⟨b, o + k, none⟩ = some (.int .i64 (dx : Int)) := by
        rw [hbw.cell (p := ⟨b, o + k, none⟩) (World.block_lt_of_cell? w _ (hcell k hkx)), ← HDX.out]
        exact hcell k hkx
      clear hcell
      by_cases hky : k < ny
      · obtain ⟨b', o', rfl, hcell'⟩ := HH'.out.at_int (by omega)
        have hcy : wr.cell? ⟨b', o' + k, none⟩ = some (.int .i64 (dy : Int)) := by
          rw [hbw.cell (p := ⟨b', o' + k, none⟩) (World.block_lt_of_cell? w _ (hcell' k hky)), ← HDY.out]
          exact hcell' k hky
        clear hcell'
        go_wp2_with (at_builtin; refine wp_app1 rfl _ _ rfl w.heap.size _ cs rfl HO.out _ ((dx + dy + cr) % 10000) (by (try rw [HX0.out]); (try rw [HY0.out]); exact i64e (by omega)) rfl (by rw [HCL.out]; omega) hbw.size ?_; intro v' w1 hown1 hb1)
        have HO1 := Lib.hid hown1
        have HB1 := Lib.hid hb1
        clear hown1 hb1
        go_roundw
        case rel =>
          refine ⟨k + 1, (dx + dy + cr) / 10000, cs ++ [(dx + dy + cr) % 10000], by (first | (have q1 := HX0.out; have q2 := HY0.out; omega) | omega), by omega, by go_num, ?_, by simp [HCL.out], HCD.out.append (Dg.one (by rw [BT_eq]; omega)), ?_, HO1.out, hbw.trans HB1.out⟩
          · (try rw [HX0.out]); (try rw [HY0.out]); exact i64e (by omega)
          · rw [app_val BT k _ _ cs HCL.out, val_take_succ' BT xs, val_take_succ' BT ys, HDX.out, HDY.out]
            exact plus_step BT k cr dx dy _ _ _ _ _ HV.out (by rw [BT_eq]; omega)
        case measure => simp [intOf]; omega
      · have HY0 := Lib.hid (show dy = 0 by rw [← HDY.out, List.getD_eq_getElem?_getD, List.getElem?_eq_none (by rw [HL'.out]; omega)]; rfl)
        go_wp2_with (at_builtin; refine wp_app1 rfl _ _ rfl w.heap.size _ cs rfl HO.out _ ((dx + dy + cr) % 10000) (by (try rw [HX0.out]); (try rw [HY0.out]); exact i64e (by omega)) rfl (by rw [HCL.out]; omega) hbw.size ?_; intro v' w1 hown1 hb1)
        have HO1 := Lib.hid hown1
        have HB1 := Lib.hid hb1
        clear hown1 hb1
        go_roundw
        case rel =>
          refine ⟨k + 1, (dx + dy + cr) / 10000, cs ++ [(dx + dy + cr) % 10000], by (first | (have q1 := HX0.out; have q2 := HY0.out; omega) | omega), by omega, by go_num, ?_, by simp [HCL.out], HCD.out.append (Dg.one (by rw [BT_eq]; omega)), ?_, HO1.out, hbw.trans HB1.out⟩
          · (try rw [HX0.out]); (try rw [HY0.out]); exact i64e (by omega)
          · rw [app_val BT k _ _ cs HCL.out, val_take_succ' BT xs, val_take_succ' BT ys, HDX.out, HDY.out]
            exact plus_step BT k cr dx dy _ _ _ _ _ HV.out (by rw [BT_eq]; omega)
        case measure => simp [intOf]; omega
    · by_cases hky : k < ny
      · have HX0 := Lib.hid (show dx = 0 by rw [← HDX.out, List.getD_eq_getElem?_getD, List.getElem?_eq_none (by rw [HL.out]; omega)]; rfl)
        obtain ⟨b', o', rfl, hcell'⟩ := HH'.out.at_int (by omega)
        have hcy : wr.cell? ⟨b', o' + k, none⟩ = some (.int .i64 (dy : Int)) := by
          rw [hbw.cell (p := ⟨b', o' + k, none⟩) (World.block_lt_of_cell? w _ (hcell' k hky)), ← HDY.out]
          exact hcell' k hky
        clear hcell'
        go_wp2_with (at_builtin; refine wp_app1 rfl _ _ rfl w.heap.size _ cs rfl HO.out _ ((dx + dy + cr) % 10000) (by (try rw [HX0.out]); (try rw [HY0.out]); exact i64e (by omega)) rfl (by rw [HCL.out]; omega) hbw.size ?_; intro v' w1 hown1 hb1)
        have HO1 := Lib.hid hown1
        have HB1 := Lib.hid hb1
        clear hown1 hb1
        go_roundw
        case rel =>
          refine ⟨k + 1, (dx + dy + cr) / 10000, cs ++ [(dx + dy + cr) % 10000], by (first | (have q1 := HX0.out; have q2 := HY0.out; omega) | omega), by omega, by go_num, ?_, by simp [HCL.out], HCD.out.append (Dg.one (by rw [BT_eq]; omega)), ?_, HO1.out, hbw.trans HB1.out⟩
          · (try rw [HX0.out]); (try rw [HY0.out]); exact i64e (by omega)
          · rw [app_val BT k _ _ cs HCL.out, val_take_succ' BT xs, val_take_succ' BT ys, HDX.out, HDY.out]
            exact plus_step BT k cr dx dy _ _ _ _ _ HV.out (by rw [BT_eq]; omega)
        case measure => simp [intOf]; omega
      · have HX0 := Lib.hid (show dx = 0 by rw [← HDX.out, List.getD_eq_getElem?_getD, List.getElem?_eq_none (by rw [HL.out]; omega)]; rfl)
        have HY0 := Lib.hid (show dy = 0 by rw [← HDY.out, List.getD_eq_getElem?_getD, List.getElem?_eq_none (by rw [HL'.out]; omega)]; rfl)
        by_cases hc0 : cr = 1
        · subst hc0
          go_wp2_with (at_builtin; refine wp_app1 rfl _ _ rfl w.heap.size _ cs rfl HO.out _ ((dx + dy + 1) % 10000) (by (try rw [HX0.out]); (try rw [HY0.out]); exact i64e (by omega)) rfl (by rw [HCL.out]; omega) hbw.size ?_; intro v' w1 hown1 hb1)
          have HO1 := Lib.hid hown1
          have HB1 := Lib.hid hb1
          clear hown1 hb1
          go_roundw
          case rel =>
            refine ⟨k + 1, (dx + dy + 1) / 10000, cs ++ [(dx + dy + 1) % 10000], by (first | (have q1 := HX0.out; have q2 := HY0.out; omega) | omega), by omega, by go_num, ?_, by simp [HCL.out], HCD.out.append (Dg.one (by rw [BT_eq]; omega)), ?_, HO1.out, hbw.trans HB1.out⟩
            · (try rw [HX0.out]); (try rw [HY0.out]); exact i64e (by omega)
            · rw [app_val BT k _ _ cs HCL.out, val_take_succ' BT xs, val_take_succ' BT ys, HDX.out, HDY.out]
              exact plus_step BT k 1 dx dy _ _ _ _ _ HV.out (by rw [BT_eq]; omega)
          case measure => simp [intOf]; omega
        · have : cr = 0 := by omega
          subst this
          clear hc0
          go_wp2
          go_returns
          refine ⟨_, rfl, ⟨cs, HO.out.sl, HCD.out, ?_, by rw [HCL.out]; omega⟩, hbw⟩
          have hv := HV.out
          rw [List.take_of_length_le (by rw [HL.out]; omega), List.take_of_length_le (by rw [HL'.out]; omega)] at hv
          simpa using hv
theorem less_step (B k br br' dx dy s vx vy vc : Nat) (h : vc + vy = vx + B ^ k * br) (hs : s + dy + br = dx + B * br') :
    vc + B ^ k * s + (vy + B ^ k * dy) = vx + B ^ k * dx + B ^ (k + 1) * br' := by
  have h1 : B ^ k * (s + dy + br) = B ^ k * (dx + B * br') := by rw [hs]
  have e : B ^ (k + 1) * br' = B ^ k * (B * br') := by rw [Nat.pow_succ, Nat.mul_assoc]
  rw [Nat.mul_add, Nat.mul_add, Nat.mul_add] at h1
  rw [e]
  omega
set_option maxHeartbeats 3200000 in
set_option maxRecDepth 100000 in
theorem zless_any (X Y : Option Addr) (nx cx ny cy : Nat) (xs ys : List Nat) (w : World) (h : Sl TN w X nx cx (xs.map I64)) (h' : Sl TN w Y ny cy (ys.map I64)) (hdx : Dg BT xs) (hdy : Dg BT ys)
    (hle : ny ≤ nx) (hv : val BT ys ≤ val BT xs) (hbig : nx ≤ 800000000000) :
    Calls Try.prog 72 #[.slice X nx cx, .slice Y ny cy] w (Ret (DV (val BT xs - val BT ys)) w) := by
  have hc := h.cap
  have hc' := h'.cap
  have hn := h.le
  have hn' := h'.le
  have hl := h.len
  have hl' := h'.len
  rw [List.length_map] at hl hl'
  have HL := Lib.hid hl
  have HL' := Lib.hid hl'
  have HH := Lib.hid h
  have HH' := Lib.hid h'
  have HX := Lib.hid hdx
  have HY := Lib.hid hdy
  have HLE := Lib.hid hv
  clear h hdx hl h' hdy hl' hv
  go_enter Try.func72, Try.ntmps72
  go_wp2
  go_loopw [5, 6, 7] (fun out bw i wr => ∃ (k b : Nat) (cs : List Nat), k ≤ nx ∧ b ≤ 1 ∧ i = .int .i64 k ∧ bw = .int .i64 b ∧ cs.length = k ∧ Dg BT cs ∧ val BT cs + val BT (ys.take k) = val BT (xs.take k) + BT ^ k * b ∧ Ow w.heap.size wr out cs ∧ Below w.heap.size w wr) (fun _ _ i _ => nx - (intOf i).toNat)
  case atStart => exact ⟨0, 0, [], by omega, by omega, rfl, rfl, rfl, Dg.nil _, by simp [val], Ow.empty _ _ (Nat.le_refl _), by go_grown⟩
  case round =>
    obtain ⟨k, br, cs, hk, hbr, rfl, rfl, hcl, hcd, hv, hown, hbw⟩ := hrel
    have HV := Lib.hid hv
    have HCL := Lib.hid hcl
    have HCD := Lib.hid hcd
    have HO := Lib.hid hown
    clear hv hcl hcd hown
    by_cases hkx : k < nx
    · have hd1 := HX.out.getD (by unfold BT; omega) k
      have hd2 := HY.out.getD (by unfold BT; omega) k
      rw [BT_eq] at hd1 hd2
      obtain ⟨dx, hdx⟩ : ∃ d, xs.getD k 0 = d := ⟨_, rfl⟩
      obtain ⟨dy, hdy⟩ : ∃ d, ys.getD k 0 = d := ⟨_, rfl⟩
      rw [hdx] at hd1
      rw [hdy] at hd2
      have HDX := Lib.hid hdx
      have HDY := Lib.hid hdy
      clear hdx hdy
      obtain ⟨b, o, rfl, hcell⟩ := HH.out.at_int (by omega)
      have hcx : wr.cell? ⟨b, o + k, none⟩ = some (.int .i64 (dx : Int)) := by
        rw [hbw.cell (p := ⟨b, o + k, none⟩) (World.block_lt_of_cell? w _ (hcell k hkx)), ← HDX.out]
        exact hcell k hkx
      clear hcell
      by_cases hky : k < ny
      · obtain ⟨b', o', rfl, hcell'⟩ := HH'.out.at_int (by omega)
        have hcy : wr.cell? ⟨b', o' + k, none⟩ = some (.int .i64 (dy : Int)) := by
          rw [hbw.cell (p := ⟨b', o' + k, none⟩) (World.block_lt_of_cell? w _ (hcell' k hky)), ← HDY.out]
          exact hcell' k hky
        clear hcell'
        by_cases hs : (dx : Int) - br - dy < 0
        · go_wp2_with (at_builtin; refine wp_app1 rfl _ _ rfl w.heap.size _ cs rfl HO.out _ (dx + 10000 - br - dy) (by (try rw [HY0.out]); exact i64e (by omega)) rfl (by rw [HCL.out]; omega) hbw.size ?_; intro v' w1 hown1 hb1)
          have HO1 := Lib.hid hown1
          have HB1 := Lib.hid hb1
          clear hown1 hb1
          go_roundw
          case rel =>
            refine ⟨k + 1, 1, cs ++ [dx + 10000 - br - dy], by omega, by omega, by go_num, rfl, by simp [HCL.out], HCD.out.append (Dg.one (by rw [BT_eq]; omega)), ?_, HO1.out, hbw.trans HB1.out⟩
            have h1 := less_step BT k br 1 dx dy (dx + 10000 - br - dy) _ _ _ HV.out (by rw [BT_eq]; (try have q := HY0.out); omega)
            rw [val_append, HCL.out, val_take_succ' BT xs, val_take_succ' BT ys, HDX.out, HDY.out]
            simpa [val] using h1
          case measure => simp [intOf]; omega
        · go_wp2_with (at_builtin; refine wp_app1 rfl _ _ rfl w.heap.size _ cs rfl HO.out _ (dx - br - dy) (by (try rw [HY0.out]); exact i64e (by omega)) rfl (by rw [HCL.out]; omega) hbw.size ?_; intro v' w1 hown1 hb1)
          have HO1 := Lib.hid hown1
          have HB1 := Lib.hid hb1
          clear hown1 hb1
          go_roundw
          case rel =>
            refine ⟨k + 1, 0, cs ++ [dx - br - dy], by omega, by omega, by go_num, rfl, by simp [HCL.out], HCD.out.append (Dg.one (by rw [BT_eq]; omega)), ?_, HO1.out, hbw.trans HB1.out⟩
            have h1 := less_step BT k br 0 dx dy (dx - br - dy) _ _ _ HV.out (by rw [BT_eq]; (try have q := HY0.out); omega)
            rw [val_append, HCL.out, val_take_succ' BT xs, val_take_succ' BT ys, HDX.out, HDY.out]
            simpa [val] using h1
          case measure => simp [intOf]; omega
      · have hy0 : dy = 0 := by rw [← HDY.out, List.getD_eq_getElem?_getD, List.getElem?_eq_none (by rw [HL'.out]; omega)]; rfl
        have HY0 := Lib.hid hy0
        clear hy0
        by_cases hs : (dx : Int) - br < 0
        · go_wp2_with (at_builtin; refine wp_app1 rfl _ _ rfl w.heap.size _ cs rfl HO.out _ (dx + 10000 - br - dy) (by (try rw [HY0.out]); exact i64e (by omega)) rfl (by rw [HCL.out]; omega) hbw.size ?_; intro v' w1 hown1 hb1)
          have HO1 := Lib.hid hown1
          have HB1 := Lib.hid hb1
          clear hown1 hb1
          go_roundw
          case rel =>
            refine ⟨k + 1, 1, cs ++ [dx + 10000 - br - dy], by omega, by omega, by go_num, rfl, by simp [HCL.out], HCD.out.append (Dg.one (by rw [BT_eq]; omega)), ?_, HO1.out, hbw.trans HB1.out⟩
            have h1 := less_step BT k br 1 dx dy (dx + 10000 - br - dy) _ _ _ HV.out (by rw [BT_eq]; (try have q := HY0.out); omega)
            rw [val_append, HCL.out, val_take_succ' BT xs, val_take_succ' BT ys, HDX.out, HDY.out]
            simpa [val] using h1
          case measure => simp [intOf]; omega
        · go_wp2_with (at_builtin; refine wp_app1 rfl _ _ rfl w.heap.size _ cs rfl HO.out _ (dx - br - dy) (by (try rw [HY0.out]); exact i64e (by omega)) rfl (by rw [HCL.out]; omega) hbw.size ?_; intro v' w1 hown1 hb1)
          have HO1 := Lib.hid hown1
          have HB1 := Lib.hid hb1
          clear hown1 hb1
          go_roundw
          case rel =>
            refine ⟨k + 1, 0, cs ++ [dx - br - dy], by omega, by omega, by go_num, rfl, by simp [HCL.out], HCD.out.append (Dg.one (by rw [BT_eq]; omega)), ?_, HO1.out, hbw.trans HB1.out⟩
            have h1 := less_step BT k br 0 dx dy (dx - br - dy) _ _ _ HV.out (by rw [BT_eq]; (try have q := HY0.out); omega)
            rw [val_append, HCL.out, val_take_succ' BT xs, val_take_succ' BT ys, HDX.out, HDY.out]
            simpa [val] using h1
          case measure => simp [intOf]; omega
    · have : k = nx := by omega
      subst this
      clear hkx
      go_wp2
      go_returns
      have hv := HV.out
      rw [List.take_of_length_le (by rw [HL'.out]; omega), List.take_of_length_le (by rw [HL.out]; omega)] at hv
      have hlt := val_lt BT _ HCD.out
      rw [HCL.out] at hlt
      have hle := HLE.out
      refine ⟨_, rfl, ⟨cs, HO.out.sl, HCD.out, ?_, by rw [HCL.out]; omega⟩, hbw⟩
      have hb : br = 0 := by
        rcases Nat.lt_or_ge 0 br with h | h
        · have h1 : br = 1 := by omega
          rw [h1] at hv
          omega
        · omega
      rw [hb] at hv
      omega
end Go.Proofs.Tb
/- Contracts of the reference's numbers of any size, third part: a number in memory; lean, Neg, Abs, Sign. -/
namespace Go.Proofs.Tb
open Go.RowKit
attribute [local go_sem] cell_set_same

/-- The type of the reference's numbers. -/
abbrev TZ : TypeId := 38
/-- A number's value reads as z. -/
def ZI (w : World) (v : Value) (z : Int) : Prop := ∃ A n c, v = .agg #[.bool (ng z), .slice A n c] ∧ Sl TN w A n c (LZ z.natAbs)
theorem ZI.below {w w' : World} {v : Value} {z : Int} (h : ZI w v z) (hb : Below w.heap.size w w') : ZI w' v z := by
  obtain ⟨A, n, c, hv, h⟩ := h
  exact ⟨A, n, c, hv, h.below hb⟩
theorem Sl.posZ {w : World} {A : Option Addr} {n c m : Nat} (h : Sl TN w A n c (LZ m)) : 0 < n ↔ 0 < m := by
  have hl := h.len
  simp only [LZ, List.length_map] at hl
  have := dl_pos BT m two_BT
  unfold dl at this
  rw [hl] at this
  exact this
/-- How many digits z has. -/
def s10 (z : Int) : Nat := dl BT z.natAbs
theorem Sl.lenZ {w : World} {A : Option Addr} {n c m : Nat} (h : Sl TN w A n c (LZ m)) : n = dl BT m := by
  have hl := h.len
  simp only [LZ, List.length_map] at hl
  exact hl.symm
theorem LZ_val {xs : List Nat} (hx : Dg BT xs) (hl : xs.getLast? ≠ some 0) : xs.map I64 = LZ (val BT xs) := by rw [LZ, digs_val BT two_BT xs hx hl]

theorem Blk.low {w w' : World} {B g : Nat} {t : TypeId} {cs : Array Value} (h : Blk w g t cs) (hb : Below B w w') (hg : g < B) : Blk w' g t cs := (hb.block g hg).trans h
theorem HeldM.mk2 {w : World} {g0 g1 : Nat} {T0 T1 : TypeId} {a0 a1 : Array Value} (c0 : Blk w g0 T0 a0) (c1 : Blk w g1 T1 a1) : HeldM [(g0, a0.size, T0), (g1, a1.size, T1)] w w := by
  refine ⟨rfl, rfl, rfl, Nat.le_refl _, fun _ _ _ => rfl, ?_, ?_⟩
  all_goals
    intro r hr
    simp only [List.mem_cons, List.not_mem_nil, or_false] at hr
    rcases hr with rfl | rfl
    · exact ⟨_, c0, rfl⟩
    · exact ⟨_, c1, rfl⟩
theorem heldM2_ne {T T0 T1 : TypeId} {g0 g1 k0 k1 : Nat} (h0 : T ≠ T0) (h1 : T ≠ T1) : ∀ r, r ∈ [(g0, k0, T0), (g1, k1, T1)] → T ≠ r.2.2 := by
  intro r hr
  simp only [List.mem_cons, List.not_mem_nil, or_false] at hr
  rcases hr with rfl | rfl <;> assumption
theorem heldM2_ge {B : Nat} {T0 T1 : TypeId} {g0 g1 k0 k1 : Nat} (h0 : B ≤ g0) (h1 : B ≤ g1) : ∀ r, r ∈ [(g0, k0, T0), (g1, k1, T1)] → B ≤ r.1 := by
  intro r hr
  simp only [List.mem_cons, List.not_mem_nil, or_false] at hr
  rcases hr with rfl | rfl <;> assumption
theorem m2_0 {T0 T1 : TypeId} {g0 g1 k0 k1 : Nat} : ∃ r, r ∈ [(g0, k0, T0), (g1, k1, T1)] ∧ r.1 = g0 := ⟨_, .head _, rfl⟩
theorem m2_1 {T0 T1 : TypeId} {g0 g1 k0 k1 : Nat} : ∃ r, r ∈ [(g0, k0, T0), (g1, k1, T1)] ∧ r.1 = g1 := ⟨_, .tail _ (.head _), rfl⟩

/-- append of digits that lie somewhere to digits that the call owns. -/
theorem wp_appN {ops : Array Oper} {rest : List Oper} {o : Oper} {a : Act} {Q : Exit → Act → World → Prop} {wr : World} (hgd : o.guard = none) (s x : Operand)
    (ho : o.op = .call { callee := .builtin .append, args := #[s, x], argTypes := #[TS, TS] }) (base : Nat) (v : Value) (xs : List Nat) (hs : a.eval s = v) (hown : Ow base wr v xs)
    (A : Option Addr) (m c : Nat) (ys : List Nat) (hx : a.eval x = .slice A m c) (hsl : Sl TN wr A m c (ys.map I64)) (hn : xs.length ≤ 1000000000000) (hm : m ≤ 1000000000000) (hbase : base ≤ wr.heap.size)
    (h : ∀ v' w', Ow base w' v' (xs ++ ys) → Below base wr w' → wpList Try.prog ops Q rest (a.put o.dst v') w') : wpList Try.prog ops Q (o :: rest) a wr := by
  obtain ⟨i0, hi, hz0, hz1, hz2⟩ := info_parts int_info
  have hl := hsl.len
  rw [List.length_map] at hl
  have key : ∀ ad : Addr, A = some ad → (∀ j u, (ys.map I64)[j]? = some u → wr.cell? (ad.add j) = some u) → wpList Try.prog ops Q (o :: rest) a wr := by
    intro ad hA hc
    subst hA
    refine wpList_append_own _ hgd s x TS ho base TN i0 (.int .i64 0) 1 8 Try.underlying31 hi hz0 hz1 hz2 rfl (by decide) v xs.length (xs.map I64) hs hown ad m c (ys.map I64) hx (by simp [hl]) hc ?_ ?_ ?_ hbase ?_
    · intro u hu; obtain ⟨y, _, rfl⟩ := List.mem_map.1 hu; rfl
    · unfold maxLen; omega
    · omega
    · intro v' w' h1 h2 _
      refine h v' w' ?_ ?_
      · unfold Ow; rw [List.map_append, List.length_append, hl]; exact h1
      · exact (Below.refl _ _).grown h2 hbase (own_ge hown)
  by_cases hm0 : 0 < m
  · obtain ⟨b, o', hA, _, hc⟩ := hsl.at_ hm0
    refine key _ hA (fun j u hj => ?_)
    have hjm : j < m := by
      rcases Nat.lt_or_ge j m with h | h
      · exact h
      · rw [List.getElem?_eq_none (by simp; omega)] at hj; cases hj
    have := hc j hjm
    rw [List.getD_eq_getElem?_getD, hj] at this
    have h2 : wr.cell? ⟨b, o' + j, none⟩ = some u := this
    have h3 : (⟨b, o', none⟩ : Addr).add j = ⟨b, o' + j, none⟩ := by simp only [Addr.add]; split <;> simp_all
    rw [h3]; exact h2
  · have hm1 : m = 0 := by omega
    subst hm1
    have hy : ys = [] := List.eq_nil_of_length_eq_zero hl
    subst hy
    cases A with
    | some ad => exact key ad rfl (fun j u hj => by simp at hj)
    | none =>
      refine wpList_plain hgd fun K hK => ?_
      have hrun : (Builtin.append_ #[TS, TS] o.type #[v, .slice none 0 c]).run Try.prog wr = .ok v wr := by
        rcases hown.2 with ⟨rfl, _⟩ | ⟨g, cap, cur, rfl, _, _, hnc, _⟩
        · simp [Builtin.append_, run_underlying Try.underlying31, sizeOf, typeInfo, hi, Builtin.lenOf, Builtin.firstCells, *]
        · simp [Builtin.append_, run_underlying Try.underlying31, sizeOf, typeInfo, hi, Builtin.lenOf, Builtin.firstCells, hnc, storeCells]
      unfold Oper.wp
      simp [execOp, ho, resolve, invoke, builtin, hs, hx, hrun, Result.andThen]
      refine hK _ _ (h v wr ?_ (Below.refl _ _))
      rw [List.append_nil]; exact hown

set_option maxRecDepth 100000 in
/-- A slice cut to nothing, whatever it is. -/
theorem slice_zero (A : Option Addr) (n c : Nat) (w : World) : (Instr.sliceAt TS (.slice A n c) none (some (.int .i64 0)) none).run Try.prog w = .ok (.slice A 0 c) w := by
  obtain ⟨i0, hi, hz0, hz1, hz2⟩ := info_parts int_info
  have e : ∀ s : Nat, sliced A 0 0 c s = .slice A 0 c := by
    intro s
    unfold sliced
    rw [Nat.zero_mul, Nat.sub_zero, Nat.sub_zero]
    cases A with
    | none => simp
    | some a => simp [Addr.add]
  rw [run_sliceAt_slice _ _ _ _ _ _ Try.underlying31, run_slice_h _ _ _ _ _ Try.underlying31 .i64 0 (by omega) (by omega)]
  have hi' : Try.prog.info? (Try.prog.elem TS) = some i0 := hi
  simp [sizeOf, typeInfo, hi', Result.andThen, e]

set_option maxHeartbeats 1600000 in
set_option maxRecDepth 100000 in
theorem zlean_fr (b : Bool) (A : Option Addr) (n c : Nat) (xs : List Nat) (z : Int) (w : World) (h : Sl TN w A n c (xs.map I64)) (hx : Dg BT xs) (hm : val BT xs = z.natAbs) (hz : b = ng z ∨ z = 0) (hbig : n ≤ 1000000000000) :
    Calls Try.prog 69 #[.agg #[.bool b, .slice A n c]] w (Ret (fun v w' => ∃ A n c, v = .agg #[.bool (ng z), .slice A n c] ∧ Sl TN w' A n c (LZ z.natAbs) ∧ ∀ a, A = some a → w.heap.size ≤ a.block) w) := by
  have hn := h.le
  have hc := h.cap
  have hl := h.len
  rw [List.length_map] at hl
  have HL := Lib.hid hl
  have HH := Lib.hid h
  have HX := Lib.hid hx
  have HM := Lib.hid hm
  have HZ := Lib.hid hz
  clear h hx hl hm hz
  go_enter Try.func69, Try.ntmps69
  go_wp2
  refine wp_world (fun W0 => Blk W0 w.heap.size TZ #[.bool b, .slice A n c] ∧ Blk W0 (w.heap.size + 1) TZ #[.bool false, .slice none 0 0] ∧ Below w.heap.size w W0 ∧ w.heap.size + 1 + 1 ≤ W0.heap.size) (by exact ⟨(Blk.new_ _ _ rfl).alloc _, Blk.new_ _ _ (by simp), by go_grown, by simp⟩) ?_
  rintro W0 ⟨b0, b1, hbw, hsz⟩
  have k0 := b0.cells
  simp only [cellsAre, Nat.zero_add, Nat.reduceAdd, and_true] at k0
  have lt0 : w.heap.size < W0.heap.size := by omega
  have q0 := fun (o1 : Obj) => (World.cell?_alloc_lt W0 o1 ⟨w.heap.size, 0, none⟩ lt0).trans k0.1
  have q1 := fun (o1 : Obj) => (World.cell?_alloc_lt W0 o1 ⟨w.heap.size, 1, none⟩ lt0).trans k0.2
  have HH0 := Lib.hid (HH.out.below hbw)
  have B0 := Lib.hid b0
  have B1 := Lib.hid b1
  clear b0 b1
  go_loop [3] (fun x => ∃ m : Nat, m ≤ n ∧ val BT (xs.take m) = val BT xs ∧ x = .int .i64 m) (fun x => (intOf x).toNat)
  case atStart => exact ⟨n, Nat.le_refl _, by rw [← HL.out, List.take_length], rfl⟩
  case round =>
    obtain ⟨m, hm, hv, rfl⟩ := hrel
    have HV := Lib.hid hv
    clear hv
    by_cases hm0 : 0 < m
    · obtain ⟨bb, o, rfl, hcell⟩ := HH0.out.at_int (by omega)
      have hcl := hcell (m - 1) (by omega)
      clear hcell
      obtain ⟨d, hd⟩ : ∃ d, xs.getD (m - 1) 0 = d := ⟨_, rfl⟩
      rw [hd] at hcl
      have HD := Lib.hid hd
      clear hd
      have g1 : decide ((0 : Int) < (m : Int)) = true := by simp; omega
      have g2 : (0 : Int) ≤ (m : Int) - 1 := by omega
      have g3 : (m : Int) - 1 < (n : Int) := by omega
      by_cases hd0 : d = 0
      · subst hd0
        go_wp2
        go_round
        case rel => exact ⟨m - 1, by omega, by rw [← val_take_drop0 _ _ _ hm0 (by rw [HL.out]; exact hm) HD.out]; exact HV.out, by go_num⟩
        case measure => simp [intOf]; omega
      · have hdb : ((d : Int) == 0) = false := by simp; omega
        have HSL := Lib.hid (show Sl TN W0 (some ⟨bb, o, none⟩) m c ((xs.take m).map I64) by rw [List.map_take]; exact HH0.out.take hm)
        have HDG := Lib.hid (show (xs.take m).map I64 = LZ z.natAbs by rw [LZ_val (HX.out.take m) (last_take xs m d hm0 (by rw [HL.out]; exact hm) HD.out hd0), HV.out, HM.out])
        have HZ0 : Hid (b = ng z) := by
          rcases HZ.out with h | h
          · exact h
          · have h1 := HDG.out
            rw [h] at h1
            have h2 := congrArg List.length h1
            simp only [List.length_map] at h2
            have h3 : (LZ (Int.natAbs 0)).length = 0 := rfl
            rw [h3, List.length_take, HL.out] at h2
            omega
        cases b
        · go_wp2_with (at_builtin; refine wp_appN rfl _ _ rfl (w.heap.size + 1 + 1) _ [] rfl (Ow.empty _ _ hsz) _ _ _ (xs.take m) rfl (HSL.out.below (Below.alloc (Below.refl _ _) (Nat.le_refl _) _)) (by simp) (by omega) (by simp; omega) ?_; intro v' w1 hown1 hb1; obtain ⟨A1, n1, c1, rfl, hsl1⟩ := hown1.sl; have C0 := Lib.hid ((B0.out.alloc _).low hb1 (by omega)); have C1 := Lib.hid ((B1.out.alloc _).low hb1 (by omega)); have HB1 := Lib.hid hb1; have HS1 := Lib.hid hsl1; have HGE := Lib.hid (own_ge hown1); have kk0 := C0.out.cells; have kk1 := C1.out.cells; have ff0 := C0.out.free; have ff1 := C1.out.free; simp only [cellsAre, Nat.zero_add, Nat.reduceAdd, and_true] at kk0 kk1; clear hb1 hsl1 hown1 k0 q0 q1)
          (try simp only [Exit.inBlock, Exit.then])
          refine bodyPost_ret (v := .agg #[.bool false, .slice A1 n1 c1]) (by simp [results, Try.results69, go_sem, kk0, kk1]) rfl ?_
          have hF := (((((HeldM.mk2 C0.out C1.out).set_ m2_0 1 (.slice A1 n1 c1)).set_ m2_0 0 (.bool false)).set_ m2_1 0 (.bool false)).set_ m2_1 1 (.slice A1 n1 c1))
          exact ⟨_, rfl, ⟨A1, n1, c1, by rw [← HZ0.out], by rw [← HDG.out]; exact HS1.out.heldM hF (heldM2_ne (by decide) (by decide)), fun a ha => by have := HGE.out a.block (by rw [ha]; rfl); omega⟩, hF.below (hbw.trans (((Below.refl _ _).alloc (by omega) _).trans (HB1.out.mono (by omega)))) (heldM2_ge (by omega) (by omega))⟩
        · go_wp2_with (at_builtin; refine wp_appN rfl _ _ rfl (w.heap.size + 1 + 1) _ [] rfl (Ow.empty _ _ hsz) _ _ _ (xs.take m) rfl (HSL.out.below (Below.alloc (Below.refl _ _) (Nat.le_refl _) _)) (by simp) (by omega) (by simp; omega) ?_; intro v' w1 hown1 hb1; obtain ⟨A1, n1, c1, rfl, hsl1⟩ := hown1.sl; have C0 := Lib.hid ((B0.out.alloc _).low hb1 (by omega)); have C1 := Lib.hid ((B1.out.alloc _).low hb1 (by omega)); have HB1 := Lib.hid hb1; have HS1 := Lib.hid hsl1; have HGE := Lib.hid (own_ge hown1); have kk0 := C0.out.cells; have kk1 := C1.out.cells; have ff0 := C0.out.free; have ff1 := C1.out.free; simp only [cellsAre, Nat.zero_add, Nat.reduceAdd, and_true] at kk0 kk1; clear hb1 hsl1 hown1 k0 q0 q1)
          (try simp only [Exit.inBlock, Exit.then])
          refine bodyPost_ret (v := .agg #[.bool true, .slice A1 n1 c1]) (by simp [results, Try.results69, go_sem, kk0, kk1]) rfl ?_
          have hF := (((((HeldM.mk2 C0.out C1.out).set_ m2_0 1 (.slice A1 n1 c1)).set_ m2_0 0 (.bool true)).set_ m2_1 0 (.bool true)).set_ m2_1 1 (.slice A1 n1 c1))
          exact ⟨_, rfl, ⟨A1, n1, c1, by rw [← HZ0.out], by rw [← HDG.out]; exact HS1.out.heldM hF (heldM2_ne (by decide) (by decide)), fun a ha => by have := HGE.out a.block (by rw [ha]; rfl); omega⟩, hF.below (hbw.trans (((Below.refl _ _).alloc (by omega) _).trans (HB1.out.mono (by omega)))) (heldM2_ge (by omega) (by omega))⟩
    · have : m = 0 := by omega
      subst this
      have g1 : decide ((0 : Int) < ((0 : Nat) : Int)) = false := rfl
      have g2 := slice_zero A n c
      have HSL := Lib.hid (show Sl TN W0 A 0 c ((xs.take 0).map I64) from HH0.out.take (Nat.zero_le _))
      have HM0 : Hid (z = 0) := by
        have h1 := HV.out
        rw [HM.out] at h1
        simp [val] at h1
        show z = 0
        omega
      cases b
      · go_wp2_with (at_builtin; refine wp_appN rfl _ _ rfl (w.heap.size + 1 + 1) _ [] rfl (Ow.empty _ _ hsz) _ _ _ (xs.take 0) rfl (HSL.out.below (Below.alloc (Below.refl _ _) (Nat.le_refl _) _)) (by simp) (by omega) (by simp; omega) ?_; intro v' w1 hown1 hb1; obtain ⟨A1, n1, c1, rfl, hsl1⟩ := hown1.sl; have C0 := Lib.hid ((B0.out.alloc _).low hb1 (by omega)); have C1 := Lib.hid ((B1.out.alloc _).low hb1 (by omega)); have HB1 := Lib.hid hb1; have HS1 := Lib.hid hsl1; have HGE := Lib.hid (own_ge hown1); have kk0 := C0.out.cells; have kk1 := C1.out.cells; have ff0 := C0.out.free; have ff1 := C1.out.free; simp only [cellsAre, Nat.zero_add, Nat.reduceAdd, and_true] at kk0 kk1; clear hb1 hsl1 hown1 k0 q0 q1)
        (try simp only [Exit.inBlock, Exit.then])
        refine bodyPost_ret (v := .agg #[.bool false, .slice A1 n1 c1]) (by simp [results, Try.results69, go_sem, kk0, kk1]) rfl ?_
        have hF := (((((HeldM.mk2 C0.out C1.out).set_ m2_0 1 (.slice A1 n1 c1)).set_ m2_0 0 (.bool false)).set_ m2_1 0 (.bool false)).set_ m2_1 1 (.slice A1 n1 c1))
        exact ⟨_, rfl, ⟨A1, n1, c1, by rw [HM0.out]; rfl, by rw [HM0.out]; exact HS1.out.heldM hF (heldM2_ne (by decide) (by decide)), fun a ha => by have := HGE.out a.block (by rw [ha]; rfl); omega⟩, hF.below (hbw.trans (((Below.refl _ _).alloc (by omega) _).trans (HB1.out.mono (by omega)))) (heldM2_ge (by omega) (by omega))⟩
      · go_wp2_with (at_builtin; refine wp_appN rfl _ _ rfl (w.heap.size + 1 + 1) _ [] rfl (Ow.empty _ _ hsz) _ _ _ (xs.take 0) rfl (HSL.out.below (Below.alloc (Below.refl _ _) (Nat.le_refl _) _)) (by simp) (by omega) (by simp; omega) ?_; intro v' w1 hown1 hb1; obtain ⟨A1, n1, c1, rfl, hsl1⟩ := hown1.sl; have C0 := Lib.hid ((B0.out.alloc _).low hb1 (by omega)); have C1 := Lib.hid ((B1.out.alloc _).low hb1 (by omega)); have HB1 := Lib.hid hb1; have HS1 := Lib.hid hsl1; have HGE := Lib.hid (own_ge hown1); have kk0 := C0.out.cells; have kk1 := C1.out.cells; have ff0 := C0.out.free; have ff1 := C1.out.free; simp only [cellsAre, Nat.zero_add, Nat.reduceAdd, and_true] at kk0 kk1; clear hb1 hsl1 hown1 k0 q0 q1)
        (try simp only [Exit.inBlock, Exit.then])
        refine bodyPost_ret (v := .agg #[.bool false, .slice A1 n1 c1]) (by simp [results, Try.results69, go_sem, kk0, kk1]) rfl ?_
        have hF := (((((HeldM.mk2 C0.out C1.out).set_ m2_0 1 (.slice A1 n1 c1)).set_ m2_0 0 (.bool false)).set_ m2_1 0 (.bool false)).set_ m2_1 1 (.slice A1 n1 c1))
        exact ⟨_, rfl, ⟨A1, n1, c1, by rw [HM0.out]; rfl, by rw [HM0.out]; exact HS1.out.heldM hF (heldM2_ne (by decide) (by decide)), fun a ha => by have := HGE.out a.block (by rw [ha]; rfl); omega⟩, hF.below (hbw.trans (((Below.refl _ _).alloc (by omega) _).trans (HB1.out.mono (by omega)))) (heldM2_ge (by omega) (by omega))⟩
theorem zlean_any (b : Bool) (A : Option Addr) (n c : Nat) (xs : List Nat) (z : Int) (w : World) (h : Sl TN w A n c (xs.map I64)) (hx : Dg BT xs) (hm : val BT xs = z.natAbs) (hz : b = ng z ∨ z = 0) (hbig : n ≤ 1000000000000) :
    Calls Try.prog 69 #[.agg #[.bool b, .slice A n c]] w (Ret (fun v w' => ZI w' v z) w) :=
  (zlean_fr b A n c xs z w h hx hm hz hbig).mono fun _ _ h => h.imp fun _ _ ⟨A, n, c, hv, hs, _⟩ => ⟨A, n, c, hv, hs⟩
end Go.Proofs.Tb
/- Contracts of the reference's numbers of any size, fourth part: Neg, Abs, Sign, Int. -/
namespace Go.Proofs.Tb
open Go.RowKit
attribute [local go_sem] cell_set_same

set_option maxHeartbeats 400000 in
theorem zneg_any (v : Value) (z : Int) (w : World) (h : ZI w v z) : Calls Try.prog 68 #[v] w (Ret (fun v w' => ZI w' v (-z)) w) := by
  obtain ⟨A, n, c, rfl, h⟩ := h
  have hp := h.posZ
  have hn := h.le
  have hc := h.cap
  have HH := Lib.hid h
  clear h
  obtain ⟨b, hb⟩ : ∃ b, ng z = b := ⟨_, rfl⟩
  rw [hb]
  have HB := Lib.hid hb
  clear hb
  by_cases h0 : z = 0
  · have hn0 : n = 0 := by omega
    subst hn0
    have hd : decide ((0 : Int) < ((0 : Nat) : Int)) = false := rfl
    have HZ := Lib.hid h0
    clear hp h0
    cases b
    all_goals
      go_enter Try.func68, Try.ntmps68
      go_wp2
      go_returns
      exact ⟨_, rfl, ⟨A, 0, c, by rw [HZ.out]; rfl, by rw [Int.natAbs_neg]; exact HH.out.below (by go_grown)⟩, by go_grown⟩
  · have hn0 : 0 < n := by omega
    have hd : decide ((0 : Int) < (n : Int)) = true := by simp; omega
    have HZ := Lib.hid h0
    clear hp h0
    cases b
    · go_enter Try.func68, Try.ntmps68
      go_wp2
      go_returns
      have e : ng (-z) = true := by have h1 := HB.out; have h2 := HZ.out; unfold ng at *; simp at *; omega
      exact ⟨_, rfl, ⟨A, n, c, by rw [e], by rw [Int.natAbs_neg]; exact HH.out.below (by go_grown)⟩, by go_grown⟩
    · go_enter Try.func68, Try.ntmps68
      go_wp2
      go_returns
      have e : ng (-z) = false := by have h1 := HB.out; have h2 := HZ.out; unfold ng at *; simp at *; omega
      exact ⟨_, rfl, ⟨A, n, c, by rw [e], by rw [Int.natAbs_neg]; exact HH.out.below (by go_grown)⟩, by go_grown⟩

set_option maxHeartbeats 400000 in
theorem zabs_any (v : Value) (z : Int) (w : World) (h : ZI w v z) : Calls Try.prog 49 #[v] w (Ret (fun v w' => ZI w' v (z.natAbs : Int)) w) := by
  obtain ⟨A, n, c, rfl, h⟩ := h
  have HH := Lib.hid h
  clear h
  obtain ⟨b, hb⟩ : ∃ b, ng z = b := ⟨_, rfl⟩
  rw [hb]
  clear hb
  go_enter Try.func49, Try.ntmps49
  go_wp2
  go_returns
  have e : ng (z.natAbs : Int) = false := by unfold ng; simp
  exact ⟨_, rfl, ⟨A, n, c, by rw [e], by rw [Int.natAbs_natCast]; exact HH.out.below (by go_grown)⟩, by go_grown⟩

set_option maxHeartbeats 400000 in
theorem zsign_any (v : Value) (z : Int) (w : World) (h : ZI w v z) : Calls Try.prog 47 #[v] w (Ret (fun v _ => v = .int .i64 z.sign) w) := by
  obtain ⟨A, n, c, rfl, h⟩ := h
  have hp := h.posZ
  have hn := h.le
  have hc := h.cap
  clear h
  by_cases h0 : z = 0
  · have hn0 : n = 0 := by omega
    subst hn0
    clear hp
    have HZ := Lib.hid h0
    clear h0
    go_enter Try.func47, Try.ntmps47
    go_wp2
    go_returns
    exact ⟨_, rfl, by rw [HZ.out]; rfl, by go_grown⟩
  · have hn0 : ((n : Int) == 0) = false := by rw [beq_eq_false_iff_ne]; omega
    clear hp
    obtain ⟨s, hs⟩ : ∃ s, ng z = s := ⟨_, rfl⟩
    rw [hs]
    have HS := Lib.hid hs
    have HZ := Lib.hid h0
    clear hs h0
    cases s
    · go_enter Try.func47, Try.ntmps47
      go_wp2
      go_returns
      exact ⟨_, rfl, by rw [Int.sign_eq_one_of_pos (by have := HZ.out; have := HS.out; unfold ng at this; simp at this; omega)]; rfl, by go_grown⟩
    · go_enter Try.func47, Try.ntmps47
      go_wp2
      go_returns
      exact ⟨_, rfl, by rw [Int.sign_eq_neg_one_of_neg (by have := HS.out; unfold ng at this; simpa using this)]; rfl, by go_grown⟩

theorem dl_i64 (m : Nat) (h : m ≤ 9223372036854775808) : dl BT m ≤ 5 := dl_le BT two_BT 5 m (Nat.lt_of_le_of_lt h (by decide))
theorem digs_step {m q : Nat} {cs : List Nat} (hq : q ≠ 0) (h : digs BT m = cs ++ digs BT q) : digs BT m = cs ++ [q % 10000] ++ digs BT (q / 10000) := by
  rw [h, digs_pos BT q two_BT hq, BT_eq]; simp
set_option maxHeartbeats 1600000 in
set_option maxRecDepth 100000 in
theorem zint_any (z : Int) (w : World) (h1 : -9223372036854775808 ≤ z) (h2 : z ≤ 9223372036854775807) :
    Calls Try.prog 26 #[.int .i64 z] w (Ret (fun v w' => ZI w' v z) w) := by
  by_cases hneg : z < 0
  · obtain ⟨m, rfl⟩ : ∃ m : Nat, z = -(m : Int) := ⟨z.natAbs, by omega⟩
    have hmb : m ≤ 9223372036854775808 := by omega
    have HNG := Lib.hid (show ng (-(m : Int)) = true by unfold ng; simpa using hneg)
    clear h1 h2
    have hm0 : 0 < m := by omega
    have hdl := dl_i64 m (by omega)
    unfold dl at hdl
    have HDL := Lib.hid hdl
    clear hdl
    go_enter Try.func26, Try.ntmps26
    go_wp2
    refine wp_world (fun W0 => Blk W0 w.heap.size TZ #[.bool false, .slice none 0 0] ∧ Blk W0 (w.heap.size + 1) TZ #[.bool true, .slice none 0 0] ∧ Below w.heap.size w W0 ∧ w.heap.size + 1 + 1 ≤ W0.heap.size) (by exact ⟨(Blk.new_ _ _ rfl).alloc _, Blk.new_ _ _ (by simp), by go_grown, by simp⟩) ?_
    rintro W0 ⟨b0, b1, hbw, hsz⟩
    have B0 := Lib.hid b0
    have B1 := Lib.hid b1
    clear b0 b1
    go_loopw [0] (fun x wr => ∃ (q : Nat) (cs : List Nat) (A : Option Addr) (n c : Nat), x = .int .i64 (-(q : Int)) ∧ q ≤ m ∧ digs BT m = cs ++ digs BT q ∧ Blk wr w.heap.size TZ #[.bool false, .slice none 0 0] ∧ Blk wr (w.heap.size + 1) TZ #[.bool true, .slice A n c] ∧ Ow (w.heap.size + 1 + 1) wr (.slice A n c) cs ∧ Below w.heap.size w wr) (fun x _ => (intOf x).natAbs)
    case atStart => exact ⟨m, [], none, 0, 0, rfl, Nat.le_refl _, rfl, B0.out, B1.out, Ow.nil _ _, hbw⟩
    case round =>
      clear B0 B1 hsz hbw
      obtain ⟨q, cs, A, n, c, rfl, hq, hdg, b0, b1, hown, hbw⟩ := hrel
      have k0 := b0.cells
      have k1 := b1.cells
      have f0 := b0.free
      have f1 := b1.free
      have l1 := b1.lt
      simp only [cellsAre, Nat.zero_add, Nat.reduceAdd, and_true] at k0 k1
      have B0 := Lib.hid b0
      have B1 := Lib.hid b1
      have HO := Lib.hid hown
      have HG := Lib.hid hdg
      have hcl : cs.length ≤ 5 := by have := HDL.out; rw [hdg, List.length_append] at this; omega
      have HCL := Lib.hid hcl
      clear b0 b1 hown hdg hcl
      by_cases hq0 : q = 0
      · subst hq0
        go_wp2
        (try simp only [Exit.inBlock, Exit.then])
        refine bodyPost_ret (v := .agg #[.bool true, .slice A n c]) (by simp [results, Try.results26, go_sem, k0, k1]) rfl ?_
        have hF := (((HeldM.mk2 B0.out B1.out).set_ m2_0 0 (.bool true)).set_ m2_0 1 (.slice A n c))
        obtain ⟨A1, n1, c1, he, hsl⟩ := HO.out.sl
        injection he with e1 e2 e3
        subst e1 e2 e3
        have hg := HG.out
        rw [digs_zero, List.append_nil] at hg
        exact ⟨_, rfl, ⟨A, n, c, by rw [HNG.out], by (try rw [Int.natAbs_neg]); rw [Int.natAbs_natCast, LZ, hg]; exact hsl.heldM hF (heldM2_ne (by decide) (by decide))⟩, hF.below hbw (heldM2_ge (by omega) (by omega))⟩
      · have hne : (-(q : Int) != 0) = true := by rw [bne_iff_ne]; omega
        have HQ0 := Lib.hid hq0
        clear hq0
        by_cases hr : (0 : Int) < (q : Int) % 10000
        · go_wp2_with (at_builtin; refine wp_app1 rfl _ _ rfl (w.heap.size + 1 + 1) _ cs rfl HO.out _ (q % 10000) (i64e (by omega)) rfl (by have := HCL.out; omega) (by omega) ?_; intro v' w1 hown1 hb1; obtain ⟨A1, n1, c1, rfl, hsl1⟩ := hown1.sl; have C0 := Lib.hid (B0.out.low hb1 (by omega)); have C1 := Lib.hid (B1.out.low hb1 (by omega)); have HB1 := Lib.hid hb1; have HO1 := Lib.hid hown1; have kk0 := C0.out.cells; have kk1 := C1.out.cells; have ff0 := C0.out.free; have ff1 := C1.out.free; simp only [cellsAre, Nat.zero_add, Nat.reduceAdd, and_true] at kk0 kk1; clear hb1 hsl1 hown1 k0 k1)
          go_roundw
          case rel =>
            refine ⟨q / 10000, cs ++ [q % 10000], A1, n1, c1, i64e (by omega), by omega, digs_step HQ0.out HG.out, C0.out.far (by simp) _, ?_, ownsRow_setCell_below HO1.out (by simp) _, (hbw.trans (HB1.out.mono (by omega))).setCell (by simp) _⟩
            have := C1.out.set_ 1 (.slice A1 n1 c1)
            simpa using this
          case measure => have := HQ0.out; simp [intOf]; omega
        · go_wp2_with (at_builtin; refine wp_app1 rfl _ _ rfl (w.heap.size + 1 + 1) _ cs rfl HO.out _ (q % 10000) (i64e (by omega)) rfl (by have := HCL.out; omega) (by omega) ?_; intro v' w1 hown1 hb1; obtain ⟨A1, n1, c1, rfl, hsl1⟩ := hown1.sl; have C0 := Lib.hid (B0.out.low hb1 (by omega)); have C1 := Lib.hid (B1.out.low hb1 (by omega)); have HB1 := Lib.hid hb1; have HO1 := Lib.hid hown1; have kk0 := C0.out.cells; have kk1 := C1.out.cells; have ff0 := C0.out.free; have ff1 := C1.out.free; simp only [cellsAre, Nat.zero_add, Nat.reduceAdd, and_true] at kk0 kk1; clear hb1 hsl1 hown1 k0 k1)
          go_roundw
          case rel =>
            refine ⟨q / 10000, cs ++ [q % 10000], A1, n1, c1, i64e (by omega), by omega, digs_step HQ0.out HG.out, C0.out.far (by simp) _, ?_, ownsRow_setCell_below HO1.out (by simp) _, (hbw.trans (HB1.out.mono (by omega))).setCell (by simp) _⟩
            have := C1.out.set_ 1 (.slice A1 n1 c1)
            simpa using this
          case measure => have := HQ0.out; simp [intOf]; omega
  · obtain ⟨m, rfl⟩ : ∃ m : Nat, z = (m : Int) := ⟨z.natAbs, by omega⟩
    have hmb : m ≤ 9223372036854775807 := by omega
    have HNG := Lib.hid (show ng (m : Int) = false by unfold ng; simp)
    clear h1 h2 hneg
    have hdl := dl_i64 m (by omega)
    unfold dl at hdl
    have HDL := Lib.hid hdl
    clear hdl
    go_enter Try.func26, Try.ntmps26
    go_wp2
    refine wp_world (fun W0 => Blk W0 w.heap.size TZ #[.bool false, .slice none 0 0] ∧ Blk W0 (w.heap.size + 1) TZ #[.bool false, .slice none 0 0] ∧ Below w.heap.size w W0 ∧ w.heap.size + 1 + 1 ≤ W0.heap.size) (by exact ⟨(Blk.new_ _ _ rfl).alloc _, Blk.new_ _ _ (by simp), by go_grown, by simp⟩) ?_
    rintro W0 ⟨b0, b1, hbw, hsz⟩
    have B0 := Lib.hid b0
    have B1 := Lib.hid b1
    clear b0 b1
    go_loopw [0] (fun x wr => ∃ (q : Nat) (cs : List Nat) (A : Option Addr) (n c : Nat), x = .int .i64 (q : Int) ∧ q ≤ m ∧ digs BT m = cs ++ digs BT q ∧ Blk wr w.heap.size TZ #[.bool false, .slice none 0 0] ∧ Blk wr (w.heap.size + 1) TZ #[.bool false, .slice A n c] ∧ Ow (w.heap.size + 1 + 1) wr (.slice A n c) cs ∧ Below w.heap.size w wr) (fun x _ => (intOf x).natAbs)
    case atStart => exact ⟨m, [], none, 0, 0, rfl, Nat.le_refl _, rfl, B0.out, B1.out, Ow.nil _ _, hbw⟩
    case round =>
      clear B0 B1 hsz hbw
      obtain ⟨q, cs, A, n, c, rfl, hq, hdg, b0, b1, hown, hbw⟩ := hrel
      have k0 := b0.cells
      have k1 := b1.cells
      have f0 := b0.free
      have f1 := b1.free
      have l1 := b1.lt
      simp only [cellsAre, Nat.zero_add, Nat.reduceAdd, and_true] at k0 k1
      have B0 := Lib.hid b0
      have B1 := Lib.hid b1
      have HO := Lib.hid hown
      have HG := Lib.hid hdg
      have hcl : cs.length ≤ 5 := by have := HDL.out; rw [hdg, List.length_append] at this; omega
      have HCL := Lib.hid hcl
      clear b0 b1 hown hdg hcl
      by_cases hq0 : q = 0
      · subst hq0
        go_wp2
        (try simp only [Exit.inBlock, Exit.then])
        refine bodyPost_ret (v := .agg #[.bool false, .slice A n c]) (by simp [results, Try.results26, go_sem, k0, k1]) rfl ?_
        have hF := (((HeldM.mk2 B0.out B1.out).set_ m2_0 0 (.bool false)).set_ m2_0 1 (.slice A n c))
        obtain ⟨A1, n1, c1, he, hsl⟩ := HO.out.sl
        injection he with e1 e2 e3
        subst e1 e2 e3
        have hg := HG.out
        rw [digs_zero, List.append_nil] at hg
        exact ⟨_, rfl, ⟨A, n, c, by rw [HNG.out], by (try rw [Int.natAbs_neg]); rw [Int.natAbs_natCast, LZ, hg]; exact hsl.heldM hF (heldM2_ne (by decide) (by decide))⟩, hF.below hbw (heldM2_ge (by omega) (by omega))⟩
      · have hne : ((q : Int) != 0) = true := by rw [bne_iff_ne]; omega
        have hnn : ¬ (q : Int) % 10000 < 0 := by omega
        have HQ0 := Lib.hid hq0
        clear hq0
        go_wp2_with (at_builtin; refine wp_app1 rfl _ _ rfl (w.heap.size + 1 + 1) _ cs rfl HO.out _ (q % 10000) (i64e (by omega)) rfl (by have := HCL.out; omega) (by omega) ?_; intro v' w1 hown1 hb1; obtain ⟨A1, n1, c1, rfl, hsl1⟩ := hown1.sl; have C0 := Lib.hid (B0.out.low hb1 (by omega)); have C1 := Lib.hid (B1.out.low hb1 (by omega)); have HB1 := Lib.hid hb1; have HO1 := Lib.hid hown1; have kk0 := C0.out.cells; have kk1 := C1.out.cells; have ff0 := C0.out.free; have ff1 := C1.out.free; simp only [cellsAre, Nat.zero_add, Nat.reduceAdd, and_true] at kk0 kk1; clear hb1 hsl1 hown1 k0 k1)
        go_roundw
        case rel =>
          refine ⟨q / 10000, cs ++ [q % 10000], A1, n1, c1, i64e (by omega), by omega, digs_step HQ0.out HG.out, C0.out.far (by simp) _, ?_, ownsRow_setCell_below HO1.out (by simp) _, (hbw.trans (HB1.out.mono (by omega))).setCell (by simp) _⟩
          have := C1.out.set_ 1 (.slice A1 n1 c1)
          simpa using this
        case measure => have := HQ0.out; simp [intOf]; omega
end Go.Proofs.Tb
/- Contracts of the reference's numbers of any size, fifth part: Add. -/
namespace Go.Proofs.Tb
open Go.RowKit
attribute [local go_sem] cell_set_same

theorem Sl.nle {w : World} {A : Option Addr} {n c m k : Nat} (h : Sl TN w A n c (LZ m)) (hk : dl BT m ≤ k) : n ≤ k := by rw [h.lenZ]; exact hk
set_option maxHeartbeats 1600000 in
theorem zadd_any (v v' : Value) (x y : Int) (w : World) (h : ZI w v x) (h' : ZI w v' y) (hs : s10 x ≤ 700000000000) (hs' : s10 y ≤ 700000000000) :
    Calls Try.prog 56 #[v, v'] w (Ret (fun v w' => ZI w' v (x + y)) w) := by
  obtain ⟨A, n, c, rfl, h⟩ := h
  obtain ⟨A', n', c', rfl, h'⟩ := h'
  have HN1 := Lib.hid (h.nle (k := 800000000000) (by unfold s10 at hs; omega))
  have HN2 := Lib.hid (h'.nle (k := 800000000000) (by unfold s10 at hs'; omega))
  have HXY := Lib.hid (show y.natAbs ≤ x.natAbs → n' ≤ n from fun hle => by rw [h.lenZ, h'.lenZ]; exact dl_mono BT two_BT _ _ hle)
  have HYX := Lib.hid (show x.natAbs ≤ y.natAbs → n ≤ n' from fun hle => by rw [h.lenZ, h'.lenZ]; exact dl_mono BT two_BT _ _ hle)
  have H := Lib.hid h
  have H' := Lib.hid h'
  have DX := Lib.hid (digs_dg BT two_BT x.natAbs)
  have DY := Lib.hid (digs_dg BT two_BT y.natAbs)
  have VX := Lib.hid (val_digs BT two_BT x.natAbs)
  have VY := Lib.hid (val_digs BT two_BT y.natAbs)
  clear h h' hs hs'
  obtain ⟨s, hsx⟩ : ∃ s, ng x = s := ⟨_, rfl⟩
  obtain ⟨s', hsy⟩ : ∃ s, ng y = s := ⟨_, rfl⟩
  rw [hsx, hsy]
  by_cases hss : s = s'
  · subst hss
    have HN := Lib.hid (ng_add_same (hsx.trans hsy.symm))
    rw [hsx] at HN
    clear hsx hsy
    cases s
    · go_enter Try.func56, Try.ntmps56
      go_wp2
      refine wp_world (fun W0 => Blk W0 w.heap.size TZ #[.bool false, .slice A n c] ∧ Blk W0 (w.heap.size + 1) TZ #[.bool false, .slice A' n' c'] ∧ Blk W0 (w.heap.size + 1 + 1) TZ #[.bool false, .slice none 0 0] ∧ Below w.heap.size w W0) (by exact ⟨((Blk.new_ _ _ rfl).alloc _).alloc _, (Blk.new_ _ _ (by simp)).alloc _, Blk.new_ _ _ (by simp), by go_grown⟩) ?_
      rintro W0 ⟨b0, b1, b2, hbw⟩
      have k0 := fun w' (hh : Held (w.heap.size + 1 + 1) 2 TZ W0 w') => (b0.held hh (by omega)).cells
      have k1 := fun w' (hh : Held (w.heap.size + 1 + 1) 2 TZ W0 w') => (b1.held hh (by omega)).cells
      have hst : Held (w.heap.size + 1 + 1) 2 TZ W0 W0.drew := b2.heldS.drew
      simp only [cellsAre, Nat.zero_add, Nat.reduceAdd, and_true] at k0 k1
      have r1 := (rules (w.heap.size + 1 + 1) 2 TZ W0).some
      have r2 := (rules (w.heap.size + 1 + 1) 2 TZ W0).free
      clear b0 b1 b2
      go_region_held3 (fun w' => Held (w.heap.size + 1 + 1) 2 TZ W0 w') (first | assumption | exact Held.trans_ (by assumption) (by assumption) | exact Held.set_ (Held.set_ (by assumption) _ _) _ _)
        (first | (go_at_call 73; refine (zplus_any _ _ _ _ _ _ (digs BT x.natAbs) (digs BT y.natAbs) _ (H.out.below hbw.drew) (H'.out.below hbw.drew) DX.out DY.out HN1.out HN2.out).mono ?_; rintro e w1 ⟨v1, rfl, ⟨cs1, ⟨A1, n1, c1, rfl, h1⟩, hd1, hv1, hl1⟩, hb1⟩; have HV1 := Lib.hid (And.intro hd1 (And.intro hv1 (And.intro hl1 h1))); clear hd1 hv1 hl1 h1) | (go_at_call 69; refine (zlean_any _ _ _ _ cs1 (x + y) _ HV1.out.2.2.2 HV1.out.1 (by rw [HV1.out.2.1, VX.out, VY.out]; exact HN.out.1.symm) HN.out.2 (by have h1 := HV1.out.2.2.2.len; have h2 := HV1.out.2.2.1; rw [List.length_map] at h1; omega)).mono ?_; rintro e w2 ⟨v2, rfl, ⟨A2, n2, c2, rfl, h2⟩, hb2⟩))
      have hh2 : Held (w.heap.size + 1 + 1) 2 TZ W0 w2 := (hst.trans_ hb1).trans_ hb2
      go_wp2
      (try simp only [Exit.inBlock, Exit.then])
      refine bodyPost_ret (v := .agg #[.bool (ng (x + y)), .slice A2 n2 c2]) (by simp [results, Try.results56, go_sem, r1 _ hh2]) rfl ?_
      have hst2 := Held.set_ (Held.set_ hh2.here 0 (.bool (ng (x + y)))) 1 (.slice A2 n2 c2)
      exact ⟨_, rfl, ⟨A2, n2, c2, rfl, h2.held hst2 (by decide)⟩, (hh2.trans2 hst2).below hbw (by omega)⟩
    · go_enter Try.func56, Try.ntmps56
      go_wp2
      refine wp_world (fun W0 => Blk W0 w.heap.size TZ #[.bool true, .slice A n c] ∧ Blk W0 (w.heap.size + 1) TZ #[.bool true, .slice A' n' c'] ∧ Blk W0 (w.heap.size + 1 + 1) TZ #[.bool false, .slice none 0 0] ∧ Below w.heap.size w W0) (by exact ⟨((Blk.new_ _ _ rfl).alloc _).alloc _, (Blk.new_ _ _ (by simp)).alloc _, Blk.new_ _ _ (by simp), by go_grown⟩) ?_
      rintro W0 ⟨b0, b1, b2, hbw⟩
      have k0 := fun w' (hh : Held (w.heap.size + 1 + 1) 2 TZ W0 w') => (b0.held hh (by omega)).cells
      have k1 := fun w' (hh : Held (w.heap.size + 1 + 1) 2 TZ W0 w') => (b1.held hh (by omega)).cells
      have hst : Held (w.heap.size + 1 + 1) 2 TZ W0 W0.drew := b2.heldS.drew
      simp only [cellsAre, Nat.zero_add, Nat.reduceAdd, and_true] at k0 k1
      have r1 := (rules (w.heap.size + 1 + 1) 2 TZ W0).some
      have r2 := (rules (w.heap.size + 1 + 1) 2 TZ W0).free
      clear b0 b1 b2
      go_region_held3 (fun w' => Held (w.heap.size + 1 + 1) 2 TZ W0 w') (first | assumption | exact Held.trans_ (by assumption) (by assumption) | exact Held.set_ (Held.set_ (by assumption) _ _) _ _)
        (first | (go_at_call 73; refine (zplus_any _ _ _ _ _ _ (digs BT x.natAbs) (digs BT y.natAbs) _ (H.out.below hbw.drew) (H'.out.below hbw.drew) DX.out DY.out HN1.out HN2.out).mono ?_; rintro e w1 ⟨v1, rfl, ⟨cs1, ⟨A1, n1, c1, rfl, h1⟩, hd1, hv1, hl1⟩, hb1⟩; have HV1 := Lib.hid (And.intro hd1 (And.intro hv1 (And.intro hl1 h1))); clear hd1 hv1 hl1 h1) | (go_at_call 69; refine (zlean_any _ _ _ _ cs1 (x + y) _ HV1.out.2.2.2 HV1.out.1 (by rw [HV1.out.2.1, VX.out, VY.out]; exact HN.out.1.symm) HN.out.2 (by have h1 := HV1.out.2.2.2.len; have h2 := HV1.out.2.2.1; rw [List.length_map] at h1; omega)).mono ?_; rintro e w2 ⟨v2, rfl, ⟨A2, n2, c2, rfl, h2⟩, hb2⟩))
      have hh2 : Held (w.heap.size + 1 + 1) 2 TZ W0 w2 := (hst.trans_ hb1).trans_ hb2
      go_wp2
      (try simp only [Exit.inBlock, Exit.then])
      refine bodyPost_ret (v := .agg #[.bool (ng (x + y)), .slice A2 n2 c2]) (by simp [results, Try.results56, go_sem, r1 _ hh2]) rfl ?_
      have hst2 := Held.set_ (Held.set_ hh2.here 0 (.bool (ng (x + y)))) 1 (.slice A2 n2 c2)
      exact ⟨_, rfl, ⟨A2, n2, c2, rfl, h2.held hst2 (by decide)⟩, (hh2.trans2 hst2).below hbw (by omega)⟩
  · have hne : ng x ≠ ng y := by rw [hsx, hsy]; exact hss
    by_cases hle : y.natAbs ≤ x.natAbs
    · have HN := Lib.hid (ng_add_ge hne hle)
      rw [hsx] at HN
      have HLE := Lib.hid hle
      clear hsx hsy hne hle
      cases s <;> cases s' <;> first | exact absurd rfl hss | skip
      · clear hss
        go_enter Try.func56, Try.ntmps56
        go_wp2_with fail
        have hbx : Below w.heap.size w (((w.alloc (.cells #[.bool false, .slice A n c] TZ)).alloc (.cells #[.bool true, .slice A' n' c'] TZ)).alloc (.cells #[.bool false, .slice none 0 0] TZ)) := by go_grown
        refine (zsizes_any _ _ _ _ _ _ _ _ _ (H.out.below hbx) (H'.out.below hbx)).mono ?_
        rintro e w0 ⟨v0, rfl, hr, hb0⟩
        subst hr
        obtain ⟨r, hr⟩ : ∃ r, cmpN x.natAbs y.natAbs = r := ⟨_, rfl⟩
        rw [hr]
        have hr0 : 0 ≤ r := by rw [← hr]; have := HLE.out; unfold cmpN; rw [if_neg (by omega)]; split <;> omega
        clear hr
        have hbw := bt hbx hb0
        have b0 : Blk w0 w.heap.size TZ #[.bool false, .slice A n c] := (((Blk.new_ _ _ rfl).alloc _).alloc _).below hb0
        have b1 : Blk w0 (w.heap.size + 1) TZ #[.bool true, .slice A' n' c'] := ((Blk.new_ _ _ (by simp)).alloc _).below hb0
        have b2 : Blk w0 (w.heap.size + 1 + 1) TZ #[.bool false, .slice none 0 0] := (Blk.new_ _ _ (by simp)).below hb0
        clear hb0 hbx
        obtain ⟨W0, rfl⟩ : ∃ W0, W0 = w0 := ⟨_, rfl⟩
        have d0 := b0.cells
        have d1 := b1.cells
        simp only [cellsAre, Nat.zero_add, Nat.reduceAdd, and_true] at d0 d1
        have k0 := fun w' (hh : Held (w.heap.size + 1 + 1) 2 TZ W0 w') => (b0.held hh (by omega)).cells
        have k1 := fun w' (hh : Held (w.heap.size + 1 + 1) 2 TZ W0 w') => (b1.held hh (by omega)).cells
        have hst : Held (w.heap.size + 1 + 1) 2 TZ W0 W0.drew := b2.heldS.drew
        simp only [cellsAre, Nat.zero_add, Nat.reduceAdd, and_true] at k0 k1
        have r1 := (rules (w.heap.size + 1 + 1) 2 TZ W0).some
        have r2 := (rules (w.heap.size + 1 + 1) 2 TZ W0).free
        clear b0 b1 b2
        go_wp2
        go_region_held3 (fun w' => Held (w.heap.size + 1 + 1) 2 TZ W0 w') (first | assumption | exact Held.trans_ (by assumption) (by assumption) | exact Held.set_ (Held.set_ (by assumption) _ _) _ _)
          (first | (go_at_call 72; refine (zless_any _ _ _ _ _ _ (digs BT x.natAbs) (digs BT y.natAbs) _ (H.out.below hbw.drew) (H'.out.below hbw.drew) DX.out DY.out (HXY.out HLE.out) (by rw [VX.out, VY.out]; exact HLE.out) HN1.out).mono ?_; rintro e w1 ⟨v1, rfl, ⟨cs1, ⟨A1, n1, c1, rfl, h1⟩, hd1, hv1, hl1⟩, hb1⟩; have HV1 := Lib.hid (And.intro hd1 (And.intro hv1 (And.intro hl1 h1))); clear hd1 hv1 hl1 h1) | (go_at_call 69; refine (zlean_any _ _ _ _ cs1 (x + y) _ HV1.out.2.2.2 HV1.out.1 (by rw [HV1.out.2.1, VX.out, VY.out]; exact HN.out.1.symm) HN.out.2 (by have h1 := HV1.out.2.2.2.len; have h2 := HV1.out.2.2.1; rw [List.length_map] at h1; omega)).mono ?_; rintro e w2 ⟨v2, rfl, ⟨A2, n2, c2, rfl, h2⟩, hb2⟩))
        have hh2 : Held (w.heap.size + 1 + 1) 2 TZ W0 w2 := (hst.trans_ hb1).trans_ hb2
        go_wp2
        (try simp only [Exit.inBlock, Exit.then])
        refine bodyPost_ret (v := .agg #[.bool (ng (x + y)), .slice A2 n2 c2]) (by simp [results, Try.results56, go_sem, r1 _ hh2]) rfl ?_
        have hst2 := Held.set_ (Held.set_ hh2.here 0 (.bool (ng (x + y)))) 1 (.slice A2 n2 c2)
        exact ⟨_, rfl, ⟨A2, n2, c2, rfl, h2.held hst2 (by decide)⟩, (hh2.trans2 hst2).below hbw (by omega)⟩
      · clear hss
        go_enter Try.func56, Try.ntmps56
        go_wp2_with fail
        have hbx : Below w.heap.size w (((w.alloc (.cells #[.bool true, .slice A n c] TZ)).alloc (.cells #[.bool false, .slice A' n' c'] TZ)).alloc (.cells #[.bool false, .slice none 0 0] TZ)) := by go_grown
        refine (zsizes_any _ _ _ _ _ _ _ _ _ (H.out.below hbx) (H'.out.below hbx)).mono ?_
        rintro e w0 ⟨v0, rfl, hr, hb0⟩
        subst hr
        obtain ⟨r, hr⟩ : ∃ r, cmpN x.natAbs y.natAbs = r := ⟨_, rfl⟩
        rw [hr]
        have hr0 : 0 ≤ r := by rw [← hr]; have := HLE.out; unfold cmpN; rw [if_neg (by omega)]; split <;> omega
        clear hr
        have hbw := bt hbx hb0
        have b0 : Blk w0 w.heap.size TZ #[.bool true, .slice A n c] := (((Blk.new_ _ _ rfl).alloc _).alloc _).below hb0
        have b1 : Blk w0 (w.heap.size + 1) TZ #[.bool false, .slice A' n' c'] := ((Blk.new_ _ _ (by simp)).alloc _).below hb0
        have b2 : Blk w0 (w.heap.size + 1 + 1) TZ #[.bool false, .slice none 0 0] := (Blk.new_ _ _ (by simp)).below hb0
        clear hb0 hbx
        obtain ⟨W0, rfl⟩ : ∃ W0, W0 = w0 := ⟨_, rfl⟩
        have d0 := b0.cells
        have d1 := b1.cells
        simp only [cellsAre, Nat.zero_add, Nat.reduceAdd, and_true] at d0 d1
        have k0 := fun w' (hh : Held (w.heap.size + 1 + 1) 2 TZ W0 w') => (b0.held hh (by omega)).cells
        have k1 := fun w' (hh : Held (w.heap.size + 1 + 1) 2 TZ W0 w') => (b1.held hh (by omega)).cells
        have hst : Held (w.heap.size + 1 + 1) 2 TZ W0 W0.drew := b2.heldS.drew
        simp only [cellsAre, Nat.zero_add, Nat.reduceAdd, and_true] at k0 k1
        have r1 := (rules (w.heap.size + 1 + 1) 2 TZ W0).some
        have r2 := (rules (w.heap.size + 1 + 1) 2 TZ W0).free
        clear b0 b1 b2
        go_wp2
        go_region_held3 (fun w' => Held (w.heap.size + 1 + 1) 2 TZ W0 w') (first | assumption | exact Held.trans_ (by assumption) (by assumption) | exact Held.set_ (Held.set_ (by assumption) _ _) _ _)
          (first | (go_at_call 72; refine (zless_any _ _ _ _ _ _ (digs BT x.natAbs) (digs BT y.natAbs) _ (H.out.below hbw.drew) (H'.out.below hbw.drew) DX.out DY.out (HXY.out HLE.out) (by rw [VX.out, VY.out]; exact HLE.out) HN1.out).mono ?_; rintro e w1 ⟨v1, rfl, ⟨cs1, ⟨A1, n1, c1, rfl, h1⟩, hd1, hv1, hl1⟩, hb1⟩; have HV1 := Lib.hid (And.intro hd1 (And.intro hv1 (And.intro hl1 h1))); clear hd1 hv1 hl1 h1) | (go_at_call 69; refine (zlean_any _ _ _ _ cs1 (x + y) _ HV1.out.2.2.2 HV1.out.1 (by rw [HV1.out.2.1, VX.out, VY.out]; exact HN.out.1.symm) HN.out.2 (by have h1 := HV1.out.2.2.2.len; have h2 := HV1.out.2.2.1; rw [List.length_map] at h1; omega)).mono ?_; rintro e w2 ⟨v2, rfl, ⟨A2, n2, c2, rfl, h2⟩, hb2⟩))
        have hh2 : Held (w.heap.size + 1 + 1) 2 TZ W0 w2 := (hst.trans_ hb1).trans_ hb2
        go_wp2
        (try simp only [Exit.inBlock, Exit.then])
        refine bodyPost_ret (v := .agg #[.bool (ng (x + y)), .slice A2 n2 c2]) (by simp [results, Try.results56, go_sem, r1 _ hh2]) rfl ?_
        have hst2 := Held.set_ (Held.set_ hh2.here 0 (.bool (ng (x + y)))) 1 (.slice A2 n2 c2)
        exact ⟨_, rfl, ⟨A2, n2, c2, rfl, h2.held hst2 (by decide)⟩, (hh2.trans2 hst2).below hbw (by omega)⟩
    · have hlt : x.natAbs < y.natAbs := by omega
      have HN := Lib.hid (ng_add_lt hne hlt)
      rw [hsy] at HN
      have HLE := Lib.hid hlt
      clear hsx hsy hne hle hlt
      cases s <;> cases s' <;> first | exact absurd rfl hss | skip
      · clear hss
        go_enter Try.func56, Try.ntmps56
        go_wp2_with fail
        have hbx : Below w.heap.size w (((w.alloc (.cells #[.bool false, .slice A n c] TZ)).alloc (.cells #[.bool true, .slice A' n' c'] TZ)).alloc (.cells #[.bool false, .slice none 0 0] TZ)) := by go_grown
        refine (zsizes_any _ _ _ _ _ _ _ _ _ (H.out.below hbx) (H'.out.below hbx)).mono ?_
        rintro e w0 ⟨v0, rfl, hr, hb0⟩
        subst hr
        obtain ⟨r, hr⟩ : ∃ r, cmpN x.natAbs y.natAbs = r := ⟨_, rfl⟩
        rw [hr]
        have hr0 : r < 0 := by rw [← hr]; have := HLE.out; unfold cmpN; rw [if_pos (by omega)]; omega
        clear hr
        have hbw := bt hbx hb0
        have b0 : Blk w0 w.heap.size TZ #[.bool false, .slice A n c] := (((Blk.new_ _ _ rfl).alloc _).alloc _).below hb0
        have b1 : Blk w0 (w.heap.size + 1) TZ #[.bool true, .slice A' n' c'] := ((Blk.new_ _ _ (by simp)).alloc _).below hb0
        have b2 : Blk w0 (w.heap.size + 1 + 1) TZ #[.bool false, .slice none 0 0] := (Blk.new_ _ _ (by simp)).below hb0
        clear hb0 hbx
        obtain ⟨W0, rfl⟩ : ∃ W0, W0 = w0 := ⟨_, rfl⟩
        have d0 := b0.cells
        have d1 := b1.cells
        simp only [cellsAre, Nat.zero_add, Nat.reduceAdd, and_true] at d0 d1
        have k0 := fun w' (hh : Held (w.heap.size + 1 + 1) 2 TZ W0 w') => (b0.held hh (by omega)).cells
        have k1 := fun w' (hh : Held (w.heap.size + 1 + 1) 2 TZ W0 w') => (b1.held hh (by omega)).cells
        have hst : Held (w.heap.size + 1 + 1) 2 TZ W0 W0.drew := b2.heldS.drew
        simp only [cellsAre, Nat.zero_add, Nat.reduceAdd, and_true] at k0 k1
        have r1 := (rules (w.heap.size + 1 + 1) 2 TZ W0).some
        have r2 := (rules (w.heap.size + 1 + 1) 2 TZ W0).free
        clear b0 b1 b2
        go_wp2
        go_region_held3 (fun w' => Held (w.heap.size + 1 + 1) 2 TZ W0 w') (first | assumption | exact Held.trans_ (by assumption) (by assumption) | exact Held.set_ (Held.set_ (by assumption) _ _) _ _)
          (first | (go_at_call 72; refine (zless_any _ _ _ _ _ _ (digs BT y.natAbs) (digs BT x.natAbs) _ (H'.out.below hbw.drew) (H.out.below hbw.drew) DY.out DX.out (HYX.out (Nat.le_of_lt HLE.out)) (by rw [VX.out, VY.out]; exact Nat.le_of_lt HLE.out) HN2.out).mono ?_; rintro e w1 ⟨v1, rfl, ⟨cs1, ⟨A1, n1, c1, rfl, h1⟩, hd1, hv1, hl1⟩, hb1⟩; have HV1 := Lib.hid (And.intro hd1 (And.intro hv1 (And.intro hl1 h1))); clear hd1 hv1 hl1 h1) | (go_at_call 69; refine (zlean_any _ _ _ _ cs1 (x + y) _ HV1.out.2.2.2 HV1.out.1 (by rw [HV1.out.2.1, VY.out, VX.out]; exact HN.out.1.symm) HN.out.2 (by have h1 := HV1.out.2.2.2.len; have h2 := HV1.out.2.2.1; rw [List.length_map] at h1; omega)).mono ?_; rintro e w2 ⟨v2, rfl, ⟨A2, n2, c2, rfl, h2⟩, hb2⟩))
        have hh2 : Held (w.heap.size + 1 + 1) 2 TZ W0 w2 := (hst.trans_ hb1).trans_ hb2
        go_wp2
        (try simp only [Exit.inBlock, Exit.then])
        refine bodyPost_ret (v := .agg #[.bool (ng (x + y)), .slice A2 n2 c2]) (by simp [results, Try.results56, go_sem, r1 _ hh2]) rfl ?_
        have hst2 := Held.set_ (Held.set_ hh2.here 0 (.bool (ng (x + y)))) 1 (.slice A2 n2 c2)
        exact ⟨_, rfl, ⟨A2, n2, c2, rfl, h2.held hst2 (by decide)⟩, (hh2.trans2 hst2).below hbw (by omega)⟩
      · clear hss
        go_enter Try.func56, Try.ntmps56
        go_wp2_with fail
        have hbx : Below w.heap.size w (((w.alloc (.cells #[.bool true, .slice A n c] TZ)).alloc (.cells #[.bool false, .slice A' n' c'] TZ)).alloc (.cells #[.bool false, .slice none 0 0] TZ)) := by go_grown
        refine (zsizes_any _ _ _ _ _ _ _ _ _ (H.out.below hbx) (H'.out.below hbx)).mono ?_
        rintro e w0 ⟨v0, rfl, hr, hb0⟩
        subst hr
        obtain ⟨r, hr⟩ : ∃ r, cmpN x.natAbs y.natAbs = r := ⟨_, rfl⟩
        rw [hr]
        have hr0 : r < 0 := by rw [← hr]; have := HLE.out; unfold cmpN; rw [if_pos (by omega)]; omega
        clear hr
        have hbw := bt hbx hb0
        have b0 : Blk w0 w.heap.size TZ #[.bool true, .slice A n c] := (((Blk.new_ _ _ rfl).alloc _).alloc _).below hb0
        have b1 : Blk w0 (w.heap.size + 1) TZ #[.bool false, .slice A' n' c'] := ((Blk.new_ _ _ (by simp)).alloc _).below hb0
        have b2 : Blk w0 (w.heap.size + 1 + 1) TZ #[.bool false, .slice none 0 0] := (Blk.new_ _ _ (by simp)).below hb0
        clear hb0 hbx
        obtain ⟨W0, rfl⟩ : ∃ W0, W0 = w0 := ⟨_, rfl⟩
        have d0 := b0.cells
        have d1 := b1.cells
        simp only [cellsAre, Nat.zero_add, Nat.reduceAdd, and_true] at d0 d1
        have k0 := fun w' (hh : Held (w.heap.size + 1 + 1) 2 TZ W0 w') => (b0.held hh (by omega)).cells
        have k1 := fun w' (hh : Held (w.heap.size + 1 + 1) 2 TZ W0 w') => (b1.held hh (by omega)).cells
        have hst : Held (w.heap.size + 1 + 1) 2 TZ W0 W0.drew := b2.heldS.drew
        simp only [cellsAre, Nat.zero_add, Nat.reduceAdd, and_true] at k0 k1
        have r1 := (rules (w.heap.size + 1 + 1) 2 TZ W0).some
        have r2 := (rules (w.heap.size + 1 + 1) 2 TZ W0).free
        clear b0 b1 b2
        go_wp2
        go_region_held3 (fun w' => Held (w.heap.size + 1 + 1) 2 TZ W0 w') (first | assumption | exact Held.trans_ (by assumption) (by assumption) | exact Held.set_ (Held.set_ (by assumption) _ _) _ _)
          (first | (go_at_call 72; refine (zless_any _ _ _ _ _ _ (digs BT y.natAbs) (digs BT x.natAbs) _ (H'.out.below hbw.drew) (H.out.below hbw.drew) DY.out DX.out (HYX.out (Nat.le_of_lt HLE.out)) (by rw [VX.out, VY.out]; exact Nat.le_of_lt HLE.out) HN2.out).mono ?_; rintro e w1 ⟨v1, rfl, ⟨cs1, ⟨A1, n1, c1, rfl, h1⟩, hd1, hv1, hl1⟩, hb1⟩; have HV1 := Lib.hid (And.intro hd1 (And.intro hv1 (And.intro hl1 h1))); clear hd1 hv1 hl1 h1) | (go_at_call 69; refine (zlean_any _ _ _ _ cs1 (x + y) _ HV1.out.2.2.2 HV1.out.1 (by rw [HV1.out.2.1, VY.out, VX.out]; exact HN.out.1.symm) HN.out.2 (by have h1 := HV1.out.2.2.2.len; have h2 := HV1.out.2.2.1; rw [List.length_map] at h1; omega)).mono ?_; rintro e w2 ⟨v2, rfl, ⟨A2, n2, c2, rfl, h2⟩, hb2⟩))
        have hh2 : Held (w.heap.size + 1 + 1) 2 TZ W0 w2 := (hst.trans_ hb1).trans_ hb2
        go_wp2
        (try simp only [Exit.inBlock, Exit.then])
        refine bodyPost_ret (v := .agg #[.bool (ng (x + y)), .slice A2 n2 c2]) (by simp [results, Try.results56, go_sem, r1 _ hh2]) rfl ?_
        have hst2 := Held.set_ (Held.set_ hh2.here 0 (.bool (ng (x + y)))) 1 (.slice A2 n2 c2)
        exact ⟨_, rfl, ⟨A2, n2, c2, rfl, h2.held hst2 (by decide)⟩, (hh2.trans2 hst2).below hbw (by omega)⟩
end Go.Proofs.Tb
/- Contracts of the reference's numbers of any size, sixth part: Mul. -/
namespace Go.Proofs.Tb
open Go.RowKit
attribute [local go_sem] cell_set_same

/-- n zeros. -/
def zerI (n : Nat) : Array Value := ((List.replicate n 0).map I64).toArray
theorem made_zerI (n : Nat) : madeCells (Value.cells (.int .i64 0)) (n * 1) = zerI n := by
  apply Array.ext'
  apply List.ext_getElem?
  intro j
  simp only [madeCells, zerI, Nat.mul_one, Array.toList_map, Value.cells]
  by_cases hj : j < n
  · simp [hj, I64, Nat.mod_one]
  · simp [hj]
theorem make_int (n : Nat) (x : Int) (hx : x = n) (hn : n ≤ 10995116277760) (W : World) :
    (Instr.makeSlice TS (.int .i64 x) (.int .i64 x)).run Try.prog W = .ok (.slice (some ⟨W.heap.size, 0, none⟩) n n) (W.alloc (.cells (zerI n) TN)) := by
  subst hx
  obtain ⟨i, hi, hz, hs, hb⟩ := info_parts int_info
  rw [run_make (P := Try.prog) W TS TN i _ Try.underlying31 hi hz .i64 .i64 n n (by omega) (by omega) (by rw [hb]; omega) (by omega)]
  simp only [Int.toNat_natCast, hs, made_zerI]
theorem blk_cellI {w : World} {g : Nat} {t : TypeId} {cs : List Nat} (h : Blk w g t (cs.map I64).toArray) {j : Nat} (hj : j < cs.length) : w.cell? ⟨g, j, none⟩ = some (.int .i64 ((cs.getD j 0 : Nat) : Int)) := by
  have h' : w.heap[g]? = some (.cells (cs.map I64).toArray t (0, 0)) := h
  simp [World.cell?, h', List.getD, hj, I64]
theorem blk_setI {w : World} {g : Nat} {t : TypeId} {cs : List Nat} (h : Blk w g t (cs.map I64).toArray) (j v : Nat) : Blk (w.setCell ⟨g, j, none⟩ (I64 v)) g t ((cs.set j v).map I64).toArray := by
  have := h.set_ j (I64 v)
  rw [List.map_set]
  simpa using this
/-- A block G of nm digits, which alone is written. -/
structure ZInv (W0 : World) (G nm : Nat) (wr : World) (cs : List Nat) : Prop where
  held : Held G nm TN W0 wr
  blk : Blk wr G TN (cs.map I64).toArray
  len : cs.length = nm
  dg : Dg BT cs
theorem ZInv.set_ {W0 wr : World} {G nm : Nat} {cs : List Nat} (h : ZInv W0 G nm wr cs) (j v : Nat) (hv : v < BT) : ZInv W0 G nm (wr.setCell ⟨G, j, none⟩ (I64 v)) (cs.set j v) :=
  ⟨h.held.set_ j _, blk_setI h.blk j v, by simpa using h.len, h.dg.set_ j v hv⟩
theorem ZInv.below_ {W0 wr w' : World} {G nm : Nat} {cs : List Nat} (h : ZInv W0 G nm wr cs) (hb : Below wr.heap.size wr w') : ZInv W0 G nm w' cs :=
  ⟨h.held.trans_ hb, h.blk.below hb, h.len, h.dg⟩
theorem val_set_all (B : Nat) (cs : List Nat) (k v d : Nat) (hk : k < cs.length) (hd : cs.getD k 0 = d) : val B (cs.set k v) + B ^ k * d = val B cs + B ^ k * v := by
  have h := val_set_in B cs k cs.length v hk (Nat.le_refl _)
  rw [List.take_of_length_le (by simp), List.take_length, hd] at h
  exact h
theorem getD_past {ys : List Nat} {j : Nat} (h : ys.length ≤ j) : ys.getD j 0 = 0 := by simp [List.getD, List.getElem?_eq_none h]
theorem mul_lt_pow {B i n' : Nat} (hB : 0 < B) {xs ys : List Nat} (hx : Dg B xs) (hy : Dg B ys) (hl : ys.length = n') : val B (xs.take (i + 1)) * val B ys < B ^ (i + 1 + n') := by
  have h1 := val_lt B _ (hx.take (i + 1))
  have h2 : B ^ (xs.take (i + 1)).length ≤ B ^ (i + 1) := Nat.pow_le_pow_right hB (by simp; omega)
  have h3 := val_lt B _ hy
  rw [hl] at h3
  rw [Nat.pow_add]
  exact Nat.mul_lt_mul'' (Nat.lt_of_lt_of_le h1 h2) h3
theorem mul_row {B i dx : Nat} {xs ys : List Nat} (hdx : xs.getD i 0 = dx) : val B (xs.take i) * val B ys + dx * B ^ i * val B ys = val B (xs.take (i + 1)) * val B ys := by
  rw [val_take_succ', hdx, Nat.add_mul, Nat.mul_comm dx]
theorem mul_room {B i n' j cr V dx : Nat} {xs ys : List Nat} (hB : 0 < B) (hdx : xs.getD i 0 = dx) (hx : Dg B xs) (hy : Dg B ys) (hl : ys.length = n') (hj : n' < j)
    (h : V + cr * B ^ (i + j) = val B (xs.take i) * val B ys + dx * B ^ i * val B (ys.take j)) : cr = 0 := by
  rw [show ys.take j = ys from List.take_of_length_le (by omega), mul_row hdx] at h
  have h1 := mul_lt_pow (i := i) hB hx hy hl
  have h2 : B ^ (i + 1 + n') ≤ B ^ (i + j) := Nat.pow_le_pow_right hB (by omega)
  rcases Nat.eq_zero_or_pos cr with h0 | h0
  · exact h0
  · have h3 : 1 * B ^ (i + j) ≤ cr * B ^ (i + j) := Nat.mul_le_mul_right _ h0
    omega
theorem mul_le_dig (x y : Nat) (hx : x < 10000) (hy : y < 10000) : x * y ≤ 99980001 := by
  calc x * y ≤ 9999 * 9999 := Nat.mul_le_mul (by omega) (by omega)
    _ = 99980001 := by decide

set_option maxHeartbeats 6400000 in
set_option maxRecDepth 100000 in
theorem zmul_any (v v' : Value) (x y : Int) (w : World) (h : ZI w v x) (h' : ZI w v' y) (hs : s10 x + s10 y ≤ 800000000000) :
    Calls Try.prog 55 #[v, v'] w (Ret (fun v w' => ZI w' v (x * y)) w) := by
  obtain ⟨A, n, c, rfl, h⟩ := h
  obtain ⟨A', n', c', rfl, h'⟩ := h'
  have hn := h.le
  have hn' := h'.le
  have hc := h.cap
  have hc' := h'.cap
  have hl := h.len
  have hl' := h'.len
  simp only [LZ, List.length_map] at hl hl'
  have hsum : n + n' ≤ 800000000000 := by unfold s10 dl at hs; omega
  obtain ⟨xs, hxs⟩ : ∃ xs, digs BT x.natAbs = xs := ⟨_, rfl⟩
  obtain ⟨ys, hys⟩ : ∃ ys, digs BT y.natAbs = ys := ⟨_, rfl⟩
  have hvx : val BT xs = x.natAbs := by rw [← hxs]; exact val_digs BT two_BT _
  have hvy : val BT ys = y.natAbs := by rw [← hys]; exact val_digs BT two_BT _
  have hdx : Dg BT xs := by rw [← hxs]; exact digs_dg BT two_BT _
  have hdy : Dg BT ys := by rw [← hys]; exact digs_dg BT two_BT _
  unfold LZ at h h'
  rw [hxs] at h hl
  rw [hys] at h' hl'
  have H := Lib.hid h
  have H' := Lib.hid h'
  have HL := Lib.hid hl
  have HL' := Lib.hid hl'
  have HVX := Lib.hid hvx
  have HVY := Lib.hid hvy
  have HDX := Lib.hid hdx
  have HDY := Lib.hid hdy
  clear h h' hl hl' hvx hvy hdx hdy hxs hys hs
  obtain ⟨s, hsx⟩ : ∃ s, ng x = s := ⟨_, rfl⟩
  obtain ⟨s', hsy⟩ : ∃ s, ng y = s := ⟨_, rfl⟩
  have HN : Hid ((s != s') = ng (x * y) ∨ x * y = 0) := by
    show (s != s') = ng (x * y) ∨ x * y = 0
    rw [← hsx, ← hsy]
    unfold ng
    by_cases hx0 : x = 0
    · right; rw [hx0, Int.zero_mul]
    by_cases hy0 : y = 0
    · right; rw [hy0, Int.mul_zero]
    left
    by_cases hx : x < 0 <;> by_cases hy : y < 0
    · have := Int.mul_pos_of_neg_of_neg hx hy
      simp [hx, hy]; omega
    · have := Int.mul_neg_of_neg_of_pos hx (show 0 < y by omega)
      simp [hx, hy, this]
    · have := Int.mul_neg_of_pos_of_neg (show 0 < x by omega) hy
      simp [hx, hy, this]
    · have := Int.mul_pos (show 0 < x by omega) (show 0 < y by omega)
      simp [hx, hy]; omega
  rw [hsx, hsy]
  clear hsx hsy
  have hmk := make_int (n + n' + 1) ((n : Int) + (n' : Int) + 1) (by omega) (by omega)
  go_enter Try.func55, Try.ntmps55
  go_wp2
  refine wp_world (fun W0 => Blk W0 w.heap.size TZ #[.bool s, .slice A n c] ∧ Blk W0 (w.heap.size + 1) TZ #[.bool s', .slice A' n' c'] ∧ Blk W0 (w.heap.size + 1 + 1) TZ #[.bool false, .slice none 0 0] ∧ Blk W0 (w.heap.size + 1 + 1 + 1) TN (zerI (n + n' + 1)) ∧ Below w.heap.size w W0) (by exact ⟨(((Blk.new_ _ _ rfl).alloc _).alloc _).alloc _, ((Blk.new_ _ _ (by simp)).alloc _).alloc _, (Blk.new_ _ _ (by simp)).alloc _, Blk.new_ _ _ (by simp), by go_grown⟩) ?_
  rintro W0 ⟨b0, b1, b2, b3, hbw⟩
  clear hmk
  have k0 := fun w' (hh : Held (w.heap.size + 1 + 1 + 1) (n + n' + 1) TN W0 w') => (b0.held hh (by omega)).cells
  have k1 := fun w' (hh : Held (w.heap.size + 1 + 1 + 1) (n + n' + 1) TN W0 w') => (b1.held hh (by omega)).cells
  simp only [cellsAre, Nat.zero_add, Nat.reduceAdd, and_true] at k0 k1
  have B0 := Lib.hid b0
  have B1 := Lib.hid b1
  have B2 := Lib.hid b2
  have K0 := Lib.hid k0
  have K1 := Lib.hid k1
  have hst : Held (w.heap.size + 1 + 1 + 1) (n + n' + 1) TN W0 W0 := by have := b3.heldS; simpa [zerI] using this
  have I0 : ZInv W0 (w.heap.size + 1 + 1 + 1) (n + n' + 1) W0 (List.replicate (n + n' + 1) 0) := ⟨hst, b3, by simp, Dg.replicate (by unfold BT; omega) _⟩
  have HI0 := Lib.hid I0
  clear b0 b1 b2 b3 k0 k1 hst I0
  go_loopw [6] (fun i wr => ∃ (k : Nat) (cs : List Nat), k ≤ n ∧ i = .int .i64 k ∧ ZInv W0 (w.heap.size + 1 + 1 + 1) (n + n' + 1) wr cs ∧ val BT cs = val BT (xs.take k) * val BT ys) (fun i _ => n - (intOf i).toNat)
  case atStart => exact ⟨0, List.replicate (n + n' + 1) 0, Nat.zero_le _, rfl, HI0.out, by simp [val, val_zeros]⟩
  case round =>
    obtain ⟨i, cs, hi, rfl, hI, hv⟩ := hrel
    obtain ⟨wo, rfl⟩ : ∃ wo : World, wo = wr := ⟨_, rfl⟩
    have HI := Lib.hid hI
    have HV := Lib.hid hv
    clear hI hv
    obtain ⟨e00, e01⟩ := K0.out wo HI.out.held
    obtain ⟨e10, e11⟩ := K1.out wo HI.out.held
    by_cases hin : i < n
    · obtain ⟨b, o, rfl, hcell⟩ := H.out.at_int (by omega)
      have HCX := Lib.hid (hcell i hin)
      clear hcell
      have hd1 := HDX.out.getD (by unfold BT; omega) i
      obtain ⟨dx, hdx⟩ : ∃ d, xs.getD i 0 = d := ⟨_, rfl⟩
      rw [hdx] at HCX hd1
      have HDXI := Lib.hid hdx
      rw [BT_eq] at hd1
      clear hdx
      go_wp2
      clear e00 e01 e10 e11
      go_loopw [7, 8] (fun cy jj wr => ∃ (j cr : Nat) (ds : List Nat), j ≤ n' + 1 ∧ cr < BT ∧ jj = .int .i64 j ∧ cy = .int .i64 cr ∧ ZInv W0 (w.heap.size + 1 + 1 + 1) (n + n' + 1) wr ds ∧ val BT ds + cr * BT ^ (i + j) = val BT (xs.take i) * val BT ys + dx * BT ^ i * val BT (ys.take j)) (fun _ jj _ => n' + 2 - (intOf jj).toNat)
      case atStart => exact ⟨0, 0, cs, Nat.zero_le _, by unfold BT; omega, rfl, rfl, HI.out, by rw [HV.out]; simp [val]⟩
      case round =>
        clear HI HV
        obtain ⟨j, cr, ds, hj, hcr, rfl, rfl, hJ, hvj⟩ := hrel
        obtain ⟨wi, rfl⟩ : ∃ wi : World, wi = wr := ⟨_, rfl⟩
        have HJ := Lib.hid hJ
        have HVJ := Lib.hid hvj
        have HROOM := Lib.hid (show n' < j → cr = 0 from fun hlt => mul_room (by unfold BT; omega) HDXI.out HDX.out HDY.out HL'.out hlt hvj)
        rw [BT_eq] at hcr
        clear hJ hvj
        obtain ⟨f00, f01⟩ := K0.out wi HJ.out.held
        obtain ⟨f10, f11⟩ := K1.out wi HJ.out.held
        have hcx : wi.cell? ⟨b, o + i, none⟩ = some (.int .i64 (dx : Int)) := by
          rw [(HJ.out.held.below hbw (by omega)).cell (p := ⟨b, o + i, none⟩) (World.block_lt_of_cell? w _ HCX.out)]
          exact HCX.out
        by_cases hjn : j < n'
        · obtain ⟨b', o', rfl, hcell'⟩ := H'.out.at_int (by omega)
          have hcy : wi.cell? ⟨b', o' + j, none⟩ = some (.int .i64 ((ys.getD j 0 : Nat) : Int)) := by
            rw [(HJ.out.held.below hbw (by omega)).cell (p := ⟨b', o' + j, none⟩) (World.block_lt_of_cell? w _ (hcell' j hjn))]
            exact hcell' j hjn
          clear hcell'
          have hd2 := HDY.out.getD (by unfold BT; omega) j
          have hd3 := HJ.out.dg.getD (by unfold BT; omega) (i + j)
          have hcg := blk_cellI HJ.out.blk (j := i + j) (by rw [HJ.out.len]; omega)
          have hfr := HJ.out.blk.free (i + j)
          obtain ⟨dy, hdy⟩ : ∃ d, ys.getD j 0 = d := ⟨_, rfl⟩
          obtain ⟨d, hd⟩ : ∃ d, ds.getD (i + j) 0 = d := ⟨_, rfl⟩
          rw [hdy] at hcy hd2
          rw [hd] at hcg hd3
          rw [BT_eq] at hd2 hd3
          have HDYJ := Lib.hid hdy
          have HD := Lib.hid hd
          clear hdy hd
          have hq := mul_le_dig dx dy hd1 hd2
          have hq1 : (dx : Int) * (dy : Int) ≤ 99980001 := by
            have : ((dx * dy : Nat) : Int) ≤ 99980001 := by omega
            simpa using this
          have hq0 : (0 : Int) ≤ (dx : Int) * (dy : Int) := by
            have : (0 : Int) ≤ ((dx * dy : Nat) : Int) := by omega
            simpa using this
          have e0 : (dx : Int) * (dy : Int) = ((dx * dy : Nat) : Int) := by simp
          have E0 := Lib.hid e0
          clear e0 hq
          have q1 : IntKind.i64.wrap ((dx : Int) * (dy : Int)) = (dx : Int) * (dy : Int) := IntWalk.i64_in _ (by omega)
          have q2 : IntKind.i64.wrap ((d : Int) + (cr : Int) + (dx : Int) * (dy : Int)) = (d : Int) + (cr : Int) + (dx : Int) * (dy : Int) := IntWalk.i64_in _ (by omega)
          go_wp2
          go_quiet (fail)
          clear q1 q2
          go_wp2
          go_roundw
          case rel =>
            refine ⟨j + 1, (dx * dy + d + cr) / 10000, ds.set (i + j) ((dx * dy + d + cr) % 10000), by omega, by rw [BT_eq]; have := E0.out; omega, by go_num, i64e (by have := E0.out; omega), ?_, ?_⟩
            · have e : Value.int .i64 (((d : Int) + (cr : Int) + (dx : Int) * (dy : Int)) % 10000) = I64 ((dx * dy + d + cr) % 10000) := i64e (by have := E0.out; omega)
              rw [e]
              exact (HJ.out.below_ (below_drewN (Below.refl _ _) _)).set_ _ _ (by rw [BT_eq]; omega)
            · rw [← Nat.add_assoc]
              exact mul_step BT (i + j) dx dy d cr _ _ _ _ _ i ys j rfl HDYJ.out HVJ.out (val_set_all BT ds (i + j) _ d (by rw [HJ.out.len]; omega) HD.out) (by rw [BT_eq]; have := Nat.div_add_mod (dx * dy + d + cr) 10000; omega)
          case measure => first | (simp [intOf]; done) | (simp [intOf]; omega)
        · by_cases hc0 : 0 < cr
          · have hjj : j = n' := by
              rcases Nat.lt_or_ge n' j with h | h
              · have := HROOM.out h; omega
              · omega
            subst hjj
            have hd3 := HJ.out.dg.getD (by unfold BT; omega) (i + j)
            have hcg := blk_cellI HJ.out.blk (j := i + j) (by rw [HJ.out.len]; omega)
            have hfr := HJ.out.blk.free (i + j)
            obtain ⟨d, hd⟩ : ∃ d, ds.getD (i + j) 0 = d := ⟨_, rfl⟩
            rw [hd] at hcg hd3
            rw [BT_eq] at hd3
            have HD := Lib.hid hd
            clear hd
            go_wp2
            go_roundw
            case rel =>
              refine ⟨j + 1, (d + cr) / 10000, ds.set (i + j) ((d + cr) % 10000), by omega, by rw [BT_eq]; omega, by go_num, i64e (by omega), ?_, ?_⟩
              · have e : Value.int .i64 (((d : Int) + (cr : Int)) % 10000) = I64 ((d + cr) % 10000) := i64e (by omega)
                rw [e]
                exact HJ.out.set_ _ _ (by rw [BT_eq]; omega)
              · rw [← Nat.add_assoc]
                exact mul_step BT (i + j) dx 0 d cr _ _ _ _ _ i ys j rfl (getD_past (by rw [HL'.out]; omega)) HVJ.out (val_set_all BT ds (i + j) _ d (by rw [HJ.out.len]; omega) HD.out) (by rw [BT_eq]; have := Nat.div_add_mod (d + cr) 10000; omega)
            case measure => first | (simp [intOf]; done) | (simp [intOf]; omega)
          · have hc1 : cr = 0 := by omega
            subst hc1
            go_wp2
            go_roundw
            case rel =>
              refine ⟨i + 1, ds, by omega, by go_num, HJ.out, ?_⟩
              have h1 := HVJ.out
              rw [show ys.take j = ys from List.take_of_length_le (by rw [HL'.out]; omega), mul_row HDXI.out] at h1
              simpa using h1
            case measure => first | (simp [intOf]; done) | (simp [intOf]; omega)
    · have : i = n := by omega
      subst this
      have hbo := HI.out.held.below hbw (by omega)
      have b2 := B2.out.held HI.out.held (by omega)
      have hsl := Blk.sl HI.out.blk rfl (by simp [HI.out.len]; omega)
      have hlen : (cs.map I64).length = i + n' + 1 := by simp [HI.out.len]
      rw [hlen] at hsl
      have hval : val BT cs = (x * y).natAbs := by
        have e0 := HV.out
        rw [List.take_of_length_le (by rw [HL.out]; omega), HVX.out, HVY.out] at e0
        rw [e0, Int.natAbs_mul]
      have HSL := Lib.hid hsl
      have HVAL := Lib.hid hval
      have HBO := Lib.hid hbo
      have BB2 := Lib.hid b2
      clear hsl hlen hval hbo b2
      go_wp2_with (go_at_call 69; refine (zlean_any _ _ _ _ cs (x * y) _ HSL.out HI.out.dg HVAL.out HN.out (by omega)).mono ?_; rintro e w2 ⟨v2, rfl, ⟨A2, n2, c2, rfl, h2⟩, hb2⟩; have C2 := Lib.hid (BB2.out.below hb2); have kk := C2.out.cells; have ff := C2.out.free; have H2 := Lib.hid h2; have HB2 := Lib.hid hb2; simp only [cellsAre, Nat.zero_add, Nat.reduceAdd, and_true] at kk; clear h2 hb2 e00 e01 e10 e11)
      (try simp only [Exit.inBlock, Exit.then])
      refine bodyPost_ret (v := .agg #[.bool (ng (x * y)), .slice A2 n2 c2]) (by simp [results, Try.results55, go_sem, kk]) rfl ?_
      have hst2 := Held.set_ (Held.set_ C2.out.heldS 0 (.bool (ng (x * y)))) 1 (.slice A2 n2 c2)
      exact ⟨_, rfl, ⟨A2, n2, c2, rfl, H2.out.held hst2 (by decide)⟩, hst2.below (bt HBO.out HB2.out) (by omega)⟩
end Go.Proofs.Tb
