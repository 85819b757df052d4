/- Contracts of the reference's numbers of any size (package tourbillonref01), first part: appending a digit; comparing, adding and subtracting lists of digits in base 10000. -/
import Derived.Test.YtcbffkkcldnegaaWideF
import Derived.Test.YtcbffkkcldnegaaRat
set_option linter.unusedVariables false
set_option linter.unusedSimpArgs false
namespace Go.Proofs.Tb
open Go.RowKit
attribute [local go_sem] cell_set_same

/-- The element type of the digits. -/
abbrev TN : TypeId := 3
abbrev TS : TypeId := 33
/-- The base of the digits. -/
def BT : Nat := 10000
theorem two_BT : 2 ≤ BT := by unfold BT; omega
theorem BT_eq : BT = 10000 := rfl
def I64 (x : Nat) : Value := .int .i64 (x : Int)
theorem i64e {a b : Int} (h : a = b) : Value.int .i64 a = .int .i64 b := by rw [h]
/-- The digits of m, as values. -/
def LZ (m : Nat) : List Value := (digs BT m).map I64
theorem Sl.at_int {w : World} {A : Option Addr} {n c : Nat} {xs : List Nat} (h : Sl TN w A n c (xs.map I64)) (h0 : 0 < n) :
    ∃ b o, A = some ⟨b, o, none⟩ ∧ ∀ j, j < n → w.cell? ⟨b, o + j, none⟩ = some (.int .i64 ((xs.getD j 0 : Nat) : Int)) := by
  obtain ⟨b, o, hA, _, hc⟩ := h.at_ h0
  have hl := h.len
  refine ⟨b, o, hA, fun j hj => ?_⟩
  rw [hc j hj, map_getD _ _ _ (by simp at hl; omega)]
  rfl
/-- How two natural numbers compare. -/
def cmpN (m m' : Nat) : Int := if m < m' then -1 else if m' < m then 1 else 0
theorem cmpN_lt {m m' : Nat} (h : m < m') : cmpN m m' = -1 := if_pos h
theorem cmpN_gt {m m' : Nat} (h : m' < m) : cmpN m m' = 1 := by rw [cmpN, if_neg (by omega), if_pos h]
theorem cmpN_eq (m : Nat) : cmpN m m = 0 := by rw [cmpN, if_neg (by omega), if_neg (by omega)]
theorem Dg.nil (B : Nat) : Dg B [] := fun _ h => by cases h

set_option maxHeartbeats 800000 in
theorem zsizes_eqlen (A A' : Option Addr) (n c c' : Nat) (xs ys : List Nat) (w : World) (h : Sl TN w A n c (xs.map I64)) (h' : Sl TN w A' n c' (ys.map I64)) (hdx : Dg BT xs) (hdy : Dg BT ys) :
    Calls Try.prog 106 #[.slice A n c, .slice A' n c'] w (Ret (fun v _ => v = .int .i64 (cmpN (val BT xs) (val BT ys))) w) := by
  have hn := h.le
  have hc := h.cap
  have hl := h.len
  have hl' := h'.len
  rw [List.length_map] at hl hl'
  have HL := Lib.hid hl
  have HL' := Lib.hid hl'
  have HH := Lib.hid h
  have HH' := Lib.hid h'
  have HX := Lib.hid hdx
  have HY := Lib.hid hdy
  clear h hdx hl h' hdy hl'
  have hne0 : ((n : Int) != (n : Int)) = false := by simp
  go_enter Try.func106, Try.ntmps106
  go_wp2
  go_loopw [5] (fun i wr => ∃ k nq : Nat, k ≤ n ∧ val BT (xs.drop k) = val BT (ys.drop k) ∧ i = .int .i64 ((k : Int) - 1) ∧ wr = w.drewN nq) (fun i _ => (intOf i + 1).toNat)
  case atStart => exact ⟨n, 0, Nat.le_refl _, by rw [← HL.out, List.drop_length, HL.out, ← HL'.out, List.drop_length], rfl, rfl⟩
  case round =>
    obtain ⟨k, nq, hk, hv, rfl, rfl⟩ := hrel
    have HV := Lib.hid hv
    clear hv
    by_cases hk0 : 0 < k
    · obtain ⟨b, o, rfl, hcell⟩ := HH.out.at_int (by omega)
      obtain ⟨b', o', rfl, hcell'⟩ := HH'.out.at_int (by omega)
      have hcl := hcell (k - 1) (by omega)
      have hcl' := hcell' (k - 1) (by omega)
      clear hcell hcell'
      obtain ⟨d, hd⟩ : ∃ d, xs.getD (k - 1) 0 = d := ⟨_, rfl⟩
      obtain ⟨d', hd'⟩ : ∃ d, ys.getD (k - 1) 0 = d := ⟨_, rfl⟩
      rw [hd] at hcl
      rw [hd'] at hcl'
      have HD := Lib.hid hd
      have HD' := Lib.hid hd'
      clear hd hd'
      have hi0 : (0 : Int) ≤ (k : Int) - 1 := by omega
      have hi1 : (k : Int) - 1 < (n : Int) := by omega
      rcases Nat.lt_trichotomy d d' with hlt | heq | hgt
      · go_wp2
        go_quiet (fail)
        go_wp2
        go_returns
        exact ⟨_, rfl, i64e (cmpN_lt (cmp_at BT xs ys n k d d' HL.out HL'.out HX.out hk0 hk HV.out HD.out HD'.out hlt)).symm, below_drewN (below_drewN (Below.refl _ _) _) _⟩
      · subst heq
        have hn1 : ¬ d < d := by omega
        go_wp2
        go_quiet (fail)
        go_wp2
        go_quiet (fail)
        go_wp2
        go_roundw
        case rel => exact ⟨k - 1, _, by omega, drop_eq_step BT xs ys n k d HL.out HL'.out hk0 hk HV.out HD.out HD'.out, by go_num, rfl⟩
        case measure => simp [intOf]; omega
      · have hn1 : ¬ d < d' := by omega
        go_wp2
        go_quiet (fail)
        go_wp2
        go_quiet (fail)
        go_wp2
        go_returns
        have hlt := cmp_at BT ys xs n k d' d HL'.out HL.out HY.out hk0 hk HV.out.symm HD'.out HD.out hgt
        exact ⟨_, rfl, i64e (cmpN_gt hlt).symm, below_drewN (below_drewN (below_drewN (Below.refl _ _) _) _) _⟩
    · have : k = 0 := by omega
      subst this
      go_wp2
      go_returns
      have e1 : val BT xs = val BT ys := by simpa using HV.out
      exact ⟨_, rfl, i64e (by rw [e1, cmpN_eq]), below_drewN (Below.refl _ _) _⟩
set_option maxHeartbeats 800000 in
theorem zsizes_any (A A' : Option Addr) (n c n' c' : Nat) (m m' : Nat) (w : World) (h : Sl TN w A n c (LZ m)) (h' : Sl TN w A' n' c' (LZ m')) :
    Calls Try.prog 106 #[.slice A n c, .slice A' n' c'] w (Ret (fun v _ => v = .int .i64 (cmpN m m')) w) := by
  by_cases hnn : n = n'
  · subst hnn
    have := zsizes_eqlen A A' n c c' (digs BT m) (digs BT m') w h h' (digs_dg BT two_BT m) (digs_dg BT two_BT m')
    rw [val_digs BT two_BT, val_digs BT two_BT] at this
    exact this
  · have hl := h.len
    have hl' := h'.len
    have hc := h.cap
    have hc' := h'.cap
    have hle := h.le
    have hle' := h'.le
    simp only [LZ, List.length_map] at hl hl'
    have HL := Lib.hid hl
    have HL' := Lib.hid hl'
    clear h h' hl hl'
    have hne : ((n : Int) != (n' : Int)) = true := by rw [bne_iff_ne]; omega
    rcases Nat.lt_or_gt_of_ne hnn with hlt | hlt
    · go_enter Try.func106, Try.ntmps106
      go_wp2
      go_returns
      have hl := HL.out
      have hl' := HL'.out
      have := lt_of_dl_lt BT two_BT m m' (by unfold dl; omega)
      exact ⟨_, rfl, i64e (cmpN_lt this).symm, Below.refl _ _⟩
    · have hn1 : ¬ n < n' := by omega
      go_enter Try.func106, Try.ntmps106
      go_wp2
      go_returns
      have hl := HL.out
      have hl' := HL'.out
      have := lt_of_dl_lt BT two_BT m' m (by unfold dl; omega)
      exact ⟨_, rfl, i64e (cmpN_gt this).symm, Below.refl _ _⟩

theorem int_info : (Try.prog.info? 3).map (fun i => (i.zero, i.size, i.bytes)) = some (some (.int .i64 0), 1, 8) := by kernel_rfl
/-- v owns the digits cs, in a block from base on. -/
def Ow (base : Nat) (w : World) (v : Value) (cs : List Nat) : Prop := w.ownsRow base TN 1 v cs.length (cs.map I64)
theorem Ow.sl {base : Nat} {w : World} {v : Value} {cs : List Nat} (h : Ow base w v cs) : SL TN w v (cs.map I64) := Sl.of_own h
theorem Ow.nil (base : Nat) (w : World) : Ow base w (.slice none 0 0) [] := ⟨rfl, .inl ⟨rfl, rfl⟩⟩
theorem Ow.empty (base : Nat) (w : World) (h : base ≤ w.heap.size) : Ow base (w.alloc (.cells #[] TN)) (.slice (some ⟨w.heap.size, 0, none⟩) 0 0) [] :=
  World.ownsRow_lit w #[] 0 h (by unfold maxLen; omega) rfl
theorem own_ge {base : Nat} {w : World} {e : TypeId} {size n : Nat} {v : Value} {xs : List Value} (h : w.ownsRow base e size v n xs) : ∀ k, v.ownBlock = some k → base ≤ k := by
  intro k hk
  rcases h.2 with ⟨rfl, _⟩ | ⟨g, cap, cur, rfl, hb, _⟩
  · simp [Value.ownBlock] at hk
  · simp [Value.ownBlock] at hk
    omega
theorem Ow.alloc {base : Nat} {w : World} {v : Value} {cs : List Nat} (h : Ow base w v cs) (o : Obj) : Ow base (w.alloc o) v cs := World.ownsRow.alloc h o
/-- append of one digit to digits that the call owns. -/
theorem wp_app1 {ops : Array Oper} {rest : List Oper} {o : Oper} {a : Act} {Q : Exit → Act → World → Prop} {wr : World} (hgd : o.guard = none) (s x : Operand)
    (ho : o.op = .call { callee := .builtin .append, args := #[s, x], argTypes := #[TS, TS] }) (base : Nat) (v : Value) (xs : List Nat) (hs : a.eval s = v) (hown : Ow base wr v xs)
    (u : Value) (y : Nat) (hu : u = I64 y) (hx : a.eval x = .slice (some ⟨wr.heap.size, 0, none⟩) 1 1) (hn : xs.length ≤ 1000000000000) (hbase : base ≤ wr.heap.size)
    (h : ∀ v' w', Ow base w' v' (xs ++ [y]) → Below base wr w' → wpList Try.prog ops Q rest (a.put o.dst v') w') : wpList Try.prog ops Q (o :: rest) a (wr.alloc (.cells #[u] TN)) := by
  obtain ⟨i0, hi, hz0, hz1, hz2⟩ := info_parts int_info
  subst hu
  refine wpList_append_own _ hgd s x TS ho base TN i0 (.int .i64 0) 1 8 Try.underlying33 hi hz0 hz1 hz2 rfl (by decide) v xs.length (xs.map I64) hs (hown.alloc _) ⟨wr.heap.size, 0, none⟩ 1 1 [I64 y] hx rfl (cell_one_new _ _ _) ?_ ?_ ?_ ?_ ?_
  · intro u hu; rw [List.mem_singleton.1 hu]; rfl
  · unfold maxLen; omega
  · omega
  · simp; omega
  · intro v' w' h1 h2 _
    refine h v' w' ?_ ?_
    · unfold Ow; rw [List.map_append, List.length_append]; exact h1
    · exact ((Below.refl _ _).alloc hbase _).grown h2 (by simp; omega) (own_ge hown)

/-- v reads as digits whose value is m. -/
def DV (m : Nat) (v : Value) (w : World) : Prop := ∃ cs : List Nat, SL TN w v (cs.map I64) ∧ Dg BT cs ∧ val BT cs = m ∧ cs.length ≤ 900000000000

end Go.Proofs.Tb
