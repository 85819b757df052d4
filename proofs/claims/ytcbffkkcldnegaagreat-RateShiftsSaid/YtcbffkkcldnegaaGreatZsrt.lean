/- Contract of the reference for rates: sorted. -/
import Derived.Test.YtcbffkkcldnegaaGreatRef3
import Derived.Test.YtcbffkkcldnegaaGreatRow
import Derived.Test.YtcbffkkcldnegaaGreatAdv
import Derived.Deep.DeepCutAuto
set_option linter.unusedVariables false
set_option linter.unusedSimpArgs false
namespace Go.Proofs.Tb
open Go.RowKit
attribute [local go_sem] cell_set_same

abbrev TQS : TypeId := 43
/-- A fraction's four cells, and its value. -/
abbrev QE := List Value × Rat
abbrev qE : QE → List Value := Prod.fst
/-- The value of element i. -/
def qAt (d : List QE) (i : Nat) : Rat := (d.getD i ([], 0)).2
theorem q_info : (Tryz.prog.info? TQ).map (fun i => (i.zero, i.size, i.bytes)) = some (some (.agg #[.bool false, .slice none 0 0, .bool false, .slice none 0 0]), 4, 64) := by kernel_rfl
/-- The elements read as fractions of the reference. -/
def QZ (w : World) (s : Nat) (d : List QE) : Prop := ∀ x, x ∈ d → x.1.length = 4 ∧ ZX w (.agg x.1.toArray) x.2 s
section
variable {w w' : World} {s n c : Nat} {d e : List QE} {A : Option Addr}
theorem QZ.below (h : QZ w s d) (hb : Below w.heap.size w w') : QZ w' s d := fun x hx => ⟨(h x hx).1, (h x hx).2.below hb⟩
theorem QZ.held {R k : Nat} {T : TypeId} (h : QZ w s d) (hh : Held R k T w w') (hT : TN ≠ T) : QZ w' s d := fun x hx => ⟨(h x hx).1, (h x hx).2.held hh hT⟩
theorem QZ.le {t : Nat} (h : QZ w s d) (hst : s ≤ t) : QZ w t d := fun x hx => ⟨(h x hx).1, (h x hx).2.le hst⟩
theorem QZ.form {x : QE} (h : QZ w s d) (hx : x ∈ d) : ∃ b A n c b' A' n' c', x.1 = [.bool b, .slice A n c, .bool b', .slice A' n' c'] := by
  obtain ⟨b, A, n, c, b', A', n', c', he⟩ := (h x hx).2.form
  injection he with he
  exact ⟨b, A, n, c, b', A', n', c', by have := congrArg Array.toList he; simpa using this⟩
theorem QZ.one (h : QZ w s d) : ∀ u, u ∈ cel qE d → u.oneCell' = true := fun u hu => by
  unfold cel at hu
  obtain ⟨x, hx, hu⟩ := List.mem_flatMap.1 hu
  obtain ⟨b, A, n, c, b', A', n', c', he⟩ := h.form hx
  have hu' : u ∈ x.1 := hu
  rw [he] at hu'
  simp only [List.mem_cons, List.not_mem_nil, or_false] at hu'
  rcases hu' with rfl | rfl | rfl | rfl <;> rfl
theorem QZ.app (h : QZ w s d) (h' : QZ w s e) : QZ w s (d ++ e) := fun x hx => by
  rcases List.mem_append.1 hx with hx | hx
  · exact h x hx
  · exact h' x hx
theorem QZ.sub (h : QZ w s d) (hs : ∀ x, x ∈ e → x ∈ d) : QZ w s e := fun x hx => h x (hs x hx)
theorem QZ.len (h : QZ w s d) : ∀ x, x ∈ d → (qE x).length = 4 := fun x hx => (h x hx).1
theorem QZ.nil : QZ w s [] := fun x hx => by cases hx
theorem QZ.single {v0 v1 v2 v3 : Value} {x : Rat} (h : ZX w (.agg #[v0, v1, v2, v3]) x s) : QZ w s [([v0, v1, v2, v3], x)] := fun y hy => by
  rw [List.mem_singleton] at hy
  subst hy
  exact ⟨rfl, h⟩
/-- Element i: its cells, its value. -/
theorem QZ.at {b o i : Nat} (hz : QZ w s d) (h : Rw qE 4 TQ w (some ⟨b, o, none⟩) n c d) (hi : i < n) : ∃ b1 A1 n1 c1 b2 A2 n2 c2, ZX w (.agg #[.bool b1, .slice A1 n1 c1, .bool b2, .slice A2 n2 c2]) (qAt d i) s ∧
    (d.drop i).take 1 = [([.bool b1, .slice A1 n1 c1, .bool b2, .slice A2 n2 c2], qAt d i)] ∧
    ∀ w', Ext w w' → w'.cell? ⟨b, o + i * 4, none⟩ = some (.bool b1) ∧ w'.cell? ⟨b, o + i * 4 + 1, none⟩ = some (.slice A1 n1 c1) ∧ w'.cell? ⟨b, o + i * 4 + 2, none⟩ = some (.bool b2) ∧ w'.cell? ⟨b, o + i * 4 + 3, none⟩ = some (.slice A2 n2 c2) := by
  have hl := h.len
  have hi' : i < d.length := by omega
  have hm : d[i] ∈ d := List.getElem_mem hi'
  obtain ⟨b1, A1, n1, c1, b2, A2, n2, c2, he⟩ := hz.form hm
  have e1 : d.getD i ([], 0) = d[i] := by simp [List.getD, hi']
  have h2 := (hz _ hm).2
  rw [he] at h2
  refine ⟨b1, A1, n1, c1, b2, A2, n2, c2, ?_, ?_, fun w' hw => ?_⟩
  · unfold qAt; rw [e1]; exact h2
  · unfold qAt; rw [e1, List.drop_eq_getElem_cons hi', List.take_succ_cons, List.take_zero, ← he]
  · have g := fun j (hj : j < 4) => (h.below hw).get rfl hi hj
    have g0 := g 0 (by omega)
    have g1 := g 1 (by omega)
    have g2 := g 2 (by omega)
    have g3 := g 3 (by omega)
    have he' : qE d[i] = [.bool b1, .slice A1 n1 c1, .bool b2, .slice A2 n2 c2] := he
    rw [he'] at g0 g1 g2 g3
    exact ⟨g0, g1, g2, g3⟩
end
set_option maxRecDepth 100000 in
theorem q_slice_hi (A : Option Addr) (n c k : Nat) (w : World) (hk : k ≤ c) : (Instr.slice TQS (.slice A n c) none (some (.int .i64 (k : Int))) none).run Tryz.prog w = .ok (.slice A k c) w := by
  obtain ⟨i0, hi, hz0, hz1, hz2⟩ := info_parts q_info
  have e : ∀ s : Nat, sliced A 0 k c s = .slice A k c := by
    intro s
    unfold sliced
    rw [Nat.zero_mul, Nat.sub_zero, Nat.sub_zero]
    cases A with
    | none => simp
    | some a => simp [Addr.add]
  rw [run_slice_h _ _ _ _ _ Tryz.underlying43 .i64 (k : Int) (by omega) (by omega)]
  have hi' : Tryz.prog.info? (Tryz.prog.elem TQS) = some i0 := hi
  simp [sizeOf, typeInfo, hi', Result.andThen, e]
set_option maxRecDepth 100000 in
theorem q_slice_lo (b o n c k : Nat) (w : World) (hk : k ≤ n) (hc : n ≤ c) : (Instr.slice TQS (.slice (some ⟨b, o, none⟩) n c) (some (.int .i64 (k : Int))) none none).run Tryz.prog w = .ok (.slice (some ⟨b, if c = k then o else o + k * 4, none⟩) (n - k) (c - k)) w := by
  obtain ⟨i0, hi, hz0, hz1, hz2⟩ := info_parts q_info
  rw [run_slice_l _ _ _ _ _ Tryz.underlying43 .i64 (k : Int) (by omega) (by omega)]
  have hi' : Tryz.prog.info? (Tryz.prog.elem TQS) = some i0 := hi
  have e : sliced (some ⟨b, o, none⟩) k n c 4 = .slice (some ⟨b, if c = k then o else o + k * 4, none⟩) (n - k) (c - k) := by
    unfold sliced
    by_cases h : c = k
    · simp [h]
    · rw [if_neg h, if_neg h]
      simp only [Option.map_some, Addr.add]
      split <;> simp_all
  simp [sizeOf, typeInfo, hi', hz1, Result.andThen, e]
/-- out, behind i elements. -/
def QS (w wr : World) (d : List QE) (s i : Nat) (vo : Value) : Prop := ∃ (b o c : Nat) (e : List QE), vo = .slice (some ⟨b, o, none⟩) i c ∧ Rw qE 4 TQ wr (some ⟨b, o, none⟩) i c e ∧ QZ wr s e ∧ (e.map Prod.snd).Pairwise (· ≤ ·) ∧ (e.map Prod.snd).Perm ((d.take i).map Prod.snd) ∧ Below w.heap.size w wr
theorem qAt_map (d : List QE) (i : Nat) (hi : i < d.length) : (d.map Prod.snd).getD i 0 = qAt d i := by
  unfold qAt
  simp [List.getD, hi]
theorem own_app {base : Nat} {w : World} {v : Value} {n : Nat} {xs : List Value} {T : TypeId} {k : Nat} (h : w.ownsRow base T k v n xs) (h0 : 0 < n) : ∃ b o c, v = .slice (some ⟨b, o, none⟩) n c := by
  obtain ⟨g, o, cap, _, _, hv, _⟩ := own_at h h0
  exact ⟨g, o, cap, hv⟩
/-- One more put in its place. -/
theorem QS.next {w w' wx : World} {d e : List QE} {s i kk : Nat} {q : List Value} {v : Value} {base : Nat} (hs : (e.map Prod.snd).Pairwise (· ≤ ·)) (hp : (e.map Prod.snd).Perm ((d.take i).map Prod.snd)) (hz : QZ wx s e) (hel : e.length = i) (hi : i < d.length)
    (hq : ZX wx (.agg q.toArray) (qAt d i) s) (hql : q.length = 4) (hk : kk ≤ i) (h1 : ∀ j, j < kk → qAt e j ≤ qAt d i) (h2 : kk < i → qAt d i < qAt e kk) (hb : Below w.heap.size w wx) (hb' : Below wx.heap.size wx w')
    (hown : w'.ownsRow base TQ 4 v (0 + kk + 1 + (i - kk)) ([] ++ cel qE (e.take kk) ++ q ++ cel qE (e.drop kk))) : QS w w' d s (i + 1) v := by
  have hn : 0 + kk + 1 + (i - kk) = i + 1 := by omega
  rw [hn] at hown
  obtain ⟨b, o, c, rfl⟩ := own_app hown (by omega)
  have hz2 : QZ w' s (e.take kk ++ (q, qAt d i) :: e.drop kk) := by
    have a := (hz.below hb').sub (e := e.take kk) (fun x hx => List.mem_of_mem_take hx)
    have b := (hz.below hb').sub (e := e.drop kk) (fun x hx => List.mem_of_mem_drop hx)
    intro x hx
    rcases List.mem_append.1 hx with hx | hx
    · exact a x hx
    · rcases List.mem_cons.1 hx with rfl | hx
      · exact ⟨hql, hq.below hb'⟩
      · exact b x hx
  have e1 : d[i] = d.getD i ([], 0) := by simp [List.getD, hi]
  refine ⟨b, o, c, e.take kk ++ (q, qAt d i) :: e.drop kk, rfl, Rw.of_own hown (by simp) (by simp [hel]; omega) ?_ (fun x hx => (hz2 x hx).1), hz2, ?_, ?_, bt hb hb'⟩
  · rw [cel_app]
    simp [cel]
  · rw [List.map_append, List.map_cons, List.map_take, List.map_drop]
    exact ins_sorted hs (by simp; omega) (fun j hj => by rw [qAt_map _ _ (by omega)]; exact h1 j hj) (fun hk' => by rw [List.length_map] at hk'; rw [qAt_map _ _ hk']; exact h2 (by omega))
  · rw [List.map_append, List.map_cons, List.map_take, List.map_drop]
    refine (ins_perm _ _ _).trans ?_
    have e2 : d.take (i + 1) = d.take i ++ [d[i]] := by rw [List.take_succ_eq_append_getElem hi]
    rw [e2, List.map_append]
    refine (List.Perm.cons _ hp).trans ?_
    refine (List.perm_append_comm (l₁ := [_]) (l₂ := (d.take i).map Prod.snd)).trans ?_
    have e3 : qAt d i = d[i].2 := by unfold qAt; rw [e1]
    rw [e3]
    exact List.Perm.refl _
/-- What sorted returns. -/
def SortR (n s : Nat) (d : List QE) (v : Value) (w : World) : Prop := ∃ (b o c : Nat) (e : List QE), v = .slice (some ⟨b, o, none⟩) n c ∧ Rw qE 4 TQ w (some ⟨b, o, none⟩) n c e ∧ QZ w s e ∧ (e.map Prod.snd).Pairwise (· ≤ ·) ∧ (e.map Prod.snd).Perm (d.map Prod.snd)
theorem cmpR_leT {x y : Rat} (h : x ≤ y) : decide (cmpR x y ≤ 0) = true := by
  have := @cmpR_gt x y
  simp
  grind
theorem cmpR_leF {x y : Rat} (h : ¬ x ≤ y) : decide (cmpR x y ≤ 0) = false := by
  have := @cmpR_gt x y
  simp
  grind
theorem cell_alloc_of {w : World} {p : Addr} {u : Value} (o : Obj) (h : w.cell? p = some u) : (w.alloc o).cell? p = some u := ((Below.refl _ _).alloc (Nat.le_refl _) o |>.cell (World.block_lt_of_cell? w _ h)).trans h
theorem of_leT {x y : Rat} (h : ¬ x ≤ y) : y < x := by grind

set_option maxHeartbeats 3200000 in
set_option maxRecDepth 100000 in
theorem zsorted_any (b o n c s : Nat) (d : List QE) (w : World) (h : Rw qE 4 TQ w (some ⟨b, o, none⟩) n c d) (hz : QZ w s d) (hs : s ≤ 10000000000) (hn : n ≤ 100000000) :
    Calls Tryz.prog 72 #[.slice (some ⟨b, o, none⟩) n c] w (Ret (SortR n s d) w) := by
  have hnc := h.le
  have hc := h.cap
  have HL := Lib.hid h.len
  have H := Lib.hid h
  have HZ := Lib.hid hz
  clear h hz
  go_enter Tryz.func72, Tryz.ntmps72
  go_wp2
  go_loopw [3, 4] (fun vo iv wr => ∃ i : Nat, iv = .int .i64 (i : Int) ∧ i ≤ n ∧ QS w wr d s i vo) (fun _ iv _ => n - (intOf iv).toNat)
  case atStart => exact ⟨0, rfl, by omega, w.heap.size, 0, 0, [], rfl, Rw.of_own (World.ownsRow_lit w #[] 0 (Nat.le_refl _) (by unfold maxLen; omega) rfl) (by simp) rfl rfl (fun x hx => by cases hx), QZ.nil, List.Pairwise.nil, List.Perm.refl _, by go_grown⟩
  case round =>
    obtain ⟨i, rfl, hi, bo, oo, co, e, rfl, hre, hze, hse, hpe, hbw⟩ := hrel
    have hco := hre.cap
    have hio := hre.le
    have HRE := Lib.hid hre
    have HZE := Lib.hid hze
    have HSE := Lib.hid hse
    have HPE := Lib.hid hpe
    have HBW := Lib.hid hbw
    clear hre hze hse hpe hbw
    by_cases hin : i < n
    rotate_left
    · have hin2 : i = n := by omega
      subst hin2
      have g1 : decide ((i : Int) < (i : Int)) = false := by simp
      go_wp2
      go_returns
      exact ⟨_, rfl, ⟨_, _, _, e, rfl, HRE.out, HZE.out, HSE.out, by have := HPE.out; rwa [List.take_of_length_le (by have := HL.out; omega)] at this⟩, HBW.out⟩
    have g1 : decide ((i : Int) < (n : Int)) = true := by simp; omega
    obtain ⟨x1, X1, m1, l1, x2, X2, m2, l2, hx, hxd, hxc⟩ := QZ.at (HZ.out.below HBW.out) (H.out.below HBW.out) hin
    have HX := Lib.hid hx
    have HXC := Lib.hid hxc
    obtain ⟨W1, hW1⟩ : ∃ W1, W1 = wr := ⟨_, rfl⟩
    subst hW1
    have HXD := Lib.hid hxd
    go_wp2_with fail
    clear hx hxc hxd
    go_loopw [5] (fun kv wx => ∃ kk : Nat, kv = .int .i64 (kk : Int) ∧ kk ≤ i ∧ (∀ j, j < kk → qAt e j ≤ qAt d i) ∧ Below W1.heap.size W1 wx) (fun kv _ => i - (intOf kv).toNat)
    case atStart => exact ⟨0, rfl, by omega, fun j hj => absurd hj (by omega), Below.refl _ _⟩
    case round =>
      obtain ⟨kk, rfl, hki, hle, hbx⟩ := hrel
      have HLE := Lib.hid hle
      have HBX := Lib.hid hbx
      clear hle hbx g1
      have hst : Ext wr wr.drew := Ext.drew _
      by_cases hkk : kk < i
      · have g2 : decide ((kk : Int) < (i : Int)) = true := by simp; omega
        obtain ⟨y1, Y1, p1, r1, y2, Y2, p2, r2, hy, _, hyc⟩ := QZ.at HZE.out HRE.out hkk
        have HY := Lib.hid hy
        have k1 := fun w' (hh : Ext wr w') => HXC.out w' (bt HBX.out hh)
        have k2 := fun w' (hh : Ext wr w') => hyc w' (bt HBX.out hh)
        clear hy hyc
        go_upto_region 6 with fail
        refine wp_region_adv 13 [] [(0, true, some 14, none), (1, true, some 15, none), (2, true, some 16, none), (3, true, some 17, none), (4, true, some 18, none), (5, true, some 19, some (18, true)), (6, true, some 20, some (18, true)), (7, true, some 21, some (18, true)), (8, true, some 22, some (18, true)), (9, true, some 23, some (18, true)), (10, true, some 24, some (18, true)), (11, true, some 25, some (18, true)), (12, true, some 26, some (18, true))] (by kernel_rfl) (by kernel_rfl) (by kernel_rfl) (by intro it hit; (repeat (rcases List.mem_cons.1 hit with rfl | hit; (focus (intro o ho ev w; injection ho with ho; subst ho; kernel_rfl)))); cases hit) (fun _ _ _ _ _ => ⟨fun h => h, fun h => h⟩) hst ?_
        repeat (first | (refine wpSeq_pure (v := ?_) rfl ?_ ?_; rotate_left 1; (focus (intro wq_ hSq_; (try dsimp only at hSq_); go_simp; (try with_reducible rfl); done)); (try simp only [Act.put, List.setIfInBounds_toArray, List.set_cons_zero, List.set_cons_succ])) | (refine wpSeq_pureG (v := ?_) rfl rfl ?_ ?_; rotate_left 1; (focus (intro wq_ hSq_; (try dsimp only at hSq_); go_simp; (try with_reducible rfl); done)); (try simp only [Act.put, List.setIfInBounds_toArray, List.set_cons_zero, List.set_cons_succ])) | (refine wpSeq_off rfl rfl ?_; (try simp only [Act.put, List.setIfInBounds_toArray, List.set_cons_zero, List.set_cons_succ])))
        intro wz gz sz_
        (try simp only [endJ, List.drop_succ_cons, List.drop_zero])
        have SZ := Lib.hid (show Below W1.heap.size W1 wz from bt HBX.out sz_)
        clear hst k1 k2 gz sz_
        go_wp2_with fail
        refine (xcmp_any (HY.out.below SZ.out) (HX.out.below SZ.out) (by omega)).mono ?_
        rintro ex w2 ⟨v2, rfl, hv2, hb2⟩
        have HB2 := Lib.hid (bt SZ.out hb2)
        clear hb2
        obtain ⟨cv, hcv⟩ : ∃ r, cmpR (qAt e kk) (qAt d i) = r := ⟨_, rfl⟩
        rw [hcv] at hv2
        subst hv2
        by_cases hq : qAt e kk ≤ qAt d i
        · have g3 := cmpR_leT hq
          rw [hcv] at g3
          clear hcv
          go_wp2
          go_roundw
          case rel => exact ⟨kk + 1, by go_num, by omega, fun j hj => by rcases Nat.lt_or_eq_of_le (Nat.le_of_lt_succ hj) with h | rfl; exact HLE.out j h; exact hq, HB2.out⟩
          case measure => simp [intOf]; omega
        · have g3 := cmpR_leF hq
          rw [hcv] at g3
          have HQ : Hid (kk < i → qAt d i < qAt e kk) := fun _ => of_leT hq
          clear hcv hq hkk g2
          have hl1 := HRE.out.len
          have s1 := fun W => q_slice_hi (some ⟨bo, oo, none⟩) i co kk W (by omega)
          have hp1 : ∀ j u, (cel qE (e.take kk))[j]? = some u → (w2).cell? ((⟨bo, oo, none⟩ : Addr).add j) = some u := fun j u hj => by
            have := (HRE.out.below (HB2).out).part rfl (i := 0) (m := kk) (by omega) j u (by rw [List.drop_zero]; exact hj)
            rwa [Nat.zero_mul, Nat.add_zero] at this
          have HP1 := Lib.hid hp1
          clear hp1
          go_upto_region 9 with (at_builtin; refine wp_appE TQS TQ _ 4 64 q_info Tryz.underlying43 rfl (by omega) (by omega) rfl _ _ rfl (w2).heap.size _ 0 [] rfl (World.ownsRow_lit (w2) #[] 0 (Nat.le_refl _) (by unfold maxLen; omega) rfl) ⟨bo, oo, none⟩ kk co (cel qE (e.take kk)) rfl (by rw [cel_len (fun x hx => (HZE.out.len) x (List.mem_of_mem_take hx)), List.length_take]; congr 1; omega) (fun j u hj => (cell_alloc_of _ (HP1.out j u hj))) (fun u hu => (HZE.out.sub fun x hx => List.mem_of_mem_take hx).one u hu) (by omega) (by omega) (by simp) ?_; intro v3 w3 hown3 hb3 _)
          have HB3 := Lib.hid (((Below.refl (w2).heap.size (w2)).alloc (Nat.le_refl _) _).trans hb3)
          have HO3 := Lib.hid hown3
          have kx := HXC.out w3 (bt (HB2).out HB3.out)
          have hz3 : (w2).heap.size ≤ w3.heap.size := HB3.out.size
          clear s1 HP1 hown3 hb3
          go_upto_region 10 with (at_builtin; refine wp_appE TQS TQ _ 4 64 q_info Tryz.underlying43 rfl (by omega) (by omega) rfl _ _ rfl (w2).heap.size _ (0 + kk) _ rfl (HO3.out.alloc _) ⟨w3.heap.size, 0, none⟩ 1 1 [.bool x1, .slice X1 m1 l1, .bool x2, .slice X2 m2 l2] rfl rfl (cell_new w3 [.bool x1, .slice X1 m1 l1, .bool x2, .slice X2 m2 l2] TQ) (fun u hu => (QZ.single HX.out).one u (by rw [cel_one]; exact hu)) (by omega) (by omega) (by simp; omega) ?_; intro v4 w4 hown4 hb4 _)
          have HB4 := Lib.hid (HB3.out.trans (((Below.refl (w2).heap.size w3).alloc hz3 _).trans hb4))
          have HO4 := Lib.hid hown4
          have hz4 : (w2).heap.size ≤ w4.heap.size := HB4.out.size
          clear hown4 hb4 HO3 HB3 kx hz3
          obtain ⟨oz, hoz⟩ : ∃ oz, (if co = kk then oo else oo + kk * 4) = oz := ⟨_, rfl⟩
          have s2 := fun W => q_slice_lo bo oo i co kk W (by omega) hio
          rw [hoz] at s2
          have HP2 : Hid (∀ j u, (cel qE (e.drop kk))[j]? = some u → w4.cell? ((⟨bo, oz, none⟩ : Addr).add j) = some u) := fun j u hj => by
            by_cases hck : co = kk
            · rw [List.drop_of_length_le (by omega)] at hj
              simp [cel] at hj
            · rw [if_neg hck] at hoz
              subst hoz
              exact (HRE.out.below (bt (HB2).out HB4.out)).part rfl (i := kk) (m := i - kk) (by omega) j u (by rw [List.take_of_length_le (by rw [List.length_drop]; omega)]; exact hj)
          clear hoz
          go_wp2_with (at_builtin; refine wp_appE TQS TQ _ 4 64 q_info Tryz.underlying43 rfl (by omega) (by omega) rfl _ _ rfl (w2).heap.size _ (0 + kk + 1) _ rfl HO4.out ⟨bo, oz, none⟩ (i - kk) (co - kk) (cel qE (e.drop kk)) rfl (by rw [cel_len (fun x hx => (HZE.out.len) x (List.mem_of_mem_drop hx)), List.length_drop]; congr 1; omega) HP2.out (fun u hu => (HZE.out.sub fun x hx => List.mem_of_mem_drop hx).one u hu) (by omega) (by omega) hz4 ?_; intro v5 w5 hown5 hb5 _)
          have HN := QS.next HSE.out HPE.out (HZE.out.below (HB2).out) hl1 (by rw [HL.out]; exact hin) (HX.out.below (HB2).out) rfl hki HLE.out HQ.out (bt HBW.out (HB2).out) (HB4.out.trans hb5) hown5
          go_roundw
          case rel => exact ⟨i + 1, by go_num, by omega, HN⟩
          case measure => simp [intOf]; omega
      · have g2 : decide ((kk : Int) < (i : Int)) = false := by simp; omega
        have HQ : Hid (kk < i → qAt d i < qAt e kk) := fun h => absurd h hkk
        go_upto_region 6 with fail
        refine wp_region_adv 13 [] [(0, true, some 14, none), (1, true, some 15, none), (2, true, some 16, none), (3, true, some 17, none), (4, true, some 18, none), (5, true, some 19, some (18, true)), (6, true, some 20, some (18, true)), (7, true, some 21, some (18, true)), (8, true, some 22, some (18, true)), (9, true, some 23, some (18, true)), (10, true, some 24, some (18, true)), (11, true, some 25, some (18, true)), (12, true, some 26, some (18, true))] (by kernel_rfl) (by kernel_rfl) (by kernel_rfl) (by intro it hit; (repeat (rcases List.mem_cons.1 hit with rfl | hit; (focus (intro o ho ev w; injection ho with ho; subst ho; kernel_rfl)))); cases hit) (fun _ _ _ _ _ => ⟨fun h => h, fun h => h⟩) hst ?_
        repeat (first | (refine wpSeq_pure (v := ?_) rfl ?_ ?_; rotate_left 1; (focus (intro wq_ hSq_; (try dsimp only at hSq_); go_simp; (try with_reducible rfl); done)); (try simp only [Act.put, List.setIfInBounds_toArray, List.set_cons_zero, List.set_cons_succ])) | (refine wpSeq_pureG (v := ?_) rfl rfl ?_ ?_; rotate_left 1; (focus (intro wq_ hSq_; (try dsimp only at hSq_); go_simp; (try with_reducible rfl); done)); (try simp only [Act.put, List.setIfInBounds_toArray, List.set_cons_zero, List.set_cons_succ])) | (refine wpSeq_off rfl rfl ?_; (try simp only [Act.put, List.setIfInBounds_toArray, List.set_cons_zero, List.set_cons_succ])))
        intro wz gz sz_
        (try simp only [endJ, List.drop_succ_cons, List.drop_zero])
        have SZ := Lib.hid (show Below W1.heap.size W1 wz from bt HBX.out sz_)
        clear hst gz sz_ hkk
        have hl1 := HRE.out.len
        have s1 := fun W => q_slice_hi (some ⟨bo, oo, none⟩) i co kk W (by omega)
        have hp1 : ∀ j u, (cel qE (e.take kk))[j]? = some u → (wz).cell? ((⟨bo, oo, none⟩ : Addr).add j) = some u := fun j u hj => by
          have := (HRE.out.below (SZ).out).part rfl (i := 0) (m := kk) (by omega) j u (by rw [List.drop_zero]; exact hj)
          rwa [Nat.zero_mul, Nat.add_zero] at this
        have HP1 := Lib.hid hp1
        clear hp1
        go_upto_region 9 with (at_builtin; refine wp_appE TQS TQ _ 4 64 q_info Tryz.underlying43 rfl (by omega) (by omega) rfl _ _ rfl (wz).heap.size _ 0 [] rfl (World.ownsRow_lit (wz) #[] 0 (Nat.le_refl _) (by unfold maxLen; omega) rfl) ⟨bo, oo, none⟩ kk co (cel qE (e.take kk)) rfl (by rw [cel_len (fun x hx => (HZE.out.len) x (List.mem_of_mem_take hx)), List.length_take]; congr 1; omega) (fun j u hj => (cell_alloc_of _ (HP1.out j u hj))) (fun u hu => (HZE.out.sub fun x hx => List.mem_of_mem_take hx).one u hu) (by omega) (by omega) (by simp) ?_; intro v3 w3 hown3 hb3 _)
        have HB3 := Lib.hid (((Below.refl (wz).heap.size (wz)).alloc (Nat.le_refl _) _).trans hb3)
        have HO3 := Lib.hid hown3
        have kx := HXC.out w3 (bt (SZ).out HB3.out)
        have hz3 : (wz).heap.size ≤ w3.heap.size := HB3.out.size
        clear s1 HP1 hown3 hb3
        go_upto_region 10 with (at_builtin; refine wp_appE TQS TQ _ 4 64 q_info Tryz.underlying43 rfl (by omega) (by omega) rfl _ _ rfl (wz).heap.size _ (0 + kk) _ rfl (HO3.out.alloc _) ⟨w3.heap.size, 0, none⟩ 1 1 [.bool x1, .slice X1 m1 l1, .bool x2, .slice X2 m2 l2] rfl rfl (cell_new w3 [.bool x1, .slice X1 m1 l1, .bool x2, .slice X2 m2 l2] TQ) (fun u hu => (QZ.single HX.out).one u (by rw [cel_one]; exact hu)) (by omega) (by omega) (by simp; omega) ?_; intro v4 w4 hown4 hb4 _)
        have HB4 := Lib.hid (HB3.out.trans (((Below.refl (wz).heap.size w3).alloc hz3 _).trans hb4))
        have HO4 := Lib.hid hown4
        have hz4 : (wz).heap.size ≤ w4.heap.size := HB4.out.size
        clear hown4 hb4 HO3 HB3 kx hz3
        obtain ⟨oz, hoz⟩ : ∃ oz, (if co = kk then oo else oo + kk * 4) = oz := ⟨_, rfl⟩
        have s2 := fun W => q_slice_lo bo oo i co kk W (by omega) hio
        rw [hoz] at s2
        have HP2 : Hid (∀ j u, (cel qE (e.drop kk))[j]? = some u → w4.cell? ((⟨bo, oz, none⟩ : Addr).add j) = some u) := fun j u hj => by
          by_cases hck : co = kk
          · rw [List.drop_of_length_le (by omega)] at hj
            simp [cel] at hj
          · rw [if_neg hck] at hoz
            subst hoz
            exact (HRE.out.below (bt (SZ).out HB4.out)).part rfl (i := kk) (m := i - kk) (by omega) j u (by rw [List.take_of_length_le (by rw [List.length_drop]; omega)]; exact hj)
        clear hoz
        go_wp2_with (at_builtin; refine wp_appE TQS TQ _ 4 64 q_info Tryz.underlying43 rfl (by omega) (by omega) rfl _ _ rfl (wz).heap.size _ (0 + kk + 1) _ rfl HO4.out ⟨bo, oz, none⟩ (i - kk) (co - kk) (cel qE (e.drop kk)) rfl (by rw [cel_len (fun x hx => (HZE.out.len) x (List.mem_of_mem_drop hx)), List.length_drop]; congr 1; omega) HP2.out (fun u hu => (HZE.out.sub fun x hx => List.mem_of_mem_drop hx).one u hu) (by omega) (by omega) hz4 ?_; intro v5 w5 hown5 hb5 _)
        have HN := QS.next HSE.out HPE.out (HZE.out.below (SZ).out) hl1 (by rw [HL.out]; exact hin) (HX.out.below (SZ).out) rfl hki HLE.out HQ.out (bt HBW.out (SZ).out) (HB4.out.trans hb5) hown5
        go_roundw
        case rel => exact ⟨i + 1, by go_num, by omega, HN⟩
        case measure => simp [intOf]; omega
end Go.Proofs.Tb
