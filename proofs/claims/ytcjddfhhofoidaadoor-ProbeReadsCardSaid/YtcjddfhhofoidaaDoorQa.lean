/- Contracts of small functions of the library that codes calls: cmp.Compare, cmp.Or, slices.Grow, slices.Concat at integers. -/
import Derived.Test.YtcjddfhhofoidaaDoorPj
import Derived.Lib.AppendZeros
set_option linter.unusedVariables false
set_option linter.unusedSimpArgs false
namespace Go.Proofs.Tb
open Go.RowKit
attribute [local go_sem] cell_set_same

set_option maxHeartbeats 1600000 in
theorem lnan_any (x : Int) (w : World) : Calls Tryd.prog 85 #[.int .i64 x] w fun e w' => e = .returned (.bool false) ∧ w' = w := by
  have g1 : (x != x) = false := by simp
  go_enter Tryd.func85, Tryd.ntmps85
  go_wp2
  go_returns
  exact ⟨rfl, rfl⟩
/-- What Compare returns. -/
def cmI (x y : Int) : Int := if x < y then -1 else if y < x then 1 else 0
theorem cmI_lt {x y : Int} (h : x < y) : cmI x y = -1 := by unfold cmI; rw [if_pos h]
theorem cmI_gt {x y : Int} (h : y < x) : cmI x y = 1 := by unfold cmI; rw [if_neg (by omega), if_pos h]
theorem cmI_eq {x y : Int} (h : x = y) : cmI x y = 0 := by unfold cmI; rw [if_neg (by omega), if_neg (by omega)]
set_option maxHeartbeats 1600000 in
theorem lcompare_any (x y : Int) (w : World) : Calls Tryd.prog 73 #[.int .i64 x, .int .i64 y] w fun e w' => e = .returned (.int .i64 (cmI x y)) ∧ w' = w := by
  by_cases h1 : x < y
  · rw [cmI_lt h1]
    have d1 : decide (x < y) = true := by simpa using h1
    go_enter Tryd.func73, Tryd.ntmps73
    go_wp2_with (go_at_call 85; refine (lnan_any _ _).mono ?_; rintro e w' ⟨rfl, rfl⟩)
    go_returns
    exact ⟨rfl, rfl⟩
  · have d1 : decide (x < y) = false := by simpa using h1
    by_cases h2 : y < x
    · rw [cmI_gt h2]
      have d2 : decide (y < x) = true := by simpa using h2
      go_enter Tryd.func73, Tryd.ntmps73
      go_wp2_with (go_at_call 85; refine (lnan_any _ _).mono ?_; rintro e w' ⟨rfl, rfl⟩)
      go_returns
      exact ⟨rfl, rfl⟩
    · rw [cmI_eq (by omega)]
      have d2 : decide (y < x) = false := by simpa using h2
      go_enter Tryd.func73, Tryd.ntmps73
      go_wp2_with (go_at_call 85; refine (lnan_any _ _).mono ?_; rintro e w' ⟨rfl, rfl⟩)
      go_returns
      exact ⟨rfl, rfl⟩
/-- The first of two numbers that is not 0. -/
def orI (x y : Int) : Int := if x = 0 then y else x
set_option maxHeartbeats 1600000 in
theorem lor_any (x y : Int) (g c : Nat) (w : World) (h : Il w (some ⟨g, 0, none⟩) 2 c [x, y]) : Calls Tryd.prog 72 #[.slice (some ⟨g, 0, none⟩) 2 c] w (Ret (fun v _ => v = .int .i64 (orI x y)) w) := by
  have hc := h.cap
  have hl := h.le
  obtain ⟨b, o, hA, hcell⟩ := h.at_ (by omega)
  injection hA with hA
  injection hA with e1 e2 _
  subst e1 e2
  have c0 := hcell 0 (by omega)
  have c1 := hcell 1 (by omega)
  simp at c0 c1
  clear hcell h
  go_enter Tryd.func72, Tryd.ntmps72
  go_wp2_with fail
  go_loopw [8] (fun i wr => wr = w ∧ ((i = .int .i64 0) ∨ (i = .int .i64 1 ∧ x = 0) ∨ (i = .int .i64 2 ∧ x = 0 ∧ y = 0))) (fun i _ => 3 - (intOf i).toNat)
  case atStart => exact ⟨rfl, Or.inl rfl⟩
  case round =>
    obtain ⟨rfl, hrel⟩ := hrel
    rcases hrel with rfl | ⟨rfl, hx⟩ | ⟨rfl, hx, hy⟩
    · by_cases hx : x = 0
      · have g1 : (x != 0) = false := by simpa using hx
        go_wp2
        go_roundw
        case rel => exact ⟨trivial, Or.inr (Or.inl ⟨rfl, hx⟩)⟩
        case measure => simp [intOf]
      · have g1 : (x != 0) = true := by simpa using hx
        have HE : Hid (orI x y = x) := show _ = _ by unfold orI; rw [if_neg hx]
        go_wp2
        go_returns
        exact ⟨_, rfl, by rw [HE.out]; rfl, Below.refl _ _⟩
    · by_cases hy : y = 0
      · have g1 : (y != 0) = false := by simpa using hy
        go_wp2
        go_roundw
        case rel => exact ⟨trivial, Or.inr (Or.inr ⟨rfl, hx, hy⟩)⟩
        case measure => simp [intOf]
      · have g1 : (y != 0) = true := by simpa using hy
        have HE : Hid (orI x y = y) := show _ = _ by unfold orI; rw [if_pos hx]
        go_wp2
        go_returns
        exact ⟨_, rfl, by rw [HE.out]; rfl, Below.refl _ _⟩
    · have HE : Hid (orI x y = 0) := show _ = _ by unfold orI; rw [if_pos hx, hy]
      go_wp2
      go_returns
      exact ⟨_, rfl, by rw [HE.out]; rfl, Below.refl _ _⟩
abbrev TND : TypeId := 121
abbrev TNS : TypeId := 119
set_option maxHeartbeats 3200000 in
set_option maxRecDepth 100000 in
/-- The comparison of two nodes. -/
theorem rcmp_any (a b x y : Int) (xs ys : List Int) (A A' : Option Addr) (n c n' c' : Nat) (w : World) (hx : Il w A n c (x :: xs)) (hy : Il w A' n' c' (y :: ys)) :
    Calls Tryd.prog 71 #[.agg #[.int .i64 a, .slice A n c], .agg #[.int .i64 b, .slice A' n' c']] w (Ret (fun v _ => v = .int .i64 (orI (cmI a b) (cmI x y))) w) := by
  have hn := hx.len
  have hn' := hy.len
  simp only [List.length_cons] at hn hn'
  have pn : (0 : Int) < (n : Int) := by omega
  have pn' : (0 : Int) < (n' : Int) := by omega
  have qn : 0 < n := by omega
  have qn' : 0 < n' := by omega
  obtain ⟨bx, ox, rfl, hcx⟩ := hx.at_ (by omega)
  obtain ⟨by_, oy, rfl, hcy⟩ := hy.at_ (by omega)
  have cx := hcx 0 (by omega)
  have cy := hcy 0 (by omega)
  rw [Nat.add_zero] at cx cy
  have lx := hx.le
  have lx' := hx.cap
  have ly := hy.le
  have ly' := hy.cap
  have kx := fun w' (hh : Ext w w') => Ext.cell hh cx
  have ky := fun w' (hh : Ext w w') => Ext.cell hh cy
  simp only [List.getD_cons_zero] at kx ky
  obtain ⟨R, hR⟩ : ∃ R, orI (cmI a b) (cmI x y) = R := ⟨_, rfl⟩
  obtain ⟨C1, hC1⟩ : ∃ R, cmI a b = R := ⟨_, rfl⟩
  obtain ⟨C2, hC2⟩ : ∃ R, cmI x y = R := ⟨_, rfl⟩
  have HC1 := Lib.hid hC1
  have HC2 := Lib.hid hC2
  rw [hC1, hC2] at hR
  have HR := Lib.hid hR
  rw [hC1, hC2, hR]
  clear hx hy hcx hcy cx cy hR hC1 hC2
  go_enter Tryd.func71, Tryd.ntmps71
  go_upto_region 1 with fail
  refine wp_world (fun W0 => Blk W0 w.heap.size TND #[.int .i64 a, .slice (some ⟨bx, ox, none⟩) n c] ∧ Blk W0 (w.heap.size + 1) TND #[.int .i64 b, .slice (some ⟨by_, oy, none⟩) n' c'] ∧ Below w.heap.size w W0) (by exact ⟨(Blk.new_ _ _ rfl).alloc _, Blk.new_ _ _ (by simp), by go_grown⟩) ?_
  rintro W0 ⟨b0, b1, hbw⟩
  have HBW := Lib.hid hbw
  have k0 := fun w' (hh : Ext W0 w') => (b0.below hh).cells
  have k1 := fun w' (hh : Ext W0 w') => (b1.below hh).cells
  have kx2 := fun w' (hh : Ext W0 w') => kx w' (bt hbw hh)
  have ky2 := fun w' (hh : Ext W0 w') => ky w' (bt hbw hh)
  simp only [cellsAre, Nat.zero_add, Nat.reduceAdd, and_true] at k0 k1
  have hst : Ext W0 W0.drew := Ext.drew _
  clear kx ky b0 b1 hbw
  refine wp_region_adv 13 [] [(0, true, some 5, none), (1, true, some 6, none), (2, true, some 7, none), (3, true, some 8, none), (5, true, some 10, none), (6, true, some 11, none), (7, true, some 12, none), (8, true, some 13, none), (9, true, some 14, none), (10, true, some 15, none), (11, true, some 16, none), (12, true, some 17, none), (4, false, some 9, none)] (by kernel_rfl) (by kernel_rfl) (by kernel_rfl) (by intro it hit; (repeat (rcases List.mem_cons.1 hit with rfl | hit; (focus (intro o ho ev w; injection ho with ho; subst ho; kernel_rfl)))); cases hit) (fun _ _ _ _ _ => ⟨fun h => h, fun h => h⟩) hst ?_
  repeat (first | (refine wpSeq_pure (v := ?_) rfl ?_ ?_; rotate_left 1; (focus (intro wq_ hSq_; (try dsimp only at hSq_); go_simp; (try with_reducible rfl); done)); (try simp only [Act.put, List.setIfInBounds_toArray, List.set_cons_zero, List.set_cons_succ])) | (refine wpSeq_pureG (v := ?_) rfl rfl ?_ ?_; rotate_left 1; (focus (intro wq_ hSq_; (try dsimp only at hSq_); go_simp; (try with_reducible rfl); done)); (try simp only [Act.put, List.setIfInBounds_toArray, List.set_cons_zero, List.set_cons_succ])) | (refine wpSeq_off rfl rfl ?_; (try simp only [Act.put, List.setIfInBounds_toArray, List.set_cons_zero, List.set_cons_succ])))
  first | refine wpSeq_call rfl (fun u1 g1 s1 K hK => ?_) | refine wpSeq_callG rfl rfl (fun u1 g1 s1 K hK => ?_)
  go_simp
  refine (lcompare_any a b u1).mono ?_
  rintro e y1 ⟨rfl, rfl⟩
  rw [HC1.out]
  (try go_wp2_with fail)
  refine hK.out _ _ (Ext.refl _) ?_
  clear hK K
  (try simp only [Act.put, List.setIfInBounds_toArray, List.set_cons_zero, List.set_cons_succ])
  repeat (first | (refine wpSeq_pure (v := ?_) rfl ?_ ?_; rotate_left 1; (focus (intro wq_ hSq_; (try dsimp only at hSq_); go_simp; (try with_reducible rfl); done)); (try simp only [Act.put, List.setIfInBounds_toArray, List.set_cons_zero, List.set_cons_succ])) | (refine wpSeq_pureG (v := ?_) rfl rfl ?_ ?_; rotate_left 1; (focus (intro wq_ hSq_; (try dsimp only at hSq_); go_simp; (try with_reducible rfl); done)); (try simp only [Act.put, List.setIfInBounds_toArray, List.set_cons_zero, List.set_cons_succ])) | (refine wpSeq_off rfl rfl ?_; (try simp only [Act.put, List.setIfInBounds_toArray, List.set_cons_zero, List.set_cons_succ])))
  intro wz gz sz_
  (try simp only [endJ, List.drop_succ_cons, List.drop_zero])
  have HZ := Lib.hid (bt HBW.out sz_)
  clear hst k0 k1 kx2 ky2 g1 s1 gz sz_
  go_wp2_with fail
  refine (lcompare_any x y wz).mono ?_
  rintro e y2 ⟨rfl, rfl⟩
  rw [HC2.out]
  go_wp2_with fail
  have hb : Blk (y2.alloc (.cells #[.int .i64 C1, .int .i64 C2] TIN)) y2.heap.size TIN #[.int .i64 C1, .int .i64 C2] := Blk.new_ _ _ rfl
  have hil : Il (y2.alloc (.cells #[.int .i64 C1, .int .i64 C2] TIN)) (some ⟨y2.heap.size, 0, none⟩) 2 2 [C1, C2] := ⟨rfl, Nat.le_refl _, by omega, fun _ => ⟨_, 0, rfl, fun j hj => by
    rw [Nat.zero_add, cell_of_row _ _ j _ TIN (0, 0) hb]
    obtain rfl | rfl : j = 0 ∨ j = 1 := by omega
    · rfl
    · rfl⟩⟩
  refine (lor_any C1 C2 y2.heap.size 2 _ hil).mono ?_
  rintro e y3 ⟨v3, rfl, rfl, hb3⟩
  rw [HR.out]
  have HB3 := Lib.hid (bt HZ.out (bt (Ext.allocR y2 (.cells #[.int .i64 C1, .int .i64 C2] TIN)) hb3))
  clear hb hil hb3
  go_wp2
  go_returns
  exact ⟨_, rfl, rfl, HB3.out⟩
end Go.Proofs.Tb
