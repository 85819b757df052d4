/- Contracts of package wide: whole numbers of any size: made, Neg, Sign, Add, Sub, Cmp. -/
import Derived.Test.YtcbffkkcldnegaaWideD
set_option linter.unusedVariables false
set_option linter.unusedSimpArgs false
namespace Go.Proofs.Tb
open Go.RowKit
attribute [local go_sem] cell_set_same

/-- The type wide.Int. -/
abbrev TI : TypeId := 87
/-- How many limbs z has. -/
def sz (z : Int) : Nat := dl B32 z.natAbs
/-- Is z below 0? -/
def ng (z : Int) : Bool := decide (z < 0)
/-- A wide.Int's value reads as z. -/
def WI (w : World) (v : Value) (z : Int) : Prop := ∃ A n c, v = .agg #[.bool (ng z), .slice A n c] ∧ Sl TU w A n c (L z.natAbs)
theorem WI.below {w w' : World} {v : Value} {z : Int} (h : WI w v z) (hb : Below w.heap.size w w') : WI w' v z := by
  obtain ⟨A, n, c, hv, h⟩ := h
  exact ⟨A, n, c, hv, h.below hb⟩
theorem Sl.pos_iff {w : World} {A : Option Addr} {n c m : Nat} (h : Sl TU w A n c (L m)) : 0 < n ↔ 0 < m := by
  have hl := h.len
  simp only [L, List.length_map] at hl
  have := dl_pos B32 m two_B32
  unfold dl at this
  rw [hl] at this
  exact this

set_option maxHeartbeats 400000 in
theorem made_any (b : Bool) (A : Option Addr) (n c m : Nat) (z : Int) (w : World) (h : Sl TU w A n c (L m)) (hm : m = z.natAbs) (hz : b = ng z ∨ z = 0) :
    Calls Try.prog 115 #[.bool b, .slice A n c] w (Ret (fun v w' => WI w' v z) w) := by
  have hp := h.pos_iff
  have hn := h.le
  have hc := h.cap
  have HH := Lib.hid h
  clear h
  by_cases h0 : 0 < n
  · have hz0 : b = ng z := by
      rcases hz with hz | hz
      · exact hz
      · subst hz; simp at hm; omega
    have HZ := Lib.hid hz0
    have HM := Lib.hid hm
    clear hz hz0 hp hm
    go_enter Try.func115, Try.ntmps115
    cases b
    all_goals
      go_wp2
      go_returns
      have hb : ∀ x, Below w.heap.size w (w.alloc (.cells #[.bool x, .slice A n c] 87)) := fun _ => (Below.refl _ _).alloc (Nat.le_refl _) _
      exact ⟨_, rfl, ⟨A, n, c, by rw [← HZ.out], by rw [← HM.out]; exact HH.out.below (hb _)⟩, hb _⟩
  · have hz0 : z = 0 := by omega
    have HM := Lib.hid hm
    have HZ := Lib.hid hz0
    clear hz hz0 hp hm
    go_enter Try.func115, Try.ntmps115
    cases b
    all_goals
      go_wp2
      go_returns
      have hb : ∀ x, Below w.heap.size w (w.alloc (.cells #[.bool x, .slice A n c] 87)) := fun _ => (Below.refl _ _).alloc (Nat.le_refl _) _
      exact ⟨_, rfl, ⟨A, n, c, by rw [HZ.out]; rfl, by rw [← HM.out]; exact HH.out.below (hb _)⟩, hb _⟩

set_option maxHeartbeats 400000 in
theorem wneg_any (v : Value) (z : Int) (w : World) (h : WI w v z) : Calls Try.prog 98 #[v] w (Ret (fun v w' => WI w' v (-z)) w) := by
  obtain ⟨A, n, c, rfl, h⟩ := h
  have HH := Lib.hid h
  clear h
  obtain ⟨b, hb⟩ : ∃ b, ng z = b := ⟨_, rfl⟩
  rw [hb]
  have HB := Lib.hid hb
  clear hb
  go_enter Try.func98, Try.ntmps98
  go_wp2_with fail
  have hbw : Below w.heap.size w ((w.alloc (.cells #[.bool b, .slice A n c] 87)).alloc (.cells #[.bool false, .slice none 0 0] 87)) := by go_grown
  refine (made_any _ A n c z.natAbs (-z) _ (HH.out.below hbw) (by omega) ?_).mono ?_
  · by_cases h0 : z = 0
    · right; omega
    · left; rw [← HB.out]; unfold ng; by_cases h1 : z < 0 <;> simp [h1] <;> omega
  · rintro e w1 ⟨v1, rfl, ⟨A1, n1, c1, rfl, h1⟩, hb1⟩
    have hst : Held (w.heap.size + 1) 2 TI w1 w1 := ((Blk.new_ 87 #[.bool false, .slice none 0 0] (by simp)).below hb1).heldS
    have hbw1 := bt hbw hb1
    have r1 := (rules (w.heap.size + 1) 2 TI w1).some
    have r2 := (rules (w.heap.size + 1) 2 TI w1).free
    have HB1 := Lib.hid hb1
    clear hb1
    go_wp2
    (try simp only [Exit.inBlock, Exit.then])
    refine bodyPost_ret (v := .agg #[.bool (ng (-z)), .slice A1 n1 c1]) (by simp [results, Try.results98, go_sem, *]) rfl ?_
    have hst2 := Held.set_ (Held.set_ hst 0 (.bool (ng (-z)))) 1 (.slice A1 n1 c1)
    exact ⟨_, rfl, ⟨A1, n1, c1, rfl, h1.held hst2 (by decide)⟩, hst2.below hbw1 (by omega)⟩

theorem ng_add_same {x y : Int} (h : ng x = ng y) : (x + y).natAbs = x.natAbs + y.natAbs ∧ (ng x = ng (x + y) ∨ x + y = 0) := by
  unfold ng at *
  by_cases hx : x < 0 <;> by_cases hy : y < 0 <;> simp [hx, hy] at h ⊢ <;> omega
theorem ng_add_ge {x y : Int} (h : ng x ≠ ng y) (hle : y.natAbs ≤ x.natAbs) : (x + y).natAbs = x.natAbs - y.natAbs ∧ (ng x = ng (x + y) ∨ x + y = 0) := by
  unfold ng at *
  by_cases hx : x < 0 <;> by_cases hy : y < 0 <;> simp [hx, hy] at h ⊢ <;> omega
theorem ng_add_lt {x y : Int} (h : ng x ≠ ng y) (hle : x.natAbs < y.natAbs) : (x + y).natAbs = y.natAbs - x.natAbs ∧ (ng y = ng (x + y) ∨ x + y = 0) := by
  unfold ng at *
  by_cases hx : x < 0 <;> by_cases hy : y < 0 <;> simp [hx, hy] at h ⊢ <;> omega

set_option maxHeartbeats 1600000 in
theorem wadd_any (v v' : Value) (x y : Int) (w : World) (h : WI w v x) (h' : WI w v' y) (hs : sz x ≤ 1000000000000) (hs' : sz y ≤ 1000000000000) :
    Calls Try.prog 111 #[v, v'] w (Ret (fun v w' => WI w' v (x + y)) w) := by
  obtain ⟨A, n, c, rfl, h⟩ := h
  obtain ⟨A', n', c', rfl, h'⟩ := h'
  have H := Lib.hid h
  have H' := Lib.hid h'
  have HS := Lib.hid hs
  have HS' := Lib.hid hs'
  unfold sz at HS HS'
  clear h h' hs hs'
  obtain ⟨s, hsx⟩ : ∃ s, ng x = s := ⟨_, rfl⟩
  obtain ⟨s', hsy⟩ : ∃ s, ng y = s := ⟨_, rfl⟩
  rw [hsx, hsy]
  by_cases hss : s = s'
  · subst hss
    have HN := Lib.hid (ng_add_same (hsx.trans hsy.symm))
    rw [hsx] at HN
    clear hsx hsy
    cases s
    · go_enter Try.func111, Try.ntmps111
      go_wp2
      refine wp_world (fun W0 => Blk W0 w.heap.size TI #[.bool false, .slice A n c] ∧ Blk W0 (w.heap.size + 1) TI #[.bool false, .slice A' n' c'] ∧ Blk W0 (w.heap.size + 1 + 1) TI #[.bool false, .slice none 0 0] ∧ Below w.heap.size w W0) (by exact ⟨((Blk.new_ _ _ rfl).alloc _).alloc _, (Blk.new_ _ _ (by simp)).alloc _, Blk.new_ _ _ (by simp), by go_grown⟩) ?_
      rintro W0 ⟨b0, b1, b2, hbw⟩
      have k0 := fun w' (hh : Held (w.heap.size + 1 + 1) 2 TI W0 w') => (b0.held hh (by omega)).cells
      have k1 := fun w' (hh : Held (w.heap.size + 1 + 1) 2 TI W0 w') => (b1.held hh (by omega)).cells
      have hst : Held (w.heap.size + 1 + 1) 2 TI W0 W0.drew := b2.heldS.drew
      simp only [cellsAre, Nat.zero_add, Nat.reduceAdd, and_true] at k0 k1
      have r1 := (rules (w.heap.size + 1 + 1) 2 TI W0).some
      have r2 := (rules (w.heap.size + 1 + 1) 2 TI W0).free
      clear b0 b1 b2
      go_region_held3 (fun w' => Held (w.heap.size + 1 + 1) 2 TI W0 w') (first | assumption | exact Held.trans_ (by assumption) (by assumption) | exact Held.set_ (Held.set_ (by assumption) _ _) _ _)
        (first | (go_at_call 124; refine (plus_any _ _ _ _ _ _ _ _ _ (H.out.below hbw.drew) (H'.out.below hbw.drew) HS.out HS'.out).mono ?_; rintro e w1 ⟨v1, rfl, ⟨A1, n1, c1, rfl, h1⟩, hb1⟩) | (go_at_call 115; refine (made_any _ _ _ _ _ (x + y) _ h1 HN.out.1.symm HN.out.2).mono ?_; rintro e w2 ⟨v2, rfl, ⟨A2, n2, c2, rfl, h2⟩, hb2⟩))
      have hh2 : Held (w.heap.size + 1 + 1) 2 TI W0 w2 := (hst.trans_ hb1).trans_ hb2
      go_wp2
      (try simp only [Exit.inBlock, Exit.then])
      refine bodyPost_ret (v := .agg #[.bool (ng (x + y)), .slice A2 n2 c2]) (by simp [results, Try.results111, go_sem, r1 _ hh2]) rfl ?_
      have hst2 := Held.set_ (Held.set_ hh2.here 0 (.bool (ng (x + y)))) 1 (.slice A2 n2 c2)
      exact ⟨_, rfl, ⟨A2, n2, c2, rfl, h2.held hst2 (by decide)⟩, (hh2.trans2 hst2).below hbw (by omega)⟩
    · go_enter Try.func111, Try.ntmps111
      go_wp2
      refine wp_world (fun W0 => Blk W0 w.heap.size TI #[.bool true, .slice A n c] ∧ Blk W0 (w.heap.size + 1) TI #[.bool true, .slice A' n' c'] ∧ Blk W0 (w.heap.size + 1 + 1) TI #[.bool false, .slice none 0 0] ∧ Below w.heap.size w W0) (by exact ⟨((Blk.new_ _ _ rfl).alloc _).alloc _, (Blk.new_ _ _ (by simp)).alloc _, Blk.new_ _ _ (by simp), by go_grown⟩) ?_
      rintro W0 ⟨b0, b1, b2, hbw⟩
      have k0 := fun w' (hh : Held (w.heap.size + 1 + 1) 2 TI W0 w') => (b0.held hh (by omega)).cells
      have k1 := fun w' (hh : Held (w.heap.size + 1 + 1) 2 TI W0 w') => (b1.held hh (by omega)).cells
      have hst : Held (w.heap.size + 1 + 1) 2 TI W0 W0.drew := b2.heldS.drew
      simp only [cellsAre, Nat.zero_add, Nat.reduceAdd, and_true] at k0 k1
      have r1 := (rules (w.heap.size + 1 + 1) 2 TI W0).some
      have r2 := (rules (w.heap.size + 1 + 1) 2 TI W0).free
      clear b0 b1 b2
      go_region_held3 (fun w' => Held (w.heap.size + 1 + 1) 2 TI W0 w') (first | assumption | exact Held.trans_ (by assumption) (by assumption) | exact Held.set_ (Held.set_ (by assumption) _ _) _ _)
        (first | (go_at_call 124; refine (plus_any _ _ _ _ _ _ _ _ _ (H.out.below hbw.drew) (H'.out.below hbw.drew) HS.out HS'.out).mono ?_; rintro e w1 ⟨v1, rfl, ⟨A1, n1, c1, rfl, h1⟩, hb1⟩) | (go_at_call 115; refine (made_any _ _ _ _ _ (x + y) _ h1 HN.out.1.symm HN.out.2).mono ?_; rintro e w2 ⟨v2, rfl, ⟨A2, n2, c2, rfl, h2⟩, hb2⟩))
      have hh2 : Held (w.heap.size + 1 + 1) 2 TI W0 w2 := (hst.trans_ hb1).trans_ hb2
      go_wp2
      (try simp only [Exit.inBlock, Exit.then])
      refine bodyPost_ret (v := .agg #[.bool (ng (x + y)), .slice A2 n2 c2]) (by simp [results, Try.results111, go_sem, r1 _ hh2]) rfl ?_
      have hst2 := Held.set_ (Held.set_ hh2.here 0 (.bool (ng (x + y)))) 1 (.slice A2 n2 c2)
      exact ⟨_, rfl, ⟨A2, n2, c2, rfl, h2.held hst2 (by decide)⟩, (hh2.trans2 hst2).below hbw (by omega)⟩
  · have hne : ng x ≠ ng y := by rw [hsx, hsy]; exact hss
    by_cases hle : y.natAbs ≤ x.natAbs
    · have HN := Lib.hid (ng_add_ge hne hle)
      rw [hsx] at HN
      have HLE := Lib.hid hle
      clear hsx hsy hne hle
      cases s <;> cases s' <;> first | exact absurd rfl hss | skip
      · clear hss
        go_enter Try.func111, Try.ntmps111
        go_wp2_with fail
        have hbx : Below w.heap.size w (((w.alloc (.cells #[.bool false, .slice A n c] TI)).alloc (.cells #[.bool true, .slice A' n' c'] TI)).alloc (.cells #[.bool false, .slice none 0 0] TI)) := by go_grown
        refine (wsize_any _ _ _ _ _ _ _ _ _ (H.out.below hbx) (H'.out.below hbx)).mono ?_
        rintro e w0 ⟨v0, rfl, ⟨r, rfl, hr1, hr2⟩, hb0⟩
        have hr0 : 0 ≤ r := by have := HLE.out; omega
        clear hr1 hr2
        have hbw := bt hbx hb0
        have b0 : Blk w0 w.heap.size TI #[.bool false, .slice A n c] := (((Blk.new_ _ _ rfl).alloc _).alloc _).below hb0
        have b1 : Blk w0 (w.heap.size + 1) TI #[.bool true, .slice A' n' c'] := ((Blk.new_ _ _ (by simp)).alloc _).below hb0
        have b2 : Blk w0 (w.heap.size + 1 + 1) TI #[.bool false, .slice none 0 0] := (Blk.new_ _ _ (by simp)).below hb0
        clear hb0 hbx
        obtain ⟨W0, rfl⟩ : ∃ W0, W0 = w0 := ⟨_, rfl⟩
        have d0 := b0.cells
        have d1 := b1.cells
        simp only [cellsAre, Nat.zero_add, Nat.reduceAdd, and_true] at d0 d1
        have k0 := fun w' (hh : Held (w.heap.size + 1 + 1) 2 TI W0 w') => (b0.held hh (by omega)).cells
        have k1 := fun w' (hh : Held (w.heap.size + 1 + 1) 2 TI W0 w') => (b1.held hh (by omega)).cells
        have hst : Held (w.heap.size + 1 + 1) 2 TI W0 W0.drew := b2.heldS.drew
        simp only [cellsAre, Nat.zero_add, Nat.reduceAdd, and_true] at k0 k1
        have r1 := (rules (w.heap.size + 1 + 1) 2 TI W0).some
        have r2 := (rules (w.heap.size + 1 + 1) 2 TI W0).free
        clear b0 b1 b2
        go_wp2
        go_region_held3 (fun w' => Held (w.heap.size + 1 + 1) 2 TI W0 w') (first | assumption | exact Held.trans_ (by assumption) (by assumption) | exact Held.set_ (Held.set_ (by assumption) _ _) _ _)
          (first | (go_at_call 126; refine (minus_any _ _ _ _ _ _ _ _ _ (H.out.below hbw.drew) (H'.out.below hbw.drew) HLE.out HS.out).mono ?_; rintro e w1 ⟨v1, rfl, ⟨A1, n1, c1, rfl, h1⟩, hb1⟩) | (go_at_call 115; refine (made_any _ _ _ _ _ (x + y) _ h1 HN.out.1.symm HN.out.2).mono ?_; rintro e w2 ⟨v2, rfl, ⟨A2, n2, c2, rfl, h2⟩, hb2⟩))
        have hh2 : Held (w.heap.size + 1 + 1) 2 TI W0 w2 := (hst.trans_ hb1).trans_ hb2
        go_wp2
        (try simp only [Exit.inBlock, Exit.then])
        refine bodyPost_ret (v := .agg #[.bool (ng (x + y)), .slice A2 n2 c2]) (by simp [results, Try.results111, go_sem, r1 _ hh2]) rfl ?_
        have hst2 := Held.set_ (Held.set_ hh2.here 0 (.bool (ng (x + y)))) 1 (.slice A2 n2 c2)
        exact ⟨_, rfl, ⟨A2, n2, c2, rfl, h2.held hst2 (by decide)⟩, (hh2.trans2 hst2).below hbw (by omega)⟩
      · clear hss
        go_enter Try.func111, Try.ntmps111
        go_wp2_with fail
        have hbx : Below w.heap.size w (((w.alloc (.cells #[.bool true, .slice A n c] TI)).alloc (.cells #[.bool false, .slice A' n' c'] TI)).alloc (.cells #[.bool false, .slice none 0 0] TI)) := by go_grown
        refine (wsize_any _ _ _ _ _ _ _ _ _ (H.out.below hbx) (H'.out.below hbx)).mono ?_
        rintro e w0 ⟨v0, rfl, ⟨r, rfl, hr1, hr2⟩, hb0⟩
        have hr0 : 0 ≤ r := by have := HLE.out; omega
        clear hr1 hr2
        have hbw := bt hbx hb0
        have b0 : Blk w0 w.heap.size TI #[.bool true, .slice A n c] := (((Blk.new_ _ _ rfl).alloc _).alloc _).below hb0
        have b1 : Blk w0 (w.heap.size + 1) TI #[.bool false, .slice A' n' c'] := ((Blk.new_ _ _ (by simp)).alloc _).below hb0
        have b2 : Blk w0 (w.heap.size + 1 + 1) TI #[.bool false, .slice none 0 0] := (Blk.new_ _ _ (by simp)).below hb0
        clear hb0 hbx
        obtain ⟨W0, rfl⟩ : ∃ W0, W0 = w0 := ⟨_, rfl⟩
        have d0 := b0.cells
        have d1 := b1.cells
        simp only [cellsAre, Nat.zero_add, Nat.reduceAdd, and_true] at d0 d1
        have k0 := fun w' (hh : Held (w.heap.size + 1 + 1) 2 TI W0 w') => (b0.held hh (by omega)).cells
        have k1 := fun w' (hh : Held (w.heap.size + 1 + 1) 2 TI W0 w') => (b1.held hh (by omega)).cells
        have hst : Held (w.heap.size + 1 + 1) 2 TI W0 W0.drew := b2.heldS.drew
        simp only [cellsAre, Nat.zero_add, Nat.reduceAdd, and_true] at k0 k1
        have r1 := (rules (w.heap.size + 1 + 1) 2 TI W0).some
        have r2 := (rules (w.heap.size + 1 + 1) 2 TI W0).free
        clear b0 b1 b2
        go_wp2
        go_region_held3 (fun w' => Held (w.heap.size + 1 + 1) 2 TI W0 w') (first | assumption | exact Held.trans_ (by assumption) (by assumption) | exact Held.set_ (Held.set_ (by assumption) _ _) _ _)
          (first | (go_at_call 126; refine (minus_any _ _ _ _ _ _ _ _ _ (H.out.below hbw.drew) (H'.out.below hbw.drew) HLE.out HS.out).mono ?_; rintro e w1 ⟨v1, rfl, ⟨A1, n1, c1, rfl, h1⟩, hb1⟩) | (go_at_call 115; refine (made_any _ _ _ _ _ (x + y) _ h1 HN.out.1.symm HN.out.2).mono ?_; rintro e w2 ⟨v2, rfl, ⟨A2, n2, c2, rfl, h2⟩, hb2⟩))
        have hh2 : Held (w.heap.size + 1 + 1) 2 TI W0 w2 := (hst.trans_ hb1).trans_ hb2
        go_wp2
        (try simp only [Exit.inBlock, Exit.then])
        refine bodyPost_ret (v := .agg #[.bool (ng (x + y)), .slice A2 n2 c2]) (by simp [results, Try.results111, go_sem, r1 _ hh2]) rfl ?_
        have hst2 := Held.set_ (Held.set_ hh2.here 0 (.bool (ng (x + y)))) 1 (.slice A2 n2 c2)
        exact ⟨_, rfl, ⟨A2, n2, c2, rfl, h2.held hst2 (by decide)⟩, (hh2.trans2 hst2).below hbw (by omega)⟩
    · have hlt : x.natAbs < y.natAbs := by omega
      have HN := Lib.hid (ng_add_lt hne hlt)
      rw [hsy] at HN
      have HLE := Lib.hid hlt
      clear hsx hsy hne hle hlt
      cases s <;> cases s' <;> first | exact absurd rfl hss | skip
      · clear hss
        go_enter Try.func111, Try.ntmps111
        go_wp2_with fail
        have hbx : Below w.heap.size w (((w.alloc (.cells #[.bool false, .slice A n c] TI)).alloc (.cells #[.bool true, .slice A' n' c'] TI)).alloc (.cells #[.bool false, .slice none 0 0] TI)) := by go_grown
        refine (wsize_any _ _ _ _ _ _ _ _ _ (H.out.below hbx) (H'.out.below hbx)).mono ?_
        rintro e w0 ⟨v0, rfl, ⟨r, rfl, hr1, hr2⟩, hb0⟩
        have hr0 : r < 0 := by have := HLE.out; omega
        clear hr1 hr2
        have hbw := bt hbx hb0
        have b0 : Blk w0 w.heap.size TI #[.bool false, .slice A n c] := (((Blk.new_ _ _ rfl).alloc _).alloc _).below hb0
        have b1 : Blk w0 (w.heap.size + 1) TI #[.bool true, .slice A' n' c'] := ((Blk.new_ _ _ (by simp)).alloc _).below hb0
        have b2 : Blk w0 (w.heap.size + 1 + 1) TI #[.bool false, .slice none 0 0] := (Blk.new_ _ _ (by simp)).below hb0
        clear hb0 hbx
        obtain ⟨W0, rfl⟩ : ∃ W0, W0 = w0 := ⟨_, rfl⟩
        have d0 := b0.cells
        have d1 := b1.cells
        simp only [cellsAre, Nat.zero_add, Nat.reduceAdd, and_true] at d0 d1
        have k0 := fun w' (hh : Held (w.heap.size + 1 + 1) 2 TI W0 w') => (b0.held hh (by omega)).cells
        have k1 := fun w' (hh : Held (w.heap.size + 1 + 1) 2 TI W0 w') => (b1.held hh (by omega)).cells
        have hst : Held (w.heap.size + 1 + 1) 2 TI W0 W0.drew := b2.heldS.drew
        simp only [cellsAre, Nat.zero_add, Nat.reduceAdd, and_true] at k0 k1
        have r1 := (rules (w.heap.size + 1 + 1) 2 TI W0).some
        have r2 := (rules (w.heap.size + 1 + 1) 2 TI W0).free
        clear b0 b1 b2
        go_wp2
        go_region_held3 (fun w' => Held (w.heap.size + 1 + 1) 2 TI W0 w') (first | assumption | exact Held.trans_ (by assumption) (by assumption) | exact Held.set_ (Held.set_ (by assumption) _ _) _ _)
          (first | (go_at_call 126; refine (minus_any _ _ _ _ _ _ _ _ _ (H'.out.below hbw.drew) (H.out.below hbw.drew) (Nat.le_of_lt HLE.out) HS'.out).mono ?_; rintro e w1 ⟨v1, rfl, ⟨A1, n1, c1, rfl, h1⟩, hb1⟩) | (go_at_call 115; refine (made_any _ _ _ _ _ (x + y) _ h1 HN.out.1.symm HN.out.2).mono ?_; rintro e w2 ⟨v2, rfl, ⟨A2, n2, c2, rfl, h2⟩, hb2⟩))
        have hh2 : Held (w.heap.size + 1 + 1) 2 TI W0 w2 := (hst.trans_ hb1).trans_ hb2
        go_wp2
        (try simp only [Exit.inBlock, Exit.then])
        refine bodyPost_ret (v := .agg #[.bool (ng (x + y)), .slice A2 n2 c2]) (by simp [results, Try.results111, go_sem, r1 _ hh2]) rfl ?_
        have hst2 := Held.set_ (Held.set_ hh2.here 0 (.bool (ng (x + y)))) 1 (.slice A2 n2 c2)
        exact ⟨_, rfl, ⟨A2, n2, c2, rfl, h2.held hst2 (by decide)⟩, (hh2.trans2 hst2).below hbw (by omega)⟩
      · clear hss
        go_enter Try.func111, Try.ntmps111
        go_wp2_with fail
        have hbx : Below w.heap.size w (((w.alloc (.cells #[.bool true, .slice A n c] TI)).alloc (.cells #[.bool false, .slice A' n' c'] TI)).alloc (.cells #[.bool false, .slice none 0 0] TI)) := by go_grown
        refine (wsize_any _ _ _ _ _ _ _ _ _ (H.out.below hbx) (H'.out.below hbx)).mono ?_
        rintro e w0 ⟨v0, rfl, ⟨r, rfl, hr1, hr2⟩, hb0⟩
        have hr0 : r < 0 := by have := HLE.out; omega
        clear hr1 hr2
        have hbw := bt hbx hb0
        have b0 : Blk w0 w.heap.size TI #[.bool true, .slice A n c] := (((Blk.new_ _ _ rfl).alloc _).alloc _).below hb0
        have b1 : Blk w0 (w.heap.size + 1) TI #[.bool false, .slice A' n' c'] := ((Blk.new_ _ _ (by simp)).alloc _).below hb0
        have b2 : Blk w0 (w.heap.size + 1 + 1) TI #[.bool false, .slice none 0 0] := (Blk.new_ _ _ (by simp)).below hb0
        clear hb0 hbx
        obtain ⟨W0, rfl⟩ : ∃ W0, W0 = w0 := ⟨_, rfl⟩
        have d0 := b0.cells
        have d1 := b1.cells
        simp only [cellsAre, Nat.zero_add, Nat.reduceAdd, and_true] at d0 d1
        have k0 := fun w' (hh : Held (w.heap.size + 1 + 1) 2 TI W0 w') => (b0.held hh (by omega)).cells
        have k1 := fun w' (hh : Held (w.heap.size + 1 + 1) 2 TI W0 w') => (b1.held hh (by omega)).cells
        have hst : Held (w.heap.size + 1 + 1) 2 TI W0 W0.drew := b2.heldS.drew
        simp only [cellsAre, Nat.zero_add, Nat.reduceAdd, and_true] at k0 k1
        have r1 := (rules (w.heap.size + 1 + 1) 2 TI W0).some
        have r2 := (rules (w.heap.size + 1 + 1) 2 TI W0).free
        clear b0 b1 b2
        go_wp2
        go_region_held3 (fun w' => Held (w.heap.size + 1 + 1) 2 TI W0 w') (first | assumption | exact Held.trans_ (by assumption) (by assumption) | exact Held.set_ (Held.set_ (by assumption) _ _) _ _)
          (first | (go_at_call 126; refine (minus_any _ _ _ _ _ _ _ _ _ (H'.out.below hbw.drew) (H.out.below hbw.drew) (Nat.le_of_lt HLE.out) HS'.out).mono ?_; rintro e w1 ⟨v1, rfl, ⟨A1, n1, c1, rfl, h1⟩, hb1⟩) | (go_at_call 115; refine (made_any _ _ _ _ _ (x + y) _ h1 HN.out.1.symm HN.out.2).mono ?_; rintro e w2 ⟨v2, rfl, ⟨A2, n2, c2, rfl, h2⟩, hb2⟩))
        have hh2 : Held (w.heap.size + 1 + 1) 2 TI W0 w2 := (hst.trans_ hb1).trans_ hb2
        go_wp2
        (try simp only [Exit.inBlock, Exit.then])
        refine bodyPost_ret (v := .agg #[.bool (ng (x + y)), .slice A2 n2 c2]) (by simp [results, Try.results111, go_sem, r1 _ hh2]) rfl ?_
        have hst2 := Held.set_ (Held.set_ hh2.here 0 (.bool (ng (x + y)))) 1 (.slice A2 n2 c2)
        exact ⟨_, rfl, ⟨A2, n2, c2, rfl, h2.held hst2 (by decide)⟩, (hh2.trans2 hst2).below hbw (by omega)⟩
end Go.Proofs.Tb
