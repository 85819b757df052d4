/- Contracts of package wide: Sign and Abs of a fraction; Frac. -/
import Derived.Test.YtcbffkkcldnegaaWideK
set_option linter.unusedVariables false
set_option linter.unusedSimpArgs false
namespace Go.Proofs.Tb
open Go.RowKit
attribute [local go_sem] cell_set_same

set_option maxHeartbeats 800000 in
theorem wqsign_any (a : Value) (p q : Int) (w : World) (h : WQ w a p q) : Calls Try.prog 112 #[a] w (Ret (fun v _ => v = .int .i64 p.sign) w) := by
  obtain ⟨A, n, c, A', n', c', rfl, h, h', hq⟩ := h
  have H := Lib.hid h
  clear h h' hq
  go_enter Try.func112, Try.ntmps112
  go_wp2_with fail
  have hbw : Below w.heap.size w (w.alloc (.cells #[.bool (ng p), .slice A n c, .bool (ng q), .slice A' n' c'] TR)) := by go_grown
  refine (wsign_any _ p _ ⟨_, _, _, rfl, H.out.below hbw⟩).mono ?_
  rintro e w1 ⟨v1, rfl, rfl, hb1⟩
  have HB := Lib.hid (bt hbw hb1)
  clear hb1
  go_wp2
  go_returns
  exact ⟨_, rfl, rfl, HB.out⟩

set_option maxHeartbeats 1600000 in
theorem wqabs_any (a : Value) (p q : Int) (w : World) (h : WQ w a p q) : Calls Try.prog 77 #[a] w (Ret (fun v w' => WQ w' v (p.natAbs : Int) q) w) := by
  obtain ⟨A, n, c, A', n', c', rfl, h, h', hq⟩ := h
  have H := Lib.hid h
  have H' := Lib.hid h'
  have HQ := Lib.hid hq
  clear h h' hq
  go_enter Try.func77, Try.ntmps77
  go_wp2_with fail
  obtain ⟨W0, hW0⟩ : ∃ W0, W0 = (w.alloc (.cells #[.bool (ng p), .slice A n c, .bool (ng q), .slice A' n' c'] TR)).alloc (.cells #[.bool false, .slice none 0 0, .bool false, .slice none 0 0] TR) := ⟨_, rfl⟩
  have b0 : Blk W0 w.heap.size TR #[.bool (ng p), .slice A n c, .bool (ng q), .slice A' n' c'] := by rw [hW0]; exact (Blk.new_ _ _ rfl).alloc _
  have b1 : Blk W0 (w.heap.size + 1) TR #[.bool false, .slice none 0 0, .bool false, .slice none 0 0] := by rw [hW0]; exact Blk.new_ _ _ (by simp)
  have hbw : Below w.heap.size w W0 := by rw [hW0]; go_grown
  rw [← hW0]
  clear hW0
  refine (wqsign_any _ p q _ ⟨_, _, _, _, _, _, rfl, H.out.below hbw, H'.out.below hbw, HQ.out⟩).mono ?_
  rintro e w1 ⟨v1, rfl, rfl, hb1⟩
  have k0 := fun w' (hh : Held (w.heap.size + 1) 4 TR w1 w') => ((b0.below hb1).held hh (by omega)).cells
  have hst0 : Held (w.heap.size + 1) 4 TR w1 w1 := (b1.below hb1).heldS
  have hst := hst0.drew
  have r1 := (rules (w.heap.size + 1) 4 TR w1).some
  have r2 := (rules (w.heap.size + 1) 4 TR w1).free
  simp only [cellsAre, Nat.zero_add, Nat.reduceAdd, and_true] at k0
  have hbw1 := bt hbw hb1
  have HB1 := Lib.hid hb1
  clear b0 b1 hb1
  by_cases hp : p < 0
  · have hs : p.sign < 0 := by rw [Int.sign_eq_neg_one_of_neg hp]; omega
    have HN := Lib.hid (show -p = (p.natAbs : Int) by omega)
    go_wp2
    go_region_held3 (fun w' => Held (w.heap.size + 1) 4 TR w1 w') (first | assumption | exact Held.trans_ (by assumption) (by assumption) | exact Held.set_ (Held.set_ (Held.set_ (Held.set_ (by assumption) _ _) _ _) _ _) _ _)
      (first | (go_at_call 98; refine (wneg_any _ p _ ⟨_, _, _, rfl, H.out.below hbw1.drew⟩).mono ?_; rintro e w2 ⟨v2, rfl, ⟨A2, n2, c2, rfl, h2⟩, hb2⟩))
    have hh2 : Held (w.heap.size + 1) 4 TR w1 w2 := hst.trans_ hb2
    go_wp2
    (try simp only [Exit.inBlock, Exit.then])
    refine bodyPost_ret (v := .agg #[.bool (ng (-p)), .slice A2 n2 c2, .bool (ng q), .slice A' n' c']) (by simp [results, Try.results77, go_sem, r1 _ hh2]) rfl ?_
    have hst2 := Held.set_ (Held.set_ (Held.set_ (Held.set_ hh2.here 0 (.bool (ng (-p)))) 1 (.slice A2 n2 c2)) 2 (.bool (ng q))) 3 (.slice A' n' c')
    exact ⟨_, rfl, ⟨A2, n2, c2, A', n', c', by rw [HN.out], by rw [← HN.out]; exact h2.held hst2 (by decide), ((H'.out.below hbw1.drew).below hb2).held hst2 (by decide), HQ.out⟩, (hh2.trans2 hst2).below hbw1 (by omega)⟩
  · have hs : ¬ p.sign < 0 := by
      rcases Int.lt_or_eq_of_le (show 0 ≤ p by omega) with h | h
      · rw [Int.sign_eq_one_of_pos h]; omega
      · subst h; simp
    have HN := Lib.hid (show p = (p.natAbs : Int) by omega)
    go_wp2
    (try simp only [Exit.inBlock, Exit.then])
    refine bodyPost_ret (v := .agg #[.bool (ng p), .slice A n c, .bool (ng q), .slice A' n' c']) (by simp [results, Try.results77, go_sem, r1 _ hst0, k0 _ hst0]) rfl ?_
    have hst2 := Held.set_ (Held.set_ (Held.set_ (Held.set_ hst0 0 (.bool (ng p))) 1 (.slice A n c)) 2 (.bool (ng q))) 3 (.slice A' n' c')
    exact ⟨_, rfl, ⟨A, n, c, A', n', c', by rw [← HN.out], by rw [← HN.out]; exact (H.out.below hbw1).held hst2 (by decide), (H'.out.below hbw1).held hst2 (by decide), HQ.out⟩, hst2.below hbw1 (by omega)⟩

/-- The greatest absolute numerator or denominator. -/
def Lim (z : Int) : Prop := z.natAbs ≤ 4611686018427387904
/-- p/q in lowest terms. -/
def lown (p q : Int) : Int := p / (Int.gcd p q : Int)
def lowd (p q : Int) : Int := q / (Int.gcd p q : Int)
/-- What Frac returns. -/
def FracR (p q : Int) (v : Value) (_ : World) : Prop :=
  (Lim (lown p q) ∧ Lim (lowd p q) → v = .tuple #[.agg #[.int .i64 (lown p q), .int .i64 (lowd p q)], .int .i64 0]) ∧
  (¬ (Lim (lown p q) ∧ Lim (lowd p q)) → v = .tuple #[.agg #[.int .i64 0, .int .i64 0], .int .i64 5])
theorem gcd_pos (p q : Int) (hq : 0 < q) : 0 < Nat.gcd p.natAbs q.natAbs := Nat.gcd_pos_of_pos_right _ (by omega)
theorem lown_abs (p q : Int) : (lown p q).natAbs = p.natAbs / Nat.gcd p.natAbs q.natAbs := by
  unfold lown Int.gcd
  rw [Int.natAbs_ediv_of_dvd]
  · simp
  · exact Int.ofNat_dvd_left.2 (Nat.gcd_dvd_left _ _)
theorem lowd_abs (p q : Int) : (lowd p q).natAbs = q.natAbs / Nat.gcd p.natAbs q.natAbs := by
  unfold lowd Int.gcd
  rw [Int.natAbs_ediv_of_dvd]
  · simp
  · exact Int.ofNat_dvd_left.2 (Nat.gcd_dvd_right _ _)
theorem lowd_pos (p q : Int) (hq : 0 < q) : 0 < lowd p q := by
  have h := lowd_abs p q
  have h1 : 0 < q.natAbs / Nat.gcd p.natAbs q.natAbs := Nat.div_pos (Nat.le_of_dvd (by omega) (Nat.gcd_dvd_right _ _)) (gcd_pos p q hq)
  have h2 : 0 ≤ lowd p q := Int.ediv_nonneg (by omega) (by omega)
  omega
theorem lown_ng (p q : Int) (hq : 0 < q) : ng p = ng (lown p q) ∨ lown p q = 0 := by
  by_cases h0 : lown p q = 0
  · exact .inr h0
  · left
    have hg : (0 : Int) < (Int.gcd p q : Int) := by have := gcd_pos p q hq; unfold Int.gcd; omega
    unfold ng
    by_cases hp : p < 0
    · have : lown p q < 0 := Int.ediv_neg_of_neg_of_pos hp hg
      simp [hp, this]
    · have : ¬ lown p q < 0 := by have := Int.ediv_nonneg (show 0 ≤ p by omega) (Int.le_of_lt hg); unfold lown; omega
      simp [hp, this]

set_option maxHeartbeats 3200000 in
theorem wfrac_any (a : Value) (p q : Int) (w : World) (h : WQ w a p q) (hs : sz p ≤ 100000000000) (hs' : sz q ≤ 100000000000) : Calls Try.prog 78 #[a] w (Ret (FracR p q) w) := by
  obtain ⟨A, n, c, A', n', c', rfl, h, h', hq⟩ := h
  have H := Lib.hid h
  have H' := Lib.hid h'
  have HQ := Lib.hid hq
  have HS := Lib.hid hs
  have HS' := Lib.hid hs'
  have HG := Lib.hid (gcd_pos p q hq)
  clear h h' hq hs hs'
  obtain ⟨s, hsp⟩ : ∃ s, ng p = s := ⟨_, rfl⟩
  obtain ⟨s', hsq⟩ : ∃ s, ng q = s := ⟨_, rfl⟩
  have HN : Hid (s = ng (lown p q) ∨ lown p q = 0) := by rw [← hsp]; exact lown_ng p q HQ.out
  have HD : Hid (false = ng (lowd p q) ∨ lowd p q = 0) := Or.inl (by have := lowd_pos p q HQ.out; unfold ng; simp; omega)
  rw [hsp, hsq]
  clear hsp hsq
  obtain ⟨g, hg⟩ : ∃ g, Nat.gcd p.natAbs q.natAbs = g := ⟨_, rfl⟩
  have HG1 := Lib.hid hg
  have HGS : Hid (dl B32 g ≤ 100000000000) := by
    have h1 := dl_mono B32 two_B32 g q.natAbs (by rw [← hg]; exact Nat.le_of_dvd (by have := HQ.out; omega) (Nat.gcd_dvd_right _ _))
    have := HS'.out
    unfold sz at this
    show dl B32 g ≤ 100000000000
    omega
  have HLN : Hid (p.natAbs / g = (lown p q).natAbs) := by rw [← hg]; exact (lown_abs p q).symm
  have HLD : Hid (q.natAbs / g = (lowd p q).natAbs) := by rw [← hg]; exact (lowd_abs p q).symm
  rw [hg] at HG
  clear hg
  go_enter Try.func78, Try.ntmps78
  go_wp2_with fail
  obtain ⟨W0, hW0⟩ : ∃ W0, W0 = (w.alloc (.cells #[.bool s, .slice A n c, .bool s', .slice A' n' c'] TR)).alloc (.cells #[.int .i64 0, .int .i64 0] TF) := ⟨_, rfl⟩
  have b0 : Blk W0 w.heap.size TR #[.bool s, .slice A n c, .bool s', .slice A' n' c'] := by rw [hW0]; exact (Blk.new_ _ _ rfl).alloc _
  have b1 : Blk W0 (w.heap.size + 1) TF #[.int .i64 0, .int .i64 0] := by rw [hW0]; exact Blk.new_ _ _ (by simp)
  have hbw : Below w.heap.size w W0 := by rw [hW0]; go_grown
  rw [← hW0]
  clear hW0
  have k0 := fun w' (hh : Ext W0 w') => (b0.below hh).cells
  have k1 := fun w' (hh : Ext W0 w') => (b1.below hh).cells
  have k2 := fun w' (hh : Ext W0 w') => (b1.below hh).free
  simp only [cellsAre, Nat.zero_add, Nat.reduceAdd, and_true] at k0 k1
  clear b0 b1
  have ew0 : Ext W0 W0 := Ext.refl _
  refine (common_any _ _ _ _ _ _ p.natAbs q.natAbs _ (H.out.below hbw) (H'.out.below hbw) HS.out HS'.out).mono ?_
  rintro e w1 ⟨v1, rfl, ⟨A1, n1, c1, rfl, h1⟩, hb1⟩
  have ew1 : Ext W0 w1 := bt ew0 hb1
  rw [HG1.out] at h1
  go_wp2_with fail
  refine (divided_any _ _ _ _ _ _ p.natAbs g _ ((H.out.below hbw).below hb1) h1 HG.out HS.out HGS.out).mono ?_
  rintro e w2 ⟨v2, rfl, ⟨x2, y2, rfl, ⟨A2, n2, c2, rfl, h2⟩, ⟨B2, m2, d2, rfl, h2'⟩⟩, hb2⟩
  have ew2 : Ext W0 w2 := bt ew1 hb2
  rw [HLN.out] at h2
  clear h2'
  go_wp2_with fail
  refine (divided_any _ _ _ _ _ _ q.natAbs g _ (((H'.out.below hbw).below hb1).below hb2) (h1.below hb2) HG.out HS'.out HGS.out).mono ?_
  rintro e w3 ⟨v3, rfl, ⟨x3, y3, rfl, ⟨A3, n3, c3, rfl, h3⟩, ⟨B3, m3, d3, rfl, h3'⟩⟩, hb3⟩
  have ew3 : Ext W0 w3 := bt ew2 hb3
  rw [HLD.out] at h3
  clear h3'
  go_wp2_with fail
  refine (made_any _ _ _ _ _ (lown p q) _ (h2.below hb3) rfl HN.out).mono ?_
  rintro e w4 ⟨v4, rfl, ⟨A4, n4, c4, rfl, h4⟩, hb4⟩
  have ew4 : Ext W0 w4 := bt ew3 hb4
  go_wp2_with fail
  refine (wSmall_any _ (lown p q) _ ⟨_, _, _, rfl, h4⟩).mono ?_
  rintro e w5 ⟨v5, rfl, ⟨u, o, rfl, hu1, hu2⟩, hb5⟩
  have ew5 : Ext W0 w5 := bt ew4 hb5
  have HU1 := Lib.hid hu1
  have HU2 := Lib.hid hu2
  clear hu1 hu2
  go_wp2_with fail
  refine (made_any _ _ _ _ _ (lowd p q) _ ((h3.below hb4).below hb5) rfl HD.out).mono ?_
  rintro e w6 ⟨v6, rfl, ⟨A6, n6, c6, rfl, h6⟩, hb6⟩
  have ew6 : Ext W0 w6 := bt ew5 hb6
  go_wp2_with fail
  refine (wSmall_any _ (lowd p q) _ ⟨_, _, _, rfl, h6⟩).mono ?_
  rintro e w7 ⟨v7, rfl, ⟨u', o', rfl, hu1', hu2'⟩, hb7⟩
  have ew7 : Ext W0 w7 := bt ew6 hb7
  have HU1' := Lib.hid hu1'
  have HU2' := Lib.hid hu2'
  have HBW := Lib.hid (bt hbw ew7)
  clear hu1' hu2' hb1 hb2 hb3 hb4 hb5 hb6 hb7 h1 h2 h3 h4 h6 ew0 ew1 ew2 ew3 ew4 ew5 ew6 hbw
  have kk1 := k1 w7 ew7
  have kk2 := k2 w7 ew7
  clear k0 k1 k2
  have hbf : ∀ x y, Below w.heap.size w ((w7.setCell ⟨w.heap.size + 1, 0, none⟩ x).setCell ⟨w.heap.size + 1, 1, none⟩ y) := fun x y => (HBW.out.setCell (by simp) _).setCell (by simp) _
  have HBF := Lib.hid hbf
  clear hbf
  by_cases hl1 : Lim (lown p q)
  · obtain ⟨e1, e2⟩ := HU1.out hl1
    subst e1 e2
    by_cases hl2 : Lim (lowd p q)
    · obtain ⟨e1, e2⟩ := HU1'.out hl2
      subst e1 e2
      go_wp2
      (try simp only [Exit.inBlock, Exit.then])
      refine bodyPost_ret (v := .tuple #[.agg #[.int .i64 (lown p q), .int .i64 (lowd p q)], .int .i64 0]) (by simp [results, Try.results78, go_sem, kk1]) rfl ?_
      exact ⟨_, rfl, ⟨fun _ => rfl, fun h => absurd ⟨hl1, hl2⟩ h⟩, HBF.out _ _⟩
    · obtain ⟨e1, e2⟩ := HU2'.out (by unfold Lim at hl2; omega)
      subst e1 e2
      go_wp2
      (try simp only [Exit.inBlock, Exit.then])
      refine bodyPost_ret (v := .tuple #[.agg #[.int .i64 0, .int .i64 0], .int .i64 5]) (by simp [results, Try.results78, go_sem, kk1]) rfl ?_
      exact ⟨_, rfl, ⟨fun h => absurd h.2 hl2, fun _ => rfl⟩, HBF.out _ _⟩
  · obtain ⟨e1, e2⟩ := HU2.out (by unfold Lim at hl1; omega)
    subst e1 e2
    go_wp2
    (try simp only [Exit.inBlock, Exit.then])
    refine bodyPost_ret (v := .tuple #[.agg #[.int .i64 0, .int .i64 0], .int .i64 5]) (by simp [results, Try.results78, go_sem, kk1]) rfl ?_
    exact ⟨_, rfl, ⟨fun h => absurd h.1 hl1, fun _ => rfl⟩, HBF.out _ _⟩
end Go.Proofs.Tb
