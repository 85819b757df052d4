/- Contracts of the reference's fractions: Frac, Valid. -/
import Derived.Test.YtcbffkkcldnegaaRefK
set_option linter.unusedVariables false
set_option linter.unusedSimpArgs false
namespace Go.Proofs.Tb
open Go.RowKit
attribute [local go_sem] cell_set_same
attribute [local go_sem] field_Z1

theorem Blk.put4 {w : World} {g : Nat} {T : TypeId} {a b c d : Value} (h : Blk w g T #[a, b, c, d]) (x0 x1 x2 x3 : Value) :
    Blk ((((w.setCell ⟨g, 0, none⟩ x0).setCell ⟨g, 1, none⟩ x1).setCell ⟨g, 2, none⟩ x2).setCell ⟨g, 3, none⟩ x3) g T #[x0, x1, x2, x3] := by
  have s := (((h.set_ 0 x0).set_ 1 x1).set_ 2 x2).set_ 3 x3
  have e : (((#[a, b, c, d].setIfInBounds 0 x0).setIfInBounds 1 x1).setIfInBounds 2 x2).setIfInBounds 3 x3 = #[x0, x1, x2, x3] := by simp
  rw [e] at s
  exact s
theorem Blk.put2 {w : World} {g : Nat} {T : TypeId} {a b : Value} (h : Blk w g T #[a, b]) (x0 x1 : Value) : Blk ((w.setCell ⟨g, 0, none⟩ x0).setCell ⟨g, 1, none⟩ x1) g T #[x0, x1] := by
  have s := (h.set_ 0 x0).set_ 1 x1
  have e : (#[a, b].setIfInBounds 0 x0).setIfInBounds 1 x1 = #[x0, x1] := by simp
  rw [e] at s
  exact s
set_option maxHeartbeats 1600000 in
set_option maxRecDepth 100000 in
theorem zfrac_any (v : Value) (p q : Int) (w : World) (h : ZQ w v p q) (hs : s10 p ≤ 100000000000) (hs' : s10 q ≤ 100000000000) :
    Calls Try.prog 31 #[v] w (Ret (FracR p q) w) := by
  obtain ⟨A, n, c, A', n', c', rfl, h, h', hq⟩ := h
  have H := Lib.hid h
  have H' := Lib.hid h'
  have HQ := Lib.hid hq
  have HS := Lib.hid hs
  have HS' := Lib.hid hs'
  clear h h' hq hs hs'
  go_enter Try.func31, Try.ntmps31
  go_wp2_with fail
  obtain ⟨W0, hW0⟩ : ∃ W0, W0 = (w.alloc (.cells #[.bool (ng p), .slice A n c, .bool (ng q), .slice A' n' c'] TQ)).alloc (.cells #[.int .i64 0, .int .i64 0] TF) := ⟨_, rfl⟩
  have b0 : Blk W0 w.heap.size TQ #[.bool (ng p), .slice A n c, .bool (ng q), .slice A' n' c'] := by rw [hW0]; exact (Blk.new_ _ _ rfl).alloc _
  have b1 : Blk W0 (w.heap.size + 1) TF #[.int .i64 0, .int .i64 0] := by rw [hW0]; exact Blk.new_ _ _ (by simp)
  have hbw : Below w.heap.size w W0 := by rw [hW0]; go_grown
  rw [← hW0]
  clear hW0
  refine (zlowest_any _ p q _ ⟨_, _, _, _, _, _, rfl, H.out.below hbw, H'.out.below hbw, HQ.out⟩ HS.out HS'.out).mono ?_
  rintro e w1 ⟨v1, rfl, ⟨A1, n1, c1, A2, n2, c2, rfl, h1, h2, hq2⟩, hb1⟩
  have B0 := Lib.hid (b0.below hb1)
  have B1 := Lib.hid (b1.below hb1)
  have HW1 := Lib.hid (bt hbw hb1)
  have H1 := Lib.hid h1
  have H2 := Lib.hid h2
  have k0 := B0.out.cells
  have f0 := B0.out.free
  simp only [cellsAre, Nat.zero_add, Nat.reduceAdd, and_true] at k0
  clear b0 b1 hbw h1 h2 hb1
  go_upto_region 2 with fail
  refine wp_world (fun W2 => Blk W2 w.heap.size TQ #[.bool (ng (lown p q)), .slice A1 n1 c1, .bool (ng (lowd p q)), .slice A2 n2 c2] ∧ Blk W2 (w.heap.size + 1) TF #[.int .i64 0, .int .i64 0] ∧ Below w.heap.size w W2 ∧ Sl TN W2 A1 n1 c1 (LZ (lown p q).natAbs) ∧ Sl TN W2 A2 n2 c2 (LZ (lowd p q).natAbs)) (by
    have hF := (((B0.out.heldS.set_ 0 (.bool (ng (lown p q)))).set_ 1 (.slice A1 n1 c1)).set_ 2 (.bool (ng (lowd p q)))).set_ 3 (.slice A2 n2 c2)
    exact ⟨B0.out.put4 _ _ _ _, B1.out.held hF (by omega), hF.below HW1.out (by omega), H1.out.held hF (by decide), H2.out.held hF (by decide)⟩) ?_
  rintro W2 ⟨d0, d1, hw2, hs1, hs2⟩
  have D0 := Lib.hid d0
  have D1 := Lib.hid d1
  have HW2 := Lib.hid hw2
  have S1 := Lib.hid hs1
  have S2 := Lib.hid hs2
  have kk0 := fun w' (hh : Ext W2 w') => (D0.out.below hh).cells
  simp only [cellsAre, Nat.zero_add, Nat.reduceAdd, and_true] at kk0
  have hk0 := kk0 W2 (Ext.refl _)
  clear k0 f0 d0 d1 hw2 hs1 hs2
  go_wp2_with fail
  refine (zsmall_any _ (lown p q) _ ⟨_, _, _, rfl, S1.out⟩).mono ?_
  rintro e w3 ⟨v3, rfl, ⟨u, o, rfl, hu1, hu2⟩, hb3⟩
  have HU1 := Lib.hid hu1
  have HU2 := Lib.hid hu2
  have hk3 := kk0 w3 hb3
  have HB3 := Lib.hid hb3
  clear hu1 hu2 hk0 hb3
  go_wp2_with fail
  refine (zsmall_any _ (lowd p q) _ ⟨_, _, _, rfl, S2.out.below HB3.out⟩).mono ?_
  rintro e w4 ⟨v4, rfl, ⟨u', o', rfl, hu1', hu2'⟩, hb4⟩
  have HU1' := Lib.hid hu1'
  have HU2' := Lib.hid hu2'
  have hD1 := D1.out.below (bt HB3.out hb4)
  have E1 := Lib.hid hD1
  have k1 := hD1.cells
  have f1 := hD1.free
  simp only [cellsAre, Nat.zero_add, Nat.reduceAdd, and_true] at k1
  have HBF := Lib.hid (fun x0 x1 => ((bt HW2.out (bt HB3.out hb4)).setCell (p := ⟨w.heap.size + 1, 0, none⟩) (by simp) x0).setCell (p := ⟨w.heap.size + 1, 1, none⟩) (by simp) x1)
  clear hu1' hu2' hk3 kk0 hD1 hb4
  by_cases hn : Lim (lown p q)
  · obtain ⟨hu, ho⟩ := HU1.out hn
    have HUE := Lib.hid hu
    subst ho
    clear hu
    by_cases hd : Lim (lowd p q)
    · obtain ⟨hu', ho'⟩ := HU1'.out hd
      have HUE' := Lib.hid hu'
      subst ho'
      have HN := Lib.hid (And.intro hn hd)
      clear hu' HU1 HU2 HU1' HU2' hn hd
      go_wp2
      (try simp only [Exit.inBlock, Exit.then])
      refine bodyPost_ret (v := .tuple #[.agg #[.int .i64 u, .int .i64 u'], .int .i64 0]) (by simp [results, Try.results31, go_sem, k1]) rfl ?_
      exact ⟨_, rfl, ⟨fun _ => by rw [HUE.out, HUE'.out], fun h => absurd HN.out h⟩, HBF.out _ _⟩
    · obtain ⟨hu', ho'⟩ := HU2'.out (Nat.lt_of_not_le hd)
      subst hu' ho'
      have HN := Lib.hid (fun h : Lim (lown p q) ∧ Lim (lowd p q) => hd h.2)
      clear HU1 HU2 HU1' HU2' hn hd
      go_wp2
      (try simp only [Exit.inBlock, Exit.then])
      refine bodyPost_ret (v := .tuple #[.agg #[.int .i64 0, .int .i64 0], .int .i64 5]) (by simp [results, Try.results31, go_sem, k1]) rfl ?_
      exact ⟨_, rfl, ⟨fun h => absurd h HN.out, fun _ => rfl⟩, HBF.out _ _⟩
  · obtain ⟨hu, ho⟩ := HU2.out (Nat.lt_of_not_le hn)
    subst hu ho
    have HN := Lib.hid (fun h : Lim (lown p q) ∧ Lim (lowd p q) => hn h.1)
    clear HU1 HU2 HU1' HU2' hn
    go_wp2
    (try simp only [Exit.inBlock, Exit.then])
    refine bodyPost_ret (v := .tuple #[.agg #[.int .i64 0, .int .i64 0], .int .i64 5]) (by simp [results, Try.results31, go_sem, k1]) rfl ?_
    exact ⟨_, rfl, ⟨fun h => absurd h HN.out, fun _ => rfl⟩, HBF.out _ _⟩

/-- A valid fraction. -/
def VF (n d : Int) : Prop := (1 ≤ d ∧ d ≤ 4611686018427387904 ∧ -4611686018427387904 ≤ n ∧ n ≤ 4611686018427387904) ∧ Int.gcd n d = 1
instance (n d : Int) : Decidable (VF n d) := by unfold VF; infer_instance
def vF (n d : Int) : Bool := decide (VF n d)
theorem vF_true {n d : Int} (h : VF n d) : vF n d = true := by unfold vF; simpa using h
theorem vF_false {n d : Int} (h : ¬ VF n d) : vF n d = false := by unfold vF; simpa using h
theorem vF_sign (n d : Int) (h : 1 ≤ d ∧ d ≤ 4611686018427387904 ∧ -4611686018427387904 ≤ n ∧ n ≤ 4611686018427387904) : (Int.sign ((Int.gcd n d : Int) + -1) == 0) = vF n d := by
  have h0 := gcd_pos_int n d (by omega)
  by_cases hg : Int.gcd n d = 1
  · rw [hg, vF_true ⟨h, hg⟩]; rfl
  · rw [vF_false (fun h => hg h.2), Int.sign_eq_one_of_pos (by omega)]; rfl
set_option maxHeartbeats 1600000 in
set_option maxRecDepth 100000 in
theorem zvalid_any (xn xd : Int) (w : World) (h1 : -9223372036854775808 ≤ xn) (h2 : xn ≤ 9223372036854775807) (h3 : -9223372036854775808 ≤ xd) (h4 : xd ≤ 9223372036854775807) :
    Calls Try.prog 17 #[.agg #[.int .i64 xn, .int .i64 xd]] w (Ret (fun v _ => v = .bool (vF xn xd)) w) := by
  by_cases g1 : xd < 1
  · have HF := Lib.hid (vF_false (n := xn) (d := xd) (fun h => by have := h.1.1; omega))
    have d1 : decide (xd < 1) = true := by simpa using g1
    go_enter Try.func17, Try.ntmps17
    go_wp2
    go_returns
    exact ⟨_, rfl, congrArg Value.bool HF.out.symm, by go_grown⟩
  have d1 : decide (xd < 1) = false := by simpa using g1
  by_cases g2 : 4611686018427387904 < xd
  · have HF := Lib.hid (vF_false (n := xn) (d := xd) (fun h => by have := h.1.2.1; omega))
    have d2 : decide (4611686018427387904 < xd) = true := by simpa using g2
    go_enter Try.func17, Try.ntmps17
    go_wp2
    go_returns
    exact ⟨_, rfl, congrArg Value.bool HF.out.symm, by go_grown⟩
  have d2 : decide (4611686018427387904 < xd) = false := by simpa using g2
  by_cases g3 : xn < -4611686018427387904
  · have HF := Lib.hid (vF_false (n := xn) (d := xd) (fun h => by have := h.1.2.2.1; omega))
    have d3 : decide (xn < -4611686018427387904) = true := by simpa using g3
    go_enter Try.func17, Try.ntmps17
    go_wp2
    go_returns
    exact ⟨_, rfl, congrArg Value.bool HF.out.symm, by go_grown⟩
  have d3 : decide (xn < -4611686018427387904) = false := by simpa using g3
  by_cases g4 : 4611686018427387904 < xn
  · have HF := Lib.hid (vF_false (n := xn) (d := xd) (fun h => by have := h.1.2.2.2; omega))
    have d4 : decide (4611686018427387904 < xn) = true := by simpa using g4
    go_enter Try.func17, Try.ntmps17
    go_wp2
    go_returns
    exact ⟨_, rfl, congrArg Value.bool HF.out.symm, by go_grown⟩
  have d4 : decide (4611686018427387904 < xn) = false := by simpa using g4
  have HG := Lib.hid (vF_sign xn xd ⟨by omega, by omega, by omega, by omega⟩)
  have SZ1 := Lib.hid (s10_small xn h1 h2)
  have SZ2 := Lib.hid (s10_small xd h3 h4)
  have SZG := Lib.hid (show s10 (Int.gcd xn xd : Int) ≤ 5 from Nat.le_trans (s10_gcd xn xd (by omega)) (s10_small xd h3 h4))
  obtain ⟨gg, hgg⟩ : ∃ g, Int.gcd xn xd = g := ⟨_, rfl⟩
  rw [hgg] at HG SZG
  have HGG := Lib.hid hgg
  clear hgg
  go_enter Try.func17, Try.ntmps17
  go_wp2
  refine wp_world (fun W0 => Blk W0 w.heap.size TF #[.int .i64 xn, .int .i64 xd] ∧ Below w.heap.size w W0) (by exact ⟨Blk.new_ _ _ rfl, by go_grown⟩) ?_
  rintro W0 ⟨b0, hbw⟩
  have k0 := fun w' (hh : Ext W0 w') => (b0.below hh).cells
  simp only [cellsAre, Nat.zero_add, Nat.reduceAdd, and_true] at k0
  have hst : Ext W0 W0.drew := Ext.drew _
  have bw0 : Below w.heap.size w W0.drew := hbw.drew
  clear b0 g1 g2 g3 g4 d1 d2 d3 d4
  go_region_held3 (fun w' => Ext W0 w') (first | assumption | exact bt (by assumption) (by assumption))
    (first | (go_at_call 64; have tk := hb4; refine (zcmp_any _ _ (gg : Int) 1 _ ((ZI.of_nat hx3).below hb4) hx4 (by have := SZG.out; omega) (by have := s10_small 1 (by omega) (by omega); omega)).mono ?_; rintro e w5 ⟨v5, rfl, hv5, hb5⟩; subst hv5; have hh5 : Ext W0 w5 := bt hh4 hb5; have bw5 := bt bw4 hb5) | (go_at_call 66; have tk := hb3; refine (zint_any 1 _ (by omega) (by omega)).mono ?_; rintro e w4 ⟨v4, rfl, hx4, hb4⟩; have hh4 : Ext W0 w4 := bt hh3 hb4; have bw4 := bt bw3 hb4) | (go_at_call 65; have tk := hb2; refine (zgcd_any _ _ xn xd _ (hx1.below hb2) hx2 (by have := SZ1.out; omega) (by have := SZ2.out; omega)).mono ?_; rintro e w3 ⟨v3, rfl, ⟨A3, n3, c3, rfl, hx3⟩, hb3⟩; rw [HGG.out] at hx3; have hh3 : Ext W0 w3 := bt hh2 hb3; have bw3 := bt bw2 hb3) | (go_at_call 66; have tk := hb1; refine (zint_any xd _ h3 h4).mono ?_; rintro e w2 ⟨v2, rfl, hx2, hb2⟩; have hh2 : Ext W0 w2 := bt hh1 hb2; have bw2 := bt bw1 hb2) | (go_at_call 66; refine (zint_any xn _ h1 h2).mono ?_; rintro e w1 ⟨v1, rfl, hx1, hb1⟩; have hh1 : Ext W0 w1 := bt hst hb1; have bw1 := bt bw0 hb1))
  go_wp2
  go_returns
  exact ⟨_, rfl, congrArg Value.bool HG.out, bw5⟩
end Go.Proofs.Tb
