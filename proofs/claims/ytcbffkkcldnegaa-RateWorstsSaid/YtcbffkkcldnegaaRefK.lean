/- Contracts of the reference's fractions: Lowest. -/
import Derived.Test.YtcbffkkcldnegaaRefJ
set_option linter.unusedVariables false
set_option linter.unusedSimpArgs false
namespace Go.Proofs.Tb
open Go.RowKit
attribute [local go_sem] cell_set_same
attribute [local go_sem] field_Z1

theorem gcd_pos_int (p q : Int) (hq : 0 < q) : 0 < Int.gcd p q := Int.gcd_pos_of_ne_zero_right _ (by omega)
theorem s10_gcd (p q : Int) (hq : 0 < q) : s10 (Int.gcd p q : Int) ≤ s10 q := by
  unfold s10
  rw [Int.natAbs_natCast]
  refine dl_mono BT two_BT _ _ ?_
  have h : (Int.gcd p q : Int) ∣ q := Int.gcd_dvd_right _ _
  have := Int.le_of_dvd hq h
  omega
set_option maxHeartbeats 1600000 in
set_option maxRecDepth 100000 in
theorem zlowest_any (v : Value) (p q : Int) (w : World) (h : ZQ w v p q) (hs : s10 p ≤ 100000000000) (hs' : s10 q ≤ 100000000000) :
    Calls Try.prog 24 #[v] w (Ret (fun v w' => ZQ w' v (lown p q) (lowd p q)) w) := by
  obtain ⟨A, n, c, A', n', c', rfl, h, h', hq⟩ := h
  have H := Lib.hid h
  have H' := Lib.hid h'
  have HQ := Lib.hid hq
  have HS := Lib.hid hs
  have HS' := Lib.hid hs'
  obtain ⟨g, hg⟩ : ∃ g, Int.gcd p q = g := ⟨_, rfl⟩
  have HG := Lib.hid hg
  have HG0 := Lib.hid (show 0 < g by rw [← hg]; exact gcd_pos_int p q hq)
  have HGS := Lib.hid (show s10 (g : Int) ≤ 100000000000 by rw [← hg]; exact Nat.le_trans (s10_gcd p q hq) hs')
  clear h h' hq hs hs' hg
  go_enter Try.func24, Try.ntmps24
  go_wp2_with fail
  have hbx : Below w.heap.size w ((w.alloc (.cells #[.bool (ng p), .slice A n c, .bool (ng q), .slice A' n' c'] TQ)).alloc (.cells #[.bool false, .slice none 0 0, .bool false, .slice none 0 0] TQ)) := by go_grown
  have b0 : Blk ((w.alloc (.cells #[.bool (ng p), .slice A n c, .bool (ng q), .slice A' n' c'] TQ)).alloc (.cells #[.bool false, .slice none 0 0, .bool false, .slice none 0 0] TQ)) w.heap.size TQ #[.bool (ng p), .slice A n c, .bool (ng q), .slice A' n' c'] := (Blk.new_ _ _ rfl).alloc _
  have b1 : Blk ((w.alloc (.cells #[.bool (ng p), .slice A n c, .bool (ng q), .slice A' n' c'] TQ)).alloc (.cells #[.bool false, .slice none 0 0, .bool false, .slice none 0 0] TQ)) (w.heap.size + 1) TQ #[.bool false, .slice none 0 0, .bool false, .slice none 0 0] := Blk.new_ _ _ (by simp)
  refine (zgcd_any _ _ p q _ ⟨A, n, c, rfl, H.out.below hbx⟩ ⟨A', n', c', rfl, H'.out.below hbx⟩ HS.out HS'.out).mono ?_
  rintro e w1 ⟨v1, rfl, ⟨A1, n1, c1, rfl, h1⟩, hb1⟩
  rw [HG.out] at h1
  have B0 := Lib.hid (b0.below hb1)
  have B1 := Lib.hid (b1.below hb1)
  have HW1 := Lib.hid (bt hbx hb1)
  have H1 := Lib.hid h1
  have k0 := B0.out.cells
  have lt0 := B0.out.lt
  simp only [cellsAre, Nat.zero_add, Nat.reduceAdd, and_true] at k0
  clear hbx b0 b1 hb1 h1
  go_wp2_with fail
  clear k0 lt0
  obtain ⟨W2, hW2⟩ : ∃ W2, W2 = w1.alloc (.cells #[.bool false, .slice A1 n1 c1] TZ) := ⟨_, rfl⟩
  have d3 : Blk W2 w1.heap.size TZ #[.bool false, .slice A1 n1 c1] := by rw [hW2]; exact Blk.new_ _ _ rfl
  have hb12 : Below w1.heap.size w1 W2 := by rw [hW2]; go_grown
  rw [← hW2]
  clear hW2
  refine (zdivmod_any _ _ p (g : Int) _ ⟨A, n, c, rfl, H.out.below (bt HW1.out hb12)⟩ ⟨A1, n1, c1, by rw [ng_nat], by rw [Int.natAbs_natCast]; exact H1.out.below hb12⟩ (by have := HG0.out; omega) HS.out HGS.out).mono ?_
  rintro e w2 ⟨v2, rfl, ⟨v3, v4, rfl, ⟨A2, n2, c2, rfl, h2⟩, ⟨A3, n3, c3, rfl, h3⟩⟩, hb2⟩
  have hb := bt hb12 hb2
  have C0 := Lib.hid (B0.out.below hb)
  have C1 := Lib.hid (B1.out.below hb)
  have C3 := Lib.hid (d3.below hb2)
  have HW2 := Lib.hid (bt HW1.out hb)
  have H2 := Lib.hid h2
  have G2 := Lib.hid (H1.out.below hb)
  have k0 := C0.out.cells
  have k3 := C3.out.cells
  have lt0 := C0.out.lt
  have lt3 := C3.out.lt
  simp only [cellsAre, Nat.zero_add, Nat.reduceAdd, and_true] at k0 k3
  clear hb12 d3 h2 h3 hb2 hb B0 B1
  go_wp2_with fail
  clear k0 k3 lt0 lt3
  obtain ⟨W4, hW4⟩ : ∃ W4, W4 = (w2.alloc (.cells #[.bool (ng (p / (g : Int))), .slice A2 n2 c2] TZ)).alloc (.cells #[.bool (ng (p % (g : Int))), .slice A3 n3 c3] TZ) := ⟨_, rfl⟩
  have d4 : Blk W4 w2.heap.size TZ #[.bool (ng (p / (g : Int))), .slice A2 n2 c2] := by rw [hW4]; exact (Blk.new_ _ _ rfl).alloc _
  have hb24 : Below w2.heap.size w2 W4 := by rw [hW4]; go_grown
  rw [← hW4]
  clear hW4
  refine (zdivmod_any _ _ q (g : Int) _ ⟨A', n', c', rfl, H'.out.below (bt HW2.out hb24)⟩ ⟨A1, n1, c1, by rw [ng_nat], by rw [Int.natAbs_natCast]; exact G2.out.below hb24⟩ (by have := HG0.out; omega) HS'.out HGS.out).mono ?_
  rintro e w5 ⟨v5, rfl, ⟨v6, v7, rfl, ⟨A5, n5, c5, rfl, h5⟩, ⟨A6, n6, c6, rfl, h6⟩⟩, hb5⟩
  have hb := bt hb24 hb5
  have D1 := Lib.hid (C1.out.below hb)
  have D4 := Lib.hid (d4.below hb5)
  have HW5 := Lib.hid (bt HW2.out hb)
  have H5 := Lib.hid h5
  have G5 := Lib.hid (H2.out.below hb)
  clear hb24 d4 h5 h6 hb5 hb C0 C1
  go_upto_region 4 with fail
  refine wp_world (fun W6 => Blk W6 w5.heap.size TZ #[.bool (ng (q / (g : Int))), .slice A5 n5 c5] ∧ Below w5.heap.size w5 W6) (by exact ⟨(Blk.new_ _ _ rfl).alloc _, by go_grown⟩) ?_
  rintro W6 ⟨d6, hb6⟩
  have E1 := Lib.hid (D1.out.below hb6)
  have E4 := Lib.hid (D4.out.below hb6)
  have HW6 := Lib.hid (bt HW5.out hb6)
  have H5' := Lib.hid (H5.out.below hb6)
  have G5' := Lib.hid (G5.out.below hb6)
  have k1 := E1.out.cells
  have f1 := E1.out.free
  have k4 := E4.out.cells
  have k6 := d6.cells
  simp only [cellsAre, Nat.zero_add, Nat.reduceAdd, and_true] at k1 k4 k6
  clear d6 hb6
  go_wp2
  (try simp only [Exit.inBlock, Exit.then])
  refine bodyPost_ret (v := .agg #[.bool (ng (p / (g : Int))), .slice A2 n2 c2, .bool (ng (q / (g : Int))), .slice A5 n5 c5]) (by simp [results, Try.results24, go_sem, k1]) rfl ?_
  have hF := (((E1.out.heldS.set_ 0 (.bool (ng (p / (g : Int))))).set_ 1 (.slice A2 n2 c2)).set_ 2 (.bool (ng (q / (g : Int))))).set_ 3 (.slice A5 n5 c5)
  have e1 : lown p q = p / (g : Int) := by unfold lown; rw [HG.out]
  have e2 : lowd p q = q / (g : Int) := by unfold lowd; rw [HG.out]
  exact ⟨_, rfl, ⟨A2, n2, c2, A5, n5, c5, by rw [e1, e2], by rw [e1]; exact G5'.out.held hF (by decide), by rw [e2]; exact H5'.out.held hF (by decide), lowd_pos p q HQ.out⟩, hF.below HW6.out (by omega)⟩
end Go.Proofs.Tb
