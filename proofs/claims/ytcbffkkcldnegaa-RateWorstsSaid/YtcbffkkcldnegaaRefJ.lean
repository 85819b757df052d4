/- Contracts of the reference's numbers of any size: Gcd. -/
import Derived.Test.YtcbffkkcldnegaaRefI
import Derived.Deep.LoopGhost
import Derived.Deep.DeepCutAuto
set_option linter.unusedVariables false
set_option linter.unusedSimpArgs false
namespace Go.Proofs.Tb
open Go.RowKit
attribute [local go_sem] cell_set_same
attribute [local go_sem] field_Z1

theorem zdivmod_nn (A : Option Addr) (n c : Nat) (A' : Option Addr) (n' c' : Nat) (m b : Nat) (w : World) (h : Sl TN w A n c (LZ m)) (h' : Sl TN w A' n' c' (LZ b)) (hb : 0 < b)
    (hs : dl BT m ≤ 100000000000) (hs' : dl BT b ≤ 100000000000) :
    Calls Try.prog 71 #[.agg #[.bool false, .slice A n c], .agg #[.bool false, .slice A' n' c']] w (Ret (fun v w' => ∃ A1 n1 c1 A2 n2 c2, v = .tuple #[.agg #[.bool false, .slice A1 n1 c1], .agg #[.bool false, .slice A2 n2 c2]] ∧ Sl TN w' A1 n1 c1 (LZ (m / b)) ∧ Sl TN w' A2 n2 c2 (LZ (m % b))) w) := by
  refine (zdivmod_nat false A n c A' n' c' m b w h h' hb (fun h => by cases h) hs hs').mono fun e w' h => h.imp ?_
  rintro v w1 ⟨v1, v2, rfl, ⟨A1, n1, c1, rfl, h1⟩, ⟨A2, n2, c2, rfl, h2⟩⟩
  have e1 : sg false m / (b : Int) = ((m / b : Nat) : Int) := by unfold sg; simp
  have e2 : sg false m % (b : Int) = ((m % b : Nat) : Int) := by unfold sg; simp
  rw [e1, Int.natAbs_natCast] at h1
  rw [e2, Int.natAbs_natCast] at h2
  exact ⟨A1, n1, c1, A2, n2, c2, by rw [e1, e2, ng_nat, ng_nat], h1, h2⟩

/-- What Gcd's rounds have in memory. -/
structure GC (w wx : World) (A : Option Addr) (n c : Nat) (A' : Option Addr) (n' c' : Nat) (a b : Nat) : Prop where
  b0 : Blk wx w.heap.size TZ #[.bool false, .slice A n c]
  b1 : Blk wx (w.heap.size + 1) TZ #[.bool false, .slice A' n' c']
  b2 : Blk wx (w.heap.size + 1 + 1) TZ #[.bool false, .slice none 0 0]
  sa : Sl TN wx A n c (LZ a)
  sb : Sl TN wx A' n' c' (LZ b)
  bw : Below w.heap.size w wx
theorem GC.drew {w wx : World} {A : Option Addr} {n c : Nat} {A' : Option Addr} {n' c' : Nat} {a b : Nat} (h : GC w wx A n c A' n' c' a b) : GC w wx.drew A n c A' n' c' a b :=
  ⟨h.b0.drew, h.b1.drew, h.b2.drew, h.sa.below (Below.refl _ _).drew, h.sb.below (Below.refl _ _).drew, h.bw.drew⟩
theorem GC.put {w w2 : World} {A : Option Addr} {n c : Nat} {A' : Option Addr} {n' c' : Nat} {a b : Nat} {x0 x1 y0 y1 : Value} (c0 : Blk w2 w.heap.size TZ #[x0, x1]) (c1 : Blk w2 (w.heap.size + 1) TZ #[y0, y1])
    (c2 : Blk w2 (w.heap.size + 1 + 1) TZ #[.bool false, .slice none 0 0]) (h1 : Sl TN w2 A n c (LZ a)) (h2 : Sl TN w2 A' n' c' (LZ b)) (hb : Below w.heap.size w w2) :
    GC w ((((w2.setCell ⟨w.heap.size, 0, none⟩ (.bool false)).setCell ⟨w.heap.size, 1, none⟩ (.slice A n c)).setCell ⟨w.heap.size + 1, 0, none⟩ (.bool false)).setCell ⟨w.heap.size + 1, 1, none⟩ (.slice A' n' c')) A n c A' n' c' a b := by
  have hF := ((((HM2.start c0 c1).set0 0 (.bool false)).set0 1 (.slice A n c)).set1 0 (.bool false)).set1 1 (.slice A' n' c')
  refine ⟨?_, ?_, hF.blk c2 (by omega) (by omega), hF.sl h1, hF.sl h2, hF.below hb (Nat.le_refl _) (by omega)⟩
  · have s1 := (c0.set_ 0 (.bool false)).set_ 1 (.slice A n c)
    have e : ((#[x0, x1].setIfInBounds 0 (.bool false)).setIfInBounds 1 (.slice A n c)) = #[.bool false, .slice A n c] := by simp
    rw [e] at s1
    exact (s1.far (by simp) _).far (by simp) _
  · have s1 := (((c1.far (p := ⟨w.heap.size, 0, none⟩) (by simp) (.bool false)).far (p := ⟨w.heap.size, 1, none⟩) (by simp) (.slice A n c)).set_ 0 (.bool false)).set_ 1 (.slice A' n' c')
    have e : ((#[y0, y1].setIfInBounds 0 (.bool false)).setIfInBounds 1 (.slice A' n' c')) = #[.bool false, .slice A' n' c'] := by simp
    rw [e] at s1
    exact s1
theorem gcd_bound (m b k : Nat) (hb : dl BT b ≤ k) (h : 0 < b) : dl BT (m % b) ≤ k := Nat.le_trans (dl_mono BT two_BT _ _ (Nat.le_of_lt (Nat.mod_lt _ h))) hb

set_option maxHeartbeats 3200000 in
set_option maxRecDepth 100000 in
theorem zgcd_any (v v' : Value) (x y : Int) (w : World) (h : ZI w v x) (h' : ZI w v' y) (hs : s10 x ≤ 100000000000) (hs' : s10 y ≤ 100000000000) :
    Calls Try.prog 65 #[v, v'] w (Ret (fun v w' => ∃ A n c, v = .agg #[.bool false, .slice A n c] ∧ Sl TN w' A n c (LZ (Int.gcd x y))) w) := by
  obtain ⟨A, n, c, rfl, h⟩ := h
  obtain ⟨A', n', c', rfl, h'⟩ := h'
  have H := Lib.hid h
  have H' := Lib.hid h'
  obtain ⟨s, hsx⟩ : ∃ s, ng x = s := ⟨_, rfl⟩
  obtain ⟨s', hsy⟩ : ∃ s, ng y = s := ⟨_, rfl⟩
  have HSX := Lib.hid hsx
  have HSY := Lib.hid hsy
  rw [hsx, hsy]
  obtain ⟨gg, hgg⟩ : ∃ g, Int.gcd x y = g := ⟨_, rfl⟩
  have HGG := Lib.hid (show Nat.gcd x.natAbs y.natAbs = gg from hgg)
  rw [hgg]
  unfold s10 at hs hs'
  have HS := Lib.hid hs
  have HS' := Lib.hid hs'
  clear h h' hsx hsy hgg hs hs'
  go_enter Try.func65, Try.ntmps65
  go_upto_region 1 with fail
  refine wp_world (fun W0 => Blk W0 w.heap.size TZ #[.bool s, .slice A n c] ∧ Blk W0 (w.heap.size + 1) TZ #[.bool s', .slice A' n' c'] ∧ Blk W0 (w.heap.size + 1 + 1) TZ #[.bool false, .slice none 0 0] ∧ Below w.heap.size w W0) (by exact ⟨((Blk.new_ _ _ rfl).alloc _).alloc _, (Blk.new_ _ _ (by simp)).alloc _, Blk.new_ _ _ (by simp), by go_grown⟩) ?_
  rintro W0 ⟨b0, b1, b2, hbw⟩
  have k0 := fun w' (hh : Ext W0 w') => (b0.below hh).cells
  have k1 := fun w' (hh : Ext W0 w') => (b1.below hh).cells
  have f0 := fun w' (hh : Ext W0 w') => (b0.below hh).free
  have f1 := fun w' (hh : Ext W0 w') => (b1.below hh).free
  simp only [cellsAre, Nat.zero_add, Nat.reduceAdd, and_true] at k0 k1
  have B0 := Lib.hid b0
  have B1 := Lib.hid b1
  have B2 := Lib.hid b2
  have hh0 : Ext W0 W0 := Ext.refl _
  clear b0 b1 b2
  go_cut [] (fun wx => ∃ A n c A' n' c', GC w wx A n c A' n' c' x.natAbs y.natAbs)
  case first =>
    go_region_with (first | (go_at_call 103; have tk := hh1; refine (zabs_any _ y _ ⟨_, _, _, (by rw [HSY.out]), (H'.out.below hbw.drew).below hb1⟩).mono ?_; rintro e w2 ⟨v2, rfl, ⟨A2, n2, c2, rfl, h2⟩, hb2⟩; have hh2 : Ext W0 w2 := bt hh1 hb2) | (go_at_call 103; refine (zabs_any _ x _ ⟨_, _, _, (by rw [HSX.out]), H.out.below hbw.drew⟩).mono ?_; rintro e w1 ⟨v1, rfl, ⟨A1, n1, c1, rfl, h1⟩, hb1⟩; have hh1 : Ext W0 w1 := bt (Ext.drew W0) hb1))
    all_goals
      go_wp2_with fail
      go_meet
      rw [ng_nat, ng_nat]
      rw [Int.natAbs_natCast] at h1 h2
      exact ⟨_, _, _, _, _, _, GC.put (B0.out.below hh2) (B1.out.below hh2) (B2.out.below hh2) (h1.below hb2) h2 (bt hbw hh2)⟩
  case rest =>
    obtain ⟨P, n1, c1, P', n1', c1', hgc⟩ := hcut
    have HGC := Lib.hid hgc
    clear hgc k0 k1 f0 f1 hh0 hbw B0 B1 B2
    go_wp2
    go_loopg [] y.natAbs (fun b' wr => ∃ (a' : Nat) (A n c A' n' c' : _), GC w wr A n c A' n' c' a' b' ∧ Nat.gcd a' b' = gg ∧ dl BT a' ≤ 100000000000 ∧ dl BT b' ≤ 100000000000)
    case atStart => exact ⟨x.natAbs, _, _, _, _, _, _, HGC.out, HGG.out, HS.out, HS'.out⟩
    case round =>
      clear HGC
      obtain ⟨a', A1, n1, c1, A2, n2, c2, hgc, hg, hs1, hs2⟩ := hrel
      have hp := hgc.sb.posZ
      have hn2 := hgc.sb.le
      have hc2 := hgc.sb.cap
      have k0 := hgc.b0.cells
      have k1 := hgc.b1.cells
      have k2 := hgc.b2.cells
      have f2 := hgc.b2.free
      simp only [cellsAre, Nat.zero_add, Nat.reduceAdd, and_true] at k0 k1 k2
      have HGC := Lib.hid hgc
      have HG := Lib.hid hg
      have HS1 := Lib.hid hs1
      have HS2 := Lib.hid hs2
      clear hgc hg hs1 hs2
      by_cases h0 : 0 < n2
      · have hb0 : 0 < gk := hp.1 h0
        clear hp
        go_wp2_with fail
        refine (zdivmod_nn _ _ _ _ _ _ a' gk _ HGC.out.sa HGC.out.sb hb0 HS1.out HS2.out).mono ?_
        rintro e w1 ⟨v1, rfl, ⟨A3, n3, c3, A4, n4, c4, rfl, h3, h4⟩, hb1⟩
        have hlt := HGC.out.b2.lt
        have hsz := hb1.size
        have C0 := Lib.hid (HGC.out.b0.below hb1)
        have C1 := Lib.hid (HGC.out.b1.below hb1)
        have C2 := Lib.hid (HGC.out.b2.below hb1)
        have CA := Lib.hid (HGC.out.sb.below hb1)
        have H4 := Lib.hid h4
        have HB1 := Lib.hid (bt HGC.out.bw hb1)
        clear k0 k1 k2 f2 h3 h4 hb1
        go_wp2
        refine wp_world (fun W5 => Blk W5 (w1.heap.size + 1) TZ #[.bool false, .slice A4 n4 c4] ∧ Below w1.heap.size w1 W5) (by exact ⟨Blk.new_ _ _ (by simp), by go_grown⟩) ?_
        rintro W5 ⟨d6, hb5⟩
        have D0 := Lib.hid (C0.out.below hb5)
        have D1 := Lib.hid (C1.out.below hb5)
        have D2 := Lib.hid (C2.out.below hb5)
        have DA := Lib.hid (CA.out.below hb5)
        have D4 := Lib.hid (H4.out.below hb5)
        have HB5 := Lib.hid (bt HB1.out hb5)
        have k0 := D0.out.cells
        have k1 := D1.out.cells
        have k6 := d6.cells
        have f0 := D0.out.free
        have f1 := D1.out.free
        simp only [cellsAre, Nat.zero_add, Nat.reduceAdd, and_true] at k0 k1 k6
        have n1' : w.heap.size ≠ w1.heap.size + 1 := by omega
        have n2' : w1.heap.size + 1 ≠ w.heap.size := by omega
        have n3' : w.heap.size + 1 ≠ w1.heap.size + 1 := by omega
        have n4' : w1.heap.size + 1 ≠ w.heap.size + 1 := by omega
        clear d6 hb5 hlt hsz
        go_region
        go_wp2
        go_roundg (a' % gk)
        case measure => exact Nat.mod_lt _ hb0
        case rel => exact ⟨gk, _, _, _, _, _, _, (GC.put D0.out D1.out D2.out DA.out D4.out HB5.out).drew, by rw [← HG.out, Nat.gcd_comm a' gk, Nat.gcd_comm gk (a' % gk)]; exact (Nat.gcd_rec gk a').symm, HS2.out, gcd_bound a' gk _ HS2.out hb0⟩
      · have hg0 : gk = 0 := by omega
        have HG0 := Lib.hid hg0
        clear hp hg0
        go_wp2
        (try simp only [Exit.inBlock, Exit.then])
        refine bodyPost_ret (v := .agg #[.bool false, .slice A1 n1 c1]) (by simp [results, Try.results65, go_sem, k2]) rfl ?_
        have e0 := HG.out
        rw [HG0.out, Nat.gcd_zero_right] at e0
        have hF := (HGC.out.b2.heldS.set_ 0 (.bool false)).set_ 1 (.slice A1 n1 c1)
        exact ⟨_, rfl, ⟨A1, n1, c1, rfl, by rw [← e0]; exact HGC.out.sa.held hF (by decide)⟩, hF.below HGC.out.bw (by omega)⟩
end Go.Proofs.Tb
