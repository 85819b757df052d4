/- Contract of probe.Ways. -/
import Derived.Test.YtcjddfhhofoidaaDoorRde
set_option linter.unusedVariables false
set_option linter.unusedSimpArgs false
namespace Go.Proofs.Tb
open Go.RowKit
attribute [local go_sem] cell_set_same

/-- The last visit of a set that holds the fault. -/
def lastV (k : Nat) (pre : List Vt) : Option Vt := (pre.filter fun v => v.1.testBit k).getLast?
def dnL (k : Nat) (pre : List Vt) : List Int := ((lastV k pre).map Prod.snd).getD []
def lsL (n k : Nat) (pre : List Vt) : List Int := ((lastV k pre).map fun v => mems n v.1).getD []
theorem lastV_on {k s : Nat} {way : List Int} (pre : List Vt) (h : s.testBit k = true) : lastV k (pre ++ [((s, way) : Vt)]) = some (s, way) := by
  unfold lastV
  rw [List.filter_append]
  simp [h]
theorem lastV_off {k s : Nat} {way : List Int} (pre : List Vt) (h : s.testBit k = false) : lastV k (pre ++ [((s, way) : Vt)]) = lastV k pre := by
  unfold lastV
  rw [List.filter_append]
  simp [h]
theorem bit_and {s k : Nat} (hs : s < 1024) : bits .and .i64 ((s : Int) / 2 ^ k) 1 = if s.testBit k then 1 else 0 := by
  have e : (s : Int) / 2 ^ k = ((s / 2 ^ k : Nat) : Int) := by simp
  have hlt : s / 2 ^ k ≤ s := Nat.div_le_self _ _
  have h1 := i64_and (s / 2 ^ k) 1 (by omega) (by omega)
  rw [e]
  refine (show _ = _ from h1).trans ?_
  rw [Nat.testBit_eq_decide_div_mod_eq]
  by_cases h : s / 2 ^ k % 2 = 1
  · rw [if_pos (by simpa using h)]
    simp [h]
  · rw [if_neg (by simpa using h)]
    have : s / 2 ^ k % 2 = 0 := by omega
    simp [this]
/-- What Ways keeps. -/
def WaF (n k : Nat) (FB D L : Nat) (pre : List Vt) (W : World) : Prop := Blk W FB TIN #[.int .i64 (k : Int)] ∧ ∃ dv lv, Blk W D TIS #[dv] ∧ Blk W L TIS #[lv] ∧ OwI (L + 1) W dv (dnL k pre) ∧ OwI (L + 1) W lv (lsL n k pre)
theorem WaF.ext {n k FB D L : Nat} {pre : List Vt} {W W' : World} (h : WaF n k FB D L pre W) (hx : Ext W W') : WaF n k FB D L pre W' := by
  obtain ⟨h1, dv, lv, h2, h3, h4, h5⟩ := h
  exact ⟨h1.below hx, dv, lv, h2.below hx, h3.below hx, h4.below hx, h5.below hx⟩
set_option maxHeartbeats 6400000 in
set_option maxRecDepth 100000 in
theorem rways1_any (ws : List Int) (ts : List Tt) (hv : Cv ws ts) (w0 : World) (ht : Tab w0) (tv sv fv : Value) (g B1 B2 b1 k FB D L : Nat) (h0 : w0.heap.size ≤ D) (h0' : w0.heap.size ≤ L) (hg : L < g) (hDL : D < L) (hFD : FB ≠ D) (hFL : FB ≠ L) (h1 : L < B1) (h2 : L < B2) (hb : L < b1) (hk : k < 10)
    (pre : List Vt) (s : Nat) (way : List Int) (A : Option Addr) (n c : Nat) (w : World) (hs : s < 2 ^ ws.length) (hR : RdV ws ts w0 tv sv fv g B1 B2 b1 w) (hF : WaF ws.length k FB D L pre w) (how : OwI b1 w (.slice A n c) way) (hn : n ≤ 60) :
    Calls Tryd.prog 67 #[.pointer (some ⟨g, 0, none⟩), .int .i64 (s : Int), .slice A n c, .pointer (some ⟨FB, 0, none⟩), .pointer (some ⟨D, 0, none⟩), .pointer (some ⟨L, 0, none⟩)] w
      fun e w' => ∃ v, e = .returned v ∧ RdV ws ts w0 tv sv fv g B1 B2 b1 w' ∧ WaF ws.length k FB D L (pre ++ [((s, way) : Vt)]) w' ∧ KG b1 w w' := by
  have kF := hF.1.cells
  simp only [cellsAre, Nat.zero_add, Nat.reduceAdd, and_true] at kF
  have hs1 : s < 1024 := Nat.lt_of_lt_of_le hs (pow_le_1024 hv.len10)
  have HF := Lib.hid hF
  have HR := Lib.hid hR
  have HO := Lib.hid how
  have HS := Lib.hid hs
  have HT := Lib.hid ht
  clear hF hR how hs ht
  go_enter Tryd.func67, Tryd.ntmps67
  have hbit := bit_and (s := s) (k := k) hs1
  by_cases hb0 : s.testBit k = true
  rotate_left
  · have hb1' : s.testBit k = false := by simpa using hb0
    rw [hb1'] at hbit
    simp only [Bool.false_eq_true, if_false] at hbit
    have HE := Lib.hid (show WaF ws.length k FB D L (pre ++ [((s, way) : Vt)]) w by
      unfold WaF dnL lsL
      rw [lastV_off pre hb1']
      exact HF.out)
    go_wp2
    go_end0
    exact ⟨_, rfl, HR.out, HE.out, KG.refl _ _⟩
  · rw [hb0] at hbit
    simp only [if_true] at hbit
    have HL1 := Lib.hid (lastV_on (way := way) pre hb0)
    obtain ⟨hf1, dv, lv, hf2, hf3, hf4, hf5⟩ := HF.out
    have HFF := Lib.hid (And.intro hf1 (And.intro hf2 hf3))
    clear hf1 hf2 hf3 hf4 hf5 HF hb0
    go_wp2_with fail
    refine (rclone_any A n c way w HO.out.ilv (by omega)).mono ?_
    rintro e y1 ⟨z1, rfl, x1, bb1⟩
    have X1 := Lib.hid (And.intro x1 bb1)
    obtain ⟨A6, n6, c6, hz1, _⟩ := x1.il3
    subst hz1
    clear x1 bb1
    go_wp2_with fail
    refine (rlist_any ws.length s (by have := hv.len10; omega) HS.out y1 (HT.out.below (bt HR.out.1 X1.out.2))).mono ?_
    rintro e y2 ⟨z2, rfl, x2, bb2⟩
    have X2 := Lib.hid (And.intro x2 bb2)
    obtain ⟨A7, n7, c7, hz2, _⟩ := x2.il3
    subst hz2
    have hx2 : Ext w y2 := bt X1.out.2 X2.out.2
    have hwL : L + 1 ≤ w.heap.size := HFF.out.2.2.lt
    have hF1 := HFF.out.1.below hx2
    have hD1 := HFF.out.2.1.below hx2
    have hL1 := HFF.out.2.2.below hx2
    have hOd := (X1.out.1.below X2.out.2).lower hwL
    have hOl := X2.out.1.lower (Nat.le_trans hwL (Ext.size X1.out.2))
    have hR2 := HR.out.ext hx2
    have cD := hD1.cells
    have cL := hL1.cells
    have fD := Blk.free hD1 0
    have fL := Blk.free hL1 0
    simp only [cellsAre, Nat.zero_add, Nat.reduceAdd, and_true] at cD cL
    have hne : D ≠ L := by omega
    have hR3 := (hR2.far (p := ⟨D, 0, none⟩) h0 (show D < g by omega) (show B1 ≠ D by omega) (show B2 ≠ D by omega) (.slice A6 n6 c6)).far (p := ⟨L, 0, none⟩) h0' hg (show B1 ≠ L by omega) (show B2 ≠ L by omega) (.slice A7 n7 c7)
    have hW3 : WaF ws.length k FB D L (pre ++ [((s, way) : Vt)]) ((y2.setCell ⟨D, 0, none⟩ (.slice A6 n6 c6)).setCell ⟨L, 0, none⟩ (.slice A7 n7 c7)) := by
      refine ⟨(hF1.far (p := ⟨D, 0, none⟩) hFD _).far (p := ⟨L, 0, none⟩) hFL _, .slice A6 n6 c6, .slice A7 n7 c7, (hD1.set_ 0 _).far (p := ⟨L, 0, none⟩) hne _, (hL1.far (p := ⟨D, 0, none⟩) (Ne.symm hne) _).set_ 0 _, ?_, ?_⟩
      · unfold dnL
        rw [HL1.out]
        exact (hOd.far (p := ⟨D, 0, none⟩) (show D < L + 1 by omega) _).far (p := ⟨L, 0, none⟩) (show L < L + 1 by omega) _
      · unfold lsL
        rw [HL1.out]
        exact (hOl.far (p := ⟨D, 0, none⟩) (show D < L + 1 by omega) _).far (p := ⟨L, 0, none⟩) (show L < L + 1 by omega) _
    have hK3 : KG b1 w ((y2.setCell ⟨D, 0, none⟩ (.slice A6 n6 c6)).setCell ⟨L, 0, none⟩ (.slice A7 n7 c7)) := ((KG.ext hx2).set_ (p := ⟨D, 0, none⟩) (show D < b1 by omega) _).set_ (p := ⟨L, 0, none⟩) hb _
    have HZ := Lib.hid (And.intro hR3 (And.intro hW3 hK3))
    clear hR3 hW3 hK3 hR2 hOd hOl hF1 hD1 hL1 x2 bb2
    go_wp2
    go_end0
    exact ⟨_, rfl, HZ.out⟩
set_option maxHeartbeats 6400000 in
set_option maxRecDepth 100000 in
theorem rread1w_any (ws : List Int) (ts : List Tt) (w0 w1 : World) (ht : Tab w0) (tv : Value) (k FB D L : Nat) (h0 : w0.heap.size ≤ D) (h0' : w0.heap.size ≤ L) (hL : L < w1.heap.size) (hDL : D < L) (hFD : FB ≠ D) (hFL : FB ≠ L) (hk : k < 10) :
    ∀ sv g B1 B2 b1, w1.heap.size ≤ B1 → B1 < g → g < B2 → B2 < b1 → Cv ws ts → ∀ (pre : List Vt) (s : Nat) (way : List Int) A n c W, s < 2 ^ ws.length → RdV ws ts w0 tv sv (.func (.func 67) #[] #[.pointer (some ⟨FB, 0, none⟩), .pointer (some ⟨D, 0, none⟩), .pointer (some ⟨L, 0, none⟩)]) g B1 B2 b1 W → WaF ws.length k FB D L pre W → OwI b1 W (.slice A n c) way →
      (∀ k ∈ way, 0 ≤ k ∧ k < (ts.length : Int)) → pre.length ≤ 60 → n ≤ 60 →
      Calls Tryd.prog 82 #[.int .i64 (s : Int), .slice A n c, .pointer (some ⟨B1, 0, none⟩), .pointer (some ⟨B2, 0, none⟩)] W fun e W' => ∃ v, e = .returned v ∧ RdV ws ts w0 tv sv (.func (.func 67) #[] #[.pointer (some ⟨FB, 0, none⟩), .pointer (some ⟨D, 0, none⟩), .pointer (some ⟨L, 0, none⟩)]) g B1 B2 b1 W' ∧ WaF ws.length k FB D L (pre ++ [((s, way) : Vt)]) W' ∧ KG b1 W W' := by
  intro sv g B1 B2 b1 hB1 hgB hgB2 hb1 hv pre s way A n c W hs hR hF how hwr hpl hn
  have k1 := hR.2.2.2.1.cells
  have k2 := hR.2.2.2.2.1.cells
  simp only [cellsAre, Nat.zero_add, Nat.reduceAdd, and_true] at k1 k2
  have HF := Lib.hid hF
  have HR := Lib.hid hR
  have HO := Lib.hid how
  have HT := Lib.hid ht
  have HS := Lib.hid hs
  clear hR hF how hwr hs ht
  go_enter Tryd.func82, Tryd.ntmps82
  go_wp2_with fail
  refine (rways1_any ws ts hv w0 HT.out tv sv _ g B1 B2 b1 k FB D L h0 h0' (by omega) hDL hFD hFL (by omega) (by omega) (by omega) hk pre s way A n c W HS.out HR.out HF.out HO.out hn).mono ?_
  rintro e w' ⟨v, rfl, hC, hK⟩
  have HZ := Lib.hid (And.intro hC hK)
  clear hC hK
  go_wp2
  go_end0
  exact ⟨_, rfl, HZ.out⟩
/-- The last end that holds the fault. -/
def lastE (k : Nat) (es : List En) : Option En := (es.filter fun e => decide ((k : Int) ∈ e.1)).getLast?
theorem lastE_map {n k : Nat} (hk : k < n) (vis : List Vt) : lastE k (vis.map (vEn n)) = (lastV k vis).map (vEn n) := by
  unfold lastE lastV
  rw [List.filter_map, List.getLast?_map]
  congr 2
  apply List.filter_congr
  intro v _
  show decide ((k : Int) ∈ mems n v.1) = _
  by_cases h : v.1.testBit k = true
  · rw [h]
    simp only [decide_eq_true_eq]
    exact mems_mem.2 ⟨k, rfl, hk, h⟩
  · have h' : v.1.testBit k = false := by simpa using h
    rw [h']
    simp only [decide_eq_false_iff_not]
    intro hm
    obtain ⟨j, hj, _, hb⟩ := mems_mem.1 hm
    have : j = k := by omega
    subst this
    exact h hb
/-- What Ways returns. -/
def WayR (ws : List Int) (ts : List Tt) (n p : Nat) (plan : List Tt) (x : Int) (v : Value) (w' : World) : Prop := ((¬ Cv ws ts ∨ x < 0 ∨ (n : Int) ≤ x) → v = .tuple #[.slice none 0 0, .slice none 0 0, .int .i64 1]) ∧
  (Cv ws ts → ∀ k : Nat, x = (k : Int) → k < n → (okR (rdF ts p (upL n) [] plan) = false → v = .tuple #[.slice none 0 0, .slice none 0 0, .int .i64 2]) ∧
    (∀ es, rdF ts p (upL n) [] plan = some (es, []) → ∃ A1 n1 c1 A2 n2 c2, v = .tuple #[.slice A1 n1 c1, .slice A2 n2 c2, .int .i64 0] ∧ Il w' A1 n1 c1 (((lastE k es).map Prod.snd).getD []) ∧ Il w' A2 n2 c2 (((lastE k es).map Prod.fst).getD [])))
set_option maxHeartbeats 6400000 in
set_option maxRecDepth 100000 in
theorem rways_any (A A' A2 : Option Addr) (n c m d p d2 : Nat) (x : Int) (ws : List Int) (ts plan : List Tt) (w : World) (h : Il w A n c ws) (h' : Ts w A' m d ts) (h2 : Ts w A2 p d2 plan) (ht : Tab w) (hp : p ≤ 60) :
    Calls Tryd.prog 42 #[.slice A n c, .slice A' m d, .slice A2 p d2, .int .i64 x] w (Ret (WayR ws ts n p plan x) w) := by
  have hn := h.le
  have hcc := h.cap
  have hm := h'.le
  have hd := h'.cap
  have hp2 := h2.le
  have hd2 := h2.cap
  have HL := Lib.hid h.len
  have H := Lib.hid h
  have H' := Lib.hid h'
  have H2 := Lib.hid h2
  have HT := Lib.hid ht
  clear h h' h2 ht
  go_enter Tryd.func42, Tryd.ntmps42
  go_upto_region 1 with fail
  refine wp_world (fun W0 => Blk W0 w.heap.size TIN #[.int .i64 x] ∧ Ext w W0) (by exact ⟨Blk.new_ _ _ rfl, Ext.allocR _ _⟩) ?_
  rintro W0 ⟨b0, x0⟩
  obtain ⟨FB, hFB⟩ : ∃ g, w.heap.size = g := ⟨_, rfl⟩
  have hfl := b0.lt
  rw [hFB] at b0 hfl ⊢
  have HFB := Lib.hid hFB
  have B0 := Lib.hid b0
  have X0 := Lib.hid x0
  clear b0 x0 hFB
  go_wp2_with fail
  refine (rcheck_any A A' n c m d ws ts W0 (H.out.below X0.out) (H'.out.below X0.out)).mono ?_
  rintro e w1 ⟨v1, rfl, hv1, hb1⟩
  have X1 := Lib.hid (bt X0.out hb1)
  have B1 := Lib.hid (B0.out.below hb1)
  have hfl1 := B1.out.lt
  have k1 := B1.out.cells
  simp only [cellsAre, Nat.zero_add, Nat.reduceAdd, and_true] at k1
  clear hb1 hfl
  by_cases hcv : Cv ws ts
  rotate_left
  · rw [hv1.2 hcv]
    have HE := Lib.hid (show WayR ws ts n p plan x (.tuple #[.slice none 0 0, .slice none 0 0, .int .i64 1]) w1 from ⟨fun _ => rfl, fun h => absurd h hcv⟩)
    clear hv1 hcv
    go_wp2
    go_returns
    exact ⟨_, rfl, HE.out, X1.out⟩
  rw [hv1.1 hcv]
  have hn10 : n ≤ 10 := by rw [← HL.out]; exact hcv.len10
  have HV := Lib.hid hcv
  clear hv1 hcv
  by_cases hx0 : x < 0
  · have HE := Lib.hid (show WayR ws ts n p plan x (.tuple #[.slice none 0 0, .slice none 0 0, .int .i64 1]) w1 from ⟨fun _ => rfl, fun _ k hk _ => by omega⟩)
    go_wp2
    go_returns
    exact ⟨_, rfl, HE.out, X1.out⟩
  by_cases hxn : (n : Int) ≤ x
  · have hx0' : ¬ (x < 0) := hx0
    have HE := Lib.hid (show WayR ws ts n p plan x (.tuple #[.slice none 0 0, .slice none 0 0, .int .i64 1]) w1 from ⟨fun _ => rfl, fun _ k hk _ => by omega⟩)
    go_wp2
    go_returns
    exact ⟨_, rfl, HE.out, X1.out⟩
  obtain ⟨k, rfl⟩ : ∃ k : Nat, x = (k : Int) := ⟨x.toNat, by omega⟩
  have hkn : k < n := by omega
  have hkn' : ¬ ((n : Int) ≤ (k : Int)) := hxn
  go_upto_region 4 with fail
  refine wp_world (fun W2 => Blk W2 FB TIN #[.int .i64 (k : Int)] ∧ Blk W2 w1.heap.size TIS #[.slice none 0 0] ∧ Blk W2 (w1.heap.size + 1) TIS #[.slice none 0 0] ∧ Ext w1 W2) (by exact ⟨(B1.out.alloc _).alloc _, (Blk.new_ _ _ rfl).alloc _, Blk.new_ _ _ (by simp), bt (Ext.allocR _ _) (Ext.allocR _ _)⟩) ?_
  rintro W2 ⟨c0, c1, c2, x2⟩
  obtain ⟨D, hD⟩ : ∃ g, w1.heap.size = g := ⟨_, rfl⟩
  have hDw : w.heap.size ≤ D := by rw [← hD]; exact Ext.size X1.out
  rw [hD] at c1 c2 hfl1 ⊢
  have hLl := c2.lt
  have hFD : FB ≠ D := by omega
  have hFL : FB ≠ D + 1 := by omega
  have hk10 : k < 10 := by omega
  have HF2 := Lib.hid (show WaF ws.length k FB D (D + 1) [] W2 from ⟨c0, _, _, c1, c2, OwI.nil _ _, OwI.nil _ _⟩)
  have X2 := Lib.hid (bt X1.out x2)
  have HC := Lib.hid (rread1w_any ws ts w W2 HT.out (.slice A' m d) k FB D (D + 1) hDw (by omega) hLl (by omega) hFD hFL hk10)
  have HFE := Lib.hid (show ∀ pre W W', WaF ws.length k FB D (D + 1) pre W → Ext W W' → WaF ws.length k FB D (D + 1) pre W' from fun pre W W' hh hxx => hh.ext hxx)
  clear c0 c1 c2 x2 k1 hD
  go_wp2_with fail
  refine (rread_any _ _ A A' A2 n c m d p d2 ws ts plan w W2 H.out H'.out H2.out HT.out X2.out hp _ HF2.out HFE HC).mono ?_
  rintro e w3 ⟨hx3, hres⟩
  have X3 := Lib.hid hx3
  clear hx3
  rcases hres with ⟨hcv, rfl, hf⟩ | ⟨hcv, vis, hf, ⟨es, hes, rfl, hmap, hvl⟩ | ⟨hbad, rfl⟩⟩
  · exact absurd HV.out hcv
  · obtain ⟨hf1, dv, lv, hf2, hf3, hf4, hf5⟩ := hf
    obtain ⟨A6, n6, c6, hd6, il6⟩ := hf4.il3
    obtain ⟨A7, n7, c7, hd7, il7⟩ := hf5.il3
    subst hd6 hd7
    have e1 : dnL k vis = ((lastE k es).map Prod.snd).getD [] := by
      rw [← hmap, lastE_map hkn]
      unfold dnL
      cases lastV k vis <;> rfl
    have e2 : lsL ws.length k vis = ((lastE k es).map Prod.fst).getD [] := by
      rw [← hmap, lastE_map hkn, HL.out]
      unfold lsL
      cases lastV k vis <;> rfl
    rw [e1] at il6
    rw [e2] at il7
    have kD := fun w' (hh : Ext w3 w') => (hf2.below hh).cells
    have kL := fun w' (hh : Ext w3 w') => (hf3.below hh).cells
    simp only [cellsAre, Nat.zero_add, Nat.reduceAdd, and_true] at kD kL
    have I6 := Lib.hid il6
    have I7 := Lib.hid il7
    have HES := Lib.hid hes
    have hst : Ext w3 w3.drew := Ext.drew _
    clear hf1 hf2 hf3 hf4 hf5 il6 il7 e1 e2 hmap hes
    go_upto_region 7 with fail
    refine wp_region_adv 3 [] [(0, true, some 36, none), (1, true, some 37, none), (2, false, some 8, none)] (by kernel_rfl) (by kernel_rfl) (by kernel_rfl) (by intro it hit; (repeat (rcases List.mem_cons.1 hit with rfl | hit; (focus (intro o ho ev w; injection ho with ho; subst ho; kernel_rfl)))); cases hit) (fun _ _ _ _ _ => ⟨fun h => h, fun h => h⟩) hst ?_
    repeat (first | (refine wpSeq_pure (v := ?_) rfl ?_ ?_; rotate_left 1; (focus (intro wq_ hSq_; (try dsimp only at hSq_); go_simp; (try with_reducible rfl); done)); (try simp only [Act.put, List.setIfInBounds_toArray, List.set_cons_zero, List.set_cons_succ])) | (refine wpSeq_pureG (v := ?_) rfl rfl ?_ ?_; rotate_left 1; (focus (intro wq_ hSq_; (try dsimp only at hSq_); go_simp; (try with_reducible rfl); done)); (try simp only [Act.put, List.setIfInBounds_toArray, List.set_cons_zero, List.set_cons_succ])) | (refine wpSeq_off rfl rfl ?_; (try simp only [Act.put, List.setIfInBounds_toArray, List.set_cons_zero, List.set_cons_succ])))
    first | refine wpSeq_call rfl (fun u1 g1 s1 K hK => ?_) | refine wpSeq_callG rfl rfl (fun u1 g1 s1 K hK => ?_)
    go_simp
    (try go_wp2_with fail)
    refine hK.out _ _ (Ext.refl _) ?_
    clear hK K
    (try simp only [Act.put, List.setIfInBounds_toArray, List.set_cons_zero, List.set_cons_succ])
    repeat (first | (refine wpSeq_pure (v := ?_) rfl ?_ ?_; rotate_left 1; (focus (intro wq_ hSq_; (try dsimp only at hSq_); go_simp; (try with_reducible rfl); done)); (try simp only [Act.put, List.setIfInBounds_toArray, List.set_cons_zero, List.set_cons_succ])) | (refine wpSeq_pureG (v := ?_) rfl rfl ?_ ?_; rotate_left 1; (focus (intro wq_ hSq_; (try dsimp only at hSq_); go_simp; (try with_reducible rfl); done)); (try simp only [Act.put, List.setIfInBounds_toArray, List.set_cons_zero, List.set_cons_succ])) | (refine wpSeq_off rfl rfl ?_; (try simp only [Act.put, List.setIfInBounds_toArray, List.set_cons_zero, List.set_cons_succ])))
    intro wz gz sz_
    (try simp only [endJ, List.drop_succ_cons, List.drop_zero])
    have HE := Lib.hid (show WayR ws ts n p plan (k : Int) (.tuple #[.slice A6 n6 c6, .slice A7 n7 c7, .int .i64 0]) wz from ⟨fun h => by
      rcases h with h | h | h
      · exact absurd HV.out h
      · omega
      · omega, fun _ k' hk' hkn2 => by
      have hkk : k' = k := by omega
      subst hkk
      exact ⟨fun hb => (by rw [HES.out] at hb; cases hb), fun es' he => by
        rw [HES.out] at he
        injection he with he
        injection he with he _
        subst he
        exact ⟨_, _, _, _, _, _, rfl, I6.out.below sz_, I7.out.below sz_⟩⟩⟩)
    have XZ := Lib.hid (bt X3.out sz_)
    clear kD kL hst gz sz_
    go_wp2
    go_returns
    exact ⟨_, rfl, HE.out, XZ.out⟩
  · have HE := Lib.hid (show WayR ws ts n p plan (k : Int) (.tuple #[.slice none 0 0, .slice none 0 0, .int .i64 2]) w3 from ⟨fun h => by
      rcases h with h | h | h
      · exact absurd HV.out h
      · omega
      · omega, fun _ k' hk' hkn2 => ⟨fun _ => rfl, fun es' he => (by rw [he] at hbad; cases hbad)⟩⟩)
    clear hf hbad
    go_wp2
    go_returns
    exact ⟨_, rfl, HE.out, X3.out⟩
end Go.Proofs.Tb
