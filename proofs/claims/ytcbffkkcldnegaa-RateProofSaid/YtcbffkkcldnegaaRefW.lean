/- Contract of the reference for rates: Least. -/
import Derived.Test.YtcbffkkcldnegaaLpl
import Derived.Test.YtcbffkkcldnegaaRefV
set_option linter.unusedVariables false
set_option linter.unusedSimpArgs false
namespace Go.Proofs.Tb
open Go.RowKit
attribute [local go_sem] cell_set_same

theorem ZL.held {w w' : World} {v : Value} {x y : Rat} {s : Nat} {R k : Nat} {T : TypeId} (h : ZL w v x y s) (hh : Held R k T w w') (hT : TN ≠ T) : ZL w' v x y s := by
  obtain ⟨b0, A0, n0, c0, b1, A1, n1, c1, b2, A2, n2, c2, b3, A3, n3, c3, hv, h1, h2⟩ := h
  exact ⟨b0, A0, n0, c0, b1, A1, n1, c1, b2, A2, n2, c2, b3, A3, n3, c3, hv, h1.held hh hT, h2.held hh hT⟩
/-- The eight cells of a line's variable are written. -/
theorem Blk.put8 {w : World} {g : Nat} {T : TypeId} {a b c d e f p q : Value} (h : Blk w g T #[a, b, c, d, e, f, p, q]) (x0 x1 x2 x3 x4 x5 x6 x7 : Value) :
    Blk ((((((((w.setCell ⟨g, 0, none⟩ x0).setCell ⟨g, 1, none⟩ x1).setCell ⟨g, 2, none⟩ x2).setCell ⟨g, 3, none⟩ x3).setCell ⟨g, 4, none⟩ x4).setCell ⟨g, 5, none⟩ x5).setCell ⟨g, 6, none⟩ x6).setCell ⟨g, 7, none⟩ x7) g T #[x0, x1, x2, x3, x4, x5, x6, x7] := by
  have h1 := (((((((h.set_ 0 x0).set_ 1 x1).set_ 2 x2).set_ 3 x3).set_ 4 x4).set_ 5 x5).set_ 6 x6).set_ 7 x7
  simp only [List.setIfInBounds_toArray, List.set_cons_zero, List.set_cons_succ] at h1
  exact h1
theorem Blk.put4b {w : World} {g : Nat} {T : TypeId} {a b c d e f p q : Value} (h : Blk w g T #[a, b, c, d, e, f, p, q]) (x4 x5 x6 x7 : Value) :
    Blk ((((w.setCell ⟨g, 4, none⟩ x4).setCell ⟨g, 5, none⟩ x5).setCell ⟨g, 6, none⟩ x6).setCell ⟨g, 7, none⟩ x7) g T #[a, b, c, d, x4, x5, x6, x7] := by
  have h1 := (((h.set_ 4 x4).set_ 5 x5).set_ 6 x6).set_ 7 x7
  simp only [List.setIfInBounds_toArray, List.set_cons_zero, List.set_cons_succ] at h1
  exact h1
theorem heldPut4b {w : World} {g : Nat} {T : TypeId} {a b c d e f p q : Value} (h : Blk w g T #[a, b, c, d, e, f, p, q]) (x4 x5 x6 x7 : Value) :
    Held g 8 T w ((((w.setCell ⟨g, 4, none⟩ x4).setCell ⟨g, 5, none⟩ x5).setCell ⟨g, 6, none⟩ x6).setCell ⟨g, 7, none⟩ x7) :=
  Held.set_ (Held.set_ (Held.set_ (Held.set_ h.heldS 4 x4) 5 x5) 6 x6) 7 x7
theorem heldPut8 {w : World} {g : Nat} {T : TypeId} {a b c d e f p q : Value} (h : Blk w g T #[a, b, c, d, e, f, p, q]) (x0 x1 x2 x3 x4 x5 x6 x7 : Value) :
    Held g 8 T w ((((((((w.setCell ⟨g, 0, none⟩ x0).setCell ⟨g, 1, none⟩ x1).setCell ⟨g, 2, none⟩ x2).setCell ⟨g, 3, none⟩ x3).setCell ⟨g, 4, none⟩ x4).setCell ⟨g, 5, none⟩ x5).setCell ⟨g, 6, none⟩ x6).setCell ⟨g, 7, none⟩ x7) :=
  Held.set_ (Held.set_ (Held.set_ (Held.set_ (Held.set_ (Held.set_ (Held.set_ (Held.set_ h.heldS 0 x0) 1 x1) 2 x2) 3 x3) 4 x4) 5 x5) 6 x6) 7 x7
theorem cells8 {w : World} {g : Nat} {T : TypeId} {a b c d e f p q : Value} (h : Blk w g T #[a, b, c, d, e, f, p, q]) : ∀ w', Ext w w' → w'.cell? ⟨g, 0, none⟩ = some a ∧ w'.cell? ⟨g, 1, none⟩ = some b ∧ w'.cell? ⟨g, 2, none⟩ = some c ∧ w'.cell? ⟨g, 3, none⟩ = some d ∧ w'.cell? ⟨g, 4, none⟩ = some e ∧ w'.cell? ⟨g, 5, none⟩ = some f ∧ w'.cell? ⟨g, 6, none⟩ = some p ∧ w'.cell? ⟨g, 7, none⟩ = some q := fun w' hh => by
  have k := (h.below hh).cells
  simp only [cellsAre, Nat.zero_add, Nat.reduceAdd, and_true] at k
  exact k
def Z4 : Array Value := #[.bool false, .slice none 0 0, .bool false, .slice none 0 0]
/-- The variables of Least: its results, the best line so far and its error. -/
def LS (w wr : World) (R : Nat) (x y z : Rat) : Prop := ∃ b0 A0 n0 c0 b1 A1 n1 c1 b2 A2 n2 c2 b3 A3 n3 c3 d B m e d' B' m' e',
  Blk wr w.heap.size TQL #[.bool false, .slice none 0 0, .bool false, .slice none 0 0, .bool false, .slice none 0 0, .bool false, .slice none 0 0] ∧ Blk wr (w.heap.size + 1) TQ #[.bool false, .slice none 0 0, .bool false, .slice none 0 0] ∧
  Blk wr R TQL #[.bool b0, .slice A0 n0 c0, .bool b1, .slice A1 n1 c1, .bool b2, .slice A2 n2 c2, .bool b3, .slice A3 n3 c3] ∧ Blk wr (R + 1) TQ #[.bool d, .slice B m e, .bool d', .slice B' m' e'] ∧
  ZL wr (.agg #[.bool b0, .slice A0 n0 c0, .bool b1, .slice A1 n1 c1, .bool b2, .slice A2 n2 c2, .bool b3, .slice A3 n3 c3]) x y 48 ∧ ZX wr (.agg #[.bool d, .slice B m e, .bool d', .slice B' m' e']) z 108 ∧ Below w.heap.size w wr
theorem LS.below {w wr wr' : World} {R : Nat} {x y z : Rat} (h : LS w wr R x y z) (hb : Ext wr wr') : LS w wr' R x y z := by
  obtain ⟨b0, A0, n0, c0, b1, A1, n1, c1, b2, A2, n2, c2, b3, A3, n3, c3, d, B, m, e, d', B', m', e', h1, h2, h3, h4, h5, h6, h7⟩ := h
  exact ⟨b0, A0, n0, c0, b1, A1, n1, c1, b2, A2, n2, c2, b3, A3, n3, c3, d, B, m, e, d', B', m', e', h1.below hb, h2.below hb, h3.below hb, h4.below hb, h5.below hb, h6.below hb, bt h7 hb⟩
theorem LS.bw {w wr : World} {R : Nat} {x y z : Rat} (h : LS w wr R x y z) : Below w.heap.size w wr := by
  obtain ⟨b0, A0, n0, c0, b1, A1, n1, c1, b2, A2, n2, c2, b3, A3, n3, c3, d, B, m, e, d', B', m', e', h1, h2, h3, h4, h5, h6, h7⟩ := h
  exact h7
theorem LS.lt {w wr : World} {R : Nat} {x y z : Rat} (h : LS w wr R x y z) : R + 1 < wr.heap.size := by
  obtain ⟨b0, A0, n0, c0, b1, A1, n1, c1, b2, A2, n2, c2, b3, A3, n3, c3, d, B, m, e, d', B', m', e', h1, h2, h3, h4, h5, h6, h7⟩ := h
  exact h4.lt
/-- What Least returns of valid readings. -/
def ZLR (rs : List Rdg) (v : Value) (w' : World) : Prop := ∃ x y E l q, IsLeast rs.length (tq rs) (yq rs) x y E ∧ v = .tuple #[l, q] ∧ ZL w' l x y 48 ∧ ZX w' q E 108

set_option maxHeartbeats 12800000 in
set_option maxRecDepth 100000 in
theorem zleast_any (A : Option Addr) (n c : Nat) (rs : List Rdg) (w : World) (h : Rd w A n c rs) (hv : Vld rs) :
    Calls Try.prog 34 #[.slice A n c] w (Ret (ZLR rs) w) := by
  have hn := h.le
  have hc := h.cap
  have hl := h.len
  have hn2 : 2 ≤ n := by have := hv.1; omega
  have hn64 : n ≤ 64 := by have := hv.2.1; omega
  obtain ⟨b, o, rfl, hcell⟩ := h.at_ (by omega)
  have H := Lib.hid h
  have HV := Lib.hid hv
  have HLN := Lib.hid hl
  have HKC := Lib.hid (fun (i : Nat) (hi : i < n) w' (hh : Ext w w') => (show w'.cell? ⟨b, o + i * 2, none⟩ = some (.int .i64 (tm rs i)) ∧ w'.cell? ⟨b, o + i * 2 + 1, none⟩ = some (.int .i64 (ofs rs i)) from ⟨Ext.cell hh (hcell i hi).1, Ext.cell hh (hcell i hi).2⟩))
  have HRG := Lib.hid (fun i (hi : i < n) => hv.tm_bd (i := i) (by omega))
  clear h hv hl hcell
  go_enter Try.func34, Try.ntmps34
  go_wp2_with fail
  obtain ⟨W0, hW0⟩ : ∃ W0, W0 = (w.alloc (.cells #[.bool false, .slice none 0 0, .bool false, .slice none 0 0, .bool false, .slice none 0 0, .bool false, .slice none 0 0] TQL)).alloc (.cells #[.bool false, .slice none 0 0, .bool false, .slice none 0 0] TQ) := ⟨_, rfl⟩
  have e2 : Blk W0 w.heap.size TQL #[.bool false, .slice none 0 0, .bool false, .slice none 0 0, .bool false, .slice none 0 0, .bool false, .slice none 0 0] := by rw [hW0]; exact (Blk.new_ _ _ rfl).alloc _
  have e3 : Blk W0 (w.heap.size + 1) TQ #[.bool false, .slice none 0 0, .bool false, .slice none 0 0] := by rw [hW0]; exact Blk.new_ _ _ (by simp)
  have hbw : Below w.heap.size w W0 := by rw [hW0]; go_grown
  rw [← hW0]
  clear hW0
  have E2 := Lib.hid e2
  have E3 := Lib.hid e3
  have HB0 := Lib.hid hbw
  clear e2 e3 hbw
  refine (zslope_any _ n c rs 0 1 W0 (H.out.below HB0.out) HV.out (by omega) (by omega) (by omega)).mono ?_
  rintro e w1 ⟨v1, rfl, hz1, hb1⟩
  have hx1 := hz1.zx
  obtain ⟨d1, A1, n1, c1, d1', A1', n1', c1', rfl⟩ := hx1.form
  go_wp2_with fail
  refine (xwh_any 0 _ (by omega) (by omega)).mono ?_
  rintro e w2 ⟨v2, rfl, hx2, hb2⟩
  obtain ⟨d2, A2, n2, c2, d2', A2', n2', c2', rfl⟩ := hx2.form
  go_wp2_with fail
  refine (xwh_any (-1) _ (by omega) (by omega)).mono ?_
  rintro e w3 ⟨v3, rfl, hx3, hb3⟩
  obtain ⟨d3, A3, n3, c3, d3', A3', n3', c3', rfl⟩ := hx3.form
  have X1 := Lib.hid ((hx1.below hb2).below hb3)
  have X3 := Lib.hid hx3
  have E2 := Lib.hid (((E2.out.below hb1).below hb2).below hb3)
  have E3 := Lib.hid (((E3.out.below hb1).below hb2).below hb3)
  have HB3 := Lib.hid (bt HB0.out (bt hb1 (bt hb2 hb3)))
  have HSZ := Lib.hid (show w.heap.size + 1 < w3.heap.size from E3.out.lt)
  clear hz1 hx1 hx2 hx3 hb1 hb2 hb3 HB0
  go_upto_region 2 with fail
  refine wp_world (fun W => Blk W w3.heap.size TQL #[.bool d1, .slice A1 n1 c1, .bool d1', .slice A1' n1' c1', .bool d2, .slice A2 n2 c2, .bool d2', .slice A2' n2' c2'] ∧ Blk W (w3.heap.size + 1) TQ #[.bool d3, .slice A3 n3 c3, .bool d3', .slice A3' n3' c3'] ∧ Below w3.heap.size w3 W) (by exact ⟨(Blk.new_ _ _ rfl).alloc _, Blk.new_ _ _ (by simp), by go_grown⟩) ?_
  rintro W4 ⟨e4, e5, hb4⟩
  have E4 := Lib.hid e4
  have E5 := Lib.hid e5
  have E2 := Lib.hid (E2.out.below hb4)
  have E3 := Lib.hid (E3.out.below hb4)
  have X1 := Lib.hid (X1.out.below hb4)
  have X3 := Lib.hid (X3.out.below hb4)
  have HB4 := Lib.hid (bt HB3.out hb4)
  clear e4 e5 hb4
  have k4 := cells8 E4.out
  have kr := fun w' (hh : Ext W4 w') => HKC.out 0 (by omega) w' (bt HB4.out hh)
  obtain ⟨ti1, ti2, yi1, yi2⟩ := HRG.out 0 (by omega)
  have HY0 := Lib.hid (show (ofs rs 0 : Rat) - slQ rs 0 1 * (tm rs 0 : Rat) = yq rs 0 - slQ rs 0 1 * tq rs 0 from rfl)
  obtain ⟨t0, ht0⟩ : ∃ x, tm rs 0 = x := ⟨_, rfl⟩
  obtain ⟨y0, hy0⟩ : ∃ x, ofs rs 0 = x := ⟨_, rfl⟩
  rw [ht0, hy0] at kr HY0
  rw [ht0] at ti1 ti2
  rw [hy0] at yi1 yi2
  clear ht0 hy0
  have p0 : (0 : Int) < (n : Int) := by omega
  have p0' : 0 < n := by omega
  simp only [Nat.zero_mul, Nat.add_zero] at kr
  have hst : Ext W4 W4.drew := Ext.drew _
  refine wp_region_adv 12 [] [(0, true, some 16, none), (1, true, some 17, none), (2, true, some 18, none), (3, true, some 19, none), (5, true, some 21, none), (6, true, some 22, none), (7, true, some 23, none), (8, true, some 24, none), (9, true, some 25, none), (10, true, some 26, none), (4, false, some 20, none), (11, false, some 27, none)] (by kernel_rfl) (by kernel_rfl) (by kernel_rfl) (by intro it hit; (repeat (rcases List.mem_cons.1 hit with rfl | hit; (focus (intro o ho ev w; injection ho with ho; subst ho; kernel_rfl)))); cases hit) (fun _ _ _ _ _ => ⟨fun h => h, fun h => h⟩) hst ?_
  repeat (first | (refine wpSeq_pure (v := ?_) rfl ?_ ?_; rotate_left 1; (focus (intro wq_ hSq_; (try dsimp only at hSq_); go_simp; (try with_reducible rfl); done)); (try simp only [Act.put, List.setIfInBounds_toArray, List.set_cons_zero, List.set_cons_succ])) | (refine wpSeq_pureG (v := ?_) rfl rfl ?_ ?_; rotate_left 1; (focus (intro wq_ hSq_; (try dsimp only at hSq_); go_simp; (try with_reducible rfl); done)); (try simp only [Act.put, List.setIfInBounds_toArray, List.set_cons_zero, List.set_cons_succ])) | (refine wpSeq_off rfl rfl ?_; (try simp only [Act.put, List.setIfInBounds_toArray, List.set_cons_zero, List.set_cons_succ])))
  first | refine wpSeq_call rfl (fun u1 g1' s1 K hK => ?_) | refine wpSeq_callG rfl rfl (fun u1 g1' s1 K hK => ?_)
  go_simp
  refine (xwh_any y0 u1 (by omega) (by omega)).mono ?_
  rintro e y1 ⟨z1, rfl, x1, b1'⟩
  obtain ⟨f1, B1, p1, r1, f1', B1', p1', r1', rfl⟩ := x1.form
  (try go_wp2_with fail)
  refine hK.out _ _ b1' ?_
  clear hK K
  (try simp only [Act.put, List.setIfInBounds_toArray, List.set_cons_zero, List.set_cons_succ])
  repeat (first | (refine wpSeq_pure (v := ?_) rfl ?_ ?_; rotate_left 1; (focus (intro wq_ hSq_; (try dsimp only at hSq_); go_simp; (try with_reducible rfl); done)); (try simp only [Act.put, List.setIfInBounds_toArray, List.set_cons_zero, List.set_cons_succ])) | (refine wpSeq_pureG (v := ?_) rfl rfl ?_ ?_; rotate_left 1; (focus (intro wq_ hSq_; (try dsimp only at hSq_); go_simp; (try with_reducible rfl); done)); (try simp only [Act.put, List.setIfInBounds_toArray, List.set_cons_zero, List.set_cons_succ])) | (refine wpSeq_off rfl rfl ?_; (try simp only [Act.put, List.setIfInBounds_toArray, List.set_cons_zero, List.set_cons_succ])))
  first | refine wpSeq_call rfl (fun u2 g2' s2 K hK => ?_) | refine wpSeq_callG rfl rfl (fun u2 g2' s2 K hK => ?_)
  go_simp
  refine (xwh_any t0 u2 (by omega) (by omega)).mono ?_
  rintro e y2 ⟨z2, rfl, x2, b2'⟩
  obtain ⟨f2, B2, p2, r2, f2', B2', p2', r2', rfl⟩ := x2.form
  (try go_wp2_with fail)
  refine hK.out _ _ b2' ?_
  clear hK K
  (try simp only [Act.put, List.setIfInBounds_toArray, List.set_cons_zero, List.set_cons_succ])
  repeat (first | (refine wpSeq_pure (v := ?_) rfl ?_ ?_; rotate_left 1; (focus (intro wq_ hSq_; (try dsimp only at hSq_); go_simp; (try with_reducible rfl); done)); (try simp only [Act.put, List.setIfInBounds_toArray, List.set_cons_zero, List.set_cons_succ])) | (refine wpSeq_pureG (v := ?_) rfl rfl ?_ ?_; rotate_left 1; (focus (intro wq_ hSq_; (try dsimp only at hSq_); go_simp; (try with_reducible rfl); done)); (try simp only [Act.put, List.setIfInBounds_toArray, List.set_cons_zero, List.set_cons_succ])) | (refine wpSeq_off rfl rfl ?_; (try simp only [Act.put, List.setIfInBounds_toArray, List.set_cons_zero, List.set_cons_succ])))
  intro wz gz sz_
  (try simp only [endJ, List.drop_succ_cons, List.drop_zero])
  have Y1 := Lib.hid (((x1.below g2').below b2').below gz)
  have Y2 := x2.below gz
  have SZ := Lib.hid sz_
  clear x1 x2 b1' b2' g1' g2' s1 s2 hst gz sz_ kr k4
  have k4 := cells8 (E4.out.below SZ.out)
  go_wp2_with fail
  refine (xmul_any (X1.out.below SZ.out) Y2 (by omega)).mono ?_
  rintro e y3 ⟨z3, rfl, x3, b3'⟩
  go_wp2_with fail
  refine (xsub_any (Y1.out.below b3') x3 (by omega)).mono ?_
  rintro e y4 ⟨z4, rfl, x4, b4'⟩
  go_wp2_with fail
  refine (xlowest_any x4 (by omega)).mono ?_
  rintro e y5 ⟨z5, rfl, hz5, b5'⟩
  have x5 := hz5.zx
  obtain ⟨f5, B5, p5, r5, f5', B5', p5', r5', rfl⟩ := x5.form
  have HD := Lib.hid (show Ext W4 y5 from bt SZ.out (bt b3' (bt b4' b5')))
  have X5 := Lib.hid (x5.eq HY0.out)
  have G4 := Lib.hid (E4.out.below HD.out)
  have k4 := (cells8 G4.out) y5 (Ext.refl _)
  have kf4 := G4.out.free
  clear x3 x4 x5 hz5 b3' b4' b5' Y1 Y2
  go_upto_region 3 with fail
  refine wp_world (fun W => LS w W w3.heap.size (slQ rs 0 1) (yq rs 0 - slQ rs 0 1 * tq rs 0) (-1)) (by
    have hh := heldPut4b G4.out (.bool f5) (.slice B5 p5 r5) (.bool f5') (.slice B5' p5' r5')
    have q1 := HSZ.out
    exact ⟨_, _, _, _, _, _, _, _, _, _, _, _, _, _, _, _, _, _, _, _, _, _, _, _, (E2.out.below HD.out).held hh (by omega), (E3.out.below HD.out).held hh (by omega), G4.out.put4b _ _ _ _, (E5.out.below HD.out).held hh (by omega),
      ⟨_, _, _, _, _, _, _, _, _, _, _, _, _, _, _, _, rfl, ((X1.out.below HD.out).held hh (by decide)).le (by omega), (X5.out.held hh (by decide)).le (by omega)⟩, ((((X3.out.below HD.out).held hh (by decide)).le (by omega)).eq rfl), hh.below (bt HB4.out HD.out) (by omega)⟩) ?_
  rintro W5 hls
  have HLS := Lib.hid hls
  clear hls k4 kf4 G4 HD X5 SZ E2 E3 E4 E5 X1 X3 HB4 HB3 HY0 ti1 ti2 yi1 yi2 p0
  go_wp2
  go_loopw [6] (fun i wr => ∃ (k : Nat) (x y z : Rat), i = .int .i64 k ∧ k ≤ n ∧ LInv rs n k (k + 1) (k + 2) x y z ∧ LS w wr w3.heap.size x y z) (fun i _ => n - (intOf i).toNat)
  case atStart => exact ⟨0, _, _, _, rfl, Nat.zero_le _, LInv.start, HLS.out⟩
  case round =>
    clear HLS
    obtain ⟨i, x, y, z, rfl, hi, hg, hs⟩ := hrel
    obtain ⟨wi, rfl⟩ : ∃ wo : World, wo = wr := ⟨_, rfl⟩
    have HG := Lib.hid hg
    have HS := Lib.hid hs
    clear hg hs
    by_cases hin : i < n
    · have g1 : decide ((i : Int) < (n : Int)) = true := by simp; omega
      go_wp2
      go_loopw [7] (fun i' wr => ∃ (j : Nat) (x y z : Rat), i' = .int .i64 j ∧ i + 1 ≤ j ∧ j ≤ n ∧ LInv rs n i j (j + 1) x y z ∧ LS w wr w3.heap.size x y z) (fun i' _ => n - (intOf i').toNat)
      case atStart => exact ⟨i + 1, x, y, z, by go_num, by omega, by omega, HG.out, HS.out⟩
      case round =>
        clear HG HS x y z
        obtain ⟨j, x, y, z, rfl, hij, hj, hg, hs⟩ := hrel
        obtain ⟨wj, rfl⟩ : ∃ wo : World, wo = wr := ⟨_, rfl⟩
        have HG := Lib.hid hg
        have HS := Lib.hid hs
        clear hg hs
        by_cases hjn : j < n
        · have g2 : decide ((j : Int) < (n : Int)) = true := by simp; omega
          go_wp2
          go_loopw [8] (fun i' wr => ∃ (k : Nat) (x y z : Rat), i' = .int .i64 k ∧ j + 1 ≤ k ∧ k ≤ n ∧ LInv rs n i j k x y z ∧ LS w wr w3.heap.size x y z) (fun i' _ => n - (intOf i').toNat)
          case atStart => exact ⟨j + 1, x, y, z, by go_num, by omega, by omega, HG.out, HS.out⟩
          case round =>
            clear HG HS x y z
            obtain ⟨k, x, y, z, rfl, hjk, hk, hg, hs⟩ := hrel
            obtain ⟨wk, rfl⟩ : ∃ wo : World, wo = wr := ⟨_, rfl⟩
            have HG := Lib.hid hg
            have HS := Lib.hid hs
            clear hg hs
            by_cases hkn : k < n
            · have g3 : decide ((k : Int) < (n : Int)) = true := by simp; omega
              have pi : (i : Int) < (n : Int) := by omega
              go_wp2_with fail
              refine (zthree_any _ n c rs i j k wk (H.out.below HS.out.bw) HV.out (by omega) (by omega) (by omega)).mono ?_
              rintro e y1 ⟨z1, rfl, hz1, b1'⟩
              obtain ⟨o0, O0, a0, i0, o1, O1, a1, i1, o2, O2, a2, i2, o3, O3, a3, i3, rfl, zl1, zl2⟩ := hz1
              have HZ1 : Hid (ZL y1 (.agg #[.bool o0, .slice O0 a0 i0, .bool o1, .slice O1 a1 i1, .bool o2, .slice O2 a2 i2, .bool o3, .slice O3 a3 i3]) (slQ rs i k) (thH rs i j k) 48) := ⟨_, _, _, _, _, _, _, _, _, _, _, _, _, _, _, _, rfl, zl1, zl2⟩
              have HS1 := Lib.hid (HS.out.below b1')
              clear zl1 zl2 b1' HS
              go_upto_region 13 with fail
              refine wp_world (fun W => Blk W y1.heap.size TQL #[.bool o0, .slice O0 a0 i0, .bool o1, .slice O1 a1 i1, .bool o2, .slice O2 a2 i2, .bool o3, .slice O3 a3 i3] ∧ Below y1.heap.size y1 W) (by exact ⟨Blk.new_ _ _ rfl, by go_grown⟩) ?_
              rintro W6 ⟨e9, hb6⟩
              have E9 := Lib.hid e9
              have HZ := Lib.hid (HZ1.out.below hb6)
              have HS2 := Lib.hid (HS1.out.below hb6)
              have k9 := cells8 e9
              have kr := fun w' (hh : Ext W6 w') => HKC.out i hin w' (bt HS2.out.bw hh)
              obtain ⟨ti1, ti2, yi1, yi2⟩ := HRG.out i hin
              have HOW := Lib.hid (show rab (erQ (slQ rs i k) (thH rs i j k) (tm rs i) (ofs rs i)) = rab (ow3 rs i j k) from rfl)
              obtain ⟨t0, ht0⟩ : ∃ x, tm rs i = x := ⟨_, rfl⟩
              obtain ⟨y0, hy0⟩ : ∃ x, ofs rs i = x := ⟨_, rfl⟩
              rw [ht0, hy0] at kr HOW
              rw [ht0] at ti1 ti2
              rw [hy0] at yi1 yi2
              have RT := Lib.hid (show rngI t0 ∧ rngI y0 by unfold rngI; omega)
              have hst : Ext W6 W6.drew := Ext.drew _
              clear ht0 hy0 ti1 ti2 yi1 yi2 e9 hb6 HZ1 HS1
              refine wp_region_adv 8 [⟨7, 10, TQ, #[.bool false, .slice none 0 0, .bool false, .slice none 0 0]⟩] [(0, true, some 59, none), (1, true, some 60, none), (2, true, some 61, none), (3, true, some 62, none), (4, true, some 63, none), (5, false, some 64, none), (6, false, some 65, none)] (by kernel_rfl) (by kernel_rfl) (by kernel_rfl) (by intro it hit; (repeat (rcases List.mem_cons.1 hit with rfl | hit; (focus (intro o ho ev w; injection ho with ho; subst ho; kernel_rfl)))); cases hit) (fun _ _ _ _ _ => ⟨fun h => h, fun h => h⟩) hst ?_
              repeat (first | (refine wpSeq_pure (v := ?_) rfl ?_ ?_; rotate_left 1; (focus (intro wq_ hSq_; (try dsimp only at hSq_); go_simp; (try with_reducible rfl); done)); (try simp only [Act.put, List.setIfInBounds_toArray, List.set_cons_zero, List.set_cons_succ])) | (refine wpSeq_pureG (v := ?_) rfl rfl ?_ ?_; rotate_left 1; (focus (intro wq_ hSq_; (try dsimp only at hSq_); go_simp; (try with_reducible rfl); done)); (try simp only [Act.put, List.setIfInBounds_toArray, List.set_cons_zero, List.set_cons_succ])) | (refine wpSeq_off rfl rfl ?_; (try simp only [Act.put, List.setIfInBounds_toArray, List.set_cons_zero, List.set_cons_succ])))
              first | refine wpSeq_call rfl (fun u1 g1' s1 K hK => ?_) | refine wpSeq_callG rfl rfl (fun u1 g1' s1 K hK => ?_)
              go_simp
              refine (zerror_any _ _ _ 48 t0 y0 u1 (HZ.out.below s1) (by omega) RT.out.1 RT.out.2).mono ?_
              rintro e q1 ⟨z1, rfl, hz1, b1'⟩
              have x1 := hz1.zx
              obtain ⟨f1, B1, p1, r1, f1', B1', p1', r1', rfl⟩ := x1.form
              (try go_wp2_with fail)
              refine hK.out _ _ b1' ?_
              clear hK K
              (try simp only [Act.put, List.setIfInBounds_toArray, List.set_cons_zero, List.set_cons_succ])
              repeat (first | (refine wpSeq_pure (v := ?_) rfl ?_ ?_; rotate_left 1; (focus (intro wq_ hSq_; (try dsimp only at hSq_); go_simp; (try with_reducible rfl); done)); (try simp only [Act.put, List.setIfInBounds_toArray, List.set_cons_zero, List.set_cons_succ])) | (refine wpSeq_pureG (v := ?_) rfl rfl ?_ ?_; rotate_left 1; (focus (intro wq_ hSq_; (try dsimp only at hSq_); go_simp; (try with_reducible rfl); done)); (try simp only [Act.put, List.setIfInBounds_toArray, List.set_cons_zero, List.set_cons_succ])) | (refine wpSeq_off rfl rfl ?_; (try simp only [Act.put, List.setIfInBounds_toArray, List.set_cons_zero, List.set_cons_succ])))
              first | refine wpSeq_call rfl (fun u2 g2' s2 K hK => ?_) | refine wpSeq_callG rfl rfl (fun u2 g2' s2 K hK => ?_)
              go_simp
              refine (xabs_any (x1.below g2')).mono ?_
              rintro e q2 ⟨z2, rfl, x2, b2'⟩
              obtain ⟨f2, B2, p2, r2, f2', B2', p2', r2', rfl⟩ := x2.form
              (try go_wp2_with fail)
              refine hK.out _ _ b2' ?_
              clear hK K
              (try simp only [Act.put, List.setIfInBounds_toArray, List.set_cons_zero, List.set_cons_succ])
              repeat (first | (refine wpSeq_pure (v := ?_) rfl ?_ ?_; rotate_left 1; (focus (intro wq_ hSq_; (try dsimp only at hSq_); go_simp; (try with_reducible rfl); done)); (try simp only [Act.put, List.setIfInBounds_toArray, List.set_cons_zero, List.set_cons_succ])) | (refine wpSeq_pureG (v := ?_) rfl rfl ?_ ?_; rotate_left 1; (focus (intro wq_ hSq_; (try dsimp only at hSq_); go_simp; (try with_reducible rfl); done)); (try simp only [Act.put, List.setIfInBounds_toArray, List.set_cons_zero, List.set_cons_succ])) | (refine wpSeq_off rfl rfl ?_; (try simp only [Act.put, List.setIfInBounds_toArray, List.set_cons_zero, List.set_cons_succ])))
              intro wz gz sz_
              (try simp only [endJ, List.drop_succ_cons, List.drop_zero])
              intro R1 hr1 hu_ hB1
              (try simp only [endJ, Act.put, ptr, List.setIfInBounds_toArray, List.set_cons_zero, List.set_cons_succ])
              clear hu_
              have kR := zcells hB1
              have kf := hB1.free
              have X2 := Lib.hid ((x2.below gz).eq HOW.out)
              have SZ := Lib.hid sz_
              have HBB := Lib.hid hB1
              clear x1 x2 hz1 b1' b2' g1' g2' s1 s2 hst hB1 gz sz_ kr k9
              go_upto_region 14 with fail
              refine wp_world (fun W => Blk W R1 TQ #[.bool f2, .slice B2 p2 r2, .bool f2', .slice B2' p2' r2'] ∧ Held R1 4 TQ wz W) (by exact ⟨HBB.out.put4 _ _ _ _, heldPut HBB.out _ _ _ _⟩) ?_
              rintro W7 ⟨e10, hh7⟩
              clear kR kf
              have hr1' : W6.heap.size ≤ R1 := hr1
              have hb7 : Below W6.heap.size W6 W7 := hh7.below SZ.out hr1'
              have E9 := Lib.hid ((E9.out.below SZ.out).held hh7 (by have := E9.out.lt; omega))
              have X2 := Lib.hid (X2.out.held hh7 (by decide))
              have HZ := Lib.hid (HZ.out.below hb7)
              obtain ⟨b0, A0, n0, c0, b1, A1, n1, c1, b2, A2, n2, c2, b3, A3, n3, c3, d, B, m, e, d', B', m', e', f2_, f3_, f4_, f5_, zl_, zx_, bw_⟩ := HS2.out.below hb7
              have F2 := Lib.hid f2_
              have F3 := Lib.hid f3_
              have F4 := Lib.hid f4_
              have F5 := Lib.hid f5_
              have ZLK := Lib.hid zl_
              have ZXK := Lib.hid zx_
              have BWK := Lib.hid bw_
              have E10 := Lib.hid e10
              have q3 := HS2.out.lt
              have HR1 := Lib.hid (show w3.heap.size + 1 < R1 by omega)
              clear q3
              have k10 := zcells e10
              have k5 := zcells f5_
              clear hh7 hb7 SZ HBB hr1 hr1' e10 f2_ f3_ f4_ f5_ zl_ zx_ bw_ HS2
              go_wp2_with fail
              refine (xcmp_any X2.out ZXK.out (by omega)).mono ?_
              rintro e q3 ⟨z3, rfl, hz3, b3'⟩
              obtain ⟨cv, hcv⟩ : ∃ cv, cmpR (rab (ow3 rs i j k)) z = cv := ⟨_, rfl⟩
              rw [hcv] at hz3
              subst hz3
              have HCV := Lib.hid hcv
              have F2 := Lib.hid (F2.out.below b3')
              have F3 := Lib.hid (F3.out.below b3')
              have F4 := Lib.hid (F4.out.below b3')
              have F5 := Lib.hid (F5.out.below b3')
              have E9 := Lib.hid (E9.out.below b3')
              have E10 := Lib.hid (E10.out.below b3')
              have HZ := Lib.hid (HZ.out.below b3')
              have X2 := Lib.hid (X2.out.below b3')
              have ZLK := Lib.hid (ZLK.out.below b3')
              have ZXK := Lib.hid (ZXK.out.below b3')
              have BWK := Lib.hid (bt BWK.out b3')
              clear hcv b3' k10 k5
              by_cases hlt : z < rab (ow3 rs i j k)
              · have g4 : decide ((0 : Int) < cv) = true := by simp; rw [← HCV.out]; exact cmpR_gt.2 hlt
                have HT := Lib.hid (HG.out.take (by omega) (by omega) hkn hlt)
                clear hlt HG
                have k9 := (cells8 E9.out) q3 (Ext.refl _)
                have k10 := zcells E10.out
                have k4 := (cells8 F4.out) q3 (Ext.refl _)
                have k5 := zcells F5.out
                have kf4 := F4.out.free
                have kf5 := F5.out.free
                have n1 : R1 ≠ w3.heap.size := by have := HR1.out; omega
                have n2 : w3.heap.size ≠ R1 := by have := HR1.out; omega
                go_upto_region 15 with fail
                go_region
                all_goals
                  go_wp2
                  have hh4 := heldPut8 F4.out (.bool o0) (.slice O0 a0 i0) (.bool o1) (.slice O1 a1 i1) (.bool o2) (.slice O2 a2 i2) (.bool o3) (.slice O3 a3 i3)
                  have G5 := F5.out.held hh4 (by omega)
                  have hh5 := heldPut G5 (.bool f2) (.slice B2 p2 r2) (.bool f2') (.slice B2' p2' r2')
                  have q1 := HSZ.out
                  have HLS : LS w _ w3.heap.size (slQ rs i k) (thH rs i j k) (rab (ow3 rs i j k)) := ⟨_, _, _, _, _, _, _, _, _, _, _, _, _, _, _, _, _, _, _, _, _, _, _, _, (F2.out.held hh4 (by omega)).held hh5 (by omega), (F3.out.held hh4 (by omega)).held hh5 (by omega), (F4.out.put8 _ _ _ _ _ _ _ _).held hh5 (by omega), G5.put4 _ _ _ _, (HZ.out.held hh4 (by decide)).held hh5 (by decide), ((X2.out.held hh4 (by decide)).held hh5 (by decide)).le (by omega), hh5.below (hh4.below BWK.out (by omega)) (by omega)⟩
                  go_roundw
                  case rel => exact ⟨k + 1, slQ rs i k, thH rs i j k, rab (ow3 rs i j k), by go_num, by omega, by omega, HT.out, HLS.below (Ext.drew _)⟩
                  case measure => first | (simp [intOf]; done) | (simp [intOf]; omega)
              · have g4 : decide ((0 : Int) < cv) = false := by simp; rw [← HCV.out]; exact Int.not_lt.1 (fun h => hlt (cmpR_gt.1 h))
                have HT := Lib.hid (HG.out.skip (by omega) (by omega) hkn hlt)
                clear hlt HG
                go_wp2
                go_roundw
                case rel => exact ⟨k + 1, x, y, z, by go_num, by omega, by omega, HT.out, ⟨_, _, _, _, _, _, _, _, _, _, _, _, _, _, _, _, _, _, _, _, _, _, _, _, F2.out, F3.out, F4.out, F5.out, ZLK.out, ZXK.out, BWK.out⟩⟩
                case measure => first | (simp [intOf]; done) | (simp [intOf]; omega)
            · have : k = n := by omega
              subst this
              have g3 : decide ((k : Int) < (k : Int)) = false := by simp
              go_wp2
              go_roundw
              case rel => exact ⟨j + 1, x, y, z, by go_num, by omega, by omega, HG.out.nextJ, HS.out⟩
              case measure => first | (simp [intOf]; done) | (simp [intOf]; omega)
        · have : j = n := by omega
          subst this
          have g2 : decide ((j : Int) < (j : Int)) = false := by simp
          go_wp2
          go_roundw
          case rel => exact ⟨i + 1, x, y, z, by go_num, by omega, HG.out.nextI, HS.out⟩
          case measure => first | (simp [intOf]; done) | (simp [intOf]; omega)
    · have : i = n := by omega
      subst this
      have g1 : decide ((i : Int) < (i : Int)) = false := by simp
      have hg' := HG.out
      rw [← HLN.out] at hg'
      have HE := Lib.hid (LInv.least HV.out hg')
      obtain ⟨b0, A0, n0, c0, b1, A1, n1, c1, b2, A2, n2, c2, b3, A3, n3, c3, d, B, m, e, d', B', m', e', f2_, f3_, f4_, f5_, zl_, zx_, bw_⟩ := HS.out
      have F2 := Lib.hid f2_
      have F3 := Lib.hid f3_
      have ZLK := Lib.hid zl_
      have BWK := Lib.hid bw_
      have k4 := cells8 f4_
      have hst : Ext wi wi.drew := Ext.drew _
      clear hg' f2_ f3_ f4_ f5_ zl_ zx_ bw_ HG HS
      go_upto_region 16 with fail
      refine wp_region_adv 4 [] [(0, true, some 72, none), (1, true, some 73, none), (2, true, some 74, none), (3, false, some 75, none)] (by kernel_rfl) (by kernel_rfl) (by kernel_rfl) (by intro it hit; (repeat (rcases List.mem_cons.1 hit with rfl | hit; (focus (intro o ho ev w; injection ho with ho; subst ho; kernel_rfl)))); cases hit) (fun _ _ _ _ _ => ⟨fun h => h, fun h => h⟩) hst ?_
      repeat (first | (refine wpSeq_pure (v := ?_) rfl ?_ ?_; rotate_left 1; (focus (intro wq_ hSq_; (try dsimp only at hSq_); go_simp; (try with_reducible rfl); done)); (try simp only [Act.put, List.setIfInBounds_toArray, List.set_cons_zero, List.set_cons_succ])) | (refine wpSeq_pureG (v := ?_) rfl rfl ?_ ?_; rotate_left 1; (focus (intro wq_ hSq_; (try dsimp only at hSq_); go_simp; (try with_reducible rfl); done)); (try simp only [Act.put, List.setIfInBounds_toArray, List.set_cons_zero, List.set_cons_succ])) | (refine wpSeq_off rfl rfl ?_; (try simp only [Act.put, List.setIfInBounds_toArray, List.set_cons_zero, List.set_cons_succ])))
      first | refine wpSeq_call rfl (fun u1 g1' s1 K hK => ?_) | refine wpSeq_callG rfl rfl (fun u1 g1' s1 K hK => ?_)
      go_simp
      refine (zworst_any _ i c rs _ x y 48 u1 (H.out.below (bt BWK.out s1)) (ZLK.out.below s1) (by omega)).mono ?_
      rintro e q1 ⟨z1, rfl, x1, b1'⟩
      obtain ⟨f1, B1, p1, r1, f1', B1', p1', r1', rfl⟩ := x1.form
      (try go_wp2_with fail)
      refine hK.out _ _ b1' ?_
      clear hK K
      (try simp only [Act.put, List.setIfInBounds_toArray, List.set_cons_zero, List.set_cons_succ])
      repeat (first | (refine wpSeq_pure (v := ?_) rfl ?_ ?_; rotate_left 1; (focus (intro wq_ hSq_; (try dsimp only at hSq_); go_simp; (try with_reducible rfl); done)); (try simp only [Act.put, List.setIfInBounds_toArray, List.set_cons_zero, List.set_cons_succ])) | (refine wpSeq_pureG (v := ?_) rfl rfl ?_ ?_; rotate_left 1; (focus (intro wq_ hSq_; (try dsimp only at hSq_); go_simp; (try with_reducible rfl); done)); (try simp only [Act.put, List.setIfInBounds_toArray, List.set_cons_zero, List.set_cons_succ])) | (refine wpSeq_off rfl rfl ?_; (try simp only [Act.put, List.setIfInBounds_toArray, List.set_cons_zero, List.set_cons_succ])))
      intro wz gz sz_
      (try simp only [endJ, List.drop_succ_cons, List.drop_zero])
      have X1 := Lib.hid (x1.below gz)
      have G2 := Lib.hid (F2.out.below sz_)
      have G3 := Lib.hid (F3.out.below sz_)
      have SZ := Lib.hid (bt BWK.out sz_)
      have ZLK := Lib.hid (ZLK.out.below sz_)
      have k2 := (cells8 G2.out) wz (Ext.refl _)
      have k3 := zcells G3.out
      have kf2 := G2.out.free
      have kf3 := G3.out.free
      clear x1 b1' g1' s1 hst gz sz_ k4
      go_wp2
      (try simp only [Exit.inBlock, Exit.then])
      refine bodyPost_ret (v := .tuple #[.agg #[.bool b0, .slice A0 n0 c0, .bool b1, .slice A1 n1 c1, .bool b2, .slice A2 n2 c2, .bool b3, .slice A3 n3 c3], .agg #[.bool f1, .slice B1 p1 r1, .bool f1', .slice B1' p1' r1']]) (by simp [results, Try.results34, go_sem, k2, k3]) rfl ?_
      have hh2 := heldPut8 G2.out (.bool b0) (.slice A0 n0 c0) (.bool b1) (.slice A1 n1 c1) (.bool b2) (.slice A2 n2 c2) (.bool b3) (.slice A3 n3 c3)
      have G3' := G3.out.held hh2 (by omega)
      have hh3 := heldPut G3' (.bool f1) (.slice B1 p1 r1) (.bool f1') (.slice B1' p1' r1')
      obtain ⟨E, hE⟩ := HE.out
      have hws : wsT rs x y i = E := by rw [← HLN.out]; exact hE.ws (by rw [HLN.out]; omega)
      exact ⟨_, rfl, ⟨x, y, E, _, _, hE, rfl, (ZLK.out.held hh2 (by decide)).held hh3 (by decide), (((X1.out.eq hws).le (by omega)).held hh2 (by decide)).held hh3 (by decide)⟩, hh3.below (hh2.below SZ.out (Nat.le_refl _)) (by omega)⟩
end Go.Proofs.Tb
