/- Contract of package rate: Worst. -/
import Derived.Test.YtcbffkkcldnegaaRefR
import Derived.Test.YtcbffkkcldnegaaRateJ
import Derived.Test.YtcbffkkcldnegaaGearB
set_option linter.unusedVariables false
set_option linter.unusedSimpArgs false
namespace Go.Proofs.Tb
open Go.RowKit
attribute [local go_sem] cell_set_same

/-- May Worst be asked? -/
def WoOk (rs : List Rdg) (a b c d : Int) : Prop := Vld rs ∧ VF a b ∧ VF c d
/-- What Worst returns. -/
def WorstR (rs : List Rdg) (a b c d : Int) (v : Value) : Prop :=
  (WoOk rs a b c d → FracQ (wsT rs (qv a b) (qv c d) rs.length) v) ∧ (¬ WoOk rs a b c d → v = .tuple #[.agg #[.int .i64 0, .int .i64 0], .int .i64 1])
theorem WorstR.bad {rs : List Rdg} {a b c d : Int} (h : ¬ WoOk rs a b c d) : WorstR rs a b c d (.tuple #[.agg #[.int .i64 0, .int .i64 0], .int .i64 1]) := ⟨fun h' => absurd h' h, fun _ => rfl⟩

theorem FracQ.form3 {x : Rat} {v : Value} (h : FracQ x v) : ∃ a b e : Int, v = .tuple #[.agg #[.int .i64 a, .int .i64 b], .int .i64 e] := by
  by_cases hf : fitQ x
  · exact ⟨_, _, _, h.1 hf⟩
  · exact ⟨_, _, _, h.2 hf⟩
set_option maxHeartbeats 6400000 in
set_option maxRecDepth 100000 in
theorem rworst_any (A : Option Addr) (n c : Nat) (rs : List Rdg) (la lb lc ld : Int) (w : World) (h : Rd w A n c rs) (h1 : rngI la) (h2 : rngI lb) (h3 : rngI lc) (h4 : rngI ld) :
    Calls Try.prog 44 #[.slice A n c, .agg #[.int .i64 la, .int .i64 lb, .int .i64 lc, .int .i64 ld]] w (Ret (fun v _ => WorstR rs la lb lc ld v) w) := by
  have hn := h.le
  have hc := h.cap
  have HLEN := Lib.hid h.len
  have H := Lib.hid h
  have HC1 := Lib.hid (fun W : World => gcheck_any la lb W h1.1 h1.2 h2.1 h2.2)
  have HC2 := Lib.hid (fun W : World => gcheck_any lc ld W h3.1 h3.2 h4.1 h4.2)
  clear h h1 h2 h3 h4
  go_enter Try.func44, Try.ntmps44
  go_wp2_with fail
  obtain ⟨W0, hW0⟩ : ∃ W0, W0 = (w.alloc (.cells #[.int .i64 la, .int .i64 lb, .int .i64 lc, .int .i64 ld] TAL)).alloc (.cells #[.int .i64 0, .int .i64 0] TF) := ⟨_, rfl⟩
  have e0 : Blk W0 w.heap.size TAL #[.int .i64 la, .int .i64 lb, .int .i64 lc, .int .i64 ld] := by rw [hW0]; exact (Blk.new_ _ _ rfl).alloc _
  have e1 : Blk W0 (w.heap.size + 1) TF #[.int .i64 0, .int .i64 0] := by rw [hW0]; exact Blk.new_ _ _ (by simp)
  have hbw : Below w.heap.size w W0 := by rw [hW0]; go_grown
  rw [← hW0]
  clear hW0
  refine (rvalid_any A n c rs W0 (H.out.below hbw)).mono ?_
  rintro e w1 ⟨v1, rfl, hv1, hb1⟩
  have E0 := Lib.hid (e0.below hb1)
  have E1 := Lib.hid (e1.below hb1)
  have HB1 := Lib.hid (bt hbw hb1)
  have k0 := zcells (e0.below hb1)
  clear e0 e1 hbw hb1
  by_cases g : Vld rs
  rotate_left
  · rw [vld_false g] at hv1
    subst hv1
    have HNO := Lib.hid (WorstR.bad (rs := rs) (a := la) (b := lb) (c := lc) (d := ld) (fun h => g h.1))
    have hh1 : Held (w.heap.size + 1) 2 TF w1 w1 := (E1.out).heldS
    have kf := (E1.out).free
    have k1 := (E1.out).cells
    simp only [cellsAre, Nat.zero_add, Nat.reduceAdd, and_true] at k1
    have r1 := (rules (w.heap.size + 1) 2 TF w1).some
    go_wp2
    (try simp only [Exit.inBlock, Exit.then])
    refine bodyPost_ret (v := .tuple #[.agg #[.int .i64 0, .int .i64 0], .int .i64 1]) (by simp [results, Try.results44, go_sem, r1 _ hh1]) rfl ?_
    have hst2 := Held.set_ (Held.set_ (hh1.here) 0 (.int .i64 0)) 1 (.int .i64 0)
    exact ⟨_, rfl, HNO.out, (hh1.trans2 hst2).below HB1.out (by omega)⟩
  rw [vld_true g] at hv1
  subst hv1
  go_wp2_with fail
  refine (HC1.out _).mono ?_
  rintro e w2 ⟨v2, rfl, hv2, hb2⟩
  have E0 := Lib.hid (E0.out.below hb2)
  have E1 := Lib.hid (E1.out.below hb2)
  have HB2 := Lib.hid (bt HB1.out hb2)
  have k0 := zcells E0.out
  clear hb2
  by_cases g1 : VF la lb
  rotate_left
  · rw [ckI_f g1] at hv2
    subst hv2
    have HNO := Lib.hid (WorstR.bad (rs := rs) (a := la) (b := lb) (c := lc) (d := ld) (fun h => g1 h.2.1))
    have hh1 : Held (w.heap.size + 1) 2 TF w2 w2 := (E1.out).heldS
    have kf := (E1.out).free
    have k1 := (E1.out).cells
    simp only [cellsAre, Nat.zero_add, Nat.reduceAdd, and_true] at k1
    have r1 := (rules (w.heap.size + 1) 2 TF w2).some
    go_wp2
    (try simp only [Exit.inBlock, Exit.then])
    refine bodyPost_ret (v := .tuple #[.agg #[.int .i64 0, .int .i64 0], .int .i64 1]) (by simp [results, Try.results44, go_sem, r1 _ hh1]) rfl ?_
    have hst2 := Held.set_ (Held.set_ (hh1.here) 0 (.int .i64 0)) 1 (.int .i64 0)
    exact ⟨_, rfl, HNO.out, (hh1.trans2 hst2).below HB2.out (by omega)⟩
  rw [ckI_t g1] at hv2
  subst hv2
  go_wp2_with fail
  refine (HC2.out _).mono ?_
  rintro e w3 ⟨v3, rfl, hv3, hb3⟩
  have E0 := Lib.hid (E0.out.below hb3)
  have E1 := Lib.hid (E1.out.below hb3)
  have HB3 := Lib.hid (bt HB2.out hb3)
  have k0 := zcells E0.out
  clear hb3
  by_cases g2 : VF lc ld
  rotate_left
  · rw [ckI_f g2] at hv3
    subst hv3
    have HNO := Lib.hid (WorstR.bad (rs := rs) (a := la) (b := lb) (c := lc) (d := ld) (fun h => g2 h.2.2))
    have hh1 : Held (w.heap.size + 1) 2 TF w3 w3 := (E1.out).heldS
    have kf := (E1.out).free
    have k1 := (E1.out).cells
    simp only [cellsAre, Nat.zero_add, Nat.reduceAdd, and_true] at k1
    have r1 := (rules (w.heap.size + 1) 2 TF w3).some
    go_wp2
    (try simp only [Exit.inBlock, Exit.then])
    refine bodyPost_ret (v := .tuple #[.agg #[.int .i64 0, .int .i64 0], .int .i64 1]) (by simp [results, Try.results44, go_sem, r1 _ hh1]) rfl ?_
    have hst2 := Held.set_ (Held.set_ (hh1.here) 0 (.int .i64 0)) 1 (.int .i64 0)
    exact ⟨_, rfl, HNO.out, (hh1.trans2 hst2).below HB3.out (by omega)⟩
  rw [ckI_t g2] at hv3
  subst hv3
  have HOK : Hid (WoOk rs la lb lc ld) := ⟨g, g1, g2⟩
  have G1 := Lib.hid g1
  have G2 := Lib.hid g2
  obtain ⟨x, hx⟩ : ∃ x, qv la lb = x := ⟨_, rfl⟩
  obtain ⟨y, hy⟩ : ∃ x, qv lc ld = x := ⟨_, rfl⟩
  have HX := Lib.hid hx
  have HY := Lib.hid hy
  have HFX : Hid (∀ W, Calls Try.prog 87 #[.agg #[.int .i64 la, .int .i64 lb]] W (Ret (fun v w' => WX w' v x 2) W)) := fun W => by
    rw [← hx]; exact vfrom_any la lb W (by have := g1.1; omega) (by have := g1.1; omega) (by have := g1.1; omega) (by have := g1.1; omega)
  have HFY : Hid (∀ W, Calls Try.prog 87 #[.agg #[.int .i64 lc, .int .i64 ld]] W (Ret (fun v w' => WX w' v y 2) W)) := fun W => by
    rw [← hy]; exact vfrom_any lc ld W (by have := g2.1; omega) (by have := g2.1; omega) (by have := g2.1; omega) (by have := g2.1; omega)
  clear g g1 g2 hx hy
  go_wp2_with fail
  refine (vwhole_any 0 _ (by omega) (by omega)).mono ?_
  rintro e w4 ⟨v4, rfl, hx4, hb4⟩
  obtain ⟨d1, A5, n5, c5, d1', A5', n5', c5', rfl⟩ := hx4.form
  have E0 := Lib.hid (E0.out.below hb4)
  have E1 := Lib.hid (E1.out.below hb4)
  have HB4 := Lib.hid (bt HB3.out hb4)
  have HX4 := Lib.hid ((show WX w4 _ (wsT rs x y 0) 2 from hx4).le (show 2 ≤ 10 by omega))
  have hsz1 : w.heap.size + 1 < w4.heap.size := E1.out.lt
  have HSZ1 := Lib.hid hsz1
  clear hx4 hb4 k0
  go_upto_region 4 with fail
  refine wp_world (fun W => Blk W w4.heap.size TR #[.bool d1, .slice A5 n5 c5, .bool d1', .slice A5' n5' c5'] ∧ Below w4.heap.size w4 W) (by exact ⟨Blk.new_ _ _ rfl, by go_grown⟩) ?_
  rintro W2 ⟨e2, hbw2⟩
  have E2 := Lib.hid e2
  have HB5 := Lib.hid hbw2
  clear e2 hbw2
  go_wp2
  go_loopw [30] (fun i wr => ∃ (k : Nat) (d : Bool) (B : Option Addr) (m e : Nat) (d' : Bool) (B' : Option Addr) (m' e' : Nat), k ≤ n ∧ i = .int .i64 k ∧ Blk wr w.heap.size TAL #[.int .i64 la, .int .i64 lb, .int .i64 lc, .int .i64 ld] ∧
      Blk wr (w.heap.size + 1) TF #[.int .i64 0, .int .i64 0] ∧ Blk wr w4.heap.size TR #[.bool d, .slice B m e, .bool d', .slice B' m' e'] ∧ WX wr (.agg #[.bool d, .slice B m e, .bool d', .slice B' m' e']) (wsT rs x y k) 10 ∧ Below w.heap.size w wr) (fun i _ => n - (intOf i).toNat)
  case atStart => exact ⟨0, _, _, _, _, _, _, _, _, Nat.zero_le _, rfl, E0.out.below HB5.out, E1.out.below HB5.out, E2.out, HX4.out.below HB5.out, bt HB4.out HB5.out⟩
  case round =>
    clear E0 E1 HB1 HB2 HB3 HB4 HX4 E2 HB5
    obtain ⟨k, d, B, m, e, d', B', m', e', hk, rfl, f0, f1, f2, hxk, hbw⟩ := hrel
    have F0 := Lib.hid f0
    have F1 := Lib.hid f1
    have F2 := Lib.hid f2
    have HXK := Lib.hid hxk
    have HBW := Lib.hid hbw
    clear f0 f1 f2 hxk hbw
    by_cases hkn : k < n
    · have p1 : (k : Int) < (n : Int) := by omega
      obtain ⟨bb, o, rfl, hcell⟩ := (H.out.below HBW.out).at_ (by omega)
      obtain ⟨hct, hcy⟩ := hcell k hkn
      have RNG0 := H.out.getD_rng k
      obtain ⟨t, ht⟩ : ∃ t, (rs.getD k (0, 0)).1 = t := ⟨_, rfl⟩
      obtain ⟨q, hq⟩ : ∃ t, (rs.getD k (0, 0)).2 = t := ⟨_, rfl⟩
      rw [ht] at hct RNG0
      rw [hq] at hcy RNG0
      have RNG : Hid (rngI t ∧ rngI q) := ⟨⟨RNG0.1, RNG0.2.1⟩, RNG0.2.2⟩
      have HT := Lib.hid (show tm rs k = t from ht)
      have HQ := Lib.hid (show ofs rs k = q from hq)
      clear ht hq hcell RNG0
      go_upto_region 7 with fail
      refine wp_world (fun W => Blk W wr.heap.size TRD #[.int .i64 t, .int .i64 q] ∧ Below wr.heap.size wr W) (by exact ⟨Blk.new_ _ _ rfl, by go_grown⟩) ?_
      rintro W7 ⟨e8, hbw7⟩
      have E8 := Lib.hid e8
      have HB7 := Lib.hid hbw7
      clear e8 hbw7 hct hcy
      have c1 := fun w' (hh : Ext W7 w') => zcells (F0.out.below (bt HB7.out hh))
      have c2 := fun w' (hh : Ext W7 w') => (E8.out.below hh).cells
      simp only [cellsAre, Nat.zero_add, Nat.reduceAdd, and_true] at c2
      go_cut [9] (fun s7 wx => ∃ (R7 : Nat) (d : Bool) (B : Option Addr) (m e : Nat) (d' : Bool) (B' : Option Addr) (m' e' : Nat), s7 = .pointer (some ⟨R7, 0, none⟩) ∧ Blk wx R7 TR #[.bool d, .slice B m e, .bool d', .slice B' m' e'] ∧ WX wx (.agg #[.bool d, .slice B m e, .bool d', .slice B' m' e']) (x * (t : Rat) + y) 7 ∧ Below W7.heap.size W7 wx)
      case first =>
        have hst : Ext W7 W7.drew := Ext.drew _
        go_region_held3 (fun w' => Ext W7 w') (first | with_reducible assumption | exact Ext.below (by with_reducible assumption) (by with_reducible assumption) | exact Ext.alloc (by with_reducible assumption) _ | exact Ext.set_ (Ext.set_ (Ext.set_ (Ext.set_ (by assumption) (by first | exact Nat.le_refl _ | exact Ext.le (by assumption)) _) (by first | exact Nat.le_refl _ | exact Ext.le (by assumption)) _) (by first | exact Nat.le_refl _ | exact Ext.le (by assumption)) _) (by first | exact Nat.le_refl _ | exact Ext.le (by assumption)) _)
          (first | (go_at_call 75; have tk := hx4; refine (vadd_any (hx3.below (by first | exact Below.refl _ _ | go_grown)) (hx4.below (by first | exact Below.refl _ _ | go_grown)) (by omega)).mono ?_; rintro e y5 ⟨z5, rfl, hx5, hb5⟩; obtain ⟨d5, A5, n5, c5, d5', A5', n5', c5', rfl⟩ := hx5.form; have hext : Ext W7 y5 := Ext.below (by assumption) hb5; (first | (have nb : Blk y5 (y4).heap.size TR #[.bool false, .slice none 0 0, .bool false, .slice none 0 0] := Blk.below (Blk.new_ _ _ rfl) hb5; have nc := nb.cells; have nf := nb.free; simp only [cellsAre, Nat.zero_add, Nat.reduceAdd, and_true] at nc) | (have nb : Blk y5 (y4).heap.size TR #[.bool false, .slice none 0 0, .bool false, .slice none 0 0] := Blk.below (Blk.drew (Blk.new_ _ _ rfl)) hb5; have nc := nb.cells; have nf := nb.free; simp only [cellsAre, Nat.zero_add, Nat.reduceAdd, and_true] at nc) | (have nb := Blk.below nb hb5; have nc := nb.cells; have nf := nb.free; simp only [cellsAre, Nat.zero_add, Nat.reduceAdd, and_true] at nc) | skip)) | (go_at_call 87; have tk := hx3; refine (HFY.out _).mono ?_; rintro e y4 ⟨z4, rfl, hx4, hb4⟩; obtain ⟨d4, A4, n4, c4, d4', A4', n4', c4', rfl⟩ := hx4.form; have hext : Ext W7 y4 := Ext.below (by assumption) hb4; have hx3 := hx3.below (bt (by first | exact Below.refl _ _ | go_grown) hb4); (first | (have nb : Blk y4 (y3).heap.size TR #[.bool false, .slice none 0 0, .bool false, .slice none 0 0] := Blk.below (Blk.new_ _ _ rfl) hb4; have nc := nb.cells; have nf := nb.free; simp only [cellsAre, Nat.zero_add, Nat.reduceAdd, and_true] at nc) | (have nb : Blk y4 (y3).heap.size TR #[.bool false, .slice none 0 0, .bool false, .slice none 0 0] := Blk.below (Blk.drew (Blk.new_ _ _ rfl)) hb4; have nc := nb.cells; have nf := nb.free; simp only [cellsAre, Nat.zero_add, Nat.reduceAdd, and_true] at nc) | (have nb := Blk.below nb hb4; have nc := nb.cells; have nf := nb.free; simp only [cellsAre, Nat.zero_add, Nat.reduceAdd, and_true] at nc) | skip)) | (go_at_call 62; have tk := hx2; refine (vmul_any (hx1.below (by first | exact Below.refl _ _ | go_grown)) (hx2.below (by first | exact Below.refl _ _ | go_grown)) (by omega)).mono ?_; rintro e y3 ⟨z3, rfl, hx3, hb3⟩; obtain ⟨d3, A3, n3, c3, d3', A3', n3', c3', rfl⟩ := hx3.form; have hext : Ext W7 y3 := Ext.below (by assumption) hb3; (first | (have nb : Blk y3 (y2).heap.size TR #[.bool false, .slice none 0 0, .bool false, .slice none 0 0] := Blk.below (Blk.new_ _ _ rfl) hb3; have nc := nb.cells; have nf := nb.free; simp only [cellsAre, Nat.zero_add, Nat.reduceAdd, and_true] at nc) | (have nb : Blk y3 (y2).heap.size TR #[.bool false, .slice none 0 0, .bool false, .slice none 0 0] := Blk.below (Blk.drew (Blk.new_ _ _ rfl)) hb3; have nc := nb.cells; have nf := nb.free; simp only [cellsAre, Nat.zero_add, Nat.reduceAdd, and_true] at nc) | (have nb := Blk.below nb hb3; have nc := nb.cells; have nf := nb.free; simp only [cellsAre, Nat.zero_add, Nat.reduceAdd, and_true] at nc) | skip)) | (go_at_call 60; have tk := hx1; refine (vwhole_any t _ RNG.out.1.1 RNG.out.1.2).mono ?_; rintro e y2 ⟨z2, rfl, hx2, hb2⟩; obtain ⟨d2, A2, n2, c2, d2', A2', n2', c2', rfl⟩ := hx2.form; have hext : Ext W7 y2 := Ext.below (by assumption) hb2; have hx1 := hx1.below (bt (by first | exact Below.refl _ _ | go_grown) hb2); (first | (have nb : Blk y2 (y1).heap.size TR #[.bool false, .slice none 0 0, .bool false, .slice none 0 0] := Blk.below (Blk.new_ _ _ rfl) hb2; have nc := nb.cells; have nf := nb.free; simp only [cellsAre, Nat.zero_add, Nat.reduceAdd, and_true] at nc) | (have nb : Blk y2 (y1).heap.size TR #[.bool false, .slice none 0 0, .bool false, .slice none 0 0] := Blk.below (Blk.drew (Blk.new_ _ _ rfl)) hb2; have nc := nb.cells; have nf := nb.free; simp only [cellsAre, Nat.zero_add, Nat.reduceAdd, and_true] at nc) | (have nb := Blk.below nb hb2; have nc := nb.cells; have nf := nb.free; simp only [cellsAre, Nat.zero_add, Nat.reduceAdd, and_true] at nc) | skip)) | (go_at_call 87; have tk := hst; refine (HFX.out _).mono ?_; rintro e y1 ⟨z1, rfl, hx1, hb1⟩; obtain ⟨d1, A1, n1, c1, d1', A1', n1', c1', rfl⟩ := hx1.form; have hext : Ext W7 y1 := Ext.below (by assumption) hb1; (first | (have nb : Blk y1 (W7).heap.size TR #[.bool false, .slice none 0 0, .bool false, .slice none 0 0] := Blk.below (Blk.new_ _ _ rfl) hb1; have nc := nb.cells; have nf := nb.free; simp only [cellsAre, Nat.zero_add, Nat.reduceAdd, and_true] at nc) | (have nb : Blk y1 (W7).heap.size TR #[.bool false, .slice none 0 0, .bool false, .slice none 0 0] := Blk.below (Blk.drew (Blk.new_ _ _ rfl)) hb1; have nc := nb.cells; have nf := nb.free; simp only [cellsAre, Nat.zero_add, Nat.reduceAdd, and_true] at nc) | (have nb := Blk.below nb hb1; have nc := nb.cells; have nf := nb.free; simp only [cellsAre, Nat.zero_add, Nat.reduceAdd, and_true] at nc) | skip)))
        all_goals (go_wp2_with fail; go_meet; refine ⟨_, d5, A5, n5, c5, d5', A5', n5', c5', rfl, ?_, ?_, ?_⟩)
        all_goals (first | exact (((nb.set_ 0 _).set_ 1 _).set_ 2 _).set_ 3 _ | exact Blk.new_ _ _ rfl | (show Ext W7 _; assumption) | exact hx5.held (heldPut nb _ _ _ _) (by decide) | exact hx5.below (by go_grown))
      case rest =>
        obtain ⟨R9, d9, A9, n9, c9, d9', A9', n9', c9', rfl, hb9, hx9, hbx⟩ := hcut
        go_upto_region 8 with fail
        refine wp_world (fun W8 => Blk W8 R9 TR #[.bool d9, .slice A9 n9 c9, .bool d9', .slice A9' n9' c9'] ∧ WX W8 (.agg #[.bool d9, .slice A9 n9 c9, .bool d9', .slice A9' n9' c9']) (x * (t : Rat) + y) 7 ∧ Below W7.heap.size W7 W8) (by exact ⟨hb9, hx9, hbx⟩) ?_
        clear hb9 hx9 hbx c1 c2
        rintro W8 ⟨e9, hx9, hbx8⟩
        have E9 := Lib.hid e9
        have HX9 := Lib.hid hx9
        have HB8 := Lib.hid hbx8
        clear e9 hx9 hbx8
        have HX9W : Hid (∀ W, Ext W8 W → WX W (.agg #[.bool d9, .slice A9 n9 c9, .bool d9', .slice A9' n9' c9']) (x * (t : Rat) + y) 7) := fun W hW => HX9.out.below hW
        have c3 := fun w' (hh : Ext W8 w') => (E8.out.below (bt HB8.out hh)).cells
        have c4 := fun w' (hh : Ext W8 w') => zcells (E9.out.below hh)
        simp only [cellsAre, Nat.zero_add, Nat.reduceAdd, and_true] at c3
        go_cut [10] (fun s7 wx => ∃ (R7 : Nat) (d : Bool) (B : Option Addr) (m e : Nat) (d' : Bool) (B' : Option Addr) (m' e' : Nat), s7 = .pointer (some ⟨R7, 0, none⟩) ∧ Blk wx R7 TR #[.bool d, .slice B m e, .bool d', .slice B' m' e'] ∧ WX wx (.agg #[.bool d, .slice B m e, .bool d', .slice B' m' e']) (rab (erQ x y t q)) 10 ∧ Below W8.heap.size W8 wx)
        case first =>
          have hst : Ext W8 W8.drew := Ext.drew _
          go_region_held3 (fun w' => Ext W8 w') (first | with_reducible assumption | exact Ext.below (by with_reducible assumption) (by with_reducible assumption) | exact Ext.alloc (by with_reducible assumption) _ | exact Ext.set_ (Ext.set_ (Ext.set_ (Ext.set_ (by assumption) (by first | exact Nat.le_refl _ | exact Ext.le (by assumption)) _) (by first | exact Nat.le_refl _ | exact Ext.le (by assumption)) _) (by first | exact Nat.le_refl _ | exact Ext.le (by assumption)) _) (by first | exact Nat.le_refl _ | exact Ext.le (by assumption)) _)
            (first | (go_at_call 77; have tk := hx2; refine (vabs_any (hx2.below (by first | exact Below.refl _ _ | go_grown))).mono ?_; rintro e y3 ⟨z3, rfl, hx3, hb3⟩; obtain ⟨d3, A3, n3, c3, d3', A3', n3', c3', rfl⟩ := hx3.form; have hext : Ext W8 y3 := Ext.below (by assumption) hb3; (first | (have nb : Blk y3 (y2).heap.size TR #[.bool false, .slice none 0 0, .bool false, .slice none 0 0] := Blk.below (Blk.new_ _ _ rfl) hb3; have nc := nb.cells; have nf := nb.free; simp only [cellsAre, Nat.zero_add, Nat.reduceAdd, and_true] at nc) | (have nb : Blk y3 (y2).heap.size TR #[.bool false, .slice none 0 0, .bool false, .slice none 0 0] := Blk.below (Blk.drew (Blk.new_ _ _ rfl)) hb3; have nc := nb.cells; have nf := nb.free; simp only [cellsAre, Nat.zero_add, Nat.reduceAdd, and_true] at nc) | (have nb := Blk.below nb hb3; have nc := nb.cells; have nf := nb.free; simp only [cellsAre, Nat.zero_add, Nat.reduceAdd, and_true] at nc) | skip)) | (go_at_call 61; have tk := hx1; refine (vsub_any (hx1.below (by first | exact Below.refl _ _ | go_grown)) (HX9W.out _ (by assumption)) (by omega)).mono ?_; rintro e y2 ⟨z2, rfl, hx2, hb2⟩; obtain ⟨d2, A2, n2, c2, d2', A2', n2', c2', rfl⟩ := hx2.form; have hext : Ext W8 y2 := Ext.below (by assumption) hb2; (first | (have nb : Blk y2 (y1).heap.size TR #[.bool false, .slice none 0 0, .bool false, .slice none 0 0] := Blk.below (Blk.new_ _ _ rfl) hb2; have nc := nb.cells; have nf := nb.free; simp only [cellsAre, Nat.zero_add, Nat.reduceAdd, and_true] at nc) | (have nb : Blk y2 (y1).heap.size TR #[.bool false, .slice none 0 0, .bool false, .slice none 0 0] := Blk.below (Blk.drew (Blk.new_ _ _ rfl)) hb2; have nc := nb.cells; have nf := nb.free; simp only [cellsAre, Nat.zero_add, Nat.reduceAdd, and_true] at nc) | (have nb := Blk.below nb hb2; have nc := nb.cells; have nf := nb.free; simp only [cellsAre, Nat.zero_add, Nat.reduceAdd, and_true] at nc) | skip)) | (go_at_call 60; have tk := hst; refine (vwhole_any q _ RNG.out.2.1 RNG.out.2.2).mono ?_; rintro e y1 ⟨z1, rfl, hx1, hb1⟩; obtain ⟨d1, A1, n1, c1, d1', A1', n1', c1', rfl⟩ := hx1.form; have hext : Ext W8 y1 := Ext.below (by assumption) hb1; (first | (have nb : Blk y1 (W8).heap.size TR #[.bool false, .slice none 0 0, .bool false, .slice none 0 0] := Blk.below (Blk.new_ _ _ rfl) hb1; have nc := nb.cells; have nf := nb.free; simp only [cellsAre, Nat.zero_add, Nat.reduceAdd, and_true] at nc) | (have nb : Blk y1 (W8).heap.size TR #[.bool false, .slice none 0 0, .bool false, .slice none 0 0] := Blk.below (Blk.drew (Blk.new_ _ _ rfl)) hb1; have nc := nb.cells; have nf := nb.free; simp only [cellsAre, Nat.zero_add, Nat.reduceAdd, and_true] at nc) | (have nb := Blk.below nb hb1; have nc := nb.cells; have nf := nb.free; simp only [cellsAre, Nat.zero_add, Nat.reduceAdd, and_true] at nc) | skip)))
          all_goals (go_wp2_with fail; go_meet; refine ⟨_, d3, A3, n3, c3, d3', A3', n3', c3', rfl, ?_, ?_, ?_⟩)
          all_goals (first | exact (((nb.set_ 0 _).set_ 1 _).set_ 2 _).set_ 3 _ | exact Blk.new_ _ _ rfl | (show Ext W8 _; assumption) | exact hx3.held (heldPut nb _ _ _ _) (by decide) | exact hx3.below (by go_grown))
        case rest =>
          obtain ⟨R7, da, Ba, ma, ea, da', Ba', ma', ea', rfl, hb7, hxa, hbx⟩ := hcut
          have hx5 := HXK.out.below (bt HB7.out (bt HB8.out hbx))
          have k7 := zcells hb7
          have k5 := zcells (F2.out.below (bt HB7.out (bt HB8.out hbx)))
          have HB10 := Lib.hid hb7
          have HXA := Lib.hid hxa
          have HBX := Lib.hid (show Ext wr wc from bt HB7.out (bt HB8.out hbx))
          clear c3 c4 hb7 hbx
          go_wp2_with fail
          refine (vcmp_any hxa hx5 (by omega)).mono ?_
          rintro e y1 ⟨z1, rfl, hz1, hd1⟩
          subst hz1
          obtain ⟨cv, hcv⟩ : ∃ cv, cmpR (rab (erQ x y t q)) (wsT rs x y k) = cv := ⟨_, rfl⟩
          rw [hcv]
          have HCV := Lib.hid hcv
          have HD := Lib.hid (show Ext wr y1 from bt HBX.out hd1)
          have HXA := Lib.hid (HXA.out.below hd1)
          have HX5 := Lib.hid (hx5.below hd1)
          have k7 := zcells (HB10.out.below hd1)
          have k5 := zcells (F2.out.below HD.out)
          have kf := (F2.out.below HD.out).free
          clear hxa hx5 hcv hd1
          by_cases hlt : wsT rs x y k < rab (erQ x y t q)
          · have HLT := Lib.hid hlt
            have g2 : decide ((0 : Int) < cv) = true := by simp; rw [← HCV.out]; exact cmpR_gt.2 hlt
            have HE := Lib.hid (show rab (erQ x y t q) = wsT rs x y (k + 1) by rw [← HT.out, ← HQ.out]; exact wsT_t (by rw [HT.out, HQ.out]; exact hlt))
            clear hlt
            go_wp2
            have G2 := F2.out.below HD.out
            have hh := heldPut G2 (.bool da) (.slice Ba ma ea) (.bool da') (.slice Ba' ma' ea')
            go_roundw
            case rel => exact ⟨k + 1, da, Ba, ma, ea, da', Ba', ma', ea', by omega, by go_num, (F0.out.below HD.out).held hh (by have := HSZ1.out; omega), (F1.out.below HD.out).held hh (by have := HSZ1.out; omega), G2.put4 _ _ _ _, by rw [← HE.out]; exact HXA.out.held hh (by decide), hh.below (bt HBW.out HD.out) (by have := HSZ1.out; omega)⟩
            case measure => simp [intOf]; omega
          · have g2 : decide ((0 : Int) < cv) = false := by simp; rw [← HCV.out]; exact Int.not_lt.1 (fun h => hlt (cmpR_gt.1 h))
            have HE := Lib.hid (show wsT rs x y k = wsT rs x y (k + 1) from wsT_f (by rw [HT.out, HQ.out]; exact hlt))
            clear hlt
            go_wp2
            go_roundw
            case rel => exact ⟨k + 1, d, B, m, e, d', B', m', e', by omega, by go_num, F0.out.below HD.out, F1.out.below HD.out, F2.out.below HD.out, by rw [← HE.out]; exact HX5.out, bt HBW.out HD.out⟩
            case measure => simp [intOf]; omega
    · have g1 : ¬ (k : Int) < (n : Int) := by omega
      have : k = n := by omega
      subst this
      have k5 := zcells F2.out
      go_wp2_with fail
      refine (vfrac_any HXK.out (by omega)).mono ?_
      rintro e y1 ⟨z1, rfl, hf, hd1⟩
      obtain ⟨fa, fb, fe, rfl⟩ := hf.form3
      have HF := Lib.hid hf
      have hh1 : Held (w.heap.size + 1) 2 TF y1 y1 := (F1.out.below hd1).heldS
      have kf := (F1.out.below hd1).free
      have k1 := (F1.out.below hd1).cells
      simp only [cellsAre, Nat.zero_add, Nat.reduceAdd, and_true] at k1
      have r1 := (rules (w.heap.size + 1) 2 TF y1).some
      have HD := Lib.hid (bt HBW.out hd1)
      clear hf hd1
      go_wp2
      (try simp only [Exit.inBlock, Exit.then])
      refine bodyPost_ret (v := .tuple #[.agg #[.int .i64 fa, .int .i64 fb], .int .i64 fe]) (by simp [results, Try.results44, go_sem, r1 _ hh1]) rfl ?_
      have hst2 := Held.set_ (Held.set_ (hh1.here) 0 (.int .i64 fa)) 1 (.int .i64 fb)
      exact ⟨_, rfl, ⟨fun _ => by rw [HLEN.out, HX.out, HY.out]; exact HF.out, fun hno => absurd HOK.out hno⟩, (hh1.trans2 hst2).below HD.out (by omega)⟩
end Go.Proofs.Tb
