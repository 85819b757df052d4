/- Contracts of package rate: comparing slopes; middle, at slopes and at fractions. -/
import Derived.Test.YtcbffkkcldnegaaGreatRate3
import Derived.Test.YtcbffkkcldnegaaGreatRef3
import Derived.Test.YtcbffkkcldnegaaGreatSrt
import Derived.Test.YtcbffkkcldnegaaGreatLay
import Derived.Test.YtcbffkkcldnegaaGreatAdv
import Derived.Deep.DeepCutAuto
set_option linter.unusedVariables false
set_option linter.unusedSimpArgs false
namespace Go.Proofs.Tb
open Go.RowKit
attribute [local go_sem] cell_set_same

theorem zcells0 {w : World} {g : Nat} {T : TypeId} {a b c d : Value} (h : Blk w g T #[a, b, c, d]) : w.cell? ⟨g, 0, none⟩ = some a ∧ w.cell? ⟨g, 1, none⟩ = some b ∧ w.cell? ⟨g, 2, none⟩ = some c ∧ w.cell? ⟨g, 3, none⟩ = some d := by
  have k := h.cells
  simp only [cellsAre, Nat.zero_add, Nat.reduceAdd, and_true] at k
  exact k
abbrev TSS : TypeId := 67
abbrev TRS4 : TypeId := 76
set_option maxHeartbeats 800000 in
theorem isNaNI_any (x : Int) (w : World) : Calls Tryz.prog 65 #[.int .i64 x] w fun e w' => e = .returned (.bool false) ∧ w = w' := by
  have h : (x != x) = false := by simp
  go_enter Tryz.func65, Tryz.ntmps65
  go_wp2
  go_returns
  exact ⟨rfl, rfl⟩
set_option maxHeartbeats 800000 in
theorem compareI_any (x y : Int) (w : World) : Calls Tryz.prog 36 #[.int .i64 x, .int .i64 y] w fun e w' => e = .returned (.int .i64 (cmpI x y)) ∧ w = w' := by
  unfold cmpI
  by_cases h1 : x < y
  · rw [if_pos h1]
    go_enter Tryz.func36, Tryz.ntmps36
    go_wp2_with (go_at_call 65; refine (isNaNI_any _ _).mono ?_; rintro e w' ⟨rfl, rfl⟩)
    go_returns
    exact ⟨rfl, rfl⟩
  · rw [if_neg h1]
    by_cases h2 : y < x
    · rw [if_pos h2]
      go_enter Tryz.func36, Tryz.ntmps36
      go_wp2_with (go_at_call 65; refine (isNaNI_any _ _).mono ?_; rintro e w' ⟨rfl, rfl⟩)
      go_returns
      exact ⟨rfl, rfl⟩
    · rw [if_neg h2]
      go_enter Tryz.func36, Tryz.ntmps36
      go_wp2_with (go_at_call 65; refine (isNaNI_any _ _).mono ?_; rintro e w' ⟨rfl, rfl⟩)
      go_returns
      exact ⟨rfl, rfl⟩
theorem cmpI_neg (x y : Int) : cmpI x y < 0 ↔ x < y := by
  unfold cmpI
  split
  · simp; assumption
  · split <;> simp <;> omega
/-- A slope's two numbers are as they should be. -/
def SOk (x : Int × Int) : Prop := (-2000000 ≤ x.1 ∧ x.1 ≤ 2000000) ∧ (0 < x.2 ∧ x.2 ≤ 2000000)
def sE (x : Int × Int) : List Value := [.int .i64 x.1, .int .i64 x.2]
def sV (x : Int × Int) : Rat := qv x.1 x.2
set_option maxHeartbeats 800000 in
theorem rcmpS_any (a b c d : Int) (w : World) (h1 : -2000000 ≤ a ∧ a ≤ 2000000) (h2 : 0 < b ∧ b ≤ 2000000) (h3 : -2000000 ≤ c ∧ c ≤ 2000000) (h4 : 0 < d ∧ d ≤ 2000000) :
    Calls Tryz.prog 35 #[.agg #[.int .i64 a, .int .i64 b], .agg #[.int .i64 c, .int .i64 d]] w (Ret (fun v _ => v = .int .i64 (cmpI (a * d) (c * b))) w) := by
  obtain ⟨m1, m2⟩ := mul_bd a d h1.1 h1.2 (by omega) h4.2
  obtain ⟨m3, m4⟩ := mul_bd c b h3.1 h3.2 (by omega) h2.2
  clear h1 h2 h3 h4
  go_enter Tryz.func35, Tryz.ntmps35
  go_wp2_with (go_at_call 36; refine (compareI_any _ _ _).mono ?_; rintro e w' ⟨rfl, rfl⟩)
  go_returns
  exact ⟨_, rfl, rfl, by go_grown⟩
set_option maxHeartbeats 800000 in
theorem rsame_any (x : Value) (y : Rat) (s : Nat) (w : World) (h : WX w x y s) : Calls Tryz.prog 40 #[x] w (Ret (fun v w' => WX w' v y s) w) := by
  have H := Lib.hid h
  obtain ⟨d1, A1, n1, c1, d1', A1', n1', c1', rfl⟩ := h.form
  clear h
  go_enter Tryz.func40, Tryz.ntmps40
  go_upto_region 1 with fail
  refine wp_world (fun W0 => Blk W0 w.heap.size TR #[.bool d1, .slice A1 n1 c1, .bool d1', .slice A1' n1' c1'] ∧ Blk W0 (w.heap.size + 1) TR #[.bool false, .slice none 0 0, .bool false, .slice none 0 0] ∧ Below w.heap.size w W0) (by exact ⟨(Blk.new_ _ _ rfl).alloc _, Blk.new_ _ _ (by simp), by go_grown⟩) ?_
  rintro W0 ⟨b0, b1, hbw⟩
  have k0 := zcells0 b0
  have k1 := zcells0 b1
  have kf := b1.free
  have hh1 : Held (w.heap.size + 1) 4 TR W0 W0 := b1.heldS
  have r1 := (rules (w.heap.size + 1) 4 TR W0).some
  go_wp2
  (try simp only [Exit.inBlock, Exit.then])
  refine bodyPost_ret (v := .agg #[.bool d1, .slice A1 n1 c1, .bool d1', .slice A1' n1' c1']) (by simp [results, Tryz.results8, go_sem, r1 _ hh1]) rfl ?_
  have hst2 := Held.set_ (Held.set_ (Held.set_ (Held.set_ (hh1) 0 (.bool d1)) 1 (.slice A1 n1 c1)) 2 (.bool d1')) 3 (.slice A1' n1' c1')
  exact ⟨_, rfl, (H.out.below hbw).held hst2 (by decide), hst2.below hbw (by omega)⟩
theorem wx_rat {x : Int × Int} {v : Value} {w : World} (h : SOk x) (hv : WQ w v (rn x.1 x.2) (rd x.2)) : WX w v (sV x) 2 := by
  unfold SOk at h
  exact ⟨_, _, hv, by unfold sV; exact qv_rn (by omega), by rw [sz_rn]; exact sz_small _ (by omega) (by omega), by rw [sz_rd]; exact sz_small _ (by omega) (by omega)⟩
theorem btB {m : Nat} {a b c : World} (h : Below m a b) (hm : m ≤ a.heap.size) (k : Below b.heap.size b c) : Below m a c := h.trans (k.mono (Nat.le_trans hm h.size))
theorem Held.belowB {m R k : Nat} {T : TypeId} {w W0 w' : World} (h : Held R k T W0 w') (hb : Below m w W0) (hm : m ≤ w.heap.size) (hR : m ≤ R) : Below m w w' :=
  ⟨h.g.os.trans hb.os, h.g.tape.trans hb.tape, h.g.output.trans hb.output, Nat.le_trans hb.size h.g.size, fun i hi => (h.g.block i (Nat.lt_of_lt_of_le hi (Nat.le_trans hm hb.size)) (fun e => by injection e; omega)).trans (hb.block i hi)⟩
theorem WX.eq {w : World} {v : Value} {x y : Rat} {s : Nat} (h : WX w v x s) (e : x = y) : WX w v y s := e ▸ h
/-- A change of a row, begun behind a new block, begun ahead of it. -/
theorem held_first {g K : Nat} {T : TypeId} {w w1 : World} {o : Obj} (h : Held g K T (w.alloc o) w1) (hlt : g < w.heap.size) : Held g K T w w1 := by
  obtain ⟨cs, h1, h2⟩ := h.r0
  have h3 : w.heap[g]? = some (.cells cs T (0, 0)) := (Below.heap_alloc w o g hlt).symm.trans h1
  have hs : Held g K T w w := ⟨⟨rfl, rfl, rfl, Nat.le_refl _, fun _ _ _ => rfl⟩, ⟨cs, h3, h2⟩, ⟨cs, h3, h2⟩⟩
  exact (hs.alloc o).trans2 h
/-- .. and a store into another block that is new. -/
theorem Held.trans2_new {g K R k : Nat} {T T' : TypeId} {w w1 w2 : World} (h : Held g K T w w1) (h' : Held R k T' w1 w2) (hR : w.heap.size ≤ R) : Held g K T w w2 := by
  have hg := h.lt0
  have hne : g ≠ R := by omega
  obtain ⟨cs, h1, h2⟩ := h.r
  exact ⟨⟨h'.g.os.trans h.g.os, h'.g.tape.trans h.g.tape, h'.g.output.trans h.g.output, Nat.le_trans h.g.size h'.g.size, fun i hi hn => (h'.g.block i (Nat.lt_of_lt_of_le hi h.g.size) (fun e => by injection e; omega)).trans (h.g.block i hi hn)⟩, h.r0, ⟨cs, (h'.g.block g (Nat.lt_of_lt_of_le hg h.g.size) (fun e => hne (by injection e))).trans h1, h2⟩⟩
instance : Inhabited {x : Int × Int // SOk x} := ⟨⟨(0, 1), by unfold SOk; omega⟩⟩
theorem enterS : ∀ args w, (callFunc 35 args).run Tryz.prog w = .ok (.enter 35 args) w := enters_of Tryz.func35 (by kernel_rfl) rfl
theorem enterR : ∀ args w, (callFunc 39 args).run Tryz.prog w = .ok (.enter 39 args) w := enters_of Tryz.func39 (by kernel_rfl) rfl
/-- The library's sort at slopes. -/
theorem sortS_any (base : Nat) (v : Value) (d : List (Int × Int)) (w : World) (h : w.ownsRow base TSP 2 v d.length (cel sE d)) (h0 : 0 < d.length) (hr : ∀ x, x ∈ d → SOk x) (hn : d.length ≤ 1000000) :
    ∃ g o cap K, v = .slice (some ⟨g, o, none⟩) d.length cap ∧ base ≤ g ∧ d.length ≤ cap ∧ cap ≤ 9223372036854775807 ∧ Calls Tryz.prog 64 #[v, .func (.func 35) #[] #[]] w (fun e w' => e = .returned (.tuple #[]) ∧ Held g K TSP w w' ∧
      ∃ x y : Int × Int, SOk x ∧ SOk y ∧ (sV x + sV y) / 2 = med (d.map sV) ∧ (w'.cell? ⟨g, o + (d.length - 1) / 2 * 2, none⟩ = some (.int .i64 x.1) ∧ w'.cell? ⟨g, o + (d.length - 1) / 2 * 2 + 1, none⟩ = some (.int .i64 x.2)) ∧ (w'.cell? ⟨g, o + d.length / 2 * 2, none⟩ = some (.int .i64 y.1) ∧ w'.cell? ⟨g, o + d.length / 2 * 2 + 1, none⟩ = some (.int .i64 y.2))) := by
  obtain ⟨g, o, cap, cs, rfl, rfl, hg, hb, hc1, hc2⟩ := own_at h h0
  obtain ⟨dl, rfl⟩ := sub_list d hr
  have hm : cel sE (dl.map Subtype.val) = cel (fun x : {x : Int × Int // SOk x} => sE x.1) dl := cel_map _ _ _
  rw [hm, List.length_map] at h
  have hH := own_holds h rfl (fun x _ => rfl)
  rw [List.length_map] at h0 hn hc1 ⊢
  refine ⟨g, 0, cap, cs.size, rfl, hg, hc1, hc2, ?_⟩
  have hs := sort_mid sortS_lay 2 Tryz.isAgg69 Tryz.sizeOf69 (fun x : {x : Int × Int // SOk x} => sE x.1) (fun x => rfl)
    (fun x u hu => by simp [sE] at hu; rcases hu with rfl | rfl <;> rfl) (fun x y => cmpI (x.1.1 * y.1.2) (y.1.1 * x.1.2)) (fun x => sV x.1)
    (fun x y => by rw [cmpI_neg]; exact (qv_lt x.2.2.1 y.2.2.1).symm) 35 enterS g 0 cap dl w TSP cs hb hH
    (fun W _ x y => rcmpS_any x.1.1 x.1.2 y.1.1 y.1.2 W x.2.1 x.2.2 y.2.1 y.2.2) h0 (by omega)
  refine hs.mono ?_
  rintro e w' ⟨he, hh, x, y, hx, hy, hv⟩
  refine ⟨he, hh, x.1, y.1, x.2, y.2, ?_, ⟨hx 0 (by omega), hx 1 (by omega)⟩, ⟨hy 0 (by omega), hy 1 (by omega)⟩⟩
  rw [hv, List.map_map]
  rfl
set_option maxHeartbeats 3200000 in
set_option maxRecDepth 100000 in
/-- middle at slopes. -/
theorem rmidS_any (base : Nat) (v : Value) (d : List (Int × Int)) (w : World) (h : w.ownsRow base TSP 2 v d.length (cel sE d)) (h0 : 0 < d.length) (hr : ∀ x, x ∈ d → SOk x) (hb : base ≤ w.heap.size) (hn : d.length ≤ 1000000) :
    Calls Tryz.prog 34 #[v, .func (.func 35) #[] #[], .func (.func 37) #[] #[]] w (fun e w' => ∃ v', e = .returned v' ∧ WX w' v' (med (d.map sV)) 7 ∧ Below base w w') := by
  obtain ⟨g, o, cap, K, rfl, hg, hc1, hc2, hS⟩ := sortS_any base v d (w.alloc (.cells #[.bool false, .slice none 0 0, .bool false, .slice none 0 0] TR)) (h.alloc _) h0 hr hn
  obtain ⟨n, hl⟩ : ∃ n, d.length = n := ⟨_, rfl⟩
  obtain ⟨md, hmd⟩ : ∃ m, med (d.map sV) = m := ⟨_, rfl⟩
  rw [hl] at hS hc1 h0 hn ⊢
  rw [hmd] at hS ⊢
  have q1 : IntKind.i64.wrap ((n : Int) - 1) = (n : Int) - 1 := IntWalk.i64_in _ (by omega)
  have q2 : IntKind.i64.wrap (((n : Int) - 1).tdiv 2) = (((n - 1) / 2 : Nat) : Int) := by
    rw [Int.tdiv_eq_ediv_of_nonneg (by omega), IntWalk.i64_in _ (by omega)]; omega
  have q3 : IntKind.i64.wrap ((n : Int) / 2) = ((n / 2 : Nat) : Int) := by
    rw [IntWalk.i64_in _ (by omega)]; omega
  have p1 : (((n - 1) / 2 : Nat) : Int) < (n : Int) := by omega
  have p2 : ((n / 2 : Nat) : Int) < (n : Int) := by omega
  obtain ⟨i1, hi1⟩ : ∃ i, (n - 1) / 2 = i := ⟨_, rfl⟩
  obtain ⟨i2, hi2⟩ : ∃ i, n / 2 = i := ⟨_, rfl⟩
  rw [hi1] at hS q2 p1
  rw [hi2] at hS q3 p2
  clear hi1 hi2
  clear h hr hl hmd
  go_enter Tryz.func34, Tryz.ntmps34
  go_wp2_with fail
  refine hS.mono ?_
  rintro e w1 ⟨rfl, hh1, ⟨x1, x2⟩, ⟨y1, y2⟩, hx, hy, hm, hcx, hcy⟩
  clear hS
  have b6 : Blk w1 w.heap.size TR #[.bool false, .slice none 0 0, .bool false, .slice none 0 0] := (hh1.other (by decide) (Blk.new_ TR #[.bool false, .slice none 0 0, .bool false, .slice none 0 0] rfl)).trans (Blk.new_ _ _ rfl)
  have B6 := Lib.hid b6
  have hbw : Below base w w1 := hh1.belowB ((Below.refl _ _).alloc hb _) hb hg
  have HBW := Lib.hid hbw
  have HM := Lib.hid hm
  have HX := Lib.hid hx
  have HY := Lib.hid hy
  clear b6 hm hx hy hbw
  go_upto_region 3 with fail
  have kx := fun w' (hh : Ext w1 w') => (show w'.cell? ⟨g, o + i1 * 2, none⟩ = some (.int .i64 x1) ∧ w'.cell? ⟨g, o + i1 * 2 + 1, none⟩ = some (.int .i64 x2) from ⟨Ext.cell hh hcx.1, Ext.cell hh hcx.2⟩)
  have ky := fun w' (hh : Ext w1 w') => (show w'.cell? ⟨g, o + i2 * 2, none⟩ = some (.int .i64 y1) ∧ w'.cell? ⟨g, o + i2 * 2 + 1, none⟩ = some (.int .i64 y2) from ⟨Ext.cell hh hcy.1, Ext.cell hh hcy.2⟩)
  have hst : Ext w1 w1.drew := Ext.drew _
  refine wp_region_adv 17 [⟨15, 8, TR, #[.bool false, .slice none 0 0, .bool false, .slice none 0 0]⟩, ⟨16, 9, TR, #[.bool false, .slice none 0 0, .bool false, .slice none 0 0]⟩] [(0, true, some 15, none), (1, true, some 16, none), (2, true, some 17, none), (3, true, some 18, none), (4, true, some 19, none), (5, true, some 20, none), (6, true, some 21, none), (8, true, some 23, none), (9, true, some 24, none), (10, true, some 25, none), (11, true, some 26, none), (12, true, some 27, none), (13, true, some 28, none), (7, false, some 22, none), (14, false, some 29, none)] (by kernel_rfl) (by kernel_rfl) (by kernel_rfl) (by intro it hit; (repeat (rcases List.mem_cons.1 hit with rfl | hit; (focus (intro o ho ev w; injection ho with ho; subst ho; kernel_rfl)))); cases hit) (fun _ _ _ _ _ => ⟨fun h => h, fun h => h⟩) hst ?_
  repeat (first | (refine wpSeq_pure (v := ?_) rfl ?_ ?_; rotate_left 1; (focus (intro wq_ hSq_; (try dsimp only at hSq_); go_simp; (try with_reducible rfl); done)); (try simp only [Act.put, List.setIfInBounds_toArray, List.set_cons_zero, List.set_cons_succ])) | (refine wpSeq_pureG (v := ?_) rfl rfl ?_ ?_; rotate_left 1; (focus (intro wq_ hSq_; (try dsimp only at hSq_); go_simp; (try with_reducible rfl); done)); (try simp only [Act.put, List.setIfInBounds_toArray, List.set_cons_zero, List.set_cons_succ])) | (refine wpSeq_off rfl rfl ?_; (try simp only [Act.put, List.setIfInBounds_toArray, List.set_cons_zero, List.set_cons_succ])))
  first | refine wpSeq_call rfl (fun u1 g1 s1 K hK => ?_) | refine wpSeq_callG rfl rfl (fun u1 g1 s1 K hK => ?_)
  go_simp
  refine (rrat_any x1 x2 u1 (by have := HX.out; unfold SOk at this; omega) (by have := HX.out; unfold SOk at this; omega) (by have := HX.out; unfold SOk at this; omega) (by have := HX.out; unfold SOk at this; omega) (by have := HX.out; unfold SOk at this; omega)).mono ?_
  rintro e z1 ⟨v1, rfl, hv1, b1⟩
  have w1x := wx_rat HX.out hv1
  obtain ⟨d2, A2, n2, c2, d2', A2', n2', c2', rfl⟩ := w1x.form
  clear hv1
  (try go_wp2_with fail)
  refine hK.out _ _ b1 ?_
  clear hK K
  (try simp only [Act.put, List.setIfInBounds_toArray, List.set_cons_zero, List.set_cons_succ])
  repeat (first | (refine wpSeq_pure (v := ?_) rfl ?_ ?_; rotate_left 1; (focus (intro wq_ hSq_; (try dsimp only at hSq_); go_simp; (try with_reducible rfl); done)); (try simp only [Act.put, List.setIfInBounds_toArray, List.set_cons_zero, List.set_cons_succ])) | (refine wpSeq_pureG (v := ?_) rfl rfl ?_ ?_; rotate_left 1; (focus (intro wq_ hSq_; (try dsimp only at hSq_); go_simp; (try with_reducible rfl); done)); (try simp only [Act.put, List.setIfInBounds_toArray, List.set_cons_zero, List.set_cons_succ])) | (refine wpSeq_off rfl rfl ?_; (try simp only [Act.put, List.setIfInBounds_toArray, List.set_cons_zero, List.set_cons_succ])))
  first | refine wpSeq_call rfl (fun u2 g2 s2 K hK => ?_) | refine wpSeq_callG rfl rfl (fun u2 g2 s2 K hK => ?_)
  go_simp
  refine (rrat_any y1 y2 u2 (by have := HY.out; unfold SOk at this; omega) (by have := HY.out; unfold SOk at this; omega) (by have := HY.out; unfold SOk at this; omega) (by have := HY.out; unfold SOk at this; omega) (by have := HY.out; unfold SOk at this; omega)).mono ?_
  rintro e z2 ⟨v2, rfl, hv2, b2⟩
  have w2x := wx_rat HY.out hv2
  obtain ⟨d3, A3, n3, c3, d3', A3', n3', c3', rfl⟩ := w2x.form
  clear hv2
  (try go_wp2_with fail)
  refine hK.out _ _ b2 ?_
  clear hK K
  (try simp only [Act.put, List.setIfInBounds_toArray, List.set_cons_zero, List.set_cons_succ])
  repeat (first | (refine wpSeq_pure (v := ?_) rfl ?_ ?_; rotate_left 1; (focus (intro wq_ hSq_; (try dsimp only at hSq_); go_simp; (try with_reducible rfl); done)); (try simp only [Act.put, List.setIfInBounds_toArray, List.set_cons_zero, List.set_cons_succ])) | (refine wpSeq_pureG (v := ?_) rfl rfl ?_ ?_; rotate_left 1; (focus (intro wq_ hSq_; (try dsimp only at hSq_); go_simp; (try with_reducible rfl); done)); (try simp only [Act.put, List.setIfInBounds_toArray, List.set_cons_zero, List.set_cons_succ])) | (refine wpSeq_off rfl rfl ?_; (try simp only [Act.put, List.setIfInBounds_toArray, List.set_cons_zero, List.set_cons_succ])))
  intro wz gz sz_
  (try simp only [endJ, List.drop_succ_cons, List.drop_zero])
  intro R1 hr1 hu1 hB1 R2 hr2 hu2 hB2
  (try simp only [endJ, Act.put, ptr, List.setIfInBounds_toArray, List.set_cons_zero, List.set_cons_succ])
  have NE := Lib.hid (show R1 ≠ R2 by simp at hu2; omega)
  have k1 := zcells0 hB1
  have kf1 := hB1.free
  have k2 := zcells0 hB2
  have kf2 := hB2.free
  have X1 := Lib.hid (((w1x.below g2).below b2).below gz)
  have X2 := Lib.hid (w2x.below gz)
  have SZ := Lib.hid sz_
  have HB1 := Lib.hid hB1
  have HB2 := Lib.hid hB2
  have HR := Lib.hid (show w1.heap.size ≤ R1 ∧ w1.heap.size ≤ R2 from ⟨hr1, hr2⟩)
  have ne := NE.out
  have ne' := NE.out.symm
  clear w1x w2x b1 b2 g1 g2 s1 s2 kx ky hst hB1 hB2 gz sz_ hu1 hu2 hr1 hr2
  go_upto_region 4 with fail
  refine wp_world (fun W => Blk W R1 TR #[.bool d2, .slice A2 n2 c2, .bool d2', .slice A2' n2' c2'] ∧ Blk W R2 TR #[.bool d3, .slice A3 n3 c3, .bool d3', .slice A3' n3' c3'] ∧ WX W (.agg #[.bool d2, .slice A2 n2 c2, .bool d2', .slice A2' n2' c2']) (sV (x1, x2)) 2 ∧ WX W (.agg #[.bool d3, .slice A3 n3 c3, .bool d3', .slice A3' n3' c3']) (sV (y1, y2)) 2 ∧ Ext w1 W)
    (by
      have h1 := heldPut HB1.out (.bool d2) (.slice A2 n2 c2) (.bool d2') (.slice A2' n2' c2')
      have G2 := HB2.out.held h1 NE.out.symm
      have h2 := heldPut G2 (.bool d3) (.slice A3 n3 c3) (.bool d3') (.slice A3' n3' c3')
      exact ⟨(HB1.out.put4 _ _ _ _).held h2 NE.out, G2.put4 _ _ _ _, (X1.out.held h1 (by decide)).held h2 (by decide), (X2.out.held h1 (by decide)).held h2 (by decide), h2.below (h1.below SZ.out HR.out.1) HR.out.2⟩) ?_
  rintro W4 ⟨f1, f2, x1_, x2_, hb4⟩
  have X1 := Lib.hid x1_
  have X2 := Lib.hid x2_
  have HB4 := Lib.hid hb4
  have k1 := zcells0 f1
  have k2 := zcells0 f2
  clear kf1 kf2 f1 f2 x1_ x2_ hb4 ne ne' NE HR SZ HB1 HB2
  go_wp2_with fail
  refine (vadd_any X1.out X2.out (by omega)).mono ?_
  rintro e w5 ⟨v5, rfl, x5, b5⟩
  obtain ⟨d5, A5, n5, c5, d5', A5', n5', c5', rfl⟩ := x5.form
  clear k1 k2
  go_wp2_with fail
  refine (vwhole_any 2 _ (by omega) (by omega)).mono ?_
  rintro e w6 ⟨v6, rfl, x6, b6⟩
  obtain ⟨d6, A6, n6, c6, d6', A6', n6', c6', rfl⟩ := x6.form
  go_wp2_with fail
  refine (vdiv_any (x5.below b6) x6 (by decide) (by omega)).mono ?_
  rintro e w7 ⟨v7, rfl, x7, b7⟩
  obtain ⟨d7, A7, n7, c7, d7', A7', n7', c7', rfl⟩ := x7.form
  have HB7 := Lib.hid (show Ext w1 w7 from bt HB4.out (bt b5 (bt b6 b7)))
  have X7 := Lib.hid x7
  have hh7 : Held w.heap.size 4 TR w7 w7 := (B6.out.below HB7.out).heldS
  have k7 := zcells0 (B6.out.below HB7.out)
  have kf7 := (B6.out.below HB7.out).free
  have r7 := (rules w.heap.size 4 TR w7).some
  clear x5 x6 x7 b5 b6 b7
  go_wp2
  (try simp only [Exit.inBlock, Exit.then])
  refine bodyPost_ret (v := .agg #[.bool d7, .slice A7 n7 c7, .bool d7', .slice A7' n7' c7']) (by simp [results, Tryz.results34, go_sem, r7 _ hh7]) rfl ?_
  have hst2 := Held.set_ (Held.set_ (Held.set_ (Held.set_ (hh7.here) 0 (.bool d7)) 1 (.slice A7 n7 c7)) 2 (.bool d7')) 3 (.slice A7' n7' c7')
  exact ⟨_, rfl, (X7.out.held hst2 (by decide)).eq HM.out, hst2.belowB (btB HBW.out hb HB7.out) hb hb⟩
/-- A fraction's four cells, and its value. -/
abbrev RE := List Value × Rat
abbrev rE : RE → List Value := Prod.fst
/-- The elements read as fractions of the program. -/
def QW (w : World) (s : Nat) (d : List RE) : Prop := ∀ x, x ∈ d → x.1.length = 4 ∧ WX w (.agg x.1.toArray) x.2 s
theorem QW.below {w w' : World} {s : Nat} {d : List RE} (h : QW w s d) (hb : Below w.heap.size w w') : QW w' s d := fun x hx => ⟨(h x hx).1, (h x hx).2.below hb⟩
theorem QW.form {w : World} {s : Nat} {x : RE} (h : WX w (.agg x.1.toArray) x.2 s) : ∃ b A n c b' A' n' c', x.1 = [.bool b, .slice A n c, .bool b', .slice A' n' c'] := by
  obtain ⟨b, A, n, c, b', A', n', c', he⟩ := h.form
  injection he with he
  exact ⟨b, A, n, c, b', A', n', c', by have := congrArg Array.toList he; simpa using this⟩
/-- An element that lies at an address. -/
def RAt (w : World) (g o s : Nat) (q : Rat) : Prop := ∃ b A n c b' A' n' c', WX w (.agg #[.bool b, .slice A n c, .bool b', .slice A' n' c']) q s ∧ w.cell? ⟨g, o, none⟩ = some (.bool b) ∧ w.cell? ⟨g, o + 1, none⟩ = some (.slice A n c) ∧ w.cell? ⟨g, o + 2, none⟩ = some (.bool b') ∧ w.cell? ⟨g, o + 3, none⟩ = some (.slice A' n' c')
theorem RAt.mk {w : World} {g o s : Nat} {x : RE} (h : WX w (.agg x.1.toArray) x.2 s) (hc : ∀ c, c < 4 → w.cell? ⟨g, o + c, none⟩ = some (rE x)[c]!) : RAt w g o s x.2 := by
  obtain ⟨b, A, n, c, b', A', n', c', he⟩ := QW.form h
  have he' : rE x = [.bool b, .slice A n c, .bool b', .slice A' n' c'] := he
  rw [he] at h
  rw [he'] at hc
  exact ⟨b, A, n, c, b', A', n', c', h, hc 0 (by omega), hc 1 (by omega), hc 2 (by omega), hc 3 (by omega)⟩
/-- The library's sort at fractions. -/
theorem sortR_any (base : Nat) (v : Value) (d : List RE) (s : Nat) (w : World) (h : w.ownsRow base TR 4 v d.length (cel rE d)) (h0 : 0 < d.length) (hr : QW w s d) (hs : s ≤ 10000000000) (hn : d.length ≤ 1000000) :
    ∃ g o cap K, v = .slice (some ⟨g, o, none⟩) d.length cap ∧ base ≤ g ∧ d.length ≤ cap ∧ cap ≤ 9223372036854775807 ∧ Calls Tryz.prog 66 #[v, .func (.func 39) #[] #[]] w (fun e w' => e = .returned (.tuple #[]) ∧ Held g K TR w w' ∧
      ∃ x y : Rat, (x + y) / 2 = med (d.map Prod.snd) ∧ RAt w' g (o + (d.length - 1) / 2 * 4) s x ∧ RAt w' g (o + d.length / 2 * 4) s y) := by
  obtain ⟨g, o, cap, cs, rfl, rfl, hg, hb, hc1, hc2⟩ := own_at h h0
  obtain ⟨dl, rfl⟩ := sub_list d hr
  have hm : cel rE (dl.map Subtype.val) = cel (fun x : {x : RE // x.1.length = 4 ∧ WX w (.agg x.1.toArray) x.2 s} => rE x.1) dl := cel_map _ _ _
  rw [hm, List.length_map] at h
  have hH := fun (_ : Inhabited {x : RE // x.1.length = 4 ∧ WX w (.agg x.1.toArray) x.2 s}) => own_holds h rfl (fun x _ => x.2.1)
  rw [List.length_map] at h0 hn hc1 ⊢
  refine ⟨g, 0, cap, cs.size, rfl, hg, hc1, hc2, ?_⟩
  haveI : Inhabited {x : RE // x.1.length = 4 ∧ WX w (.agg x.1.toArray) x.2 s} := ⟨dl[0]⟩
  have hs := sort_mid sortR_lay 4 Tryz.isAgg61 Tryz.sizeOf61 (fun x : {x : RE // x.1.length = 4 ∧ WX w (.agg x.1.toArray) x.2 s} => rE x.1) (fun x => x.2.1)
    (fun x u hu => by
      obtain ⟨b, A, n, c, b', A', n', c', he⟩ := QW.form x.2.2
      have hu' : u ∈ x.1.1 := hu
      rw [he] at hu'
      simp only [List.mem_cons, List.not_mem_nil, or_false] at hu'
      rcases hu' with rfl | rfl | rfl | rfl <;> rfl) (fun x y => cmpR x.1.2 y.1.2) (fun x => x.1.2)
    (fun x y => cmpR_lt) 39 enterR g 0 cap dl w TR cs hb (hH inferInstance)
    (fun W hW x y => vcmp_any (x.2.2.held hW (by decide)) (y.2.2.held hW (by decide)) (by omega)) h0 (by omega)
  refine hs.mono ?_
  rintro e w' ⟨he, hh, x, y, hx, hy, hv⟩
  refine ⟨he, hh, x.1.2, y.1.2, ?_, RAt.mk (x.2.2.held hh (by decide)) hx, RAt.mk (y.2.2.held hh (by decide)) hy⟩
  rw [hv, List.map_map]
  rfl
set_option maxHeartbeats 3200000 in
set_option maxRecDepth 100000 in
/-- middle at fractions. -/
theorem rmidR_any (base : Nat) (v : Value) (d : List RE) (s : Nat) (w : World) (h : w.ownsRow base TR 4 v d.length (cel rE d)) (h0 : 0 < d.length) (hr : QW w s d) (hs : s ≤ 10000000000) (hb : base ≤ w.heap.size) (hn : d.length ≤ 1000000) :
    Calls Tryz.prog 38 #[v, .func (.func 39) #[] #[], .func (.func 40) #[] #[]] w (fun e w' => ∃ v', e = .returned v' ∧ WX w' v' (med (d.map Prod.snd)) (s + s + 3) ∧ ∀ g o n c cs, v = .slice (some ⟨g, o, none⟩) n c → w.heap[g]? = some (.cells cs TR (0, 0)) → Held g cs.size TR w w') := by
  obtain ⟨g0, o0, cap0, cs0, _, hv0, _, hbk0, _⟩ := own_at h h0
  obtain ⟨g, o, cap, K, rfl, hg, hc1, hc2, hS⟩ := sortR_any base v d s (w.alloc (.cells #[.bool false, .slice none 0 0, .bool false, .slice none 0 0] TR)) (h.alloc _) h0 (hr.below ((Below.refl _ _).alloc (Nat.le_refl _) _)) hs hn
  have hgg : g = g0 := by injection hv0 with hv0; injection hv0 with hv0; injection hv0
  subst hgg
  have hlt := block_lt hbk0
  obtain ⟨n, hl⟩ : ∃ n, d.length = n := ⟨_, rfl⟩
  obtain ⟨md, hmd⟩ : ∃ m, med (d.map Prod.snd) = m := ⟨_, rfl⟩
  rw [hl] at hS hc1 h0 hn ⊢
  rw [hmd] at hS ⊢
  have q1 : IntKind.i64.wrap ((n : Int) - 1) = (n : Int) - 1 := IntWalk.i64_in _ (by omega)
  have q2 : IntKind.i64.wrap (((n : Int) - 1).tdiv 2) = (((n - 1) / 2 : Nat) : Int) := by
    rw [Int.tdiv_eq_ediv_of_nonneg (by omega), IntWalk.i64_in _ (by omega)]; omega
  have q3 : IntKind.i64.wrap ((n : Int) / 2) = ((n / 2 : Nat) : Int) := by
    rw [IntWalk.i64_in _ (by omega)]; omega
  have p1 : (((n - 1) / 2 : Nat) : Int) < (n : Int) := by omega
  have p2 : ((n / 2 : Nat) : Int) < (n : Int) := by omega
  obtain ⟨i1, hi1⟩ : ∃ i, (n - 1) / 2 = i := ⟨_, rfl⟩
  obtain ⟨i2, hi2⟩ : ∃ i, n / 2 = i := ⟨_, rfl⟩
  rw [hi1] at hS q2 p1
  rw [hi2] at hS q3 p2
  clear hi1 hi2
  clear h hr hl hmd hv0 hbk0
  go_enter Tryz.func38, Tryz.ntmps38
  go_wp2_with fail
  refine hS.mono ?_
  rintro e w1 ⟨rfl, hh1, x, y, hm, ⟨x1, X1, m1, l1, x2, X2, m2, l2, hx, hcx⟩, ⟨y1, Y1, r1, t1, y2, Y2, r2, t2, hy, hcy⟩⟩
  clear hS
  have b6 : Blk w1 w.heap.size TR #[.bool false, .slice none 0 0, .bool false, .slice none 0 0] := (Blk.new_ TR #[.bool false, .slice none 0 0, .bool false, .slice none 0 0] rfl).held hh1 (by omega)
  have B6 := Lib.hid b6
  have hbw := held_first hh1 hlt
  have HBW := Lib.hid hbw
  have HM := Lib.hid hm
  have HX := Lib.hid hx
  have HY := Lib.hid hy
  clear b6 hm hx hy hbw
  go_upto_region 3 with fail
  have kx := fun w' (hh : Ext w1 w') => (show w'.cell? ⟨g, o + i1 * 4, none⟩ = some (.bool x1) ∧ w'.cell? ⟨g, o + i1 * 4 + 1, none⟩ = some (.slice X1 m1 l1) ∧ w'.cell? ⟨g, o + i1 * 4 + 2, none⟩ = some (.bool x2) ∧ w'.cell? ⟨g, o + i1 * 4 + 3, none⟩ = some (.slice X2 m2 l2) from ⟨Ext.cell hh hcx.1, Ext.cell hh hcx.2.1, Ext.cell hh hcx.2.2.1, Ext.cell hh hcx.2.2.2⟩)
  have ky := fun w' (hh : Ext w1 w') => (show w'.cell? ⟨g, o + i2 * 4, none⟩ = some (.bool y1) ∧ w'.cell? ⟨g, o + i2 * 4 + 1, none⟩ = some (.slice Y1 r1 t1) ∧ w'.cell? ⟨g, o + i2 * 4 + 2, none⟩ = some (.bool y2) ∧ w'.cell? ⟨g, o + i2 * 4 + 3, none⟩ = some (.slice Y2 r2 t2) from ⟨Ext.cell hh hcy.1, Ext.cell hh hcy.2.1, Ext.cell hh hcy.2.2.1, Ext.cell hh hcy.2.2.2⟩)
  have hst : Ext w1 w1.drew := Ext.drew _
  refine wp_region_adv 17 [⟨15, 8, TR, #[.bool false, .slice none 0 0, .bool false, .slice none 0 0]⟩, ⟨16, 9, TR, #[.bool false, .slice none 0 0, .bool false, .slice none 0 0]⟩] [(0, true, some 15, none), (1, true, some 16, none), (2, true, some 17, none), (3, true, some 18, none), (4, true, some 19, none), (5, true, some 20, none), (6, true, some 21, none), (8, true, some 23, none), (9, true, some 24, none), (10, true, some 25, none), (11, true, some 26, none), (12, true, some 27, none), (13, true, some 28, none), (7, false, some 22, none), (14, false, some 29, none)] (by kernel_rfl) (by kernel_rfl) (by kernel_rfl) (by intro it hit; (repeat (rcases List.mem_cons.1 hit with rfl | hit; (focus (intro o ho ev w; injection ho with ho; subst ho; kernel_rfl)))); cases hit) (fun _ _ _ _ _ => ⟨fun h => h, fun h => h⟩) hst ?_
  repeat (first | (refine wpSeq_pure (v := ?_) rfl ?_ ?_; rotate_left 1; (focus (intro wq_ hSq_; (try dsimp only at hSq_); go_simp; (try with_reducible rfl); done)); (try simp only [Act.put, List.setIfInBounds_toArray, List.set_cons_zero, List.set_cons_succ])) | (refine wpSeq_pureG (v := ?_) rfl rfl ?_ ?_; rotate_left 1; (focus (intro wq_ hSq_; (try dsimp only at hSq_); go_simp; (try with_reducible rfl); done)); (try simp only [Act.put, List.setIfInBounds_toArray, List.set_cons_zero, List.set_cons_succ])) | (refine wpSeq_off rfl rfl ?_; (try simp only [Act.put, List.setIfInBounds_toArray, List.set_cons_zero, List.set_cons_succ])))
  first | refine wpSeq_call rfl (fun u1 g1 s1 K hK => ?_) | refine wpSeq_callG rfl rfl (fun u1 g1 s1 K hK => ?_)
  go_simp
  refine (rsame_any _ x s u1 (HX.out.below s1)).mono ?_
  rintro e z1 ⟨v1, rfl, w1x, b1⟩
  obtain ⟨d2, A2, n2, c2, d2', A2', n2', c2', rfl⟩ := w1x.form
  (try go_wp2_with fail)
  refine hK.out _ _ b1 ?_
  clear hK K
  (try simp only [Act.put, List.setIfInBounds_toArray, List.set_cons_zero, List.set_cons_succ])
  repeat (first | (refine wpSeq_pure (v := ?_) rfl ?_ ?_; rotate_left 1; (focus (intro wq_ hSq_; (try dsimp only at hSq_); go_simp; (try with_reducible rfl); done)); (try simp only [Act.put, List.setIfInBounds_toArray, List.set_cons_zero, List.set_cons_succ])) | (refine wpSeq_pureG (v := ?_) rfl rfl ?_ ?_; rotate_left 1; (focus (intro wq_ hSq_; (try dsimp only at hSq_); go_simp; (try with_reducible rfl); done)); (try simp only [Act.put, List.setIfInBounds_toArray, List.set_cons_zero, List.set_cons_succ])) | (refine wpSeq_off rfl rfl ?_; (try simp only [Act.put, List.setIfInBounds_toArray, List.set_cons_zero, List.set_cons_succ])))
  first | refine wpSeq_call rfl (fun u2 g2 s2 K hK => ?_) | refine wpSeq_callG rfl rfl (fun u2 g2 s2 K hK => ?_)
  go_simp
  refine (rsame_any _ y s u2 (HY.out.below s2)).mono ?_
  rintro e z2 ⟨v2, rfl, w2x, b2⟩
  obtain ⟨d3, A3, n3, c3, d3', A3', n3', c3', rfl⟩ := w2x.form
  (try go_wp2_with fail)
  refine hK.out _ _ b2 ?_
  clear hK K
  (try simp only [Act.put, List.setIfInBounds_toArray, List.set_cons_zero, List.set_cons_succ])
  repeat (first | (refine wpSeq_pure (v := ?_) rfl ?_ ?_; rotate_left 1; (focus (intro wq_ hSq_; (try dsimp only at hSq_); go_simp; (try with_reducible rfl); done)); (try simp only [Act.put, List.setIfInBounds_toArray, List.set_cons_zero, List.set_cons_succ])) | (refine wpSeq_pureG (v := ?_) rfl rfl ?_ ?_; rotate_left 1; (focus (intro wq_ hSq_; (try dsimp only at hSq_); go_simp; (try with_reducible rfl); done)); (try simp only [Act.put, List.setIfInBounds_toArray, List.set_cons_zero, List.set_cons_succ])) | (refine wpSeq_off rfl rfl ?_; (try simp only [Act.put, List.setIfInBounds_toArray, List.set_cons_zero, List.set_cons_succ])))
  intro wz gz sz_
  (try simp only [endJ, List.drop_succ_cons, List.drop_zero])
  intro R1 hr1 hu1 hB1 R2 hr2 hu2 hB2
  (try simp only [endJ, Act.put, ptr, List.setIfInBounds_toArray, List.set_cons_zero, List.set_cons_succ])
  have NE := Lib.hid (show R1 ≠ R2 by simp at hu2; omega)
  have k1 := zcells0 hB1
  have kf1 := hB1.free
  have k2 := zcells0 hB2
  have kf2 := hB2.free
  have X1 := Lib.hid (((w1x.below g2).below b2).below gz)
  have X2 := Lib.hid (w2x.below gz)
  have SZ := Lib.hid sz_
  have HB1 := Lib.hid hB1
  have HB2 := Lib.hid hB2
  have HR := Lib.hid (show w1.heap.size ≤ R1 ∧ w1.heap.size ≤ R2 from ⟨hr1, hr2⟩)
  have ne := NE.out
  have ne' := NE.out.symm
  clear w1x w2x b1 b2 g1 g2 s1 s2 kx ky hst hB1 hB2 gz sz_ hu1 hu2 hr1 hr2
  go_upto_region 4 with fail
  refine wp_world (fun W => Blk W R1 TR #[.bool d2, .slice A2 n2 c2, .bool d2', .slice A2' n2' c2'] ∧ Blk W R2 TR #[.bool d3, .slice A3 n3 c3, .bool d3', .slice A3' n3' c3'] ∧ WX W (.agg #[.bool d2, .slice A2 n2 c2, .bool d2', .slice A2' n2' c2']) (x) s ∧ WX W (.agg #[.bool d3, .slice A3 n3 c3, .bool d3', .slice A3' n3' c3']) (y) s ∧ Ext w1 W)
    (by
      have h1 := heldPut HB1.out (.bool d2) (.slice A2 n2 c2) (.bool d2') (.slice A2' n2' c2')
      have G2 := HB2.out.held h1 NE.out.symm
      have h2 := heldPut G2 (.bool d3) (.slice A3 n3 c3) (.bool d3') (.slice A3' n3' c3')
      exact ⟨(HB1.out.put4 _ _ _ _).held h2 NE.out, G2.put4 _ _ _ _, (X1.out.held h1 (by decide)).held h2 (by decide), (X2.out.held h1 (by decide)).held h2 (by decide), h2.below (h1.below SZ.out HR.out.1) HR.out.2⟩) ?_
  rintro W4 ⟨f1, f2, x1_, x2_, hb4⟩
  have X1 := Lib.hid x1_
  have X2 := Lib.hid x2_
  have HB4 := Lib.hid hb4
  have k1 := zcells0 f1
  have k2 := zcells0 f2
  clear kf1 kf2 f1 f2 x1_ x2_ hb4 ne ne' NE HR SZ HB1 HB2
  go_wp2_with fail
  refine (vadd_any X1.out X2.out (by omega)).mono ?_
  rintro e w5 ⟨v5, rfl, x5, b5⟩
  obtain ⟨d5, A5, n5, c5, d5', A5', n5', c5', rfl⟩ := x5.form
  clear k1 k2
  go_wp2_with fail
  refine (vwhole_any 2 _ (by omega) (by omega)).mono ?_
  rintro e w6 ⟨v6, rfl, x6, b6⟩
  obtain ⟨d6, A6, n6, c6, d6', A6', n6', c6', rfl⟩ := x6.form
  go_wp2_with fail
  refine (vdiv_any (x5.below b6) x6 (by decide) (by omega)).mono ?_
  rintro e w7 ⟨v7, rfl, x7, b7⟩
  obtain ⟨d7, A7, n7, c7, d7', A7', n7', c7', rfl⟩ := x7.form
  have HB7 := Lib.hid (show Ext w1 w7 from bt HB4.out (bt b5 (bt b6 b7)))
  have X7 := Lib.hid x7
  have hh7 : Held w.heap.size 4 TR w7 w7 := (B6.out.below HB7.out).heldS
  have k7 := zcells0 (B6.out.below HB7.out)
  have kf7 := (B6.out.below HB7.out).free
  have r7 := (rules w.heap.size 4 TR w7).some
  clear x5 x6 x7 b5 b6 b7
  go_wp2
  (try simp only [Exit.inBlock, Exit.then])
  refine bodyPost_ret (v := .agg #[.bool d7, .slice A7 n7 c7, .bool d7', .slice A7' n7' c7']) (by simp [results, Tryz.results38, go_sem, r7 _ hh7]) rfl ?_
  have hst2 := Held.set_ (Held.set_ (Held.set_ (Held.set_ (hh7.here) 0 (.bool d7)) 1 (.slice A7 n7 c7)) 2 (.bool d7')) 3 (.slice A7' n7' c7')
  refine ⟨_, rfl, ((X7.out.held hst2 (by decide)).eq HM.out).le (by omega), fun g' o' n' c' cs' hv' hb' => ?_⟩
  injection hv' with hv'
  injection hv' with hv'
  injection hv' with hv'
  subst hv'
  have hfin := (HBW.out.trans_ HB7.out).trans2_new hst2 (by have := B6.out.lt; omega)
  obtain ⟨cs2, h1, h2⟩ := hfin.r0
  rw [hb'] at h1
  injection h1 with h1
  injection h1 with h1
  subst h1
  rw [h2]
  exact hfin
end Go.Proofs.Tb
