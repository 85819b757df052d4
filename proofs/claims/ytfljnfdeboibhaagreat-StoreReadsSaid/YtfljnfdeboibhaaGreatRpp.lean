/- StoreReads: the walk. -/
import Derived.Test.YtfljnfdeboibhaaGreatRpo
import Derived.Deep.DeepCutAuto
import Derived.Deep.CutRange
set_option linter.unusedVariables false
set_option linter.unusedSimpArgs false
namespace Go.Proofs.Tb
open Go.Maps Go.RowKit Go.Lib Go.Shelf
attribute [local go_sem] cell_set_same neqMapL binOp_string_geq' Oper.semAt_some

abbrev TQU : TypeId := 71
abbrev TSQ : TypeId := 81
theorem equalIn_fn (f : Fn) (c b : Array Value) (w : World) (d : Nat) : (Op.equalIn (d + 1) TSQ (.func f c b) .nilFunc).run Tryz.prog w = .ok false w := by
  simp [Op.equalIn, run_underlying Tryz.underlying81]
@[local go_sem] theorem eqlFnL (f : Fn) (c b : Array Value) (w : World) : (binOp .eql TSQ (.func f c b) .nilFunc).run Tryz.prog w = .ok (.bool false) w := by
  simp only [binOp]
  simp [Op.equal, Op.maxDepth, equalIn_fn f c b w 9999]
theorem wp_norm {P : Program} {c : Code} {K : Act → World → Prop} {Q : Exit → Act → World → Prop} {a : Act} {w : World} (h : c.wp P (Exit.then K (fun _ _ _ => False)) a w) : c.wp P (Exit.then K Q) a w :=
  Go.wp_mono h fun e a w he => by cases e <;> first | exact he | exact he.elim
/-- Where StoreReads stands. -/
structure RqS (w W : World) (s d keep Q H R : Nat) (Vs : List (List Pr)) (A : Option Addr) (m c : Nat) (qf qt qm : Int) (ql qh : Str) : Prop where
  st : STl (fun b => w.heap.size ≤ b) W s d keep 1536 Vs 0
  rv : RSv W (.agg #[.slice A m c, .int .i64 (keep : Int)]) Vs keep
  hb : Blk W H TRS #[.slice A m c, .int .i64 (keep : Int)]
  qb : Blk W Q TQU #[.int .i64 qf, .int .i64 qt, .string ql, .string qh, .int .i64 qm]
  rb : Blk W R TBO #[.bool false]
  ex : Ext w W
theorem RqS.ext {w W W' : World} {s d keep Q H R : Nat} {Vs : List (List Pr)} {A : Option Addr} {m c : Nat} {qf qt qm : Int} {ql qh : Str} (h : RqS w W s d keep Q H R Vs A m c qf qt qm ql qh) (x : Ext W W') : RqS w W' s d keep Q H R Vs A m c qf qt qm ql qh :=
  ⟨h.st.ext x, h.rv.ext x, h.hb.below x, h.qb.below x, h.rb.below x, bt h.ex x⟩
theorem RqS.cells {w W : World} {s d keep Q H R : Nat} {Vs : List (List Pr)} {A : Option Addr} {m c : Nat} {qf qt qm : Int} {ql qh : Str} (h : RqS w W s d keep Q H R Vs A m c qf qt qm ql qh) :
    (W.cell? ⟨H, 0, none⟩ = some (.slice A m c) ∧ W.cell? ⟨H, 1, none⟩ = some (.int .i64 (keep : Int))) ∧
    W.cell? ⟨Q, 0, none⟩ = some (.int .i64 qf) ∧ W.cell? ⟨Q, 1, none⟩ = some (.int .i64 qt) ∧ W.cell? ⟨Q, 2, none⟩ = some (.string ql) ∧ W.cell? ⟨Q, 3, none⟩ = some (.string qh) ∧ W.cell? ⟨Q, 4, none⟩ = some (.int .i64 qm) := by
  have k1 := h.hb.cells
  have k2 := h.qb.cells
  simp only [cellsAre, Nat.zero_add, Nat.reduceAdd, and_true] at k1 k2
  exact ⟨k1, k2⟩
/-- What the loop over All holds. -/
structure AlI (wA : World) (Bo : Nat) (pre : List Pr) (W : World) : Prop where
  ou : ∃ v, Blk W Bo TPS #[v] ∧ OwP wA.heap.size W v pre
  ex : Ext wA W
theorem AlI.ext {wA W W' : World} {Bo : Nat} {pre : List Pr} (h : AlI wA Bo pre W) (x : Ext W W') : AlI wA Bo pre W' := by
  obtain ⟨v, h1, h2⟩ := h.ou
  exact ⟨⟨v, h1.below x, own_below h2 x⟩, bt h.ex x⟩
theorem AlI.own (wA : World) (Bo B : Nat) (hB : wA.heap.size ≤ B) : OwnFrom B (AlI wA Bo) := fun s W W' row h hg hr => by
  obtain ⟨v, h1, h2⟩ := h.ou
  exact ⟨⟨v, keepB hg hr h1, own_keep h2 fun g cs _ _ hb => (keepB hg hr hb).trans hb.symm⟩, Below.grown h.ex hg (Ext.size h.ex) (fun k e => Nat.le_trans hB (hr k e).1)⟩
theorem AlI.app {w W w1 : World} {Bo : Nat} {pre : List Pr} {x : Pr} {A0 A1 : Option Addr} {pl c0 c1 : Nat} (h : AlI w Bo pre W) (hO : Blk W Bo TPS #[.slice A0 pl c0]) (ho : OwP w.heap.size W (.slice A0 pl c0) pre) (hpl : pre.length = pl) (tmp : Obj)
    (o1 : w1.ownsRow w.heap.size TPA 2 (.slice A1 (pl + 1) c1) (pl + 1) (pcs pre ++ pcs [x])) (g1 : (W.alloc tmp).grownBy w1 (Value.slice A0 pl c0).ownBlock) (hB : w.heap.size ≤ Bo) :
    Blk w1 Bo TPS #[.slice A0 pl c0] ∧ AlI w Bo (pre ++ [x]) (w1.setCell ⟨Bo, 0, none⟩ (.slice A1 (pl + 1) c1)) ∧ KeepsOthers W (w1.setCell ⟨Bo, 0, none⟩ (.slice A1 (pl + 1) c1)) ∧ KN W (w1.setCell ⟨Bo, 0, none⟩ (.slice A1 (pl + 1) c1)) := by
  have ho' := own_below ho (Ext.allocR W tmp)
  have hb1 : Blk w1 Bo TPS #[.slice A0 pl c0] := grow_blk g1 ho' (by decide) (hO.alloc tmp)
  have ne : ∀ {b : Nat} {T : TypeId} {cs : Array Value}, T ≠ TPS → Blk w1 b T cs → b ≠ Bo := fun {b T cs} hT hb e => by
    subst e
    unfold Blk at hb hb1
    rw [hb] at hb1
    injection hb1 with hb1
    injection hb1 with _ hb1
    exact hT hb1
  have hbel : Below w.heap.size W w1 := ((Below.refl _ W).alloc (Ext.size h.ex) tmp).grown g1 (Nat.le_trans (Ext.size h.ex) (by simp)) (own_geE ho')
  refine ⟨hb1, ⟨⟨_, hb1.set_ 0 _, ?_⟩, (Below.trans h.ex hbel).setCell (p := ⟨Bo, 0, none⟩) hB _⟩, ?_, ?_⟩
  · unfold OwP
    rw [pcs_app, List.length_append, hpl]
    exact own_far o1 (p := ⟨Bo, 0, none⟩) hb1 (by decide) _
  · refine (KeepsOthers.alloc W tmp).trans (KeepsOthers.trans (KeepsOthers.of_grownBy g1 fun j o e hj => ?_) (KeepsOthers.setCell _ _ _))
    rcases ho'.2 with ⟨e2, _⟩ | ⟨q, cap, cur, e2, _, h2, _⟩
    · rw [e2] at e; cases e
    · rw [e2] at e
      simp only [Value.ownBlock, Option.some.injEq] at e
      subst e
      rw [h2] at hj
      injection hj with hj
      subst hj
      rfl
  · intro b cs hb
    have h1 : Blk w1 b TNO cs := grow_blk g1 ho' (by decide) (Blk.alloc (w := W) hb tmp)
    exact h1.far (p := ⟨Bo, 0, none⟩) (ne (by decide) h1) _
theorem RqS.at_ {w W : World} {s d keep Q H R : Nat} {Vs : List (List Pr)} {A : Option Addr} {m c : Nat} {qf qt qm : Int} {ql qh : Str} (h : RqS w W s d keep Q H R Vs A m c qf qt qm ql qh) {a : Nat} (ha : a < Vs.length) :
    ∃ b o Az cz L, A = some ⟨b, o, none⟩ ∧ Vs.getD a [] = L ∧ (a : Int) < (m : Int) ∧ W.cell? ⟨b, o + a, none⟩ = some (.slice Az L.length cz) ∧ Rv W 2 Az L.length cz (pcs L) ∧ L ∈ Vs := by
  obtain ⟨A', m', c', e1, hov, hm, _, _⟩ := h.rv.form
  injection e1 with e1
  injection e1 with e1
  injection e1 with e1 _
  injection e1 with e1 e2 e3
  subst e1 e2 e3
  obtain ⟨b, o, Az, cz, e, kz, rz⟩ := hov.at_ ha
  exact ⟨b, o, Az, cz, Vs[a], e, by simp [List.getD, ha], by omega, kz, rz, List.getElem_mem _⟩
theorem nat_le_of {m : Nat} (h : (m : Int) ≤ 9223372036854775807) : m ≤ 9223372036854775807 := by omega
theorem eGet_zero {e : Int} {kb : Bool} (h : eGet e kb = 0) : e = 0 ∧ kb = true := by
  unfold eGet at h
  split at h
  · cases h
  · rename_i hn
    refine ⟨h, ?_⟩
    cases kb with
    | true => rfl
    | false => exact absurd (Or.inr rfl) hn
theorem eRng_zero {e m : Int} (h : eRng e m = 0) : e = 0 ∧ 0 ≤ m := by
  unfold eRng at h
  split at h
  · cases h
  · exact ⟨h, by omega⟩
theorem difE_1 {f : Int} : difE 1 f = 1 := if_pos (Or.inl rfl)
theorem difE_2 {e f : Int} (_ : f = 1 ∨ e = 0) (he : e = 1) : difE e f = e := by subst he; exact difE_1
theorem difE_3 {e f : Int} (ce : e = 0 ∨ e = 1 ∨ e = 10) (cf : f = 0 ∨ f = 1 ∨ f = 10) (h : f = 1 ∨ e = 0) (he : ¬ e = 1) : difE e f = f := by
  rcases ce with rfl | rfl | rfl <;> rcases cf with rfl | rfl | rfl <;> first | rfl | exact absurd rfl he | (exfalso; omega)
theorem difE_4 {e f : Int} (ce : e = 0 ∨ e = 1 ∨ e = 10) (cf : f = 0 ∨ f = 1 ∨ f = 10) (h1 : ¬ f = 1) (h2 : ¬ e = 0) : difE e f = e := by
  rcases ce with rfl | rfl | rfl <;> rcases cf with rfl | rfl | rfl <;> first | rfl | (exfalso; omega)
theorem difE_zero {e f : Int} (h : difE e f = 0) : e = 0 ∧ f = 0 := by
  unfold difE at h
  split at h
  · cases h
  · split at h
    · cases h
    · omega
set_option maxHeartbeats 12800000 in
set_option maxRecDepth 100000 in
theorem rreads_any (A : Option Addr) (nx cx : Nat) (qf qt qm : Int) (ql qh : Str) (k0 : Int) (w : World) (h : OpX w A nx cx) (hql : ql.size ≤ 9223372036854775807) (hqh : qh.size ≤ 9223372036854775807) (hqm : qm ≤ 9223372036854775807) :
    Calls Tryz.prog 8 #[.slice A nx cx, .agg #[.int .i64 qf, .int .i64 qt, .string ql, .string qh, .int .i64 qm], .int .i64 k0] w (Ret (fun z _ => z = .bool true) w) := by
  have hro : Fence.wide.round = none := rfl
  have hd : Fence.wide.depth = none := rfl
  have hfn : ∀ f, Fence.wide.fn f := fun _ => trivial
  obtain ⟨keep, hkp, ekp⟩ := and7r k0
  obtain ⟨i0, hi0, hz0, hz1, hz2⟩ := info_parts pa_info
  have hle := h.le
  have hcp := h.cap
  have HX := Lib.hid h
  have HQM := Lib.hid hqm
  clear h hqm
  refine (callsIn_wide (n := 9)).1 ?_
  refine callsIn_of_wp_marks Tryz.func8 rfl (hfn _) ?_ hro
  simp only [Tryz.ntmps8, List.size_toArray, List.length_cons, List.length_nil, Nat.reduceAdd, Nat.reduceSub, Array.replicate_succ, Array.replicate_zero, List.push_toArray, List.append_toArray, List.nil_append, List.cons_append]
  refine wpIn_wide.2 ?_
  go_upto_region 1 with fail
  obtain ⟨Q, hQ⟩ : ∃ Q, w.heap.size = Q := ⟨_, rfl⟩
  have x0 : Ext w ((w.alloc (.cells #[.int .i64 qf, .int .i64 qt, .string ql, .string qh, .int .i64 qm] TQU)).alloc (.cells #[.bool false] TBO)) := bt (Ext.allocR _ _) (Ext.allocR _ _)
  refine wp_world (fun W => Ext w W ∧ Blk W Q TQU #[.int .i64 qf, .int .i64 qt, .string ql, .string qh, .int .i64 qm] ∧ Blk W (Q + 1) TBO #[.bool false]) ⟨x0, (Blk.new_ _ _ hQ).alloc _, Blk.new_ _ _ (by simp; omega)⟩ ?_
  obtain ⟨R, hR⟩ : ∃ R, Q + 1 = R := ⟨_, rfl⟩
  rw [hQ, hR]
  rintro W0 ⟨hx0, hq0, hr0⟩
  have X0 := Lib.hid hx0
  have Q0 := Lib.hid (And.intro hq0 hr0)
  clear x0 hx0 hq0 hr0
  go_wp2_with fail
  refine (rfilled_any A nx cx 12 keep (by omega) (by omega) W0 (HX.out.extr X0.out)).mono ?_
  rintro e w1 ⟨v1, rfl, ⟨s, d, rv, Vs, rfl, hs, hr, hl1, hl2⟩, b1⟩
  obtain ⟨A1, m1, c1, rfl, hh1⟩ := hr.form
  clear hh1
  have HS1 := Lib.hid (show STl (fun b => w.heap.size ≤ b) w1 s d keep 1536 Vs 0 from hs.imp fun b hb => Nat.le_trans X0.out.size hb)
  have HR1 := Lib.hid hr
  have X1 := Lib.hid (bt X0.out b1)
  have Q1 := Lib.hid (And.intro (Q0.out.1.below b1) (Q0.out.2.below b1))
  have HL2 := Lib.hid hl2
  have hVp := STx.pos hs
  clear hs hr b1 hl2 X0 Q0 hle hcp
  go_upto_region 3 with fail
  have x2 : Ext w1 (w1.alloc (.cells #[.slice A1 m1 c1, .int .i64 (keep : Int)] TRS)) := Ext.allocR _ _
  refine wp_world (fun W => RqS w W s d keep Q w1.heap.size R Vs A1 m1 c1 qf qt qm ql qh) ⟨HS1.out.ext x2, HR1.out.ext x2, Blk.new_ _ _ rfl, Q1.out.1.below x2, Q1.out.2.below x2, bt X1.out x2⟩ ?_
  obtain ⟨H, hH⟩ : ∃ H, w1.heap.size = H := ⟨_, rfl⟩
  rw [hH]
  rintro W2 hw2
  have HW2 := Lib.hid hw2
  have HRQ := Lib.hid (show w.heap.size ≤ R by omega)
  clear x2 hw2 HS1 HR1 X1 Q1 hH hQ hR
  go_wp2_with fail
  refine (rlives_any W2).mono ?_
  rintro e w3 ⟨v3, rfl, rfl, b3⟩
  have HW3 := Lib.hid (HW2.out.ext b3)
  clear b3 HW2
  have kc := HW3.out.cells
  have kr := HW3.out.rb.cells
  have fr := HW3.out.rb.free
  simp only [cellsAre, Nat.zero_add, Nat.reduceAdd, and_true] at kr
  by_cases hlen : 100 < ql.size ∨ 100 < qh.size
  · by_cases hl100 : 100 < ql.size
    · have p1 : (100 : Int) < (ql.size : Int) := by omega
      clear hlen
      go_wp2_with fail
      have hr1 : Blk (w3.setCell ⟨R, 0, none⟩ (.bool true)) R TBO #[.bool true] := HW3.out.rb.set_ 0 (.bool true)
      have hx1 := HW3.out.ex.setCell (p := ⟨R, 0, none⟩) HRQ.out (.bool true)
      have hc := hr1.cells
      simp only [cellsAre, Nat.zero_add, Nat.reduceAdd, and_true] at hc
      refine ⟨.bool true, ?_, ⟨_, rfl, rfl, hx1⟩⟩
      simp [results, Tryz.results8, go_sem, hc]
    · have p1 : ¬ (100 : Int) < (ql.size : Int) := by omega
      have p2 : (100 : Int) < (qh.size : Int) := by omega
      have p2' : 100 < qh.size := by omega
      clear hlen
      go_wp2_with fail
      have hr1 : Blk (w3.setCell ⟨R, 0, none⟩ (.bool true)) R TBO #[.bool true] := HW3.out.rb.set_ 0 (.bool true)
      have hx1 := HW3.out.ex.setCell (p := ⟨R, 0, none⟩) HRQ.out (.bool true)
      have hc := hr1.cells
      simp only [cellsAre, Nat.zero_add, Nat.reduceAdd, and_true] at hc
      refine ⟨.bool true, ?_, ⟨_, rfl, rfl, hx1⟩⟩
      simp [results, Tryz.results8, go_sem, hc]
  · have p1 : ¬ (100 : Int) < (ql.size : Int) := by omega
    have p2 : ¬ (100 : Int) < (qh.size : Int) := by omega
    have p1' : ¬ 100 < ql.size := by omega
    have p2' : ¬ 100 < qh.size := by omega
    have HSZ := Lib.hid (show ql.size ≤ 100 ∧ qh.size ≤ 100 by omega)
    clear hlen hql hqh
    obtain ⟨e, he⟩ : ∃ e, verS Vs keep qf = e := ⟨_, rfl⟩
    obtain ⟨f, hf⟩ : ∃ f, verS Vs keep qt = f := ⟨_, rfl⟩
    obtain ⟨kb, hkb⟩ : ∃ kb, keyB ql = kb := ⟨_, rfl⟩
    have HCE := Lib.hid (show e = 0 ∨ e = 1 ∨ e = 10 by rw [← he]; exact verS_cases _)
    have HCF := Lib.hid (show f = 0 ∨ f = 1 ∨ f = 10 by rw [← hf]; exact verS_cases _)
    have HE := Lib.hid he
    have HF := Lib.hid hf
    have HKB := Lib.hid hkb
    clear he hf hkb
    go_upto_region 7 with fail
    clear kc kr fr p1 p2 p1' p2'
    have kq := fun w' (hh : Ext w3 w') => (HW3.out.ext hh).cells
    have hst : Ext w3 w3.drew := Ext.drew _
    refine wp_norm ?_
    refine wp_region_adv 7 [] [(0, true, some 51, none), (1, true, some 52, none), (2, true, some 53, none), (4, true, some 55, none), (5, true, some 56, none), (6, true, some 57, none), (3, false, some 54, none)] (by kernel_rfl) (by kernel_rfl) (by kernel_rfl) (by intro it hit; (repeat (rcases List.mem_cons.1 hit with rfl | hit; (focus (intro o ho ev w; injection ho with ho; subst ho; kernel_rfl)))); cases hit) (fun _ _ _ _ _ => ⟨fun h => h, fun h => h⟩) hst ?_
    repeat (first | (refine wpSeq_pure (v := ?_) rfl ?_ ?_; rotate_left 1; (focus (intro wq_ hSq_; (try dsimp only at hSq_); go_simp; (try with_reducible rfl); done)); (try simp only [Act.put, List.setIfInBounds_toArray, List.set_cons_zero, List.set_cons_succ])) | (refine wpSeq_pureG (v := ?_) rfl rfl ?_ ?_; rotate_left 1; (focus (intro wq_ hSq_; (try dsimp only at hSq_); go_simp; (try with_reducible rfl); done)); (try simp only [Act.put, List.setIfInBounds_toArray, List.set_cons_zero, List.set_cons_succ])) | (refine wpSeq_off rfl rfl ?_; (try simp only [Act.put, List.setIfInBounds_toArray, List.set_cons_zero, List.set_cons_succ])) | (refine wpSeq_offU rfl ?_; (try simp only [Act.put, List.setIfInBounds_toArray, List.set_cons_zero, List.set_cons_succ])))
    first | refine wpSeq_call rfl (fun u1 g1 s1 K hK => ?_) | refine wpSeq_callG rfl rfl (fun u1 g1 s1 K hK => ?_)
    go_simp
    refine (zversion_any (HW3.out.rv.ext s1) (by omega) (by omega) (by omega) qf).mono ?_
    rintro e' y1 ⟨z1, rfl, rfl, b1⟩
    rw [show verB (Vs.length - 1) (min (keep + 1) Vs.length) qf = e from HE.out]
    (try go_wp2_with fail)
    refine hK.out _ _ b1 ?_
    clear hK K
    (try simp only [Act.put, List.setIfInBounds_toArray, List.set_cons_zero, List.set_cons_succ])
    repeat (first | (refine wpSeq_pure (v := ?_) rfl ?_ ?_; rotate_left 1; (focus (intro wq_ hSq_; (try dsimp only at hSq_); go_simp; (try with_reducible rfl); done)); (try simp only [Act.put, List.setIfInBounds_toArray, List.set_cons_zero, List.set_cons_succ])) | (refine wpSeq_pureG (v := ?_) rfl rfl ?_ ?_; rotate_left 1; (focus (intro wq_ hSq_; (try dsimp only at hSq_); go_simp; (try with_reducible rfl); done)); (try simp only [Act.put, List.setIfInBounds_toArray, List.set_cons_zero, List.set_cons_succ])) | (refine wpSeq_off rfl rfl ?_; (try simp only [Act.put, List.setIfInBounds_toArray, List.set_cons_zero, List.set_cons_succ])) | (refine wpSeq_offU rfl ?_; (try simp only [Act.put, List.setIfInBounds_toArray, List.set_cons_zero, List.set_cons_succ])))
    intro w4 g4 s4
    (try simp only [endJ, List.drop_succ_cons, List.drop_zero])
    have HW4 := Lib.hid (HW3.out.ext s4)
    clear hst kq g1 s1 b1 g4 s4 HW3
    go_wp2_with fail
    refine (zversion_any HW4.out.rv (by omega) (by omega) (by omega) qt).mono ?_
    rintro e' w5 ⟨z5, rfl, rfl, b5⟩
    rw [show verB (Vs.length - 1) (min (keep + 1) Vs.length) qt = f from HF.out]
    have HW5 := Lib.hid (HW4.out.ext b5)
    clear b5 HW4
    have kc := HW5.out.cells
    go_wp2_with fail
    refine (st_get_all HW5.out.st (by omega) qf e HE.out ql (by have := HSZ.out; omega) HKB.out).mono ?_
    rintro e' w6 ⟨z6, rfl, rfl, b6⟩
    unfold ansG
    obtain ⟨g, hg⟩ : ∃ g, eGet e kb = g := ⟨_, rfl⟩
    rw [hg]
    have HG := Lib.hid hg
    obtain ⟨o, ho⟩ : ∃ o, oGet g (prV Vs qf) ql = o := ⟨_, rfl⟩
    rw [ho]
    have HO := Lib.hid ho
    obtain ⟨ov, hov⟩ : ∃ ov, o.getD ByteArray.empty = ov := ⟨_, rfl⟩
    obtain ⟨os_, hos⟩ : ∃ os_, o.isSome = os_ := ⟨_, rfl⟩
    rw [hov, hos]
    have HOV := Lib.hid (And.intro hov hos)
    have HW6 := Lib.hid (HW5.out.ext b6)
    clear b6 HW5 kc hg ho hov hos
    have kc := HW6.out.cells
    go_upto_region 10 with fail
    go_cut [77] from 70 to 77 (fun v wx => (∃ b : Bool, v = .bool b ∧ (b = true → g = 1) ∧ (b = false → g = e)) ∧ RqS w wx s d keep Q H R Vs A1 m1 c1 qf qt qm ql qh)
    case first =>
      by_cases he1 : e = 1
      · subst he1
        go_wp2_with fail
        go_meet
        exact ⟨⟨false, rfl, fun h => Bool.noConfusion h, fun _ => by rw [← HG.out]; exact if_pos (Or.inl rfl)⟩, HW6.out⟩
      · have hb1 : (e == 1) = false := by rw [beq_eq_false_iff_ne]; exact he1
        have hb2 : (e != 1) = true := by rw [bne_iff_ne]; exact he1
        have HE1 := Lib.hid he1
        go_wp2_with fail
        refine (zkey_any ql (by have := HSZ.out; omega) _).mono ?_
        rintro e' w7 ⟨z7, rfl, rfl, b7⟩
        rw [HKB.out]
        have HW7 := Lib.hid (HW6.out.ext b7)
        clear b7
        cases kb with
        | true =>
          go_wp2_with fail
          go_meet
          exact ⟨⟨false, rfl, fun h => Bool.noConfusion h, fun _ => by rw [← HG.out]; exact if_neg (fun h => h.elim HE1.out (fun h => Bool.noConfusion h))⟩, HW7.out⟩
        | false =>
          go_wp2_with fail
          go_meet
          exact ⟨⟨true, rfl, fun _ => by rw [← HG.out]; exact if_pos (Or.inr rfl), fun h => Bool.noConfusion h⟩, HW7.out⟩
    case rest =>
      obtain ⟨⟨b77, rfl, hbt, hbf⟩, hw7⟩ := hcut
      have HBT := Lib.hid (And.intro hbt hbf)
      clear hbt hbf
      have HW7 := Lib.hid hw7
      clear hw7 HW6 kc
      go_upto_if 77 with fail
      go_cut [17] from 77 to 77 (fun v wx => v = .int .i64 g ∧ RqS w wx s d keep Q H R Vs A1 m1 c1 qf qt qm ql qh)
      case first =>
        cases b77 with
        | true =>
          have HG1 := Lib.hid (HBT.out.1 rfl)
          clear HBT
          go_wp2_with fail
          go_meet
          exact ⟨by rw [HG1.out], HW7.out⟩
        | false =>
          have HG1 := Lib.hid (HBT.out.2 rfl)
          clear HBT
          go_wp2_with fail
          go_meet
          exact ⟨by rw [HG1.out], HW7.out⟩
      case rest =>
        obtain ⟨rfl, hw8⟩ := hcut
        have HW8 := Lib.hid hw8
        clear hw8 HW7
        go_upto_if 79 with fail
        go_cut [15, 16] from 80 to 91 (fun v15 v16 wx => v15 = .string ov ∧ v16 = .bool os_ ∧ RqS w wx s d keep Q H R Vs A1 m1 c1 qf qt qm ql qh)
        case first =>
          by_cases hg0 : g = 0
          · subst hg0
            obtain ⟨rfl, rfl⟩ := eGet_zero HG.out
            obtain ⟨a, rfl, ha, hka⟩ := verS_zero HW8.out.st.posE HE.out
            obtain ⟨b, oo, Az, cz, L, rfl, hL, pa, kz, rz, hLm⟩ := HW8.out.at_ ha
            have hLl := HL2.out L hLm
            have RZ := Lib.hid rz
            have HFO := Lib.hid (show fndP L ql = o by rw [← HO.out, ← hL]; rfl)
            have HWX := Lib.hid HW8.out
            have kq := fun w' (hh : Ext wc w') => (HWX.out.ext hh).cells
            have kzq := fun w' (hh : Ext wc w') => ext_cell hh kz
            have hst : Ext wc wc.drew := Ext.drew _
            clear ha hka hL hLm kz rz
            go_upto_region 13 with fail
            refine wp_norm ?_
            refine wp_region_adv 13 [] [(0, true, some 81, none), (1, true, some 82, none), (2, true, some 83, none), (3, true, some 84, none), (4, true, some 85, none), (5, true, some 86, none), (6, true, some 87, none), (7, true, some 88, none), (8, false, some 89, none), (9, true, some 80, none), (10, true, some 90, none), (11, true, some 91, none), (12, false, some 15, none)] (by kernel_rfl) (by kernel_rfl) (by kernel_rfl) (by intro it hit; (repeat (rcases List.mem_cons.1 hit with rfl | hit; (focus (intro o ho ev w; injection ho with ho; subst ho; kernel_rfl)))); cases hit) (fun _ _ _ _ _ => ⟨fun h => h, fun h => h⟩) hst ?_
            repeat (first | (refine wpSeq_pure (v := ?_) rfl ?_ ?_; rotate_left 1; (focus (intro wq_ hSq_; (try dsimp only at hSq_); go_simp; (try with_reducible rfl); done)); (try simp only [Act.put, List.setIfInBounds_toArray, List.set_cons_zero, List.set_cons_succ])) | (refine wpSeq_pureG (v := ?_) rfl rfl ?_ ?_; rotate_left 1; (focus (intro wq_ hSq_; (try dsimp only at hSq_); go_simp; (try with_reducible rfl); done)); (try simp only [Act.put, List.setIfInBounds_toArray, List.set_cons_zero, List.set_cons_succ])) | (refine wpSeq_off rfl rfl ?_; (try simp only [Act.put, List.setIfInBounds_toArray, List.set_cons_zero, List.set_cons_succ])) | (refine wpSeq_offU rfl ?_; (try simp only [Act.put, List.setIfInBounds_toArray, List.set_cons_zero, List.set_cons_succ])))
            first | refine wpSeq_call rfl (fun u1 g1 s1 K hK => ?_) | refine wpSeq_callG rfl rfl (fun u1 g1 s1 K hK => ?_)
            go_simp
            refine (zfind_any Az L.length cz L ql u1 (RZ.out.below s1) (by omega)).mono ?_
            rintro e' y1 ⟨z1, rfl, rfl, b1⟩
            rw [HFO.out, HOV.out.1, HOV.out.2]
            (try go_wp2_with fail)
            refine hK.out _ _ b1 ?_
            clear hK K
            (try simp only [Act.put, List.setIfInBounds_toArray, List.set_cons_zero, List.set_cons_succ])
            repeat (first | (refine wpSeq_pure (v := ?_) rfl ?_ ?_; rotate_left 1; (focus (intro wq_ hSq_; (try dsimp only at hSq_); go_simp; (try with_reducible rfl); done)); (try simp only [Act.put, List.setIfInBounds_toArray, List.set_cons_zero, List.set_cons_succ])) | (refine wpSeq_pureG (v := ?_) rfl rfl ?_ ?_; rotate_left 1; (focus (intro wq_ hSq_; (try dsimp only at hSq_); go_simp; (try with_reducible rfl); done)); (try simp only [Act.put, List.setIfInBounds_toArray, List.set_cons_zero, List.set_cons_succ])) | (refine wpSeq_off rfl rfl ?_; (try simp only [Act.put, List.setIfInBounds_toArray, List.set_cons_zero, List.set_cons_succ])) | (refine wpSeq_offU rfl ?_; (try simp only [Act.put, List.setIfInBounds_toArray, List.set_cons_zero, List.set_cons_succ])))
            first | refine wpSeq_call rfl (fun u2 g2 s2 K hK => ?_) | refine wpSeq_callG rfl rfl (fun u2 g2 s2 K hK => ?_)
            go_simp
            (try go_wp2_with fail)
            refine hK.out _ _ (Ext.refl _) ?_
            clear hK K
            (try simp only [Act.put, List.setIfInBounds_toArray, List.set_cons_zero, List.set_cons_succ])
            repeat (first | (refine wpSeq_pure (v := ?_) rfl ?_ ?_; rotate_left 1; (focus (intro wq_ hSq_; (try dsimp only at hSq_); go_simp; (try with_reducible rfl); done)); (try simp only [Act.put, List.setIfInBounds_toArray, List.set_cons_zero, List.set_cons_succ])) | (refine wpSeq_pureG (v := ?_) rfl rfl ?_ ?_; rotate_left 1; (focus (intro wq_ hSq_; (try dsimp only at hSq_); go_simp; (try with_reducible rfl); done)); (try simp only [Act.put, List.setIfInBounds_toArray, List.set_cons_zero, List.set_cons_succ])) | (refine wpSeq_off rfl rfl ?_; (try simp only [Act.put, List.setIfInBounds_toArray, List.set_cons_zero, List.set_cons_succ])) | (refine wpSeq_offU rfl ?_; (try simp only [Act.put, List.setIfInBounds_toArray, List.set_cons_zero, List.set_cons_succ])))
            intro w9 g9 s9
            (try simp only [endJ, List.drop_succ_cons, List.drop_zero])
            have HW9 := Lib.hid (HWX.out.ext s9)
            clear hst kq kzq g1 s1 b1 g2 s2 g9 s9
            go_wp2_with fail
            go_meet
            exact ⟨rfl, rfl, HW9.out⟩
          · have hgb : (g == 0) = false := by rw [beq_eq_false_iff_ne]; exact hg0
            have HFO := Lib.hid (show o = none by rw [← HO.out]; exact if_neg hg0)
            have hov1 : ov = ByteArray.empty := by rw [← HOV.out.1, HFO.out]; rfl
            have hos1 : os_ = false := by rw [← HOV.out.2, HFO.out]; rfl
            subst hov1 hos1
            go_wp2_with fail
            go_meet
            exact ⟨rfl, rfl, HW8.out⟩
        case rest =>
          obtain ⟨rfl, rfl, hw9⟩ := hcut
          have HW9 := Lib.hid hw9
          clear hw9 HW8
          have kc := HW9.out.cells
          go_wp2_with fail
          refine (st_range_all HW9.out.st (by omega) (fun x hx => by have := HL2.out x hx; omega) qf e HE.out ql qh qm HQM.out (by have := HSZ.out; omega)).mono ?_
          rintro e' wa ⟨za, rfl, ⟨z', rfl, hoa⟩, ba⟩
          unfold ansR
          obtain ⟨gr, hgr⟩ : ∃ gr, eRng e qm = gr := ⟨_, rfl⟩
          rw [hgr] at hoa ⊢
          have HGR := Lib.hid hgr
          obtain ⟨LR, hLR⟩ : ∃ LR, lRng gr (prV Vs qf) ql qh qm.toNat = LR := ⟨_, rfl⟩
          rw [hLR] at hoa
          have HLR := Lib.hid hLR
          obtain ⟨Aa, ca, rfl, ra⟩ := hoa.rv
          obtain ⟨nr, hnr⟩ : ∃ nr, LR.length = nr := ⟨_, rfl⟩
          have HNR := Lib.hid hnr
          rw [hnr] at ra ⊢
          have RA := Lib.hid ra
          have HWa := Lib.hid (HW9.out.ext ba)
          clear ba hgr hLR hoa hnr ra HW9 kc
          have kc := HWa.out.cells
          go_upto_if 121 with fail
          go_cut [17] from 121 to 121 (fun v wx => v = .int .i64 gr ∧ wx = wa)
          case first =>
            by_cases hm0 : qm < 0
            · have HM0 := Lib.hid hm0
              go_wp2_with fail
              go_meet
              exact ⟨by rw [← HGR.out]; unfold eRng; rw [if_pos HM0.out], rfl⟩
            · have HM0 := Lib.hid hm0
              go_wp2_with fail
              go_meet
              exact ⟨by rw [← HGR.out]; unfold eRng; rw [if_neg (show ¬ qm < 0 by have := HM0.out; omega)], rfl⟩
          case rest =>
            obtain ⟨rfl, rfl⟩ := hcut
            clear kc
            go_upto_region 20 with fail
            go_cut [155] from 122 to 155 (fun v wx => v = .bool false ∧ RqS w wx s d keep Q H R Vs A1 m1 c1 qf qt qm ql qh)
            case first =>
              by_cases hg0 : gr = 0
              · subst hg0
                obtain ⟨rfl, hq0⟩ := eRng_zero HGR.out
                obtain ⟨mm, rfl⟩ := Int.eq_ofNat_of_zero_le hq0
                obtain ⟨a, rfl, ha, hka⟩ := verS_zero HWa.out.st.posE HE.out
                obtain ⟨b, oo, Az, cz, L, rfl, hL, pa, kz, rz, hLm⟩ := HWa.out.at_ ha
                have hLl := HL2.out L hLm
                have RZ := Lib.hid rz
                have HRR := Lib.hid (show (L.filter (inR ql qh)).take mm = LR by
                  obtain ⟨vs, B, g1, g2⟩ := HWa.out.st.srE
                  obtain ⟨_, _, _, _, hs⟩ := g2.kept ha hka
                  rw [hL] at hs
                  rw [← HLR.out, ← rng_filter hs, ← hL]
                  rfl)
                have HMM := Lib.hid (nat_le_of HQM.out)
                have HLRl := Lib.hid (show LR.length ≤ 360 by
                  have h1 := List.length_filter_le (inR ql qh) L
                  rw [← HRR.out, List.length_take]
                  omega)
                have kq := fun w' (hh : Ext wc w') => (HWa.out.ext hh).cells
                have kzq := fun w' (hh : Ext wc w') => ext_cell hh kz
                have hst : Ext wc wc.drew := Ext.drew _
                clear ha hka hL hLm kz rz hq0
                refine wp_norm ?_
                refine wp_region_adv 30 [] [(0, true, some 122, none), (1, true, some 123, none), (2, true, some 124, none), (3, true, some 125, some (124, true)), (4, true, some 126, some (124, true)), (5, true, some 127, some (124, true)), (6, true, some 128, none), (7, true, some 129, none), (8, true, some 130, some (129, false)), (9, true, some 131, some (129, false)), (10, true, some 132, some (129, false)), (11, true, some 133, none), (12, true, some 134, none), (13, true, some 135, some (134, false)), (14, true, some 136, some (134, false)), (15, true, some 137, some (134, false)), (16, true, some 138, some (137, true)), (17, true, some 139, some (137, true)), (18, true, some 140, some (137, true)), (19, true, some 141, some (137, true)), (20, true, some 142, some (137, true)), (21, true, some 143, some (137, true)), (22, true, some 144, some (137, true)), (23, true, some 145, some (137, true)), (24, true, some 146, some (137, true)), (25, true, some 147, some (137, true)), (26, true, some 148, some (137, true)), (27, true, some 149, some (137, true)), (28, true, some 150, some (137, true)), (29, false, some 151, some (137, true))] (by kernel_rfl) (by kernel_rfl) (by kernel_rfl) (by intro it hit; (repeat (rcases List.mem_cons.1 hit with rfl | hit; (focus (intro o ho ev w; injection ho with ho; subst ho; kernel_rfl)))); cases hit) (fun _ _ _ _ _ => ⟨fun h => h, fun h => h⟩) hst ?_
                repeat (first | (refine wpSeq_pure (v := ?_) rfl ?_ ?_; rotate_left 1; (focus (intro wq_ hSq_; (try dsimp only at hSq_); go_simp; (try with_reducible rfl); done)); (try simp only [Act.put, List.setIfInBounds_toArray, List.set_cons_zero, List.set_cons_succ])) | (refine wpSeq_pureG (v := ?_) rfl rfl ?_ ?_; rotate_left 1; (focus (intro wq_ hSq_; (try dsimp only at hSq_); go_simp; (try with_reducible rfl); done)); (try simp only [Act.put, List.setIfInBounds_toArray, List.set_cons_zero, List.set_cons_succ])) | (refine wpSeq_off rfl rfl ?_; (try simp only [Act.put, List.setIfInBounds_toArray, List.set_cons_zero, List.set_cons_succ])) | (refine wpSeq_offU rfl ?_; (try simp only [Act.put, List.setIfInBounds_toArray, List.set_cons_zero, List.set_cons_succ])))
                first | refine wpSeq_call rfl (fun u1 g1 s1 K hK => ?_) | refine wpSeq_callG rfl rfl (fun u1 g1 s1 K hK => ?_)
                go_simp
                refine (zrange_any Az L.length cz L ql qh mm u1 (RZ.out.below s1) (by omega) HMM.out).mono ?_
                rintro e' y1 ⟨z1, rfl, ho1, b1⟩
                rw [HRR.out] at ho1
                obtain ⟨Ab, cb, rfl, rb⟩ := ho1.rv
                rw [HNR.out] at rb ⊢
                (try go_wp2_with fail)
                refine hK.out _ _ b1 ?_
                clear hK K
                (try simp only [Act.put, List.setIfInBounds_toArray, List.set_cons_zero, List.set_cons_succ])
                repeat (first | (refine wpSeq_pure (v := ?_) rfl ?_ ?_; rotate_left 1; (focus (intro wq_ hSq_; (try dsimp only at hSq_); go_simp; (try with_reducible rfl); done)); (try simp only [Act.put, List.setIfInBounds_toArray, List.set_cons_zero, List.set_cons_succ])) | (refine wpSeq_pureG (v := ?_) rfl rfl ?_ ?_; rotate_left 1; (focus (intro wq_ hSq_; (try dsimp only at hSq_); go_simp; (try with_reducible rfl); done)); (try simp only [Act.put, List.setIfInBounds_toArray, List.set_cons_zero, List.set_cons_succ])) | (refine wpSeq_off rfl rfl ?_; (try simp only [Act.put, List.setIfInBounds_toArray, List.set_cons_zero, List.set_cons_succ])) | (refine wpSeq_offU rfl ?_; (try simp only [Act.put, List.setIfInBounds_toArray, List.set_cons_zero, List.set_cons_succ])))
                intro w9 g9 s9
                (try simp only [endJ, List.drop_succ_cons, List.drop_zero])
                have HW9 := Lib.hid (HWa.out.ext s9)
                have R9 := Lib.hid (And.intro (RA.out.below s9) (rb.below g9))
                clear hst kq kzq g1 s1 b1 g9 s9 ho1 rb
                go_wp2_with fail
                refine (zsame_any Aa Ab nr ca nr cb LR w9 R9.out.1 R9.out.2 (by have := HLRl.out; omega)).mono ?_
                rintro e' wx ⟨zx, rfl, rfl, bx⟩
                have HWx := Lib.hid (HW9.out.ext bx)
                clear bx
                go_wp2_with fail
                go_meet
                exact ⟨rfl, HWx.out⟩
              · have hgb : (gr == 0) = false := by rw [beq_eq_false_iff_ne]; exact hg0
                have hgn : (gr != 0) = true := by rw [bne_iff_ne]; exact hg0
                have hl0 : LR = [] := by rw [← HLR.out]; exact if_neg hg0
                obtain rfl : nr = 0 := by rw [← HNR.out, hl0]; rfl
                have kq := fun w' (hh : Ext wc w') => (HWa.out.ext hh).cells
                have hst : Ext wc wc.drew := Ext.drew _
                clear hl0
                refine wp_norm ?_
                refine wp_region_adv 30 [] [(0, true, some 122, none), (1, true, some 123, none), (2, true, some 124, none), (3, true, some 125, some (124, true)), (4, true, some 126, some (124, true)), (5, true, some 127, some (124, true)), (6, true, some 128, none), (7, true, some 129, none), (8, true, some 130, some (129, false)), (9, true, some 131, some (129, false)), (10, true, some 132, some (129, false)), (11, true, some 133, none), (12, true, some 134, none), (13, true, some 135, some (134, false)), (14, true, some 136, some (134, false)), (15, true, some 137, some (134, false)), (16, true, some 138, some (137, true)), (17, true, some 139, some (137, true)), (18, true, some 140, some (137, true)), (19, true, some 141, some (137, true)), (20, true, some 142, some (137, true)), (21, true, some 143, some (137, true)), (22, true, some 144, some (137, true)), (23, true, some 145, some (137, true)), (24, true, some 146, some (137, true)), (25, true, some 147, some (137, true)), (26, true, some 148, some (137, true)), (27, true, some 149, some (137, true)), (28, true, some 150, some (137, true)), (29, false, some 151, some (137, true))] (by kernel_rfl) (by kernel_rfl) (by kernel_rfl) (by intro it hit; (repeat (rcases List.mem_cons.1 hit with rfl | hit; (focus (intro o ho ev w; injection ho with ho; subst ho; kernel_rfl)))); cases hit) (fun _ _ _ _ _ => ⟨fun h => h, fun h => h⟩) hst ?_
                repeat (first | (refine wpSeq_pure (v := ?_) rfl ?_ ?_; rotate_left 1; (focus (intro wq_ hSq_; (try dsimp only at hSq_); go_simp; (try with_reducible rfl); done)); (try simp only [Act.put, List.setIfInBounds_toArray, List.set_cons_zero, List.set_cons_succ])) | (refine wpSeq_pureG (v := ?_) rfl rfl ?_ ?_; rotate_left 1; (focus (intro wq_ hSq_; (try dsimp only at hSq_); go_simp; (try with_reducible rfl); done)); (try simp only [Act.put, List.setIfInBounds_toArray, List.set_cons_zero, List.set_cons_succ])) | (refine wpSeq_off rfl rfl ?_; (try simp only [Act.put, List.setIfInBounds_toArray, List.set_cons_zero, List.set_cons_succ])) | (refine wpSeq_offU rfl ?_; (try simp only [Act.put, List.setIfInBounds_toArray, List.set_cons_zero, List.set_cons_succ])))
                intro w9 g9 s9
                (try simp only [endJ, List.drop_succ_cons, List.drop_zero])
                have HW9 := Lib.hid (HWa.out.ext s9)
                clear hst kq g9 s9
                go_wp2_with fail
                go_meet
                exact ⟨rfl, HW9.out⟩
            case rest =>
              obtain ⟨rfl, hwb⟩ := hcut
              have HWb := Lib.hid hwb
              clear hwb HWa RA HNR HLR HGR
              have kc := HWb.out.cells
              go_wp2_with fail
              refine (st_diff_all HWb.out.st (by omega) (fun x hx => by have := HL2.out x hx; omega) qf qt e f HE.out HF.out).mono ?_
              rintro e' wd ⟨zd, rfl, ⟨z', rfl, hod⟩, bd⟩
              unfold ansR
              obtain ⟨gd, hgd⟩ : ∃ gd, difE e f = gd := ⟨_, rfl⟩
              rw [hgd] at hod ⊢
              have HGD := Lib.hid hgd
              obtain ⟨LD, hLD⟩ : ∃ LD, lDif gd (prV Vs qf) (prV Vs qt) = LD := ⟨_, rfl⟩
              rw [hLD] at hod
              have HLD := Lib.hid hLD
              obtain ⟨Ad, cd_, rfl, rd⟩ := hod.rv
              obtain ⟨nd, hnd⟩ : ∃ nd, LD.length = nd := ⟨_, rfl⟩
              have HND := Lib.hid hnd
              rw [hnd] at rd ⊢
              have RD := Lib.hid rd
              have HWd := Lib.hid (HWb.out.ext bd)
              clear bd hgd hLD hod hnd rd HWb kc
              go_upto_region 24 with fail
              go_cut [171] from 166 to 171 (fun v wx => (∃ b : Bool, v = .bool b ∧ (b = true → f = 1 ∨ e = 0) ∧ (b = false → ¬ f = 1 ∧ ¬ e = 0)) ∧ wx = wd)
              case first =>
                by_cases hf1 : f = 1
                · subst hf1
                  go_wp2_with fail
                  go_meet
                  exact ⟨⟨true, rfl, by simp, by simp⟩, rfl⟩
                · have hb1 : (f == 1) = false := by rw [beq_eq_false_iff_ne]; exact hf1
                  have HF1 := Lib.hid hf1
                  by_cases he0 : e = 0
                  · subst he0
                    go_wp2_with fail
                    go_meet
                    exact ⟨⟨true, rfl, by simp, by simp⟩, rfl⟩
                  · have hb2 : (e == 0) = false := by rw [beq_eq_false_iff_ne]; exact he0
                    have HE0 := Lib.hid he0
                    go_wp2_with fail
                    go_meet
                    exact ⟨⟨false, rfl, fun h => Bool.noConfusion h, fun _ => ⟨HF1.out, HE0.out⟩⟩, rfl⟩
              case rest =>
                obtain ⟨⟨b171, rfl, hbt, hbf⟩, rfl⟩ := hcut
                have HBU := Lib.hid (And.intro hbt hbf)
                clear hbt hbf
                go_upto_if 171 with fail
                go_cut [17] from 172 to 175 (fun v wx => v = .int .i64 gd ∧ wx = wc)
                case first =>
                  cases b171 with
                  | true =>
                    have HB1 := Lib.hid (HBU.out.1 rfl)
                    clear HBU
                    by_cases he1 : e = 1
                    · have HE1 := Lib.hid (show difE e f = e from difE_2 HB1.out he1)
                      subst he1
                      go_wp2_with fail
                      go_meet
                      exact ⟨by rw [← HGD.out, difE_1], rfl⟩
                    · have hb1 : (e == 1) = false := by rw [beq_eq_false_iff_ne]; exact he1
                      have HE1 := Lib.hid (show difE e f = f from difE_3 HCE.out HCF.out HB1.out he1)
                      go_wp2_with fail
                      go_meet
                      exact ⟨by rw [← HGD.out, HE1.out], rfl⟩
                  | false =>
                    have HE1 := Lib.hid (show difE e f = e from difE_4 HCE.out HCF.out (HBU.out.2 rfl).1 (HBU.out.2 rfl).2)
                    clear HBU
                    go_wp2_with fail
                    go_meet
                    exact ⟨by rw [← HGD.out, HE1.out], rfl⟩
                case rest =>
                  obtain ⟨rfl, rfl⟩ := hcut
                  go_upto_region 28 with fail
                  go_cut [209] from 176 to 209 (fun v wx => v = .bool false ∧ RqS w wx s d keep Q H R Vs A1 m1 c1 qf qt qm ql qh)
                  case first =>
                    by_cases hg0 : gd = 0
                    · subst hg0
                      obtain ⟨rfl, rfl⟩ := difE_zero HGD.out
                      obtain ⟨a, rfl, ha, hka⟩ := verS_zero HWd.out.st.posE HE.out
                      obtain ⟨a2, rfl, ha2, hka2⟩ := verS_zero HWd.out.st.posE HF.out
                      obtain ⟨b, oo, Az, cz, L, rfl, hL, pa, kz, rz, hLm⟩ := HWd.out.at_ ha
                      obtain ⟨b', oo', Ay, cy, L2, eq2, hL2, pa2, kz2, rz2, hLm2⟩ := HWd.out.at_ ha2
                      injection eq2 with eq2
                      injection eq2 with eq2 eq3
                      subst eq2 eq3
                      have hLl := HL2.out L hLm
                      have hLl2 := HL2.out L2 hLm2
                      have RZ := Lib.hid (And.intro rz rz2)
                      have HRR := Lib.hid (show mrg L L2 = LD by rw [← HLD.out, ← hL, ← hL2]; rfl)
                      have HLDl := Lib.hid (show LD.length ≤ 720 by
                        obtain ⟨vs, B, g1, g2⟩ := HWd.out.st.srE
                        obtain ⟨_, _, _, _, hs⟩ := g2.kept ha hka
                        obtain ⟨_, _, _, _, hs2⟩ := g2.kept ha2 hka2
                        rw [hL] at hs
                        rw [hL2] at hs2
                        have := (mrg_dif _ L L2 (Nat.le_refl _) hs hs2).len
                        rw [← HRR.out]
                        omega)
                      have kq := fun w' (hh : Ext wc w') => (HWd.out.ext hh).cells
                      have kzq := fun w' (hh : Ext wc w') => ext_cell hh kz
                      have kzq2 := fun w' (hh : Ext wc w') => ext_cell hh kz2
                      have hst : Ext wc wc.drew := Ext.drew _
                      clear ha hka hL hLm kz rz ha2 hka2 hL2 hLm2 kz2 rz2
                      refine wp_norm ?_
                      refine wp_region_adv 30 [] [(0, true, some 176, none), (1, true, some 177, none), (2, true, some 178, none), (3, true, some 179, some (178, true)), (4, true, some 180, some (178, true)), (5, true, some 181, some (178, true)), (6, true, some 182, none), (7, true, some 183, none), (8, true, some 184, some (183, false)), (9, true, some 185, some (183, false)), (10, true, some 186, some (183, false)), (11, true, some 187, none), (12, true, some 188, none), (13, true, some 189, some (188, false)), (14, true, some 190, some (188, false)), (15, true, some 191, some (188, false)), (16, true, some 192, some (191, true)), (17, true, some 193, some (191, true)), (18, true, some 194, some (191, true)), (19, true, some 195, some (191, true)), (20, true, some 196, some (191, true)), (21, true, some 197, some (191, true)), (22, true, some 198, some (191, true)), (23, true, some 199, some (191, true)), (24, true, some 200, some (191, true)), (25, true, some 201, some (191, true)), (26, true, some 202, some (191, true)), (27, true, some 203, some (191, true)), (28, true, some 204, some (191, true)), (29, false, some 205, some (191, true))] (by kernel_rfl) (by kernel_rfl) (by kernel_rfl) (by intro it hit; (repeat (rcases List.mem_cons.1 hit with rfl | hit; (focus (intro o ho ev w; injection ho with ho; subst ho; kernel_rfl)))); cases hit) (fun _ _ _ _ _ => ⟨fun h => h, fun h => h⟩) hst ?_
                      repeat (first | (refine wpSeq_pure (v := ?_) rfl ?_ ?_; rotate_left 1; (focus (intro wq_ hSq_; (try dsimp only at hSq_); go_simp; (try with_reducible rfl); done)); (try simp only [Act.put, List.setIfInBounds_toArray, List.set_cons_zero, List.set_cons_succ])) | (refine wpSeq_pureG (v := ?_) rfl rfl ?_ ?_; rotate_left 1; (focus (intro wq_ hSq_; (try dsimp only at hSq_); go_simp; (try with_reducible rfl); done)); (try simp only [Act.put, List.setIfInBounds_toArray, List.set_cons_zero, List.set_cons_succ])) | (refine wpSeq_off rfl rfl ?_; (try simp only [Act.put, List.setIfInBounds_toArray, List.set_cons_zero, List.set_cons_succ])) | (refine wpSeq_offU rfl ?_; (try simp only [Act.put, List.setIfInBounds_toArray, List.set_cons_zero, List.set_cons_succ])))
                      first | refine wpSeq_call rfl (fun u1 g1 s1 K hK => ?_) | refine wpSeq_callG rfl rfl (fun u1 g1 s1 K hK => ?_)
                      go_simp
                      refine (zdiff_any Az L.length cz L Ay L2.length cy L2 u1 (RZ.out.1.below s1) (RZ.out.2.below s1) (by omega) (by omega)).mono ?_
                      rintro e' y1 ⟨z1, rfl, ho1, b1⟩
                      rw [HRR.out] at ho1
                      obtain ⟨Ab, cb, rfl, rb⟩ := ho1.rv
                      rw [HND.out] at rb ⊢
                      (try go_wp2_with fail)
                      refine hK.out _ _ b1 ?_
                      clear hK K
                      (try simp only [Act.put, List.setIfInBounds_toArray, List.set_cons_zero, List.set_cons_succ])
                      repeat (first | (refine wpSeq_pure (v := ?_) rfl ?_ ?_; rotate_left 1; (focus (intro wq_ hSq_; (try dsimp only at hSq_); go_simp; (try with_reducible rfl); done)); (try simp only [Act.put, List.setIfInBounds_toArray, List.set_cons_zero, List.set_cons_succ])) | (refine wpSeq_pureG (v := ?_) rfl rfl ?_ ?_; rotate_left 1; (focus (intro wq_ hSq_; (try dsimp only at hSq_); go_simp; (try with_reducible rfl); done)); (try simp only [Act.put, List.setIfInBounds_toArray, List.set_cons_zero, List.set_cons_succ])) | (refine wpSeq_off rfl rfl ?_; (try simp only [Act.put, List.setIfInBounds_toArray, List.set_cons_zero, List.set_cons_succ])) | (refine wpSeq_offU rfl ?_; (try simp only [Act.put, List.setIfInBounds_toArray, List.set_cons_zero, List.set_cons_succ])))
                      intro w9 g9 s9
                      (try simp only [endJ, List.drop_succ_cons, List.drop_zero])
                      have HW9 := Lib.hid (HWd.out.ext s9)
                      have R9 := Lib.hid (And.intro (RD.out.below s9) (rb.below g9))
                      clear hst kq kzq kzq2 g1 s1 b1 g9 s9 ho1 rb
                      go_wp2_with fail
                      refine (zsamec_any Ad Ab nd cd_ nd cb LD w9 R9.out.1 R9.out.2 (by have := HLDl.out; omega)).mono ?_
                      rintro e' wx ⟨zx, rfl, rfl, bx⟩
                      have HWx := Lib.hid (HW9.out.ext bx)
                      clear bx
                      go_wp2_with fail
                      go_meet
                      exact ⟨rfl, HWx.out⟩
                    · have hgb : (gd == 0) = false := by rw [beq_eq_false_iff_ne]; exact hg0
                      have hgn : (gd != 0) = true := by rw [bne_iff_ne]; exact hg0
                      have hl0 : LD = [] := by rw [← HLD.out]; exact if_neg hg0
                      obtain rfl : nd = 0 := by rw [← HND.out, hl0]; rfl
                      have kq := fun w' (hh : Ext wc w') => (HWd.out.ext hh).cells
                      have hst : Ext wc wc.drew := Ext.drew _
                      clear hl0
                      refine wp_norm ?_
                      refine wp_region_adv 30 [] [(0, true, some 176, none), (1, true, some 177, none), (2, true, some 178, none), (3, true, some 179, some (178, true)), (4, true, some 180, some (178, true)), (5, true, some 181, some (178, true)), (6, true, some 182, none), (7, true, some 183, none), (8, true, some 184, some (183, false)), (9, true, some 185, some (183, false)), (10, true, some 186, some (183, false)), (11, true, some 187, none), (12, true, some 188, none), (13, true, some 189, some (188, false)), (14, true, some 190, some (188, false)), (15, true, some 191, some (188, false)), (16, true, some 192, some (191, true)), (17, true, some 193, some (191, true)), (18, true, some 194, some (191, true)), (19, true, some 195, some (191, true)), (20, true, some 196, some (191, true)), (21, true, some 197, some (191, true)), (22, true, some 198, some (191, true)), (23, true, some 199, some (191, true)), (24, true, some 200, some (191, true)), (25, true, some 201, some (191, true)), (26, true, some 202, some (191, true)), (27, true, some 203, some (191, true)), (28, true, some 204, some (191, true)), (29, false, some 205, some (191, true))] (by kernel_rfl) (by kernel_rfl) (by kernel_rfl) (by intro it hit; (repeat (rcases List.mem_cons.1 hit with rfl | hit; (focus (intro o ho ev w; injection ho with ho; subst ho; kernel_rfl)))); cases hit) (fun _ _ _ _ _ => ⟨fun h => h, fun h => h⟩) hst ?_
                      repeat (first | (refine wpSeq_pure (v := ?_) rfl ?_ ?_; rotate_left 1; (focus (intro wq_ hSq_; (try dsimp only at hSq_); go_simp; (try with_reducible rfl); done)); (try simp only [Act.put, List.setIfInBounds_toArray, List.set_cons_zero, List.set_cons_succ])) | (refine wpSeq_pureG (v := ?_) rfl rfl ?_ ?_; rotate_left 1; (focus (intro wq_ hSq_; (try dsimp only at hSq_); go_simp; (try with_reducible rfl); done)); (try simp only [Act.put, List.setIfInBounds_toArray, List.set_cons_zero, List.set_cons_succ])) | (refine wpSeq_off rfl rfl ?_; (try simp only [Act.put, List.setIfInBounds_toArray, List.set_cons_zero, List.set_cons_succ])) | (refine wpSeq_offU rfl ?_; (try simp only [Act.put, List.setIfInBounds_toArray, List.set_cons_zero, List.set_cons_succ])))
                      intro w9 g9 s9
                      (try simp only [endJ, List.drop_succ_cons, List.drop_zero])
                      have HW9 := Lib.hid (HWd.out.ext s9)
                      clear hst kq g9 s9
                      go_wp2_with fail
                      go_meet
                      exact ⟨rfl, HW9.out⟩
                  case rest =>
                    obtain ⟨rfl, hwe⟩ := hcut
                    have HWe := Lib.hid hwe
                    clear hwe HWd RD HND HLD HGD
                    go_upto_region 31 with fail
                    obtain ⟨Bx, hBx⟩ : ∃ Bx, wc.heap.size + 1 = Bx := ⟨_, rfl⟩
                    have x1 : Ext wc ((wc.alloc (.cells #[] TPA)).alloc (.cells #[.slice (some ⟨wc.heap.size, 0, none⟩) 0 0] TPS)) := bt (Ext.allocR _ _) (Ext.allocR _ _)
                    have hai : AlI wc Bx [] ((wc.alloc (.cells #[] TPA)).alloc (.cells #[.slice (some ⟨wc.heap.size, 0, none⟩) 0 0] TPS)) :=
                      ⟨⟨_, Blk.new_ _ _ (by simp; omega), own_below (own_lit TPA 2 #[] 0 (Nat.le_refl _) (by omega) rfl) (Ext.allocR _ _)⟩, x1⟩
                    rw [hBx]
                    obtain ⟨wf, hwf⟩ : ∃ wf, ((wc.alloc (.cells #[] TPA)).alloc (.cells #[.slice (some ⟨wc.heap.size, 0, none⟩) 0 0] TPS)) = wf := ⟨_, rfl⟩
                    rw [hwf] at hai ⊢
                    have HAI := Lib.hid hai
                    have HBX := Lib.hid (show wc.heap.size ≤ Bx by omega)
                    have HWf := Lib.hid (HWe.out.ext hai.ex)
                    clear x1 hai hwf hBx
                    have kc := HWf.out.cells
                    go_wp2_with fail
                    refine (st_all_all HWf.out.st (by omega) qf e HE.out).mono ?_
                    rintro e' wg ⟨zg, rfl, ⟨B, tt, b1, b2, rfl, htr, hpr, hsr, hlb1, hlb2, hb1, hb2⟩, bg⟩
                    have HAG := Lib.hid (HAI.out.ext bg)
                    have HTR := Lib.hid (And.intro htr (And.intro hpr hsr))
                    have HBB := Lib.hid (And.intro hb1 hb2)
                    have k1 := hb1.cells
                    have k2 := hb2.cells
                    simp only [cellsAre, Nat.zero_add, Nat.reduceAdd, and_true] at k1 k2
                    have HLA := Lib.hid (show (lAll e (prV Vs qf)).length ≤ 360 by
                      unfold lAll
                      by_cases h0 : e = 0
                      · rw [if_pos h0]
                        subst h0
                        obtain ⟨a, rfl, ha, hka⟩ := verS_zero HWf.out.st.posE HE.out
                        rw [prV_nat, List.getD_eq_getElem?_getD, List.getElem?_eq_getElem ha]
                        exact HL2.out _ (List.getElem_mem _)
                      · rw [if_neg h0]; exact Nat.zero_le _)
                    clear bg htr hpr hsr hlb1 hlb2 hb1 hb2 HAI HWf kc
                    go_wp2_with fail
                    refine (wpIn_wide (n := 9)).1 ?_
                    have hnl : (lAll e (prV Vs qf)).length ≤ 360 := HLA.out
                    refine wpIn_rangeFunc_ownF hro (by omega) (gf := FPW) (lb := #[.pointer (some ⟨b1, 0, none⟩), .pointer (some ⟨b2, 0, none⟩)]) rfl (hfn _) (enters_of pwFn (by kernel_rfl) rfl)
                      (pairs_stops Fence.wide hd hfn hro 8 b1 b2 B (Pos B) tt ⟨#[]⟩ wg HBB.out.1.lt HBB.out.2.lt k1 k2 HTR.out.1 HTR.out.2.2) (fun h k => KN.trans h k) (fun W l o o' _ ho hc _ => KN.put ho hc) (Below.refl _ _) (fun _ => rfl)
                      (AlI wc Bx) (fun _ _ _ => False) (AlI.own wc Bx _ (Ext.size HAG.out.ex)) (fun _ _ _ _ _ h _ _ => h.elim) HAG.out ?a1 ?assign ?body ?done ?stop
                    case assign =>
                      intro l x W K hK
                      gi_wp2
                      exact hK
                    case stop =>
                      rintro D c pre W hD hpre hX hK
                      exact hX.elim
                    case body =>
                      rintro l pre x W hI hlen
                      rw [geP_all, HTR.out.2.1] at hlen
                      obtain ⟨xk, xv⟩ := x
                      obtain ⟨v0, hO, hrow⟩ := hI.ou
                      obtain ⟨A0, c0, rfl, hrv⟩ := own_rv hrow
                      obtain ⟨pl, hpl⟩ : ∃ pl, pre.length = pl := ⟨_, rfl⟩
                      have hpl2 : pl ≤ 360 := by omega
                      have kO := hO.cells
                      have fO := hO.free 0
                      have hOl := hO.lt
                      have hwl := Ext.size hI.ex
                      have hlc := hrv.le
                      have hcc := hrv.cap
                      rw [hpl] at hlc
                      simp only [cellsAre, Nat.zero_add, Nat.reduceAdd, and_true] at kO
                      have HII := Lib.hid hI
                      have HOO := Lib.hid hO
                      have HRW := Lib.hid hrow
                      have HPL := Lib.hid hpl
                      rw [hpl] at kO
                      have pgt : ¬ (1000 : Int) < ((pl + 1 : Nat) : Int) := by omega
                      have pgt2 : ¬ 1000 < pl + 1 := by omega
                      clear hI hrv hlen hO hrow hpl k1 k2 hnl
                      gi_wp2_with (gi_at_builtin; refine wpListIn_append_own _ rfl _ _ TPS rfl wc.heap.size TPA i0 _ 2 32 Tryz.underlying58 hi0 hz0 hz1 hz2 rfl (by decide) (.slice A0 pl c0) pl (pcs pre) rfl (by have h1 := own_below HRW.out (Ext.allocR W (.cells #[.string xk, .string xv] TPA)); rw [HPL.out] at h1; exact h1) ⟨W.heap.size, 0, none⟩ 1 1 (pcs [(xk, xv)]) rfl rfl (((rv_lit (w := W) TPA 2 #[.string xk, .string xv] 1 (by omega) rfl).news (by omega)).2.2 _ rfl) (pcs_one _) (by unfold maxLen; omega) (by omega) (by simp; omega) ?_; intro v1 w1 o1 g1 _; obtain ⟨A1, c1, hv1', _⟩ := own_rv o1; subst hv1'; have hap := HII.out.app (by have h1 := HOO.out; rw [HPL.out] at h1; exact h1) (by have h1 := HRW.out; rw [HPL.out] at h1; exact h1) HPL.out (.cells #[.string xk, .string xv] TPA) o1 g1 HBX.out; have k1 := hap.1.cells; have f1 := hap.1.free 0; have HAP := Lib.hid hap; simp only [cellsAre, Nat.zero_add, Nat.reduceAdd, and_true] at k1; clear o1 g1 hap)
                      exact ⟨HAP.out.2.2.1, HAP.out.2.2.2, HAP.out.2.1⟩
                    case done =>
                      rintro D xs W hD rfl hI hK
                      rw [geP_all, HTR.out.2.1] at hI
                      have HW := Lib.hid (HWe.out.ext hI.ex)
                      have HDK := Lib.hid (show W.heap[D]? = some (.deferred (some [])) ∧ w.heap.size ≤ D from ⟨hK, Nat.le_trans (bt HWe.out.ex HAG.out.ex).size hD⟩)
                      obtain ⟨v0, hO, hrow⟩ := hI.ou
                      obtain ⟨LA, hLA⟩ : ∃ LA, lAll e (prV Vs qf) = LA := ⟨_, rfl⟩
                      rw [hLA] at hrow hnl
                      have HLAE := Lib.hid hLA
                      obtain ⟨A0, c0, rfl, hrv⟩ := hrow.rv
                      obtain ⟨na, hna⟩ : ∃ na, LA.length = na := ⟨_, rfl⟩
                      rw [hna] at hrv hO hnl
                      have HNA := Lib.hid hna
                      have hrvle := hrv.le
                      have hrvcp := hrv.cap
                      have R0 := Lib.hid hrv
                      have HO0 := Lib.hid hO
                      clear hI hK hD hO hrow hLA hrv hna k1 k2 HAG HTR HBB HLA HWe HBX
                      have kO := fun w' (hh : Ext W w') => (HO0.out.below hh).cells
                      simp only [cellsAre, Nat.zero_add, Nat.reduceAdd, and_true] at kO
                      have kq := fun w' (hh : Ext W w') => (HW.out.ext hh).cells
                      have hst : Ext W W.drew := Ext.drew _
                      by_cases h0 : e = 0
                      · subst h0
                        obtain ⟨a, rfl, ha, hka⟩ := verS_zero HW.out.st.posE HE.out
                        obtain ⟨b, oo, Az, cz, L, rfl, hL, pa, kz, rz, hLm⟩ := HW.out.at_ ha
                        have RZ := Lib.hid rz
                        have HLL := Lib.hid (show L = LA by rw [← HLAE.out, ← hL]; rfl)
                        have kzq := fun w' (hh : Ext W w') => ext_cell hh kz
                        clear ha hka hL hLm kz rz
                        go_upto_region 40 with fail
                        refine wp_norm ?_
                        refine wp_region_adv 18 [] [(0, true, some 229, none), (1, true, some 230, none), (2, true, some 231, none), (3, true, some 232, some (231, true)), (4, true, some 233, some (231, true)), (5, true, some 234, some (231, true)), (6, true, some 235, none), (7, true, some 236, none), (8, true, some 237, some (236, false)), (9, true, some 238, some (236, false)), (10, true, some 239, some (236, false)), (11, true, some 240, some (239, true)), (12, true, some 241, some (239, true)), (13, true, some 242, some (239, true)), (14, true, some 243, some (239, true)), (15, true, some 244, some (239, true)), (16, true, some 245, some (239, true)), (17, true, some 246, some (239, true))] (by kernel_rfl) (by kernel_rfl) (by kernel_rfl) (by intro it hit; (repeat (rcases List.mem_cons.1 hit with rfl | hit; (focus (intro o ho ev w; injection ho with ho; subst ho; kernel_rfl)))); cases hit) (fun _ _ _ _ _ => ⟨fun h => h, fun h => h⟩) hst ?_
                        repeat (first | (refine wpSeq_pure (v := ?_) rfl ?_ ?_; rotate_left 1; (focus (intro wq_ hSq_; (try dsimp only at hSq_); go_simp; (try with_reducible rfl); done)); (try simp only [Act.put, List.setIfInBounds_toArray, List.set_cons_zero, List.set_cons_succ])) | (refine wpSeq_pureG (v := ?_) rfl rfl ?_ ?_; rotate_left 1; (focus (intro wq_ hSq_; (try dsimp only at hSq_); go_simp; (try with_reducible rfl); done)); (try simp only [Act.put, List.setIfInBounds_toArray, List.set_cons_zero, List.set_cons_succ])) | (refine wpSeq_off rfl rfl ?_; (try simp only [Act.put, List.setIfInBounds_toArray, List.set_cons_zero, List.set_cons_succ])) | (refine wpSeq_offU rfl ?_; (try simp only [Act.put, List.setIfInBounds_toArray, List.set_cons_zero, List.set_cons_succ])))
                        intro w9 g9 s9
                        (try simp only [endJ, List.drop_succ_cons, List.drop_zero])
                        have HW9 := Lib.hid (HW.out.ext s9)
                        have R9 := Lib.hid (And.intro (R0.out.below s9) (RZ.out.below s9))
                        have HD9 := Lib.hid (show w9.heap[D]? = some (.deferred (some [])) from (s9.block D (obj_lt HDK.out.1)).trans HDK.out.1)
                        clear hst kq kzq kO g9 s9 HW RZ R0 HO0
                        go_wp2_with fail
                        refine (zsame_any A0 Az na c0 L.length cz LA w9 R9.out.1 (by have := R9.out.2; rw [HLL.out] at this ⊢; exact this) (by have := HNA.out; omega)).mono ?_
                        rintro e' wx ⟨zx, rfl, rfl, bx⟩
                        have HWx := Lib.hid (HW9.out.ext bx)
                        have HDx := Lib.hid (show wx.heap[D]? = some (.deferred (some [])) from (bx.block D (obj_lt HD9.out)).trans HD9.out)
                        clear bx HW9 R9 HD9
                        have kr := HWx.out.rb.cells
                        have fr := HWx.out.rb.free
                        simp only [cellsAre, Nat.zero_add, Nat.reduceAdd, and_true] at kr
                        go_wp2_with fail
                        have hB1 : Blk (wx.setCell ⟨R, 0, none⟩ (.bool true)) R TBO #[.bool true] := HWx.out.rb.set_ 0 (.bool true)
                        have hx1 := HWx.out.ex.setCell (p := ⟨R, 0, none⟩) HRQ.out (.bool true)
                        have hne : D ≠ R := fun e => by
                          have h1 := HDx.out
                          have h2 := HWx.out.rb
                          unfold Blk at h2
                          rw [e, h2] at h1
                          cases h1
                        have hk2 : (wx.setCell ⟨R, 0, none⟩ (.bool true)).heap[D]? = some (.deferred (some [])) := (Below.heap_setCell wx ⟨R, 0, none⟩ (.bool true) D hne).trans HDx.out
                        obtain ⟨Wa, hWa⟩ : ∃ Wa, wx.setCell ⟨R, 0, none⟩ (.bool true) = Wa := ⟨_, rfl⟩
                        rw [hWa] at hB1 hx1 hk2 ⊢
                        have hg2 := grownBy_putObj' Wa D (.deferred none)
                        have hr2 : ∀ r, some D = some r → w.heap.size ≤ r ∧ ∃ o : Obj, Wa.heap[r]? = some o ∧ o.isCells = false := fun r e => by
                          injection e with e
                          subst e
                          exact ⟨HDK.out.2, _, hk2, rfl⟩
                        have hB3 := keepB hg2 hr2 hB1
                        have hx2 := Below.grown hx1 hg2 (Ext.size hx1) (fun k e => (hr2 k e).1)
                        have hc3 := Blk.cells hB3
                        simp only [cellsAre, Nat.zero_add, Nat.reduceAdd, and_true] at hc3
                        refine ⟨by simp, .inl ⟨_, _, rfl, run_takeDeferred hk2, ?_⟩⟩
                        refine ⟨.bool true, ?_, ⟨_, rfl, rfl, hx2⟩⟩
                        simp [results, Tryz.results8, go_sem, hc3]
                      · have hb1 : (e == 0) = false := by rw [beq_eq_false_iff_ne]; exact h0
                        have hb2 : (e != 0) = true := by rw [bne_iff_ne]; exact h0
                        have hl0 : LA = [] := by rw [← HLAE.out]; exact if_neg h0
                        obtain rfl : na = 0 := by rw [← HNA.out, hl0]; rfl
                        clear hl0
                        go_upto_region 40 with fail
                        refine wp_norm ?_
                        refine wp_region_adv 18 [] [(0, true, some 229, none), (1, true, some 230, none), (2, true, some 231, none), (3, true, some 232, some (231, true)), (4, true, some 233, some (231, true)), (5, true, some 234, some (231, true)), (6, true, some 235, none), (7, true, some 236, none), (8, true, some 237, some (236, false)), (9, true, some 238, some (236, false)), (10, true, some 239, some (236, false)), (11, true, some 240, some (239, true)), (12, true, some 241, some (239, true)), (13, true, some 242, some (239, true)), (14, true, some 243, some (239, true)), (15, true, some 244, some (239, true)), (16, true, some 245, some (239, true)), (17, true, some 246, some (239, true))] (by kernel_rfl) (by kernel_rfl) (by kernel_rfl) (by intro it hit; (repeat (rcases List.mem_cons.1 hit with rfl | hit; (focus (intro o ho ev w; injection ho with ho; subst ho; kernel_rfl)))); cases hit) (fun _ _ _ _ _ => ⟨fun h => h, fun h => h⟩) hst ?_
                        repeat (first | (refine wpSeq_pure (v := ?_) rfl ?_ ?_; rotate_left 1; (focus (intro wq_ hSq_; (try dsimp only at hSq_); go_simp; (try with_reducible rfl); done)); (try simp only [Act.put, List.setIfInBounds_toArray, List.set_cons_zero, List.set_cons_succ])) | (refine wpSeq_pureG (v := ?_) rfl rfl ?_ ?_; rotate_left 1; (focus (intro wq_ hSq_; (try dsimp only at hSq_); go_simp; (try with_reducible rfl); done)); (try simp only [Act.put, List.setIfInBounds_toArray, List.set_cons_zero, List.set_cons_succ])) | (refine wpSeq_off rfl rfl ?_; (try simp only [Act.put, List.setIfInBounds_toArray, List.set_cons_zero, List.set_cons_succ])) | (refine wpSeq_offU rfl ?_; (try simp only [Act.put, List.setIfInBounds_toArray, List.set_cons_zero, List.set_cons_succ])))
                        intro wx g9 s9
                        (try simp only [endJ, List.drop_succ_cons, List.drop_zero])
                        have HWx := Lib.hid (HW.out.ext s9)
                        have HDx := Lib.hid (show wx.heap[D]? = some (.deferred (some [])) from (s9.block D (obj_lt HDK.out.1)).trans HDK.out.1)
                        clear hst kq kO g9 s9 HW R0 HO0
                        have kr := HWx.out.rb.cells
                        have fr := HWx.out.rb.free
                        simp only [cellsAre, Nat.zero_add, Nat.reduceAdd, and_true] at kr
                        go_wp2_with fail
                        have hB1 : Blk (wx.setCell ⟨R, 0, none⟩ (.bool true)) R TBO #[.bool true] := HWx.out.rb.set_ 0 (.bool true)
                        have hx1 := HWx.out.ex.setCell (p := ⟨R, 0, none⟩) HRQ.out (.bool true)
                        have hne : D ≠ R := fun e => by
                          have h1 := HDx.out
                          have h2 := HWx.out.rb
                          unfold Blk at h2
                          rw [e, h2] at h1
                          cases h1
                        have hk2 : (wx.setCell ⟨R, 0, none⟩ (.bool true)).heap[D]? = some (.deferred (some [])) := (Below.heap_setCell wx ⟨R, 0, none⟩ (.bool true) D hne).trans HDx.out
                        obtain ⟨Wa, hWa⟩ : ∃ Wa, wx.setCell ⟨R, 0, none⟩ (.bool true) = Wa := ⟨_, rfl⟩
                        rw [hWa] at hB1 hx1 hk2 ⊢
                        have hg2 := grownBy_putObj' Wa D (.deferred none)
                        have hr2 : ∀ r, some D = some r → w.heap.size ≤ r ∧ ∃ o : Obj, Wa.heap[r]? = some o ∧ o.isCells = false := fun r e => by
                          injection e with e
                          subst e
                          exact ⟨HDK.out.2, _, hk2, rfl⟩
                        have hB3 := keepB hg2 hr2 hB1
                        have hx2 := Below.grown hx1 hg2 (Ext.size hx1) (fun k e => (hr2 k e).1)
                        have hc3 := Blk.cells hB3
                        simp only [cellsAre, Nat.zero_add, Nat.reduceAdd, and_true] at hc3
                        refine ⟨by simp, .inl ⟨_, _, rfl, run_takeDeferred hk2, ?_⟩⟩
                        refine ⟨.bool true, ?_, ⟨_, rfl, rfl, hx2⟩⟩
                        simp [results, Tryz.results8, go_sem, hc3]
end Go.Proofs.Tb
