/- StoreNobody: the walk. -/
import Derived.Test.YtfljnfdeboibhaaGreatTwf
import Derived.Test.YtfljnfdeboibhaaGreatSyb
import Derived.Test.YtfljnfdeboibhaaGreatSyc
import Derived.LoopNIn
import Derived.Lib.SmallJoins
set_option linter.unusedVariables false
set_option linter.unusedSimpArgs false
namespace Go.Proofs.Tb
open Go.Maps Go.RowKit Go.Lib
attribute [local go_sem] cell_set_same neqMapL
abbrev TQU : TypeId := 71
abbrev TPO : TypeId := 25
abbrev TPD : TypeId := 26
abbrev TSQ : TypeId := 81
theorem equalIn_fn (f : Fn) (c b : Array Value) (w : World) (d : Nat) : (Op.equalIn (d + 1) TSQ (.func f c b) .nilFunc).run Tryz.prog w = .ok false w := by
  simp [Op.equalIn, run_underlying Tryz.underlying81]
@[local go_sem] theorem neqFnL (f : Fn) (c b : Array Value) (w : World) : (binOp .neq TSQ (.func f c b) .nilFunc).run Tryz.prog w = .ok (.bool true) w := by
  simp only [binOp]
  simp [Op.equal, Op.maxDepth, equalIn_fn f c b w 9999]
theorem wp_norm {P : Program} {c : Code} {K : Act → World → Prop} {Q : Exit → Act → World → Prop} {a : Act} {w : World} (h : c.wp P (Exit.then K (fun _ _ _ => False)) a w) : c.wp P (Exit.then K Q) a w :=
  Go.wp_mono h fun e a w he => by cases e <;> first | exact he | exact he.elim
abbrev FPR : Nat := 100
theorem prFn : Tryz.prog.funcs[FPR]? = some Tryz.f100 := Tryz.func100
/-- Where StoreNobody stands. -/
structure NbS (w W : World) (q0 q1 q2 q3 : Nat) (Ds : List Nat) (qf qt qm : Int) (ql qh : Str) : Prop where
  q : Blk W q0 TQU #[.int .i64 qf, .int .i64 qt, .string ql, .string qh, .int .i64 qm]
  rb : Blk W q1 TBO #[.bool false]
  st : Blk W q2 TSE #[.pointer none, .int .i64 0, .slice none 0 0, .bool false]
  row : Blk W q3 TPO #[.pointer none, .pointer (some ⟨q2, 0, none⟩)]
  dd : ∀ D ∈ Ds, W.heap[D]? = some (.deferred (some []))
  ex : Ext w W
  lo : ∀ D ∈ Ds, w.heap.size ≤ D
  lq : w.heap.size ≤ q1
theorem NbS.push {w W : World} {q0 q1 q2 q3 D : Nat} {Ds : List Nat} {qf qt qm : Int} {ql qh : Str} (h : NbS w W q0 q1 q2 q3 Ds qf qt qm ql qh) (hD : W.heap[D]? = some (.deferred (some []))) (hl : w.heap.size ≤ D) : NbS w W q0 q1 q2 q3 (D :: Ds) qf qt qm ql qh :=
  ⟨h.q, h.rb, h.st, h.row, fun E hE => by
    rcases List.mem_cons.1 hE with rfl | hE
    · exact hD
    · exact h.dd E hE, h.ex, fun E hE => by
    rcases List.mem_cons.1 hE with rfl | hE
    · exact hl
    · exact h.lo E hE, h.lq⟩
theorem NbS.ext {w W W' : World} {q0 q1 q2 q3 : Nat} {Ds : List Nat} {qf qt qm : Int} {ql qh : Str} (h : NbS w W q0 q1 q2 q3 Ds qf qt qm ql qh) (x : Ext W W') : NbS w W' q0 q1 q2 q3 Ds qf qt qm ql qh :=
  ⟨h.q.below x, h.rb.below x, h.st.below x, h.row.below x, fun D hD => (x.block D (obj_lt (h.dd D hD))).trans (h.dd D hD), bt h.ex x, h.lo, h.lq⟩
/-- .. and with the disks. -/
structure NdS (w W : World) (q0 q1 q2 q3 r0 r1 : Nat) (Ds : List Nat) (qf qt qm : Int) (ql qh : Str) : Prop where
  nb : NbS w W q0 q1 q2 q3 Ds qf qt qm ql qh
  ds : Blk W r0 TDK #[.slice none 0 0, .map none, .bool false, .int .i64 0]
  rw_ : Blk W r1 TPD #[.pointer none, .pointer (some ⟨r0, 0, none⟩)]
theorem NdS.ext {w W W' : World} {q0 q1 q2 q3 r0 r1 : Nat} {Ds : List Nat} {qf qt qm : Int} {ql qh : Str} (h : NdS w W q0 q1 q2 q3 r0 r1 Ds qf qt qm ql qh) (x : Ext W W') : NdS w W' q0 q1 q2 q3 r0 r1 Ds qf qt qm ql qh :=
  ⟨h.nb.ext x, h.ds.below x, h.rw_.below x⟩
theorem NdS.non {w W : World} {q0 q1 q2 q3 r0 r1 : Nat} {Ds : List Nat} {qf qt qm : Int} {ql qh : Str} (_ : NdS w W q0 q1 q2 q3 r0 r1 Ds qf qt qm ql qh) : NoD W none := Or.inl rfl
theorem NdS.nod {w W : World} {q0 q1 q2 q3 r0 r1 : Nat} {Ds : List Nat} {qf qt qm : Int} {ql qh : Str} (h : NdS w W q0 q1 q2 q3 r0 r1 Ds qf qt qm ql qh) : NoD W (some ⟨r0, 0, none⟩) := Or.inr ⟨r0, rfl, h.ds⟩
set_option maxHeartbeats 12800000 in
set_option maxRecDepth 100000 in
theorem rnobody_any (A : Option Addr) (nl cl : Nat) (qf qt qm : Int) (ql qh : Str) (w : World) :
    Calls Tryz.prog 11 #[.slice A nl cl, .agg #[.int .i64 qf, .int .i64 qt, .string ql, .string qh, .int .i64 qm]] w (Ret (fun z _ => z = .bool true) w) := by
  have hro : Fence.wide.round = none := rfl
  have hd : Fence.wide.depth = none := rfl
  have hfn : ∀ f, Fence.wide.fn f := fun _ => trivial
  refine (callsIn_wide (n := 9)).1 ?_
  refine callsIn_of_wp_marks Tryz.func11 rfl (hfn _) ?_ hro
  simp only [Tryz.ntmps11, List.size_toArray, List.length_cons, List.length_nil, Nat.reduceAdd, Nat.reduceSub, Array.replicate_succ, Array.replicate_zero, List.push_toArray, List.append_toArray, List.nil_append, List.cons_append]
  gi_wp2
  obtain ⟨q0, hq0⟩ : ∃ q0, w.heap.size = q0 := ⟨_, rfl⟩
  obtain ⟨q1, hq1⟩ : ∃ q1, q0 + 1 = q1 := ⟨_, rfl⟩
  obtain ⟨q2, hq2⟩ : ∃ q2, q1 + 1 = q2 := ⟨_, rfl⟩
  obtain ⟨q3, hq3⟩ : ∃ q3, q2 + 1 = q3 := ⟨_, rfl⟩
  have H0 : NbS w ((((w.alloc (.cells #[.int .i64 qf, .int .i64 qt, .string ql, .string qh, .int .i64 qm] TQU)).alloc (.cells #[.bool false] TBO)).alloc (.cells #[.pointer none, .int .i64 0, .slice none 0 0, .bool false] TSE)).alloc (.cells #[.pointer none, .pointer (some ⟨q2, 0, none⟩)] TPO)) q0 q1 q2 q3 [] qf qt qm ql qh :=
    ⟨(((Blk.new_ _ _ hq0).alloc _).alloc _).alloc _, ((Blk.new_ _ _ (by simp; omega)).alloc _).alloc _, (Blk.new_ _ _ (by simp; omega)).alloc _, Blk.new_ _ _ (by simp; omega), fun D hD => absurd hD (by simp), bt (Ext.allocR _ _) (bt (Ext.allocR _ _) (bt (Ext.allocR _ _) (Ext.allocR _ _))), fun D hD => absurd hD (by simp), by omega⟩
  simp only [hq0, hq1, hq2, hq3]
  obtain ⟨W0, hW0⟩ : ∃ W0, ((((w.alloc (.cells #[.int .i64 qf, .int .i64 qt, .string ql, .string qh, .int .i64 qm] TQU)).alloc (.cells #[.bool false] TBO)).alloc (.cells #[.pointer none, .int .i64 0, .slice none 0 0, .bool false] TSE)).alloc (.cells #[.pointer none, .pointer (some ⟨q2, 0, none⟩)] TPO)) = W0 := ⟨_, rfl⟩
  rw [hW0] at H0 ⊢
  have HA := Lib.hid H0
  clear H0 hW0 hq0 hq1 hq2 hq3
  refine wpIn_loop_rounds 3 ?_
  rw [roundsIn_succ]
  have kq := HA.out.q.cells
  have kr := HA.out.row.cells
  simp only [cellsAre, Nat.zero_add, Nat.reduceAdd, and_true] at kq kr
  gi_wp2
  refine (callsIn_wide.2 (nos_commit (Or.inl rfl) A nl cl)).mono ?_
  rintro e wn1 ⟨vn1, rfl, rfl, bn1⟩
  have HB := Lib.hid (HA.out.ext bn1)
  clear bn1 HA kq kr
  have kq := HB.out.q.cells
  have kr := HB.out.row.cells
  simp only [cellsAre, Nat.zero_add, Nat.reduceAdd, and_true] at kq kr
  gi_wp2
  refine (callsIn_wide.2 (nos_get (Or.inl rfl) qf _)).mono ?_
  rintro e wn2 ⟨vn2, rfl, rfl, bn2⟩
  have HA := Lib.hid (HB.out.ext bn2)
  clear bn2 HB kq kr
  have kq := HA.out.q.cells
  have kr := HA.out.row.cells
  simp only [cellsAre, Nat.zero_add, Nat.reduceAdd, and_true] at kq kr
  gi_wp2
  refine (callsIn_wide.2 (nos_range (Or.inl rfl) qf _ _ 5)).mono ?_
  rintro e wn3 ⟨vn3, rfl, rfl, bn3⟩
  have HB := Lib.hid (HA.out.ext bn3)
  clear bn3 HA kq kr
  unfold ansR
  have kq := HB.out.q.cells
  have kr := HB.out.row.cells
  simp only [cellsAre, Nat.zero_add, Nat.reduceAdd, and_true] at kq kr
  gi_wp2
  refine (callsIn_wide.2 (nos_diff (Or.inl rfl) qf qt)).mono ?_
  rintro e wn4 ⟨vn4, rfl, rfl, bn4⟩
  have HA := Lib.hid (HB.out.ext bn4)
  clear bn4 HB kq kr
  have kq := HA.out.q.cells
  have kr := HA.out.row.cells
  simp only [cellsAre, Nat.zero_add, Nat.reduceAdd, and_true] at kq kr
  gi_wp2
  refine (callsIn_wide.2 (nos_clone (Or.inl rfl))).mono ?_
  rintro e wn5 ⟨vn5, rfl, rfl, bn5⟩
  have HB := Lib.hid (HA.out.ext bn5)
  clear bn5 HA kq kr
  have kq := HB.out.q.cells
  have kr := HB.out.row.cells
  simp only [cellsAre, Nat.zero_add, Nat.reduceAdd, and_true] at kq kr
  gi_wp2
  refine (callsIn_wide.2 (nos_broken (Or.inl rfl))).mono ?_
  rintro e wn6 ⟨vn6, rfl, rfl, bn6⟩
  have HA := Lib.hid (HB.out.ext bn6)
  clear bn6 HB kq kr
  have kq := HA.out.q.cells
  have kr := HA.out.row.cells
  simp only [cellsAre, Nat.zero_add, Nat.reduceAdd, and_true] at kq kr
  gi_wp2
  refine (callsIn_wide.2 (nos_newest (Or.inl rfl))).mono ?_
  rintro e wn7 ⟨vn7, rfl, rfl, bn7⟩
  have HB := Lib.hid (HA.out.ext bn7)
  clear bn7 HA kq kr
  have kq := HB.out.q.cells
  have kr := HB.out.row.cells
  simp only [cellsAre, Nat.zero_add, Nat.reduceAdd, and_true] at kq kr
  gi_wp2
  refine (callsIn_wide.2 (nos_oldest (Or.inl rfl))).mono ?_
  rintro e wn8 ⟨vn8, rfl, rfl, bn8⟩
  have HA := Lib.hid (HB.out.ext bn8)
  clear bn8 HB kq kr
  have kq := HA.out.q.cells
  have kr := HA.out.row.cells
  simp only [cellsAre, Nat.zero_add, Nat.reduceAdd, and_true] at kq kr
  gi_wp2
  refine (callsIn_wide.2 (nos_all (Or.inl rfl) qf)).mono ?_
  rintro e wn9 ⟨vn9, rfl, ⟨b1, b2, rfl, hb1, hb2⟩, bn9⟩
  have HB := Lib.hid (HA.out.ext bn9)
  have HBB := Lib.hid (And.intro hb1 hb2)
  have k1 := hb1.cells
  have k2 := hb2.cells
  simp only [cellsAre, Nat.zero_add, Nat.reduceAdd, and_true] at k1 k2
  clear bn9 HA kq kr hb1 hb2
  gi_wp2
  refine wpIn_rangeFunc_ownF hro (by omega) (gf := FPR) (lb := #[.pointer (some ⟨b1, 0, none⟩), .pointer (some ⟨b2, 0, none⟩)]) rfl (hfn _) (enters_of prFn (by kernel_rfl) rfl)
    (pairs_stops Fence.wide hd hfn hro 8 b1 b2 (fun _ => 0) (fun _ => True) MT.nil ⟨#[]⟩ wn9 HBB.out.1.lt HBB.out.2.lt k1 k2 trivial List.Pairwise.nil) (fun h k => KN.trans h k) (fun W l o o' _ ho hc _ => KN.put ho hc) (Below.refl _ _) (fun _ => rfl)
    (fun _ W => Below wn9.heap.size wn9 W) (fun _ _ _ => False) (ownFrom_below (Nat.le_refl _) (Nat.le_refl _)) (fun _ _ _ _ _ h _ _ => h.elim) (Below.refl _ _) ?a1 ?assign ?body ?done ?stop
  case assign =>
    intro l x W K hK
    gi_wp2
    exact hK
  case body =>
    rintro l pre x W hI hlen
    exact absurd hlen (Nat.not_lt_zero _)
  case stop =>
    rintro D c pre W hD hpre hX hK
    exact hX.elim
  clear k1 k2 HBB
  case done =>
    rintro D1 xs W1 hD1 hS1 hI1 hK1
    have HA := Lib.hid ((HB.out.ext hI1).push hK1 (Nat.le_trans HB.out.ex.size hD1))
    have hDl := obj_lt hK1
    clear hS1 hI1 hK1 HB
    gi_wp2
    rw [roundsIn_succ]
    have kq := HA.out.q.cells
    have kr := HA.out.row.cells
    simp only [cellsAre, Nat.zero_add, Nat.reduceAdd, and_true] at kq kr
    gi_wp2
    refine (callsIn_wide.2 (nos_commit (Or.inr ⟨q2, rfl, HA.out.st⟩) A nl cl)).mono ?_
    rintro e wn1 ⟨vn1, rfl, rfl, bn1⟩
    have HB := Lib.hid (HA.out.ext bn1)
    clear bn1 HA kq kr
    have kq := HB.out.q.cells
    have kr := HB.out.row.cells
    simp only [cellsAre, Nat.zero_add, Nat.reduceAdd, and_true] at kq kr
    gi_wp2
    refine (callsIn_wide.2 (nos_get (Or.inr ⟨q2, rfl, HB.out.st⟩) qf _)).mono ?_
    rintro e wn2 ⟨vn2, rfl, rfl, bn2⟩
    have HA := Lib.hid (HB.out.ext bn2)
    clear bn2 HB kq kr
    have kq := HA.out.q.cells
    have kr := HA.out.row.cells
    simp only [cellsAre, Nat.zero_add, Nat.reduceAdd, and_true] at kq kr
    gi_wp2
    refine (callsIn_wide.2 (nos_range (Or.inr ⟨q2, rfl, HA.out.st⟩) qf _ _ 5)).mono ?_
    rintro e wn3 ⟨vn3, rfl, rfl, bn3⟩
    have HB := Lib.hid (HA.out.ext bn3)
    clear bn3 HA kq kr
    unfold ansR
    have kq := HB.out.q.cells
    have kr := HB.out.row.cells
    simp only [cellsAre, Nat.zero_add, Nat.reduceAdd, and_true] at kq kr
    gi_wp2
    refine (callsIn_wide.2 (nos_diff (Or.inr ⟨q2, rfl, HB.out.st⟩) qf qt)).mono ?_
    rintro e wn4 ⟨vn4, rfl, rfl, bn4⟩
    have HA := Lib.hid (HB.out.ext bn4)
    clear bn4 HB kq kr
    have kq := HA.out.q.cells
    have kr := HA.out.row.cells
    simp only [cellsAre, Nat.zero_add, Nat.reduceAdd, and_true] at kq kr
    gi_wp2
    refine (callsIn_wide.2 (nos_clone (Or.inr ⟨q2, rfl, HA.out.st⟩))).mono ?_
    rintro e wn5 ⟨vn5, rfl, rfl, bn5⟩
    have HB := Lib.hid (HA.out.ext bn5)
    clear bn5 HA kq kr
    have kq := HB.out.q.cells
    have kr := HB.out.row.cells
    simp only [cellsAre, Nat.zero_add, Nat.reduceAdd, and_true] at kq kr
    gi_wp2
    refine (callsIn_wide.2 (nos_broken (Or.inr ⟨q2, rfl, HB.out.st⟩))).mono ?_
    rintro e wn6 ⟨vn6, rfl, rfl, bn6⟩
    have HA := Lib.hid (HB.out.ext bn6)
    clear bn6 HB kq kr
    have kq := HA.out.q.cells
    have kr := HA.out.row.cells
    simp only [cellsAre, Nat.zero_add, Nat.reduceAdd, and_true] at kq kr
    gi_wp2
    refine (callsIn_wide.2 (nos_newest (Or.inr ⟨q2, rfl, HA.out.st⟩))).mono ?_
    rintro e wn7 ⟨vn7, rfl, rfl, bn7⟩
    have HB := Lib.hid (HA.out.ext bn7)
    clear bn7 HA kq kr
    have kq := HB.out.q.cells
    have kr := HB.out.row.cells
    simp only [cellsAre, Nat.zero_add, Nat.reduceAdd, and_true] at kq kr
    gi_wp2
    refine (callsIn_wide.2 (nos_oldest (Or.inr ⟨q2, rfl, HB.out.st⟩))).mono ?_
    rintro e wn8 ⟨vn8, rfl, rfl, bn8⟩
    have HA := Lib.hid (HB.out.ext bn8)
    clear bn8 HB kq kr
    have kq := HA.out.q.cells
    have kr := HA.out.row.cells
    simp only [cellsAre, Nat.zero_add, Nat.reduceAdd, and_true] at kq kr
    gi_wp2
    refine (callsIn_wide.2 (nos_all (Or.inr ⟨q2, rfl, HA.out.st⟩) qf)).mono ?_
    rintro e wn9 ⟨vn9, rfl, ⟨b1, b2, rfl, hb1, hb2⟩, bn9⟩
    have HB := Lib.hid (HA.out.ext bn9)
    have HBB := Lib.hid (And.intro hb1 hb2)
    have k1 := hb1.cells
    have k2 := hb2.cells
    simp only [cellsAre, Nat.zero_add, Nat.reduceAdd, and_true] at k1 k2
    clear bn9 HA kq kr hb1 hb2
    gi_wp2
    refine wpIn_rangeFunc_ownF hro (by omega) (gf := FPR) (lb := #[.pointer (some ⟨b1, 0, none⟩), .pointer (some ⟨b2, 0, none⟩)]) rfl (hfn _) (enters_of prFn (by kernel_rfl) rfl)
      (pairs_stops Fence.wide hd hfn hro 8 b1 b2 (fun _ => 0) (fun _ => True) MT.nil ⟨#[]⟩ wn9 HBB.out.1.lt HBB.out.2.lt k1 k2 trivial List.Pairwise.nil) (fun h k => KN.trans h k) (fun W l o o' _ ho hc _ => KN.put ho hc) (Below.refl _ _) (fun _ => rfl)
      (fun _ W => Below wn9.heap.size wn9 W) (fun _ _ _ => False) (ownFrom_below (Nat.le_refl _) (Nat.le_refl _)) (fun _ _ _ _ _ h _ _ => h.elim) (Below.refl _ _) ?a2 ?assign ?body ?done ?stop
    case assign =>
      intro l x W K hK
      gi_wp2
      exact hK
    case body =>
      rintro l pre x W hI hlen
      exact absurd hlen (Nat.not_lt_zero _)
    case stop =>
      rintro D c pre W hD hpre hX hK
      exact hX.elim
    clear k1 k2 HBB
    case done =>
      rintro D2 xs W2 hD2 hS2 hI2 hK2
      have HA := Lib.hid ((HB.out.ext hI2).push hK2 (Nat.le_trans HB.out.ex.size hD2))
      have hDD : D1 < D2 := Nat.lt_of_lt_of_le (obj_lt (HB.out.dd D1 (by simp))) hD2
      clear hS2 hI2 hK2 HB
      gi_wp2
      rw [roundsIn_succ]
      gi_wp2
      obtain ⟨r0, hr0⟩ : ∃ r0, W2.heap.size = r0 := ⟨_, rfl⟩
      obtain ⟨r1, hr1⟩ : ∃ r1, r0 + 1 = r1 := ⟨_, rfl⟩
      have H1 : NdS w ((W2.alloc (.cells #[.slice none 0 0, .map none, .bool false, .int .i64 0] TDK)).alloc (.cells #[.pointer none, .pointer (some ⟨r0, 0, none⟩)] TPD)) q0 q1 q2 q3 r0 r1 [D2, D1] qf qt qm ql qh :=
        ⟨HA.out.ext (bt (Ext.allocR _ _) (Ext.allocR _ _)), (Blk.new_ _ _ hr0).alloc _, Blk.new_ _ _ (by simp; omega)⟩
      simp only [hr0, hr1]
      obtain ⟨W3, hW3⟩ : ∃ W3, (W2.alloc (.cells #[.slice none 0 0, .map none, .bool false, .int .i64 0] TDK)).alloc (.cells #[.pointer none, .pointer (some ⟨r0, 0, none⟩)] TPD) = W3 := ⟨_, rfl⟩
      rw [hW3] at H1 ⊢
      clear HA hr0 hr1 hW3
      have HA := Lib.hid H1
      clear H1
      refine wpIn_loop_rounds 3 ?_
      rw [roundsIn_succ]
      have kq := HA.out.nb.q.cells
      have kr := HA.out.rw_.cells
      simp only [cellsAre, Nat.zero_add, Nat.reduceAdd, and_true] at kq kr
      gi_wp2
      refine (callsIn_wide.2 (nod_arm (NdS.non HA.out) qf)).mono ?_
      rintro e wn1 ⟨vn1, rfl, _, bn1⟩
      have HB := Lib.hid (HA.out.ext bn1)
      clear bn1 HA kq kr
      have kq := HB.out.nb.q.cells
      have kr := HB.out.rw_.cells
      simp only [cellsAre, Nat.zero_add, Nat.reduceAdd, and_true] at kq kr
      have hcv := Go.Joins.run_convert_bytes_const_at (P := Tryz.prog) wn1 TBY TU8 #[.int .u8 120] 1 1 wn1.heap.size rfl Tryz.underlying45 Tryz.underlying5
      gi_wp2
      refine (callsIn_wide.2 (nod_restart (NdS.non (HB.out.ext (Ext.allocR _ _))) _ _ _)).mono ?_
      rintro e wn2 ⟨vn2, rfl, _, bn2⟩
      have HA := Lib.hid (HB.out.ext (bt (Ext.allocR _ _) bn2))
      clear bn2 HB kq kr hcv
      have kq := HA.out.nb.q.cells
      have kr := HA.out.rw_.cells
      simp only [cellsAre, Nat.zero_add, Nat.reduceAdd, and_true] at kq kr
      gi_wp2
      refine (callsIn_wide.2 (nod_read (NdS.non HA.out) qf)).mono ?_
      rintro e wn3 ⟨vn3, rfl, rfl, bn3⟩
      have HB := Lib.hid (HA.out.ext bn3)
      clear bn3 HA kq kr
      have hst : Ext wn3 wn3.drew := Ext.drew _
      have kq := fun W' (hh : Ext wn3 W') => (HB.out.ext hh).nb.q.cells
      simp only [cellsAre, Nat.zero_add, Nat.reduceAdd, and_true] at kq
      gi_upto_region 24 with fail
      refine wpIn_wide.2 (wp_norm ?_)
      have hmk := make_64
      refine wp_region_adv 4 [] [(0, true, some 157, none), (1, true, some 158, none), (2, true, some 159, none), (3, false, some 160, none)] (by kernel_rfl) (by kernel_rfl) (by kernel_rfl) (by intro it hit; (repeat (rcases List.mem_cons.1 hit with rfl | hit; (focus (intro o ho ev w; injection ho with ho; subst ho; kernel_rfl)))); cases hit) (fun _ _ _ _ _ => ⟨fun h => h, fun h => h⟩) hst ?_
      repeat (first | (refine wpSeq_pure (v := ?_) rfl ?_ ?_; rotate_left 1; (focus (intro wq_ hSq_; (try dsimp only at hSq_); go_simp; (try with_reducible rfl); done)); (try simp only [Act.put, List.setIfInBounds_toArray, List.set_cons_zero, List.set_cons_succ])) | (refine wpSeq_pureG (v := ?_) rfl rfl ?_ ?_; rotate_left 1; (focus (intro wq_ hSq_; (try dsimp only at hSq_); go_simp; (try with_reducible rfl); done)); (try simp only [Act.put, List.setIfInBounds_toArray, List.set_cons_zero, List.set_cons_succ])) | (refine wpSeq_off rfl rfl ?_; (try simp only [Act.put, List.setIfInBounds_toArray, List.set_cons_zero, List.set_cons_succ])) | (refine wpSeq_offU rfl ?_; (try simp only [Act.put, List.setIfInBounds_toArray, List.set_cons_zero, List.set_cons_succ])))
      first | refine wpSeq_call rfl (fun u1 gu1 su1 K hK => ?_) | refine wpSeq_callG rfl rfl (fun u1 gu1 su1 K hK => ?_)
      go_simp
      (try go_wp2_with fail)
      refine hK.out _ _ (Ext.allocR _ _) ?_
      clear hK K
      (try simp only [Act.put, List.setIfInBounds_toArray, List.set_cons_zero, List.set_cons_succ])
      repeat (first | (refine wpSeq_pure (v := ?_) rfl ?_ ?_; rotate_left 1; (focus (intro wq_ hSq_; (try dsimp only at hSq_); go_simp; (try with_reducible rfl); done)); (try simp only [Act.put, List.setIfInBounds_toArray, List.set_cons_zero, List.set_cons_succ])) | (refine wpSeq_pureG (v := ?_) rfl rfl ?_ ?_; rotate_left 1; (focus (intro wq_ hSq_; (try dsimp only at hSq_); go_simp; (try with_reducible rfl); done)); (try simp only [Act.put, List.setIfInBounds_toArray, List.set_cons_zero, List.set_cons_succ])) | (refine wpSeq_off rfl rfl ?_; (try simp only [Act.put, List.setIfInBounds_toArray, List.set_cons_zero, List.set_cons_succ])) | (refine wpSeq_offU rfl ?_; (try simp only [Act.put, List.setIfInBounds_toArray, List.set_cons_zero, List.set_cons_succ])))
      intro wz gz sz_
      (try simp only [endJ, List.drop_succ_cons, List.drop_zero])
      have HA := Lib.hid (HB.out.ext sz_)
      clear kq hst gz sz_ hmk HB
      go_wp2_with fail
      refine ((nod_write (NdS.non HA.out) qf _ _ _)).mono ?_
      rintro e wn5 ⟨vn5, rfl, rfl, bn5⟩
      have HB := Lib.hid (HA.out.ext bn5)
      clear bn5 HA
      go_wp2_with fail
      refine ((nod_sync (NdS.non HB.out))).mono ?_
      rintro e wn6 ⟨vn6, rfl, rfl, bn6⟩
      have HA := Lib.hid (HB.out.ext bn6)
      clear bn6 HB
      go_wp2_with fail
      refine ((nod_blocks (NdS.non HA.out))).mono ?_
      rintro e wn7 ⟨vn7, rfl, rfl, bn7⟩
      have HB := Lib.hid (HA.out.ext bn7)
      clear bn7 HA
      go_wp2_with fail
      refine ((nod_loose (NdS.non HB.out))).mono ?_
      rintro e wn8 ⟨vn8, rfl, rfl, bn8⟩
      have HA := Lib.hid (HB.out.ext bn8)
      clear bn8 HB
      go_wp2_with fail
      refine ((nod_down (NdS.non HA.out))).mono ?_
      rintro e wn9 ⟨vn9, rfl, rfl, bn9⟩
      have HB := Lib.hid (HA.out.ext bn9)
      clear bn9 HA
      go_wp2_with fail
      refine ((nod_clone (NdS.non HB.out))).mono ?_
      rintro e wn10 ⟨vn10, rfl, rfl, bn10⟩
      have HA := Lib.hid (HB.out.ext bn10)
      clear bn10 HB
      go_wp2_with fail
      gi_wp2
      rw [roundsIn_succ]
      have kq := HA.out.nb.q.cells
      have kr := HA.out.rw_.cells
      simp only [cellsAre, Nat.zero_add, Nat.reduceAdd, and_true] at kq kr
      gi_wp2
      refine (callsIn_wide.2 (nod_arm (NdS.nod HA.out) qf)).mono ?_
      rintro e wn1 ⟨vn1, rfl, _, bn1⟩
      have HB := Lib.hid (HA.out.ext bn1)
      clear bn1 HA kq kr
      have kq := HB.out.nb.q.cells
      have kr := HB.out.rw_.cells
      simp only [cellsAre, Nat.zero_add, Nat.reduceAdd, and_true] at kq kr
      have hcv := Go.Joins.run_convert_bytes_const_at (P := Tryz.prog) wn1 TBY TU8 #[.int .u8 120] 1 1 wn1.heap.size rfl Tryz.underlying45 Tryz.underlying5
      gi_wp2
      refine (callsIn_wide.2 (nod_restart (NdS.nod (HB.out.ext (Ext.allocR _ _))) _ _ _)).mono ?_
      rintro e wn2 ⟨vn2, rfl, _, bn2⟩
      have HA := Lib.hid (HB.out.ext (bt (Ext.allocR _ _) bn2))
      clear bn2 HB kq kr hcv
      have kq := HA.out.nb.q.cells
      have kr := HA.out.rw_.cells
      simp only [cellsAre, Nat.zero_add, Nat.reduceAdd, and_true] at kq kr
      gi_wp2
      refine (callsIn_wide.2 (nod_read (NdS.nod HA.out) qf)).mono ?_
      rintro e wn3 ⟨vn3, rfl, rfl, bn3⟩
      have HB := Lib.hid (HA.out.ext bn3)
      clear bn3 HA kq kr
      have hst : Ext wn3 wn3.drew := Ext.drew _
      have kq := fun W' (hh : Ext wn3 W') => (HB.out.ext hh).nb.q.cells
      simp only [cellsAre, Nat.zero_add, Nat.reduceAdd, and_true] at kq
      gi_upto_region 24 with fail
      refine wpIn_wide.2 (wp_norm ?_)
      have hmk := make_64
      refine wp_region_adv 4 [] [(0, true, some 157, none), (1, true, some 158, none), (2, true, some 159, none), (3, false, some 160, none)] (by kernel_rfl) (by kernel_rfl) (by kernel_rfl) (by intro it hit; (repeat (rcases List.mem_cons.1 hit with rfl | hit; (focus (intro o ho ev w; injection ho with ho; subst ho; kernel_rfl)))); cases hit) (fun _ _ _ _ _ => ⟨fun h => h, fun h => h⟩) hst ?_
      repeat (first | (refine wpSeq_pure (v := ?_) rfl ?_ ?_; rotate_left 1; (focus (intro wq_ hSq_; (try dsimp only at hSq_); go_simp; (try with_reducible rfl); done)); (try simp only [Act.put, List.setIfInBounds_toArray, List.set_cons_zero, List.set_cons_succ])) | (refine wpSeq_pureG (v := ?_) rfl rfl ?_ ?_; rotate_left 1; (focus (intro wq_ hSq_; (try dsimp only at hSq_); go_simp; (try with_reducible rfl); done)); (try simp only [Act.put, List.setIfInBounds_toArray, List.set_cons_zero, List.set_cons_succ])) | (refine wpSeq_off rfl rfl ?_; (try simp only [Act.put, List.setIfInBounds_toArray, List.set_cons_zero, List.set_cons_succ])) | (refine wpSeq_offU rfl ?_; (try simp only [Act.put, List.setIfInBounds_toArray, List.set_cons_zero, List.set_cons_succ])))
      first | refine wpSeq_call rfl (fun u1 gu1 su1 K hK => ?_) | refine wpSeq_callG rfl rfl (fun u1 gu1 su1 K hK => ?_)
      go_simp
      (try go_wp2_with fail)
      refine hK.out _ _ (Ext.allocR _ _) ?_
      clear hK K
      (try simp only [Act.put, List.setIfInBounds_toArray, List.set_cons_zero, List.set_cons_succ])
      repeat (first | (refine wpSeq_pure (v := ?_) rfl ?_ ?_; rotate_left 1; (focus (intro wq_ hSq_; (try dsimp only at hSq_); go_simp; (try with_reducible rfl); done)); (try simp only [Act.put, List.setIfInBounds_toArray, List.set_cons_zero, List.set_cons_succ])) | (refine wpSeq_pureG (v := ?_) rfl rfl ?_ ?_; rotate_left 1; (focus (intro wq_ hSq_; (try dsimp only at hSq_); go_simp; (try with_reducible rfl); done)); (try simp only [Act.put, List.setIfInBounds_toArray, List.set_cons_zero, List.set_cons_succ])) | (refine wpSeq_off rfl rfl ?_; (try simp only [Act.put, List.setIfInBounds_toArray, List.set_cons_zero, List.set_cons_succ])) | (refine wpSeq_offU rfl ?_; (try simp only [Act.put, List.setIfInBounds_toArray, List.set_cons_zero, List.set_cons_succ])))
      intro wz gz sz_
      (try simp only [endJ, List.drop_succ_cons, List.drop_zero])
      have HA := Lib.hid (HB.out.ext sz_)
      clear kq hst gz sz_ hmk HB
      go_wp2_with fail
      refine ((nod_write (NdS.nod HA.out) qf _ _ _)).mono ?_
      rintro e wn5 ⟨vn5, rfl, rfl, bn5⟩
      have HB := Lib.hid (HA.out.ext bn5)
      clear bn5 HA
      go_wp2_with fail
      refine ((nod_sync (NdS.nod HB.out))).mono ?_
      rintro e wn6 ⟨vn6, rfl, rfl, bn6⟩
      have HA := Lib.hid (HB.out.ext bn6)
      clear bn6 HB
      go_wp2_with fail
      refine ((nod_blocks (NdS.nod HA.out))).mono ?_
      rintro e wn7 ⟨vn7, rfl, rfl, bn7⟩
      have HB := Lib.hid (HA.out.ext bn7)
      clear bn7 HA
      go_wp2_with fail
      refine ((nod_loose (NdS.nod HB.out))).mono ?_
      rintro e wn8 ⟨vn8, rfl, rfl, bn8⟩
      have HA := Lib.hid (HB.out.ext bn8)
      clear bn8 HB
      go_wp2_with fail
      refine ((nod_down (NdS.nod HA.out))).mono ?_
      rintro e wn9 ⟨vn9, rfl, rfl, bn9⟩
      have HB := Lib.hid (HA.out.ext bn9)
      clear bn9 HA
      go_wp2_with fail
      refine ((nod_clone (NdS.nod HB.out))).mono ?_
      rintro e wn10 ⟨vn10, rfl, rfl, bn10⟩
      have HA := Lib.hid (HB.out.ext bn10)
      clear bn10 HB
      go_wp2_with fail
      gi_wp2
      rw [roundsIn_succ]
      gi_wp2
      refine (callsIn_wide.2 (rlives_any _)).mono ?_
      rintro e W9 ⟨v9, rfl, rfl, b9⟩
      have HB := Lib.hid (HA.out.ext b9)
      clear b9 HA
      have kb := HB.out.nb.rb.cells
      have fb := HB.out.nb.rb.free
      simp only [cellsAre, Nat.zero_add, Nat.reduceAdd, and_true] at kb
      gi_wp2
      have hB1 : Blk (W9.setCell ⟨q1, 0, none⟩ (.bool true)) q1 TBO #[.bool true] := HB.out.nb.rb.set_ 0 (.bool true)
      have hx1 : Ext w (W9.setCell ⟨q1, 0, none⟩ (.bool true)) := HB.out.nb.ex.setCell (p := ⟨q1, 0, none⟩) HB.out.nb.lq _
      have hne : ∀ D ∈ [D2, D1], D ≠ q1 := fun D hD e => by
        have h1 := HB.out.nb.dd D hD
        have h2 := HB.out.nb.rb
        unfold Blk at h2
        rw [e, h2] at h1
        cases h1
      have hdd : ∀ D ∈ [D2, D1], (W9.setCell ⟨q1, 0, none⟩ (.bool true)).heap[D]? = some (.deferred (some [])) := fun D hD =>
        (Below.heap_setCell W9 ⟨q1, 0, none⟩ (.bool true) D (hne D hD)).trans (HB.out.nb.dd D hD)
      have hlo := HB.out.nb.lo
      obtain ⟨Wa, hWa⟩ : ∃ Wa, W9.setCell ⟨q1, 0, none⟩ (.bool true) = Wa := ⟨_, rfl⟩
      rw [hWa] at hB1 hx1 hdd ⊢
      have hk2 := hdd D2 (by simp)
      have hk1 := hdd D1 (by simp)
      have hg2 := grownBy_putObj' Wa D2 (.deferred none)
      have hr2 : ∀ r, some D2 = some r → w.heap.size ≤ r ∧ ∃ o : Obj, Wa.heap[r]? = some o ∧ o.isCells = false := fun r e => by
        injection e with e
        subst e
        exact ⟨hlo _ (by simp), _, hk2, rfl⟩
      have hk1' : (Wa.putObj D2 (.deferred none)).heap[D1]? = some (.deferred (some [])) := (hg2.block D1 (obj_lt hk1) (fun e => by injection e with e; omega)).trans hk1
      have hg1 := grownBy_putObj' (Wa.putObj D2 (.deferred none)) D1 (.deferred none)
      have hr1 : ∀ r, some D1 = some r → w.heap.size ≤ r ∧ ∃ o : Obj, (Wa.putObj D2 (.deferred none)).heap[r]? = some o ∧ o.isCells = false := fun r e => by
        injection e with e
        subst e
        exact ⟨hlo _ (by simp), _, hk1', rfl⟩
      have hB3 := keepB hg1 hr1 (keepB hg2 hr2 hB1)
      have hx2 := Below.grown hx1 hg2 (Ext.size hx1) (fun k e => (hr2 k e).1)
      have hx3 := Below.grown hx2 hg1 (Ext.size hx2) (fun k e => (hr1 k e).1)
      have hc3 := Blk.cells hB3
      simp only [cellsAre, Nat.zero_add, Nat.reduceAdd, and_true] at hc3
      refine ⟨by simp, .inl ⟨_, _, rfl, run_takeDeferred hk2, ?_⟩⟩
      refine ⟨by simp, .inl ⟨_, _, rfl, run_takeDeferred hk1', ?_⟩⟩
      refine ⟨.bool true, ?_, ⟨_, rfl, rfl, hx3⟩⟩
      simp [results, Tryz.results11, go_sem, hc3]
end Go.Proofs.Tb
