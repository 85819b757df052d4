/- StoreRanged: the walk. -/
import Derived.Test.YtfljnfdeboibhaaRqc
import Derived.Deep.DeepCutAuto
import Derived.Deep.CutRange
import Derived.Sort.CutIn
set_option linter.unusedVariables false
set_option linter.unusedSimpArgs false
namespace Go.Proofs.Tb
open Go.Maps Go.RowKit Go.Lib Go.Shelf
attribute [local go_sem] cell_set_same neqMapL binOp_string_geq' Oper.semAt_some

abbrev TSQ : TypeId := 59
theorem equalIn_fn (f : Fn) (c b : Array Value) (w : World) (d : Nat) : (Op.equalIn (d + 1) TSQ (.func f c b) .nilFunc).run Try.prog w = .ok false w := by
  simp [Op.equalIn, run_underlying Try.underlying59]
@[local go_sem] theorem eqlFnL (f : Fn) (c b : Array Value) (w : World) : (binOp .eql TSQ (.func f c b) .nilFunc).run Try.prog w = .ok (.bool false) w := by
  simp only [binOp]
  simp [Op.equal, Op.maxDepth, equalIn_fn f c b w 9999]
theorem and15b (y : Nat) : ∃ b : Nat, b ≤ 15 ∧ bits .and .i64 (y : Int) 15 = (b : Int) := by
  have e : bits .and .i64 (y : Int) 15 = IntKind.i64.wrap ((BitVec.ofInt 64 y &&& BitVec.ofInt 64 15).toNat : Int) := rfl
  have h : (BitVec.ofInt 64 y &&& BitVec.ofInt 64 15).toNat ≤ 15 := by
    rw [BitVec.toNat_and]
    exact Nat.and_le_right
  refine ⟨_, h, ?_⟩
  rw [e, IntWalk.i64_in _ (by omega)]
theorem STl.imp {F G : Nat → Prop} {w : World} {s d keep n left : Nat} {Vs : List (List Pr)} (h : STl F w s d keep n Vs left) (hFG : ∀ b, F b → G b) : STl G w s d keep n Vs left := by
  obtain ⟨vs, B, bl, g1, g2⟩ := h
  exact ⟨vs, B, bl, ⟨g1.se, g1.dk.imp hFG, hFG _ g1.fs, g1.tr, g1.bz, g1.bm⟩, g2⟩
/-- The two ways out of a loop meet. -/
theorem wpIn_meet {F : Fence} {n : Nat} {P : Program} {c : Code} {Q : Exit → Act → World → Prop} {a : Act} {w : World} (x : Nat) (R : Nat → World → Prop) (h : c.wpIn F n P (fun e a' W => (e = .normal ∨ e = .exit x) ∧ ∃ D, a' = { a with defers := { target := .collected D, args := #[] } :: a.defers } ∧ R D W) a w) (h2 : ∀ a' W, Q .normal a' W → Q (.exit x) a' W) (h1 : ∀ D W, R D W → Q .normal { a with defers := { target := .collected D, args := #[] } :: a.defers } W) : c.wpIn F n P Q a w :=
  wpIn_mono h fun e a' W ⟨he, D, ha, hs⟩ => by
    subst ha
    rcases he with rfl | rfl
    · exact h1 _ _ hs
    · exact h2 _ _ (h1 _ _ hs)
theorem wpIn_world {F : Fence} {n : Nat} {P : Program} {c : Code} {Q : Exit → Act → World → Prop} {a : Act} {W : World} (S : World → Prop) (hS : S W) (h : ∀ W0 : World, S W0 → c.wpIn F n P Q a W0) : c.wpIn F n P Q a W := h W hS
theorem kp2_of {X : Nat → Obj → Prop} {B : Nat} {W W' : World} (hc : Chg X W W') (hX : ∀ b o, Bk o = true → ¬ X b o) : Kp2 B W W' := ⟨fun o ho hb => hc.same _ _ ho (hX _ _ hb), fun o ho hb => hc.same _ _ ho (hX _ _ hb)⟩
theorem Kp2.trans {B : Nat} {W V U : World} (h : Kp2 B W V) (k : Kp2 B V U) : Kp2 B W U := ⟨fun o ho hb => k.fst o (h.fst o ho hb) hb, fun o ho hb => k.snd o (h.snd o ho hb) hb⟩
theorem XGt.bk {v : Value} {bg : Nat} (b : Nat) (o : Obj) (h : Bk o = true) : ¬ XGt v bg b o := fun hx => by
  rcases hx with ⟨_, cs, rfl⟩ | ⟨_, cs, rfl⟩ <;> exact Bool.noConfusion h
theorem XBx.bk {R : Nat} {T : TypeId} (b : Nat) (o : Obj) (h : Bk o = true) : ¬ XBx R T b o := fun ⟨_, cs, e⟩ => by
  subst e; exact Bool.noConfusion h
theorem MF.bk {F : Nat → Prop} (b : Nat) (o : Obj) (h : Bk o = true) : ¬ MF F b o := fun hx => by
  cases o with
  | cells _ _ _ => exact Bool.noConfusion h
  | map _ _ => exact Bool.noConfusion h
  | _ => exact hx.2
/-- Where a round of the second loop stands. -/
structure RnR (w : World) (b5 b6 b7 b9 b11 s d : Nat) (st : Int) (Al : Option Addr) (ml cl : Nat) (l : List Cg) (bg bt D1 B0 : Nat) (Vs Vr : List (List Pr)) (A : Option Addr) (n c : Nat) (pre : List Pr) (tm : Nat) (W0 W : World) : Prop where
  st : RnS w b5 b6 b7 b9 b11 s d st Al ml cl l (Ng (.slice A n c) bg) Vs Vr W
  gb : Blk W bg TPS #[.slice A n c]
  go : OwP w.heap.size W (.slice A n c) pre
  tb : Blk W bt TIN #[.int .i64 (tm : Int)]
  dd : W.heap[D1]? = some (.deferred (some []))
  kp : Kp2 B0 W0 W
  kn : KN W0 W
theorem RnR.ext {w : World} {b5 b6 b7 b9 b11 s d : Nat} {st : Int} {Al : Option Addr} {ml cl : Nat} {l : List Cg} {bg bt D1 B0 : Nat} {Vs Vr : List (List Pr)} {A : Option Addr} {n c : Nat} {pre : List Pr} {tm : Nat} {W0 W W' : World} (h : RnR w b5 b6 b7 b9 b11 s d st Al ml cl l bg bt D1 B0 Vs Vr A n c pre tm W0 W) (x : Ext W W') : RnR w b5 b6 b7 b9 b11 s d st Al ml cl l bg bt D1 B0 Vs Vr A n c pre tm W0 W' :=
  ⟨h.st.ext x, h.gb.below x, own_below h.go x, h.tb.below x, (x.block _ (obj_lt h.dd)).trans h.dd, h.kp.trans (kp2_of (X := fun _ _ => False) (Chg.ext x) fun _ _ _ h => h), KN.trans h.kn (KN.ext x)⟩
theorem RnR.fin {w : World} {b5 b6 b7 b9 b11 s d : Nat} {st : Int} {Al : Option Addr} {ml cl : Nat} {l : List Cg} {bg bt D1 B0 : Nat} {V0 Vr : List (List Pr)} {A : Option Addr} {n c : Nat} {pre : List Pr} {tm : Nat} {W0 W : World} (h : RnR w b5 b6 b7 b9 b11 s d st Al ml cl l bg bt D1 B0 Vr Vr A n c pre tm W0 W) (h1 : tm ≤ 2) (h2 : ∃ X, Vr = V0 ++ X ∧ X.length = tm) (h3 : ∀ x ∈ Vr, x.length ≤ 360) : Kp2 B0 W0 W ∧ KN W0 W ∧ RnI w b5 b6 b7 b9 b11 s d st Al ml cl l bg bt D1 V0 pre W :=
  ⟨h.kp, h.kn, ⟨⟨tm, Vr, _, h1, h2, h3, h.st, h.gb, h.go, h.tb⟩, h.dd⟩⟩
theorem wp_norm {P : Program} {c : Code} {K : Act → World → Prop} {Q : Exit → Act → World → Prop} {a : Act} {w : World} (h : c.wp P (Exit.then K (fun _ _ _ => False)) a w) : c.wp P (Exit.then K Q) a w :=
  Go.wp_mono h fun e a w he => by cases e <;> first | exact he | exact he.elim
theorem stl_alike2 {F : Nat → Prop} {w : World} {s d keep n left : Nat} {Vs : List (List Pr)} {rv : Value} (h : STl F w s d keep n Vs left) (hr : RSv w rv Vs keep) (hl : Vs.length ≤ 100000) (hk : keep ≤ 100000) (hz : ∀ l ∈ Vs, l.length ≤ 1000) :
    Calls Try.prog 16 #[.pointer (some ⟨s, 0, none⟩), rv] w (Ret (fun z _ => z = .bool true) w) := by
  obtain ⟨vs, B, bl, h1, h2, _⟩ := h
  exact ralike_any h1.sr h2 hr hl hk hz
theorem last_le2 {Vs : List (List Pr)} {m : Nat} (h : ∀ l ∈ Vs, l.length ≤ m) (hp : 0 < Vs.length) : (Vs.getD (Vs.length - 1) []).length ≤ m := by
  rw [show Vs.getD (Vs.length - 1) [] = Vs[Vs.length - 1] by simp [List.getD, show Vs.length - 1 < Vs.length by omega]]
  exact h _ (List.getElem_mem _)
set_option maxHeartbeats 12800000 in
set_option maxRecDepth 100000 in
theorem rranged_any (A : Option Addr) (nx cx : Nat) (Ay : Option Addr) (ny cy : Nat) (ys : List Cg) (st : Nat) (hst : st < 256) (w : World) (h : OpX w A nx cx) (hy : Rv w 3 Ay ny cy (ccs ys)) (hys : ∀ x ∈ ys, x.k.size ≤ 9223372036854775807 ∧ x.v.size ≤ 9223372036854775807) :
    Calls Try.prog 6 #[.slice A nx cx, .slice Ay ny cy, .int .u8 (st : Int)] w (Ret (fun z _ => z = .bool true) w) := by
  have hro : Fence.wide.round = none := rfl
  have hd : Fence.wide.depth = none := rfl
  have hfn : ∀ f, Fence.wide.fn f := fun _ => trivial
  obtain ⟨stp, hstp, estp⟩ := and15b st
  obtain ⟨i0, hi0, hz0, hz1, hz2⟩ := info_parts pa_info
  have hle := h.le
  have hcp := h.cap
  have HX := Lib.hid h
  have HY := Lib.hid (And.intro hy hys)
  clear h hy hys
  refine (callsIn_wide (n := 9)).1 ?_
  refine callsIn_of_wp_marks Try.func6 rfl (hfn _) ?_ hro
  simp only [Try.ntmps6, List.size_toArray, List.length_cons, List.length_nil, Nat.reduceAdd, Nat.reduceSub, Array.replicate_succ, Array.replicate_zero, List.push_toArray, List.append_toArray, List.nil_append, List.cons_append]
  refine wpIn_wide.2 ?_
  go_upto_region 1 with fail
  obtain ⟨b5, hb5⟩ : ∃ Q, w.heap.size = Q := ⟨_, rfl⟩
  have x0 : Ext w ((w.alloc (.cells #[.int .u8 (st : Int)] TU8)).alloc (.cells #[.bool false] TBO)) := bt (Ext.allocR _ _) (Ext.allocR _ _)
  refine wp_world (fun W => Ext w W ∧ Blk W b5 TU8 #[.int .u8 (st : Int)] ∧ Blk W (b5 + 1) TBO #[.bool false]) ⟨x0, (Blk.new_ _ _ hb5).alloc _, Blk.new_ _ _ (by simp; omega)⟩ ?_
  obtain ⟨b6, hb6⟩ : ∃ R, b5 + 1 = R := ⟨_, rfl⟩
  rw [hb5, hb6]
  rintro W0 ⟨hx0, hq0, hr0⟩
  have X0 := Lib.hid hx0
  have Q0 := Lib.hid (And.intro hq0 hr0)
  have HB6 := Lib.hid (show w.heap.size ≤ b6 by omega)
  clear x0 hx0 hq0 hr0 hb5 hb6
  go_wp2_with fail
  refine (rfilled_any A nx cx 8 3 (by omega) (by omega) W0 (OpX.mk HX.out.le HX.out.cap (fun j hj => by
    obtain ⟨b, o, e, A', n', c', cs, h1, h2, h3⟩ := HX.out.at_ j hj
    exact ⟨b, o, e, A', n', c', cs, ext_cell X0.out h1, h2.below X0.out, h3⟩))).mono ?_
  rintro e w1 ⟨v1, rfl, ⟨s, d, rv, Vs, rfl, hs, hr, hl1, hl2⟩, b1⟩
  obtain ⟨A1, m1, c1, rfl, hh1⟩ := hr.form
  clear hh1
  have HS1 := Lib.hid (show STl (fun b => w.heap.size ≤ b) w1 s d 3 1536 Vs 0 from STl.imp hs fun b hb => Nat.le_trans X0.out.size hb)
  have HR1 := Lib.hid hr
  have X1 := Lib.hid (bt X0.out b1)
  have Q1 := Lib.hid (And.intro (Q0.out.1.below b1) (Q0.out.2.below b1))
  have HL2 := Lib.hid hl2
  have hVp := STx.pos hs
  clear hs hr b1 hl2 X0 Q0
  go_upto_region 2 with fail
  obtain ⟨b7, hb7⟩ : ∃ b, w1.heap.size = b := ⟨_, rfl⟩
  obtain ⟨b9, hb9⟩ : ∃ b, b7 + 1 = b := ⟨_, rfl⟩
  have x2 : Ext w1 ((w1.alloc (.cells #[.pointer (some ⟨s, 0, none⟩)] TSO)).alloc (.cells #[.slice A1 m1 c1, .int .i64 ((3 : Nat) : Int)] TRS)) := bt (Ext.allocR _ _) (Ext.allocR _ _)
  have hw7 : w.heap.size ≤ b7 := by rw [← hb7]; exact Ext.size X1.out
  refine wp_world (fun W => Ext w1 W ∧ Blk W b7 TSO #[.pointer (some ⟨s, 0, none⟩)] ∧ Blk W b9 TRS #[.slice A1 m1 c1, .int .i64 ((3 : Nat) : Int)]) ⟨x2, (Blk.new_ _ _ hb7).alloc _, Blk.new_ _ _ (by simp; omega)⟩ ?_
  rw [hb7, hb9]
  rintro W2 ⟨hx2, hk7, hk9⟩
  have HS2 := Lib.hid (HS1.out.ext hx2)
  have HR2 := Lib.hid (HR1.out.ext hx2)
  have X2 := Lib.hid (bt X1.out hx2)
  have Q2 := Lib.hid (And.intro (Q1.out.1.below hx2) (And.intro (Q1.out.2.below hx2) (And.intro hk7 hk9)))
  have HW9 := Lib.hid (show w.heap.size ≤ b9 by omega)
  have k7 := hk7.cells
  have k9 := hk9.cells
  simp only [cellsAre, Nat.zero_add, Nat.reduceAdd, and_true] at k7 k9
  clear x2 hx2 hk7 hk9 HS1 HR1 X1 Q1 hb7 hb9 hw7
  go_wp2_with fail
  refine (rlives_any W2).mono ?_
  rintro e w3 ⟨v3, rfl, rfl, bb⟩
  have HS3 := Lib.hid (HS2.out.ext bb)
  have HR3 := Lib.hid (HR2.out.ext bb)
  have X3 := Lib.hid (bt X2.out bb)
  have Q3 := Lib.hid (And.intro (Q2.out.1.below bb) (And.intro (Q2.out.2.1.below bb) (And.intro (Q2.out.2.2.1.below bb) (Q2.out.2.2.2.below bb))))
  have k9 := Q3.out.2.2.2.cells
  simp only [cellsAre, Nat.zero_add, Nat.reduceAdd, and_true] at k9
  clear bb HS2 HR2 X2 Q2 k7
  go_wp2_with fail
  refine (znewest_any HR3.out (by omega)).mono ?_
  rintro e w4 ⟨v4, rfl, rfl, bb⟩
  have HS4 := Lib.hid (HS3.out.ext bb)
  have HR4 := Lib.hid (HR3.out.ext bb)
  have X4 := Lib.hid (bt X3.out bb)
  have Q4 := Lib.hid (And.intro (Q3.out.1.below bb) (And.intro (Q3.out.2.1.below bb) (And.intro (Q3.out.2.2.1.below bb) (Q3.out.2.2.2.below bb))))
  clear bb HS3 HR3 X3 Q3 k9
  obtain ⟨nv, hnv⟩ : ∃ n, Vs.length - 1 = n := ⟨_, rfl⟩
  have HNV := Lib.hid (show Vs.length = nv + 1 ∧ nv ≤ 8 by omega)
  have hnv8 : nv ≤ 8 := by omega
  rw [show ((Vs.length : Int) - 1) = (nv : Int) by omega]
  clear hl1 hVp hnv
  go_wp2_with fail
  refine (rbat_any Ay ny cy ys 6 w4 (HY.out.1.below X4.out) HY.out.2 (by omega)).mono ?_
  rintro e w5 ⟨v5, rfl, ⟨l, hol, hll, hcu⟩, bb⟩
  obtain ⟨Al, cl, rfl, hrl⟩ := own_rv hol
  obtain ⟨ml, hml⟩ : ∃ m, l.length = m := ⟨_, rfl⟩
  rw [hml] at hol hrl hll ⊢
  have HS5 := Lib.hid (HS4.out.ext bb)
  have HR5 := Lib.hid (HR4.out.ext bb)
  have X5 := Lib.hid (bt X4.out bb)
  have Q5 := Lib.hid (And.intro (Q4.out.1.below bb) (And.intro (Q4.out.2.1.below bb) (And.intro (Q4.out.2.2.1.below bb) (Q4.out.2.2.2.below bb))))
  have OL5 := Lib.hid (show OwC 0 w5 (.slice Al ml cl) l from OwC.lower hol (Nat.zero_le _))
  have CU := Lib.hid (show (∀ x ∈ l, x.k.size ≤ 1000000000 ∧ x.v.size ≤ 1000000000) ∧ l.length = ml from ⟨fun x hx => by have := hcu x hx; omega, hml⟩)
  clear bb hol hrl hcu hml HS4 HR4 X4 Q4 HY
  go_upto_region 5 with fail
  obtain ⟨b11, hb11⟩ : ∃ b, w5.heap.size = b := ⟨_, rfl⟩
  have x6 : Ext w5 (w5.alloc (.cells #[.slice Al ml cl] TCS)) := Ext.allocR _ _
  refine wp_world (fun W => RnS w b5 b6 b7 b9 b11 s d (st : Int) Al ml cl l (fun b => b < W.heap.size) Vs Vs W) ⟨Q5.out.1.below x6, Q5.out.2.1.below x6, Q5.out.2.2.1.below x6, ⟨A1, m1, c1, (HR5.out.ext x6).sep fun b h => h, Q5.out.2.2.2.below x6⟩, Blk.new_ _ _ hb11, HS5.out.ext x6, own_below OL5.out x6, bt X5.out x6⟩ ?_
  rw [hb11]
  rintro W6 hn6
  have HN6 := Lib.hid hn6
  have k7 := hn6.h7.cells
  simp only [cellsAre, Nat.zero_add, Nat.reduceAdd, and_true] at k7
  clear x6 hn6 HS5 HR5 X5 Q5 OL5 hb11
  have hal := st_all_new HN6.out.st (by have := HNV.out; omega)
  rw [show Vs.length - 1 = nv by have := HNV.out; omega] at hal
  have HAL := Lib.hid hal
  clear hal k9
  go_wp2_with fail
  refine HAL.out.mono ?_
  rintro e w7 ⟨v7, rfl, ⟨B, tt, c1_, c2_, rfl, htr, hpr, hsr, hc1, hc2⟩, bb⟩
  have HN7 := Lib.hid (HN6.out.ext bb)
  have HTR := Lib.hid (And.intro htr (And.intro hpr hsr))
  have HBB := Lib.hid (And.intro hc1 hc2)
  clear bb htr hpr hsr hc1 hc2 HN6 HAL k7
  have hx7 := HN7.out.ex
  go_upto_region 9 with fail
  obtain ⟨bn, hbn⟩ : ∃ b, w7.heap.size = b := ⟨_, rfl⟩
  have x8 : Ext w7 (w7.alloc (.cells #[.int .i64 0] TIN)) := Ext.allocR _ _
  refine wp_world (fun W => Ext w7 W ∧ Blk W bn TIN #[.int .i64 ((0 : Nat) : Int)]) ⟨x8, Blk.new_ _ _ hbn⟩ ?_
  rw [hbn]
  rintro W8 ⟨hx8, hk8⟩
  have X8 := Lib.hid hx8
  have C8 := Lib.hid (show CnI w7 bn W8 from ⟨hx8, 0, by omega, hk8⟩)
  have k1 := (HBB.out.1.below hx8).cells
  have k2 := (HBB.out.2.below hx8).cells
  simp only [cellsAre, Nat.zero_add, Nat.reduceAdd, and_true] at k1 k2
  have HB8 := Lib.hid (And.intro (HBB.out.1.below hx8).lt (HBB.out.2.below hx8).lt)
  have HT8 := Lib.hid (HTR.out.1.below hx8)
  have HBN := Lib.hid (show w7.heap.size ≤ bn by omega)
  clear x8 hx8 hk8 hx7
  go_wp2_with fail
  refine (wpIn_wide (n := 9)).1 ?_
  refine wpIn_meet 0 (fun D W => CnI w7 bn W ∧ W8.heap.size ≤ D ∧ W.heap[D]? = some (.deferred (some []))) ?_ (fun _ _ h => h) ?_
  · refine wpIn_rangeFunc_ownF hro (by omega) (gf := FPR) (lb := #[.pointer (some ⟨c1_, 0, none⟩), .pointer (some ⟨c2_, 0, none⟩)]) rfl (hfn _) (enters_of prFn (by kernel_rfl) rfl)
      (pairs_stops Fence.wide hd hfn hro 8 c1_ c2_ B (Pos B) tt ⟨#[]⟩ W8 HB8.out.1 HB8.out.2 k1 k2 HT8.out HTR.out.2.2) (fun h k => KN.trans h k) (fun W l o o' _ ho hc _ => KN.put ho hc) (Below.refl _ _) (fun _ => rfl)
      (fun _ W => CnI w7 bn W) (fun c _ W => c = .exit 0 ∧ CnI w7 bn W) (CnI.own w7 bn _ (Ext.size X8.out)) (fun c s X X' row h hg hr => ⟨h.1, CnI.own (β := Unit) w7 bn _ (Ext.size X8.out) () X X' row h.2 hg hr⟩) C8.out ?a1 ?assign ?body ?done ?stop
    case assign =>
      intro l x W K hK
      gi_wp2
      exact hK
    case stop =>
      rintro D c pre W hD hpre ⟨rfl, hX⟩ hK
      gi_wp2
      try exact ⟨.inr rfl, D, rfl, hX, hD, hK⟩
    case done =>
      rintro D xs W hD hS hX hK
      exact ⟨.inl rfl, D, rfl, hX, hD, hK⟩
    case body =>
      rintro l_ pre x W ⟨hx, i, hi, hb⟩ hlen
      have HXI := Lib.hid hx
      have HBI := Lib.hid hb
      have kb := hb.cells
      have fb := hb.free
      have k5 := (HN7.out.h5.below hx).cells
      simp only [cellsAre, Nat.zero_add, Nat.reduceAdd, and_true] at kb k5
      clear hx hb hlen k1 k2
      by_cases hge : stp ≤ i
      · have pge : (stp : Int) ≤ (i : Int) := by omega
        gi_wp2
        exact ⟨KeepsOthers.refl _, rfl, HXI.out, i, hi, HBI.out⟩
      · have pge : ¬ (stp : Int) ≤ (i : Int) := by omega
        have wi : IntKind.i64.wrap ((i : Int) + 1) = ((i + 1 : Nat) : Int) := by rw [IntWalk.i64_in _ (by omega)]; rfl
        gi_wp2
        exact ⟨KeepsOthers.setCell _ _ _, fun b cs h => Blk.far (p := ⟨bn, 0, none⟩) h (fun e => by
          have h2 := HBI.out
          unfold Blk at h2
          rw [← show b = bn from e, h] at h2
          injection h2 with h2
          injection h2 with _ h2
          revert h2
          decide) _, HXI.out.setCell (p := ⟨bn, 0, none⟩) HBN.out _, i + 1, by omega, HBI.out.set_ 0 _⟩
  · rintro D1 W9 ⟨hc9, hD9, hk9⟩
    have HN9 := Lib.hid (HN7.out.ext hc9.1)
    have HDL := Lib.hid (show w.heap.size ≤ D1 from Nat.le_trans (Ext.size (bt HN7.out.ex X8.out)) hD9)
    have HK9 := Lib.hid hk9
    have hbb1 := HBB.out.1.below hc9.1
    have hbb2 := HBB.out.2.below hc9.1
    have HB9 := Lib.hid (And.intro hbb1 hbb2)
    have HT9 := Lib.hid (HTR.out.1.below hc9.1)
    clear hc9 hD9 hk9 hbb1 hbb2 k1 k2 HB8 HT8 X8 C8 HN7 HBB
    go_upto_region 13 with fail
    obtain ⟨g0, hg0⟩ : ∃ b, W9.heap.size = b := ⟨_, rfl⟩
    obtain ⟨bg, hbg⟩ : ∃ b, g0 + 1 = b := ⟨_, rfl⟩
    obtain ⟨bt_, hbt⟩ : ∃ b, bg + 1 = b := ⟨_, rfl⟩
    have x10 : Ext W9 (((W9.alloc (.cells #[] TPA)).alloc (.cells #[.slice (some ⟨W9.heap.size, 0, none⟩) 0 0] TPS)).alloc (.cells #[.int .i64 ((0 : Nat) : Int)] TIN)) := bt (Ext.allocR _ _) (bt (Ext.allocR _ _) (Ext.allocR _ _))
    have hw9 : w.heap.size ≤ W9.heap.size := Ext.size HN9.out.ex
    have HG := Lib.hid (show w.heap.size ≤ bg ∧ w.heap.size ≤ bt_ by omega)
    refine wp_world (fun W => Ext W9 W ∧ RnI w b5 b6 b7 b9 b11 s d (st : Int) Al ml cl l bg bt_ D1 Vs [] W) ⟨x10, ⟨0, Vs, .slice (some ⟨W9.heap.size, 0, none⟩) 0 0, by omega, ⟨[], by rw [List.append_nil], rfl⟩, HL2.out, (HN9.out.imp (M := Ng (.slice (some ⟨W9.heap.size, 0, none⟩) 0 0) bg) fun b _ hb => ⟨fun e => by simp only [Value.ownBlock, Option.some.injEq] at e; omega, by omega⟩).ext x10, (Blk.new_ _ _ (by simp; omega)).alloc _, own_below (own_lit TPA 2 #[] 0 hw9 (by omega) rfl) (bt (Ext.allocR _ _) (Ext.allocR _ _)), Blk.new_ _ _ (by simp; omega)⟩, (x10.block D1 (obj_lt HK9.out)).trans HK9.out⟩ ?_
    rw [hg0, hbg, hbt]
    rintro W10 ⟨hx10, hri⟩
    have HRI := Lib.hid hri
    have k1 := (HB9.out.1.below hx10).cells
    have k2 := (HB9.out.2.below hx10).cells
    simp only [cellsAre, Nat.zero_add, Nat.reduceAdd, and_true] at k1 k2
    have HBX := Lib.hid (And.intro (HB9.out.1.below hx10).lt (HB9.out.2.below hx10).lt)
    have HT10 := Lib.hid (HT9.out.below hx10)
    have HDD := Lib.hid (show w.heap.size ≤ W10.heap.size ∧ D1 < W10.heap.size from ⟨Nat.le_trans hw9 (Ext.size hx10), obj_lt hri.dd⟩)
    clear x10 hw9 hx10 hri hg0 hbg hbt HN9 HK9 HB9 HT9
    go_wp2_with fail
    refine (wpIn_wide (n := 9)).1 ?_
    refine range_all hro (by omega) (gf := FPR) (lb := #[.pointer (some ⟨c1_, 0, none⟩), .pointer (some ⟨c2_, 0, none⟩)]) rfl (hfn _) (enters_of prFn (by kernel_rfl) rfl)
      (pairs_seq Fence.wide hd hfn hro 8 c1_ c2_ B (Pos B) tt ⟨#[]⟩ W10 HBX.out.1 HBX.out.2 k1 k2 HT10.out HTR.out.2.2) (fun h k => KN.trans h k) (fun W l o o' _ ho hc _ => KN.put ho hc) (Below.refl _ _) (fun _ => rfl)
      (RnI w b5 b6 b7 b9 b11 s d (st : Int) Al ml cl l bg bt_ D1 Vs) (RnI.bk HDD.out.1 HDD.out.2) HRI.out ?a2 ?assign ?body ?done
    case assign =>
      intro l_ x W K hK
      gi_wp2
      exact hK
    case body =>
      rintro l_ pre x W hI hlen hL hD
      rw [geP_nil, HTR.out.2.1] at hlen
      obtain ⟨xk, xv⟩ := x
      obtain ⟨⟨tm, Vr, v0, ht2, hXX, hle6, hn, hb, ho, htb⟩, hdd⟩ := hI
      obtain ⟨A0, c0, rfl, hrv⟩ := own_rv ho
      obtain ⟨pl, hpl⟩ : ∃ pl, pre.length = pl := ⟨_, rfl⟩
      have hpl2 : pl ≤ 360 := by
        have := HL2.out (Vs.getD nv []) (by rw [List.getD_eq_getElem?_getD, List.getElem?_eq_getElem (by have := HNV.out; omega)]; exact List.getElem_mem _)
        omega
      have kO := hb.cells
      have fO := hb.free 0
      have hwl := Ext.size hn.ex
      have hlc := hrv.le
      have hcc := hrv.cap
      rw [hpl] at hlc
      simp only [cellsAre, Nat.zero_add, Nat.reduceAdd, and_true] at kO
      have HNN := Lib.hid hn
      have HOO := Lib.hid hb
      have HRW := Lib.hid ho
      have HPL := Lib.hid hpl
      have HTB := Lib.hid htb
      have HXX := Lib.hid (And.intro ht2 (And.intro hXX hle6))
      have HBK := Lib.hid (And.intro hL (And.intro hD hdd))
      rw [hpl] at kO
      clear hn hrv hlen hb ho htb hpl hXX hle6 hL hD hdd k1 k2
      gi_upto_region 17 with (gi_at_builtin; refine wpListIn_append_own_at _ rfl _ _ TPS rfl w.heap.size TPA i0 _ 2 32 Try.underlying47 hi0 hz0 hz1 hz2 rfl (by decide) (.slice A0 pl c0) pl (pcs pre) rfl (by have h1 := own_below HRW.out (Ext.allocR W (.cells #[.string xk, .string xv] TPA)); rw [HPL.out] at h1; exact h1) ⟨W.heap.size, 0, none⟩ 1 1 (pcs [(xk, xv)]) rfl rfl (((rv_lit (w := W) TPA 2 #[.string xk, .string xv] 1 (by omega) rfl).news (by omega)).2.2 _ rfl) (pcs_one _) (by unfold maxLen; omega) (by omega) (by simp; omega) ?_; intro v1 w1_ o1 g1 _ at1; obtain ⟨A9, c9, hv1', _⟩ := own_rv o1; subst hv1'; have hap := gt_app (by have h1 := HOO.out; rw [HPL.out] at h1; exact h1) (by have h1 := HRW.out; rw [HPL.out] at h1; exact h1) HPL.out (.cells #[.string xk, .string xv] TPA) o1 g1; have k1 := hap.1.cells; have f1 := hap.1.free 0; have HAP := Lib.hid (And.intro hap at1); simp only [cellsAre, Nat.zero_add, Nat.reduceAdd, and_true] at k1; clear o1 g1 hap at1)
      have hr3 : RnR w b5 b6 b7 b9 b11 s d (st : Int) Al ml cl l bg bt_ D1 W10.heap.size Vr Vr A9 (pl + 1) c9 (pre ++ [(xk, xv)]) tm W (w1_.setCell ⟨bg, 0, none⟩ (.slice A9 (pl + 1) c9)) := by
        obtain ⟨⟨_, hc, g1, g2⟩, at1⟩ := HAP.out
        have hst := HNN.out
        have hrw := HRW.out
        rw [HPL.out] at hst hrw
        refine ⟨hst.got hc (own_geE hrw) HG.out.1 (at1.imp id fun e => ⟨_, by simp, e⟩), g1, g2, hc.blk HTB.out (XGt.no (by decide) (by decide) _ _), hc.same _ _ HBK.out.2.2 (XGt.bk _ _ rfl), kp2_of hc fun b o h => XGt.bk b o h, KN.chg hc (XGt.no (by decide) (by decide))⟩
      refine wpIn_world (fun V => RnR w b5 b6 b7 b9 b11 s d (st : Int) Al ml cl l bg bt_ D1 W10.heap.size Vr Vr A9 (pl + 1) c9 (pre ++ [(xk, xv)]) tm W V) hr3 ?_
      clear hr3 HAP k1 f1 kO fO HNN HOO HRW HPL HTB hlc hcc hwl
      rintro V3 hr3
      have HR3 := Lib.hid hr3
      have k1 := hr3.gb.cells
      have k2 := hr3.tb.cells
      have k11 := hr3.st.h11.cells
      simp only [cellsAre, Nat.zero_add, Nat.reduceAdd, and_true] at k1 k2 k11
      clear hr3
      have pgt : ¬ (1000 : Int) < ((pl + 1 : Nat) : Int) := by omega
      have pgt2 : ¬ 1000 < pl + 1 := by omega
      by_cases htm : tm < 2
      · have pt : (tm : Int) < 2 := by omega
        gi_wp2
        refine (callsIn_wide.2 (zbatch_any Al ml cl l V3 (own_rvv HR3.out.st.ol) (by omega) CU.out.1)).mono ?_
        rintro e V4 ⟨v4, rfl, rfl, bb⟩
        have HR4 := Lib.hid (HR3.out.ext bb)
        clear bb HR3 k1 k2 k11
        cases hbat : batB l with
        | false =>
          clear hbat
          gi_wp2
          exact HR4.out.fin HXX.out.1 HXX.out.2.1 HXX.out.2.2
        | true =>
          have HBT := Lib.hid hbat
          clear hbat
          obtain ⟨A4, m4, c4, hrs4, hk9⟩ := HR4.out.st.h9
          have HRS4 := Lib.hid hrs4
          have k9 := hk9.cells
          have k11 := HR4.out.st.h11.cells
          simp only [cellsAre, Nat.zero_add, Nat.reduceAdd, and_true] at k9 k11
          clear hrs4 hk9
          have HVL := Lib.hid (show Vr.length = Vs.length + tm from by
            obtain ⟨X, e1, e2⟩ := HXX.out.2.1
            rw [e1, List.length_append, e2])
          obtain ⟨L0, hL0⟩ : ∃ L, Vr.getD (Vr.length - 1) [] = L := ⟨_, rfl⟩
          have HL0 := Lib.hid (And.intro hL0 (show L0.length ≤ 360 by rw [← hL0]; exact last_le2 HXX.out.2.2 (by have := HVL.out; have := HNV.out; omega)))
          clear hL0
          gi_wp2
          refine (callsIn_wide.2 (zfits_any HRS4.out.rs (by have := HVL.out; have := HNV.out; omega) (by have := HVL.out; have := HNV.out; omega) (by omega) HL0.out.1 (fun x hx => by have := HXX.out.2.2 x hx; omega) Al ml cl l (own_rvv HR4.out.st.ol) (by have := CU.out.2; omega) 1536)).mono ?_
          rintro e V5 ⟨v5, rfl, rfl, bb⟩
          have HR5 := Lib.hid (HR4.out.ext bb)
          clear bb HR4 k9 k11 HRS4
          cases hfit : fitB Vr 3 (aft L0 l) 1536 with
          | false =>
            clear hfit
            gi_wp2
            exact HR5.out.fin HXX.out.1 HXX.out.2.1 HXX.out.2.2
          | true =>
            have HFT := Lib.hid hfit
            clear hfit
            have k7 := HR5.out.st.h7.cells
            have k11 := HR5.out.st.h11.cells
            simp only [cellsAre, Nat.zero_add, Nat.reduceAdd, and_true] at k7 k11
            gi_wp2
            refine (callsIn_wide.2 (st_commit_fit HR5.out.st.st (fun b hb => Nat.le_trans (Ext.size HR5.out.st.ex) hb) (by decide) (by omega) (by have := HVL.out; have := HNV.out; omega) HL0.out.1 (by have := HL0.out.2; omega) Al ml cl l (own_rvv HR5.out.st.ol) HBT.out HFT.out)).mono ?_
            rintro e V6 ⟨rfl, hs6, hc6⟩
            unfold ansV
            have HR6 := Lib.hid (show RnR w b5 b6 b7 b9 b11 s d (st : Int) Al ml cl l bg bt_ D1 W10.heap.size (Vr ++ [aft L0 l]) Vr A9 (pl + 1) c9 (pre ++ [(xk, xv)]) tm W V6 from
              ⟨HR5.out.st.mf hc6 hs6, hc6.blk HR5.out.gb (MF.ps _ _), OwP.chg HR5.out.go hc6 MF.pa, hc6.blk HR5.out.tb (MF.ti _ _), hc6.same _ _ HR5.out.dd (MF.bk _ _ rfl), HR5.out.kp.trans (kp2_of hc6 fun b o h => MF.bk b o h), KN.trans HR5.out.kn (KN.chg hc6 MF.no)⟩)
            clear hs6 hc6 HR5 k7 k11
            obtain ⟨A6, m6, c6, hrs6, hk9⟩ := HR6.out.st.h9
            have HRS6 := Lib.hid hrs6
            have k9 := hk9.cells
            have k11 := HR6.out.st.h11.cells
            simp only [cellsAre, Nat.zero_add, Nat.reduceAdd, and_true] at k9 k11
            clear hrs6 hk9
            gi_wp2
            refine (callsIn_wide.2 (zcommit_n (N := Ng (.slice A9 (pl + 1) c9) bg) (fun b hb => ⟨fun e => by have := own_blt HR6.out.go b e; omega, fun e => by have := HR6.out.gb.lt; omega⟩) HRS6.out (by have := HVL.out; have := HNV.out; omega) (by have := HVL.out; have := HNV.out; omega) HL0.out.1 (by have := HL0.out.2; omega) Al ml cl l (own_rvv HR6.out.st.ol) (by have := CU.out.2; omega))).mono ?_
            rintro e V7 ⟨v7, rfl, hr7, bb⟩
            have HR7 := Lib.hid (HR6.out.ext bb)
            obtain ⟨A7, m7, c7, zs7, rfl, hz7⟩ := hr7
            have HZ7 := Lib.hid hz7
            obtain ⟨A8, m8, c8, _, hk9⟩ := HR7.out.st.h9
            have k9 := hk9.cells
            have f9 := hk9.free
            simp only [cellsAre, Nat.zero_add, Nat.reduceAdd, and_true] at k9
            clear bb hz7 hk9 HR6 HRS6 k11
            gi_upto_region 24 with fail
            refine wpIn_world (fun V => RnR w b5 b6 b7 b9 b11 s d (st : Int) Al ml cl l bg bt_ D1 W10.heap.size (Vr ++ [aft L0 l]) (Vr ++ [aft L0 l]) A9 (pl + 1) c9 (pre ++ [(xk, xv)]) tm W V) (by
              obtain ⟨g1, g2⟩ := HR7.out.st.ref (A := A7) (m := m7) (c := c7) (Vr' := Vr ++ [aft L0 l]) ⟨A7, m7, c7, zs7, rfl, HZ7.out⟩ HW9.out
              exact ⟨g1, g2.blk HR7.out.gb (XBx.no (by decide) _ _), OwP.chg HR7.out.go g2 (XBx.no (by decide)), g2.blk HR7.out.tb (XBx.no (by decide) _ _), g2.same _ _ HR7.out.dd (XBx.bk _ _ rfl), HR7.out.kp.trans (kp2_of g2 fun b o h => XBx.bk b o h), KN.trans HR7.out.kn (KN.chg g2 (XBx.no (by decide)))⟩) ?_
            clear HR7 HZ7 k9 f9
            rintro V8 hr8
            have HR8 := Lib.hid hr8
            have k2 := hr8.tb.cells
            have f2 := hr8.tb.free
            simp only [cellsAre, Nat.zero_add, Nat.reduceAdd, and_true] at k2
            clear hr8
            have wt : IntKind.i64.wrap ((tm : Int) + 1) = ((tm + 1 : Nat) : Int) := by rw [IntWalk.i64_in _ (by omega)]; rfl
            gi_wp2
            have g2 : Chg (XBx bt_ TIN) V8 (V8.setCell ⟨bt_, 0, none⟩ (.int .i64 ((tm + 1 : Nat) : Int))) := Chg.setB HR8.out.tb ⟨rfl, _, rfl⟩ 0 _
            have hr9 : RnR w b5 b6 b7 b9 b11 s d (st : Int) Al ml cl l bg bt_ D1 W10.heap.size (Vr ++ [aft L0 l]) (Vr ++ [aft L0 l]) A9 (pl + 1) c9 (pre ++ [(xk, xv)]) (tm + 1) W (V8.setCell ⟨bt_, 0, none⟩ (.int .i64 ((tm + 1 : Nat) : Int))) :=
              ⟨HR8.out.st.box g2 HG.out.2 (by unfold Qt; decide) (by decide), g2.blk HR8.out.gb (XBx.no (by decide) _ _), OwP.chg HR8.out.go g2 (XBx.no (by decide)), HR8.out.tb.set_ 0 _, g2.same _ _ HR8.out.dd (XBx.bk _ _ rfl), HR8.out.kp.trans (kp2_of g2 fun b o h => XBx.bk b o h), KN.trans HR8.out.kn (KN.chg g2 (XBx.no (by decide)))⟩
            exact hr9.fin (by omega) (by
              obtain ⟨X, e1, e2⟩ := HXX.out.2.1
              exact ⟨X ++ [aft L0 l], by rw [e1, List.append_assoc], by rw [List.length_append, e2]; rfl⟩) fun x hx => by
              rcases List.mem_append.1 hx with hx | hx
              · exact HXX.out.2.2 x hx
              · rw [List.mem_singleton.1 hx]; exact fit_len HFT.out (by have := HVL.out; have := HNV.out; omega)
      · have pt : ¬ (tm : Int) < 2 := by omega
        gi_wp2
        exact HR3.out.fin HXX.out.1 HXX.out.2.1 HXX.out.2.2
    case done =>
      rintro xs W hS hI hD
      rw [geP_nil, HTR.out.2.1] at hS
      subst hS
      obtain ⟨⟨tm, Vr, v0, ht2, ⟨X, hX, hXl⟩, hle6, hn, hb, ho, htb⟩, hdd⟩ := hI
      obtain ⟨A0, c0, rfl, hrv⟩ := OwP.rv ho
      obtain ⟨na, hna⟩ : ∃ n, (Vs.getD nv []).length = n := ⟨_, rfl⟩
      rw [hna] at hrv hn hb ho
      have HDD2 := Lib.hid (And.intro hdd hD)
      obtain ⟨A9, m9, c9, hrs9, hk9⟩ := hn.h9
      have HN := Lib.hid hn
      have HGB := Lib.hid hb
      have HRV := Lib.hid hrv
      have HRS := Lib.hid hrs9
      have k9 := hk9.cells
      have kb := hb.cells
      simp only [cellsAre, Nat.zero_add, Nat.reduceAdd, and_true] at k9 kb
      have HVR := Lib.hid (show Vr = Vs ++ X ∧ X.length = tm ∧ tm ≤ 2 ∧ (∀ x ∈ Vr, x.length ≤ 360) ∧ (Vs.getD nv []).length = na from ⟨hX, hXl, ht2, hle6, hna⟩)
      obtain ⟨A', n', c', e', hov⟩ := hrs9.rs
      injection e' with e'
      injection e' with e'
      injection e' with e1_ e2_
      injection e1_ with e3_ e4_ e5_
      subst e3_ e4_ e5_
      have hVl := HNV.out
      have hvr := HVR.out.1
      have hq : nv < Vr.length := by rw [hvr, List.length_append]; omega
      obtain ⟨bz, oz, Az, cz, rfl, kz, rz⟩ := hov.at_ hq
      have ez : Vr[nv] = Vs.getD nv [] := by
        subst hvr
        rw [List.getElem_append_left (by omega), List.getD_eq_getElem?_getD, List.getElem?_eq_getElem (by omega)]
        rfl
      rw [ez, HVR.out.2.2.2.2] at kz rz
      have hm9 : m9 = Vr.length := by
        obtain ⟨_, ho9, _⟩ := hov
        obtain ⟨A2', c2', e2', _⟩ := own_rv ho9
        injection e2'
      have hm9' : nv < m9 := by omega
      have hrvle := (own_rvv (own_lower (Classical.choose_spec hov).1 (Nat.le_refl _))).le
      have RZ := Lib.hid rz
      have kbq := fun w' (hh : Ext W w') => (HGB.out.below hh).cells
      have k9q := fun w' (hh : Ext W w') => (Blk.below hk9 hh).cells
      have kzq := fun w' (hh : Ext W w') => ext_cell hh kz
      simp only [cellsAre, Nat.zero_add, Nat.reduceAdd, and_true] at kbq k9q
      have hst_ : Ext W W.drew := Ext.drew _
      have HM9 := Lib.hid hm9
      clear hX hXl ht2 hle6 hn hb ho htb hdd hrv hrs9 hk9 hna hD k9 kb kz rz ez hvr hq hov hVl e2_ hm9
      have k7q := fun w' (hh : Ext W w') => (HN.out.h7.below hh).cells
      simp only [cellsAre, Nat.zero_add, Nat.reduceAdd, and_true] at k7q
      go_upto_region 25 with fail
      refine wp_norm ?_
      refine wp_region_adv 10 [] [(0, true, some 88, none), (1, true, some 89, none), (2, true, some 90, none), (3, true, some 91, none), (4, true, some 92, none), (5, true, some 93, none), (6, false, some 94, none), (7, true, some 95, none), (8, true, some 96, some (95, true)), (9, true, some 97, some (95, true))] (by kernel_rfl) (by kernel_rfl) (by kernel_rfl) (by intro it hit; (repeat (rcases List.mem_cons.1 hit with rfl | hit; (focus (intro o ho ev w; injection ho with ho; subst ho; kernel_rfl)))); cases hit) (fun _ _ _ _ _ => ⟨fun h => h, fun h => h⟩) hst_ ?_
      repeat (first | (refine wpSeq_pure (v := ?_) rfl ?_ ?_; rotate_left 1; (focus (intro wq_ hSq_; (try dsimp only at hSq_); go_simp; (try with_reducible rfl); done)); (try simp only [Act.put, List.setIfInBounds_toArray, List.set_cons_zero, List.set_cons_succ])) | (refine wpSeq_pureG (v := ?_) rfl rfl ?_ ?_; rotate_left 1; (focus (intro wq_ hSq_; (try dsimp only at hSq_); go_simp; (try with_reducible rfl); done)); (try simp only [Act.put, List.setIfInBounds_toArray, List.set_cons_zero, List.set_cons_succ])) | (refine wpSeq_off rfl rfl ?_; (try simp only [Act.put, List.setIfInBounds_toArray, List.set_cons_zero, List.set_cons_succ])) | (refine wpSeq_offU rfl ?_; (try simp only [Act.put, List.setIfInBounds_toArray, List.set_cons_zero, List.set_cons_succ])))
      first | refine wpSeq_call rfl (fun u1 g1 s1 K hK => ?_) | refine wpSeq_callG rfl rfl (fun u1 g1 s1 K hK => ?_)
      go_simp
      refine (zsame_any A0 Az na c0 na cz (Vs.getD nv []) u1 (HRV.out.below s1) (RZ.out.below s1) (by have h1 := HVR.out.2.2.2.2; have h2 := HVR.out.2.2.2.1; have h3 := HNV.out; have h4 := last_le2 (Vs := Vs) HL2.out (by omega); rw [show Vs.length - 1 = nv by omega] at h4; omega)).mono ?_
      rintro e y1 ⟨z1, rfl, rfl, bb1⟩
      (try go_wp2_with fail)
      refine hK.out _ _ bb1 ?_
      clear hK K
      (try simp only [Act.put, List.setIfInBounds_toArray, List.set_cons_zero, List.set_cons_succ])
      repeat (first | (refine wpSeq_pure (v := ?_) rfl ?_ ?_; rotate_left 1; (focus (intro wq_ hSq_; (try dsimp only at hSq_); go_simp; (try with_reducible rfl); done)); (try simp only [Act.put, List.setIfInBounds_toArray, List.set_cons_zero, List.set_cons_succ])) | (refine wpSeq_pureG (v := ?_) rfl rfl ?_ ?_; rotate_left 1; (focus (intro wq_ hSq_; (try dsimp only at hSq_); go_simp; (try with_reducible rfl); done)); (try simp only [Act.put, List.setIfInBounds_toArray, List.set_cons_zero, List.set_cons_succ])) | (refine wpSeq_off rfl rfl ?_; (try simp only [Act.put, List.setIfInBounds_toArray, List.set_cons_zero, List.set_cons_succ])) | (refine wpSeq_offU rfl ?_; (try simp only [Act.put, List.setIfInBounds_toArray, List.set_cons_zero, List.set_cons_succ])))
      intro wy gy sy
      (try simp only [endJ, List.drop_succ_cons, List.drop_zero])
      have HN1 := Lib.hid (HN.out.ext sy)
      have R1 := Lib.hid (And.intro (HRV.out.below sy) (RZ.out.below sy))
      have HD1 := Lib.hid (show wy.heap[D1]? = some (.deferred (some [])) ∧ wy.heap[W10.heap.size]? = some (.deferred (some [])) from ⟨(sy.block D1 (obj_lt HDD2.out.1)).trans HDD2.out.1, (sy.block _ (obj_lt HDD2.out.2)).trans HDD2.out.2⟩)
      have HRS1 := Lib.hid (HRS.out.rs.ext sy)
      clear hst_ kbq k9q kzq k7q gy sy g1 s1 bb1 HN HRV RZ HDD2 HRS HGB
      go_wp2_with fail
      refine (stl_alike2 HN1.out.st HRS1.out (by have := HM9.out; have h1 := HVR.out.1; rw [h1, List.length_append]; have h2 := HVR.out.2.1; have h3 := HVR.out.2.2.1; have h4 := HNV.out; omega) (by omega) (fun x hx => by have := HVR.out.2.2.2.1 x hx; omega)).mono ?_
      rintro e wx ⟨zx, rfl, rfl, bb⟩
      have HNx := Lib.hid (HN1.out.ext bb)
      have HDx := Lib.hid (show wx.heap[D1]? = some (.deferred (some [])) ∧ wx.heap[W10.heap.size]? = some (.deferred (some [])) from ⟨(bb.block D1 (obj_lt HD1.out.1)).trans HD1.out.1, (bb.block _ (obj_lt HD1.out.2)).trans HD1.out.2⟩)
      clear bb HN1 HD1 HRS1 R1
      have kr := HNx.out.h6.cells
      have fr := HNx.out.h6.free
      simp only [cellsAre, Nat.zero_add, Nat.reduceAdd, and_true] at kr
      go_wp2_with fail
      have hw6 : w.heap.size ≤ b6 := HB6.out
      have hB1 : Blk (wx.setCell ⟨b6, 0, none⟩ (.bool true)) b6 TBO #[.bool true] := HNx.out.h6.set_ 0 (.bool true)
      have hx1 := HNx.out.ex.setCell (p := ⟨b6, 0, none⟩) hw6 (.bool true)
      have hne : ∀ {D : Nat}, wx.heap[D]? = some (.deferred (some [])) → (wx.setCell ⟨b6, 0, none⟩ (.bool true)).heap[D]? = some (.deferred (some [])) := fun {D} h1 => (Below.heap_setCell wx ⟨b6, 0, none⟩ (.bool true) D (fun e => by
        have h2 := HNx.out.h6
        unfold Blk at h2
        rw [show D = b6 from e, h2] at h1
        cases h1)).trans h1
      have hk2 := hne HDx.out.2
      have hk1 := hne HDx.out.1
      obtain ⟨w5, hw5⟩ : ∃ Wa, wx.setCell ⟨b6, 0, none⟩ (.bool true) = Wa := ⟨_, rfl⟩
      rw [hw5] at hB1 hx1 hk2 hk1 ⊢
      have hg2 := grownBy_putObj' w5 W10.heap.size (.deferred none)
      have hr2 : ∀ r, some W10.heap.size = some r → w.heap.size ≤ r ∧ ∃ o : Obj, w5.heap[r]? = some o ∧ o.isCells = false := fun r e => by
        injection e with e
        subst e
        exact ⟨HDD.out.1, _, hk2, rfl⟩
      have hk1' : (w5.putObj W10.heap.size (.deferred none)).heap[D1]? = some (.deferred (some [])) := (hg2.block D1 (obj_lt hk1) (fun e => by injection e with e; have := HDD.out.2; omega)).trans hk1
      have hg1 := grownBy_putObj' (w5.putObj W10.heap.size (.deferred none)) D1 (.deferred none)
      have hr1 : ∀ r, some D1 = some r → w.heap.size ≤ r ∧ ∃ o : Obj, (w5.putObj W10.heap.size (.deferred none)).heap[r]? = some o ∧ o.isCells = false := fun r e => by
        injection e with e
        subst e
        exact ⟨HDL.out, _, hk1', rfl⟩
      have hx2 := Below.grown hx1 hg2 (Ext.size hx1) (fun k e => (hr2 k e).1)
      have hx3 := Below.grown hx2 hg1 (Ext.size hx2) (fun k e => (hr1 k e).1)
      have hB2 := keepB hg2 hr2 hB1
      have hB3 := keepB hg1 hr1 hB2
      have hc3 := Blk.cells hB3
      simp only [cellsAre, Nat.zero_add, Nat.reduceAdd, and_true] at hc3
      refine ⟨by simp, .inl ⟨_, _, rfl, run_takeDeferred hk2, ?_⟩⟩
      refine ⟨by simp, .inl ⟨_, _, rfl, run_takeDeferred hk1', ?_⟩⟩
      refine ⟨.bool true, ?_, ⟨_, rfl, rfl, hx3⟩⟩
      simp [results, Try.results6, go_sem, hc3]
end Go.Proofs.Tb
