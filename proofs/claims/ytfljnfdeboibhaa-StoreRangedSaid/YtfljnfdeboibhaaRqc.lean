/- StoreRanged: what its loops hold. -/
import Derived.Test.YtfljnfdeboibhaaRqa
import Derived.Test.YtfljnfdeboibhaaRqb
import Derived.Test.YtfljnfdeboibhaaTwe
import Derived.Maps.OwnIn
set_option linter.unusedVariables false
set_option linter.unusedSimpArgs false
namespace Go.Proofs.Tb
open Go.Maps Go.RowKit Go.Lib Go.Shelf
attribute [local go_sem] cell_set_same neqMapL binOp_string_geq' Oper.semAt_some

abbrev FPR : Nat := 87
theorem prFn : Try.prog.funcs[FPR]? = some Try.f87 := Try.func87
abbrev TSO : TypeId := 24
theorem geP_nil (l : List Pr) : geP ⟨#[]⟩ l = l := List.filter_eq_self.2 fun p _ => by
  have e : sl p.1 ⟨#[]⟩ = false := by
    unfold sl
    rw [show (⟨#[]⟩ : Str).toList = [] by rw [ByteArray.toList, ByteArray.toList.loop]; rfl]
    cases p.1.toList <;> rfl
  rw [e]; rfl
set_option maxHeartbeats 3200000 in
set_option maxRecDepth 100000 in
/-- All at a version that is kept. -/
theorem rall_kept {w : World} {s d keep : Nat} {vs : List (Nat × MT)} {B : Nat → Nat} {br : Bool} (h : SR w s d keep vs B br) {N : Nat} (hN : VsN vs N) (hN2 : N ≤ 1000000000) {i : Nat} (hi : i < vs.length) {v : Int} (hv : v = ((N - i : Nat) : Int)) {u : MT} (hu : (vs[i]).2 = u) :
    Calls Try.prog 27 #[.pointer (some ⟨s, 0, none⟩), .int .i64 v] w (Ret (fun z w' => ∃ b1 b2, z = .func (.func FPR) #[] #[.pointer (some ⟨b1, 0, none⟩), .pointer (some ⟨b2, 0, none⟩)] ∧ Blk w' b1 TNP #[.pointer u.ad] ∧ Blk w' b2 TST #[.string ⟨#[]⟩]) w) := by
  have hc := rtree_ok h hN hN2 hi hv hu
  obtain ⟨p1, hp1⟩ : ∃ p, u.ad = p := ⟨_, rfl⟩
  rw [hp1] at hc ⊢
  have HC := Lib.hid hc
  clear h hc hu hp1 hN hi hv
  go_enter Try.func27, Try.ntmps27
  go_wp2_with fail
  refine HC.out.mono ?_
  rintro e w1 ⟨v1, rfl, rfl, b1⟩
  unfold ansT
  have X1 := Lib.hid (show Ext w w1 from b1)
  clear b1 HC
  go_wp2_with fail
  refine (rpairs_any p1 ⟨#[]⟩ w1).mono ?_
  rintro e w2 ⟨rfl, rfl⟩
  have g1 : Blk ((w1.alloc (.cells #[.pointer p1] TNP)).alloc (.cells #[.string ⟨#[]⟩] TST)) w1.heap.size TNP #[.pointer p1] := (Blk.new_ (w := w1) TNP #[.pointer p1] rfl).alloc _
  have g2 : Blk ((w1.alloc (.cells #[.pointer p1] TNP)).alloc (.cells #[.string ⟨#[]⟩] TST)) (w1.heap.size + 1) TST #[.string ⟨#[]⟩] := Blk.new_ _ _ (by simp)
  have x2 : Ext w ((w1.alloc (.cells #[.pointer p1] TNP)).alloc (.cells #[.string ⟨#[]⟩] TST)) := bt (bt X1.out (Ext.allocR _ _)) (Ext.allocR _ _)
  have G := Lib.hid (And.intro g1 (And.intro g2 x2))
  clear g1 g2 x2
  go_wp2
  go_returns
  exact ⟨_, rfl, ⟨_, _, rfl, G.out.1, G.out.2.1⟩, G.out.2.2⟩
theorem st_all_new {F : Nat → Prop} {w : World} {s d keep n left : Nat} {Vs : List (List Pr)} (h : STl F w s d keep n Vs left) (hV : Vs.length ≤ 100000) :
    Calls Try.prog 27 #[.pointer (some ⟨s, 0, none⟩), .int .i64 ((Vs.length - 1 : Nat) : Int)] w (Ret (fun z w' => ∃ B t b1 b2, z = .func (.func FPR) #[] #[.pointer (some ⟨b1, 0, none⟩), .pointer (some ⟨b2, 0, none⟩)] ∧ TrW w' B (Pos B) t ∧ t.er.prs = Vs.getD (Vs.length - 1) [] ∧ Srtd t.er.prs ∧ Blk w' b1 TNP #[.pointer t.ad] ∧ Blk w' b2 TST #[.string ⟨#[]⟩]) w) := by
  obtain ⟨vs, B, bl, h1, h2, _⟩ := h
  have hlen := h2.len
  have hp : 0 < Vs.length := List.length_pos_iff.2 h2.nv
  have hi : 0 < vs.length := by omega
  obtain ⟨t, ht1, ht2, _⟩ := h2.at_ _ hi
  have hu : (vs[0]).2 = t := by
    rw [List.getElem?_eq_getElem hi] at ht1
    injection ht1 with ht1
    rw [ht1]
  have ho := (h2.okAt hi).1
  rw [Nat.sub_zero] at ht2 ho
  refine (rall_kept h1.sr h2.vsn (by omega) hi (by simp) hu).mono ?_
  rintro e w' ⟨z, rfl, ⟨b1, b2, rfl, k1, k2⟩, b⟩
  refine ⟨_, rfl, ⟨B, t, b1, b2, rfl, ?_, ht2, by rw [ht2]; exact ho, k1, k2⟩, b⟩
  have := h1.sr.tr _ (List.getElem_mem hi)
  rw [hu] at this
  exact this.below b
theorem pairs_seq (F : Fence) (hd : F.depth = none) (hfn : ∀ f, F.fn f) (hro : F.round = none) (n : Nat) (b1 b2 : Nat) (B : Nat → Nat) (Q : Nat → Prop) (t : MT) (low : Str) (w : World) (hb1 : b1 < w.heap.size) (hb2 : b2 < w.heap.size)
    (h1 : w.cell? ⟨b1, 0, none⟩ = some (.pointer t.ad)) (h2 : w.cell? ⟨b2, 0, none⟩ = some (.string low)) (ht : TrW w B Q t) (hs : Srtd t.er.prs) :
    SeqD F n Try.prog 87 #[.pointer (some ⟨b1, 0, none⟩), .pointer (some ⟨b2, 0, none⟩)] encP KN (fun ys => ys = geP low t.er.prs) (geP low t.er.prs).length w := fun l J W hW hJ hY h0 =>
  (pairs1_in F hd hfn hro n l b1 b2 B Q t low J (fun _ _ => False) hJ (fun pre x X hj hl => (hY pre x X hj hl).mono fun e X' h => .inl h) W ((hW.cell (p := ⟨b1, 0, none⟩) hb1).trans h1) ((hW.cell (p := ⟨b2, 0, none⟩) hb2).trans h2) (ht.below hW) hs h0).mono fun e X h => ⟨h.1, by
    rcases h.2 with h | ⟨_, _, h⟩
    · exact h
    · exact h.elim⟩
/-- What a loop's own book-keeping may change. -/
def XBk (B b : Nat) (o : Obj) : Prop := B ≤ b ∧ Bk o = true
theorem XBk.no {B : Nat} {T : TypeId} (b : Nat) (cs : Array Value) : ¬ XBk B b (.cells cs T (0, 0)) := fun h => Bool.noConfusion h.2
theorem chg_bk {B : Nat} {W W' : World} {row : Option Nat} (hg : W.grownBy W' row) (hr : ∀ r, row = some r → B ≤ r ∧ ∃ o : Obj, W.heap[r]? = some o ∧ Bk o = true) : Chg (XBk B) W W' :=
  ⟨hg.os, hg.tape, hg.output, hg.size, fun b o hb hx => (hg.block b (obj_lt hb) fun e => by
    obtain ⟨h1, o', h2, h3⟩ := hr b e.symm
    rw [hb] at h2
    injection h2 with h2
    subst h2
    exact hx ⟨h1, h3⟩).trans hb⟩
/-- What an append to the list of pairs may change. -/
def XGt (v : Value) (bg b : Nat) (o : Obj) : Prop := (v.ownBlock = some b ∧ ∃ cs, o = .cells cs TPA (0, 0)) ∨ (b = bg ∧ ∃ cs, o = .cells cs TPS (0, 0))
theorem XGt.no {v : Value} {bg : Nat} {T : TypeId} (h1 : T ≠ TPA) (h2 : T ≠ TPS) (b : Nat) (cs : Array Value) : ¬ XGt v bg b (.cells cs T (0, 0)) := fun h => by
  rcases h with ⟨_, cs', h⟩ | ⟨_, cs', h⟩
  · injection h with _ h; exact h1 h
  · injection h with _ h; exact h2 h
/-- What a store into a box of a type may change. -/
def XBx (R : Nat) (T : TypeId) (b : Nat) (o : Obj) : Prop := b = R ∧ ∃ cs, o = .cells cs T (0, 0)
theorem XBx.no {R : Nat} {T T' : TypeId} (hT : T' ≠ T) (b : Nat) (cs : Array Value) : ¬ XBx R T b (.cells cs T' (0, 0)) := fun ⟨_, cs', e⟩ => by
  injection e with _ e
  exact hT e
/-- The blocks that are not the list's. -/
def Ng (v : Value) (bg b : Nat) : Prop := v.ownBlock ≠ some b ∧ b ≠ bg
section
variable {w W W' : World} {b5 b6 b7 b9 b11 s d : Nat} {st : Int} {Al : Option Addr} {ml cl : Nat} {l : List Cg} {N : Nat → Prop} {Vs Vr : List (List Pr)}
/-- Where StoreRanged stands. -/
structure RnS (w : World) (b5 b6 b7 b9 b11 s d : Nat) (st : Int) (Al : Option Addr) (ml cl : Nat) (l : List Cg) (N : Nat → Prop) (Vs Vr : List (List Pr)) (W : World) : Prop where
  h5 : Blk W b5 TU8 #[.int .u8 st]
  h6 : Blk W b6 TBO #[.bool false]
  h7 : Blk W b7 TSO #[.pointer (some ⟨s, 0, none⟩)]
  h9 : ∃ A m c, RSn N W (.agg #[.slice A m c, .int .i64 ((3 : Nat) : Int)]) Vr 3 ∧ Blk W b9 TRS #[.slice A m c, .int .i64 ((3 : Nat) : Int)]
  h11 : Blk W b11 TCS #[.slice Al ml cl]
  st : STl (fun b => w.heap.size ≤ b) W s d 3 1536 Vs 0
  ol : OwC 0 W (.slice Al ml cl) l
  ex : Ext w W
def Qt (T : TypeId) : Prop := T = TU8 ∨ T = TBO ∨ T = TSO ∨ T = TRS ∨ T = TCS ∨ T = TCG
theorem RnS.chg {X : Nat → Obj → Prop} (h : RnS w b5 b6 b7 b9 b11 s d st Al ml cl l N Vs Vr W) (hc : Chg X W W') (hx : ∀ b o, X b o → w.heap.size ≤ b) (q : ∀ T, Qt T → ∀ b cs, ¬ X b (.cells cs T (0, 0))) (qa : ∀ b cs, N b → ¬ X b (.cells cs TPA (0, 0))) (qs : ∀ b cs, N b → ¬ X b (.cells cs TPS (0, 0))) {Vs' : List (List Pr)} (hs : STl (fun b => w.heap.size ≤ b) W' s d 3 1536 Vs' 0) : RnS w b5 b6 b7 b9 b11 s d st Al ml cl l N Vs' Vr W' := by
  obtain ⟨A, m, c, h1, h2⟩ := h.h9
  exact ⟨hc.blk h.h5 (q _ (.inl rfl) _ _), hc.blk h.h6 (q _ (.inr (.inl rfl)) _ _), hc.blk h.h7 (q _ (.inr (.inr (.inl rfl))) _ _), ⟨A, m, c, h1.chg hc qa qs, hc.blk h2 (q _ (.inr (.inr (.inr (.inl rfl)))) _ _)⟩, hc.blk h.h11 (q _ (.inr (.inr (.inr (.inr (.inl rfl))))) _ _), hs, OwC.chg h.ol hc (q _ (.inr (.inr (.inr (.inr (.inr rfl)))))), Below.trans h.ex (hc.below hx h.ex.size)⟩
theorem RnS.ext (h : RnS w b5 b6 b7 b9 b11 s d st Al ml cl l N Vs Vr W) (x : Ext W W') : RnS w b5 b6 b7 b9 b11 s d st Al ml cl l N Vs Vr W' := by
  have h1 := h.chg (X := fun _ _ => False) (Chg.ext x) (fun _ _ h => h.elim) (fun _ _ _ _ h => h) (fun _ _ _ h => h) (fun _ _ _ h => h) (h.st.ext x)
  exact h1
theorem RnS.imp {M : Nat → Prop} (h : RnS w b5 b6 b7 b9 b11 s d st Al ml cl l N Vs Vr W) (hi : ∀ b, N b → b < W.heap.size → M b) : RnS w b5 b6 b7 b9 b11 s d st Al ml cl l M Vs Vr W := by
  obtain ⟨A, m, c, h1, h2⟩ := h.h9
  exact ⟨h.h5, h.h6, h.h7, ⟨A, m, c, h1.imp hi, h2⟩, h.h11, h.st, h.ol, h.ex⟩
theorem RnS.bk {B : Nat} (h : RnS w b5 b6 b7 b9 b11 s d st Al ml cl l N Vs Vr W) (hc : Chg (XBk B) W W') (hB : w.heap.size ≤ B) : RnS w b5 b6 b7 b9 b11 s d st Al ml cl l N Vs Vr W' :=
  h.chg hc (fun b o hx => Nat.le_trans hB hx.1) (fun T _ b cs => XBk.no b cs) (fun b cs _ => XBk.no b cs) (fun b cs _ => XBk.no b cs) (h.st.chg hc (fun b o _ hM hX => by
    have h2 := hX.2
    cases o with
    | cells _ _ _ => exact Bool.noConfusion h2
    | map _ _ => exact Bool.noConfusion h2
    | _ => exact hM) (fun b cs => XBk.no b cs) (fun b cs => XBk.no b cs) (fun b cs => XBk.no b cs))
theorem MF.qt {F : Nat → Prop} {T : TypeId} (hT : Qt T) (b : Nat) (cs : Array Value) : ¬ MF F b (.cells cs T (0, 0)) := fun hx => by
  have h : T = TDK ∨ T = TBY ∨ T = TSE := hx.2
  revert h
  rcases hT with rfl | rfl | rfl | rfl | rfl | rfl <;> decide
theorem RnS.mf (h : RnS w b5 b6 b7 b9 b11 s d st Al ml cl l N Vs Vr W) (hc : Chg (MF fun b => w.heap.size ≤ b) W W') {Vs' : List (List Pr)} (hs : STl (fun b => w.heap.size ≤ b) W' s d 3 1536 Vs' 0) : RnS w b5 b6 b7 b9 b11 s d st Al ml cl l N Vs' Vr W' :=
  h.chg hc (fun b o hx => hx.1) (fun T hT b cs => MF.qt hT b cs) (fun b cs _ => MF.pa b cs) (fun b cs _ => MF.ps b cs) hs
theorem RnS.box {R : Nat} {T : TypeId} (h : RnS w b5 b6 b7 b9 b11 s d st Al ml cl l N Vs Vr W) (hc : Chg (XBx R T) W W') (hR : w.heap.size ≤ R) (q : ¬ Qt T) (q2 : T ≠ TPA ∧ T ≠ TPS ∧ T ≠ TNO ∧ T ≠ TVE ∧ T ≠ TDK ∧ T ≠ TBY ∧ T ≠ TSE) : RnS w b5 b6 b7 b9 b11 s d st Al ml cl l N Vs Vr W' :=
  h.chg hc (fun b o hx => by rw [hx.1]; exact hR) (fun T' hT' b cs => XBx.no (fun e => q (by rw [← e]; exact hT')) b cs) (fun b cs _ => XBx.no (Ne.symm q2.1) b cs) (fun b cs _ => XBx.no (Ne.symm q2.2.1) b cs) (h.st.chg hc (fun b o _ hM hX => by
    obtain ⟨_, cs, rfl⟩ := hX
    have h : T = TDK ∨ T = TBY ∨ T = TSE := hM
    rcases h with h | h | h
    · exact q2.2.2.2.2.1 h
    · exact q2.2.2.2.2.2.1 h
    · exact q2.2.2.2.2.2.2 h) (fun b cs => XBx.no (fun e => q (.inl e.symm)) b cs) (fun b cs => XBx.no (Ne.symm q2.2.2.1) b cs) (fun b cs => XBx.no (Ne.symm q2.2.2.2.1) b cs))
/-- The reference's box is written. -/
theorem RnS.ref {A : Option Addr} {m c : Nat} {Vr' : List (List Pr)} (h : RnS w b5 b6 b7 b9 b11 s d st Al ml cl l N Vs Vr W) (hr : RSn N W (.agg #[.slice A m c, .int .i64 ((3 : Nat) : Int)]) Vr' 3) (hR : w.heap.size ≤ b9) :
    RnS w b5 b6 b7 b9 b11 s d st Al ml cl l N Vs Vr' ((W.setCell ⟨b9, 0, none⟩ (.slice A m c)).setCell ⟨b9, 1, none⟩ (.int .i64 ((3 : Nat) : Int))) ∧ Chg (XBx b9 TRS) W ((W.setCell ⟨b9, 0, none⟩ (.slice A m c)).setCell ⟨b9, 1, none⟩ (.int .i64 ((3 : Nat) : Int))) := by
  obtain ⟨A0, m0, c0, _, hb⟩ := h.h9
  have hc : Chg (XBx b9 TRS) W ((W.setCell ⟨b9, 0, none⟩ (.slice A m c)).setCell ⟨b9, 1, none⟩ (.int .i64 ((3 : Nat) : Int))) := (Chg.setB hb ⟨rfl, _, rfl⟩ 0 _).trans (Chg.setB (hb.set_ 0 _) ⟨rfl, _, rfl⟩ 1 _)
  refine ⟨⟨hc.blk h.h5 (XBx.no (by decide) _ _), hc.blk h.h6 (XBx.no (by decide) _ _), hc.blk h.h7 (XBx.no (by decide) _ _), ⟨A, m, c, hr.chg hc (fun b cs _ => XBx.no (by decide) b cs) (fun b cs _ => XBx.no (by decide) b cs), (hb.set_ 0 _).set_ 1 _⟩, hc.blk h.h11 (XBx.no (by decide) _ _), h.st.chg hc (fun b o _ hM hX => by
    obtain ⟨_, cs, rfl⟩ := hX
    have : TRS = TDK ∨ TRS = TBY ∨ TRS = TSE := hM
    revert this
    decide) (XBx.no (by decide)) (XBx.no (by decide)) (XBx.no (by decide)), OwC.chg h.ol hc (XBx.no (by decide)), Below.trans h.ex (hc.below (fun b o hx => by rw [hx.1]; exact hR) h.ex.size)⟩, hc⟩
/-- A pair is put behind the list. -/
theorem gt_app {w1 : World} {bg : Nat} {pre : List Pr} {x : Pr} {A0 A1 : Option Addr} {pl c0 c1 : Nat} (hO : Blk W bg TPS #[.slice A0 pl c0]) (ho : OwP w.heap.size W (.slice A0 pl c0) pre) (hpl : pre.length = pl) (tmp : Obj)
    (o1 : w1.ownsRow w.heap.size TPA 2 (.slice A1 (pl + 1) c1) (pl + 1) (pcs pre ++ pcs [x])) (g1 : (W.alloc tmp).grownBy w1 (Value.slice A0 pl c0).ownBlock) :
    Blk w1 bg TPS #[.slice A0 pl c0] ∧ Chg (XGt (.slice A0 pl c0) bg) W (w1.setCell ⟨bg, 0, none⟩ (.slice A1 (pl + 1) c1)) ∧ Blk (w1.setCell ⟨bg, 0, none⟩ (.slice A1 (pl + 1) c1)) bg TPS #[.slice A1 (pl + 1) c1] ∧ OwP w.heap.size (w1.setCell ⟨bg, 0, none⟩ (.slice A1 (pl + 1) c1)) (.slice A1 (pl + 1) c1) (pre ++ [x]) := by
  have ho' := own_below ho (Ext.allocR W tmp)
  have hb1 : Blk w1 bg TPS #[.slice A0 pl c0] := grow_blk g1 ho' (by decide) (hO.alloc tmp)
  have hc1 : Chg (XGt (.slice A0 pl c0) bg) (W.alloc tmp) w1 := ⟨g1.os, g1.tape, g1.output, g1.size, fun b o hb hx => (g1.block b (obj_lt hb) fun e => by
    rcases ho'.2 with ⟨e2, _⟩ | ⟨q, cap, cur, e2, _, h2, _⟩
    · rw [e2] at e; cases e
    · have e3 := e
      rw [e2] at e
      simp only [Value.ownBlock, Option.some.injEq] at e
      subst e
      rw [hb] at h2
      injection h2 with h2
      exact hx (.inl ⟨e3.symm, cur, h2⟩)).trans hb⟩
  refine ⟨hb1, ((Chg.ext (Ext.allocR W tmp)).trans hc1).trans (Chg.setB hb1 (.inr ⟨rfl, _, rfl⟩) 0 _), hb1.set_ 0 _, ?_⟩
  unfold OwP
  rw [pcs_app, List.length_append, hpl]
  exact own_far o1 (p := ⟨bg, 0, none⟩) hb1 (by decide) _
theorem RnS.got {v0 v1 : Value} {bg : Nat} (h : RnS w b5 b6 b7 b9 b11 s d st Al ml cl l (Ng v0 bg) Vs Vr W) (hc : Chg (XGt v0 bg) W W') (h0 : ∀ b, v0.ownBlock = some b → w.heap.size ≤ b) (hg : w.heap.size ≤ bg) (h1 : v1.ownBlock = v0.ownBlock ∨ ∃ q, W.heap.size ≤ q ∧ v1.ownBlock = some q) : RnS w b5 b6 b7 b9 b11 s d st Al ml cl l (Ng v1 bg) Vs Vr W' := by
  have h2 := h.imp (M := fun b => Ng v0 bg b ∧ Ng v1 bg b) fun b hb hlt => ⟨hb, fun e => by
    rcases h1 with h1 | ⟨q, hq, h1⟩
    · rw [h1] at e; exact hb.1 e
    · rw [h1] at e
      injection e with e
      omega, hb.2⟩
  refine (h2.chg hc (fun b o hx => ?_) (fun T hT b cs => XGt.no (fun e => ?_) (fun e => ?_) b cs) (fun b cs hb hx => ?_) (fun b cs hb hx => ?_) (h.st.chg hc (fun b o _ hM hX => ?_) (XGt.no (by decide) (by decide)) (XGt.no (by decide) (by decide)) (XGt.no (by decide) (by decide)))).imp fun b hb _ => hb.2
  · rcases hx with ⟨hx, _⟩ | ⟨rfl, _⟩
    · exact h0 b hx
    · exact hg
  · subst e; revert hT; unfold Qt; decide
  · subst e; revert hT; unfold Qt; decide
  · rcases hx with ⟨hx, _⟩ | ⟨hx, _⟩
    · exact hb.1.1 hx
    · exact hb.1.2 hx
  · rcases hx with ⟨hx, _⟩ | ⟨hx, _⟩
    · exact hb.1.1 hx
    · exact hb.1.2 hx
  · rcases hX with ⟨_, cs, rfl⟩ | ⟨_, cs, rfl⟩
    · have : TPA = TDK ∨ TPA = TBY ∨ TPA = TSE := hM
      revert this
      decide
    · have : TPS = TDK ∨ TPS = TBY ∨ TPS = TSE := hM
      revert this
      decide
/-- What the first loop holds. -/
def CnI (wn : World) (bn : Nat) (W : World) : Prop := Ext wn W ∧ ∃ i : Nat, i ≤ 15 ∧ Blk W bn TIN #[.int .i64 (i : Int)]
theorem CnI.own {β : Type} (wn : World) (bn B : Nat) (hB : wn.heap.size ≤ B) : OwnFrom B (fun (_ : β) W => CnI wn bn W) := fun s X X' row h hg hr => by
  obtain ⟨h1, i, h2, h3⟩ := h
  exact ⟨Below.grown h1 hg (Ext.size h1) (fun k e => Nat.le_trans hB (hr k e).1), i, h2, keepB hg hr h3⟩
/-- What the second loop holds. -/
structure RnI (w : World) (b5 b6 b7 b9 b11 s d : Nat) (st : Int) (Al : Option Addr) (ml cl : Nat) (l : List Cg) (bg bt D1 : Nat) (V0 : List (List Pr)) (pre : List Pr) (W : World) : Prop where
  ex : ∃ (t : Nat) (Vs : List (List Pr)) (v : Value), t ≤ 2 ∧ (∃ X, Vs = V0 ++ X ∧ X.length = t) ∧ (∀ x ∈ Vs, x.length ≤ 360) ∧ RnS w b5 b6 b7 b9 b11 s d st Al ml cl l (Ng v bg) Vs Vs W ∧ Blk W bg TPS #[v] ∧ OwP w.heap.size W v pre ∧ Blk W bt TIN #[.int .i64 (t : Int)]
  dd : W.heap[D1]? = some (.deferred (some []))
theorem RnI.bk {bg bt D1 B : Nat} {V0 : List (List Pr)} (hB : w.heap.size ≤ B) (hD : D1 < B) : BkF B (RnI w b5 b6 b7 b9 b11 s d st Al ml cl l bg bt D1 V0) := fun pre X X' row h hg hr => by
  have hc := chg_bk hg hr
  obtain ⟨t, Vs, v, h1, h2, h3, h4, h5, h6, h7⟩ := h.ex
  exact ⟨⟨t, Vs, v, h1, h2, h3, h4.bk hc hB, hc.blk h5 (XBk.no _ _), OwP.chg h6 hc (fun b cs => XBk.no b cs), hc.blk h7 (XBk.no _ _)⟩, hc.same _ _ h.dd fun hx => by have := hx.1; omega⟩
end
end Go.Proofs.Tb
