/- Contract of (*Store).Commit. -/
import Derived.Test.YtfljnfdeboibhaaSvh
set_option linter.unusedVariables false
set_option linter.unusedSimpArgs false
namespace Go.Proofs.Tb
open Go.Maps Go.RowKit Go.Lib
attribute [local go_sem] cell_set_same neqMapL

/-- A store in memory, on its disk. -/
structure SI (F : Nat → Prop) (w : World) (s d keep : Nat) (vs : List (Nat × MT)) (B : Nat → Nat) (br : Bool) (bl : List (List (List Nat))) (down : Bool) (left : Nat) : Prop where
  se : ∃ A m c, Blk w s TSE #[.pointer (some ⟨d, 0, none⟩), .int .i64 (keep : Int), .slice A m c, .bool br] ∧ OwS 0 w (.slice A m c) vs
  dk : DW F w d bl down left
  fs : F s
  tr : ∀ v ∈ vs, TrW w B (Pos B) v.2
  bz : ∀ a, w.heap.size ≤ a → B a = 0
  bm : ∀ a, B a ≤ 4096
theorem SI.chg {F : Nat → Prop} {X : Nat → Obj → Prop} {w w' : World} {s d keep : Nat} {vs : List (Nat × MT)} {B : Nat → Nat} {br : Bool} {bl : List (List (List Nat))} {down : Bool} {left : Nat} (h : SI F w s d keep vs B br bl down left) (hc : Chg X w w') (h1 : ∀ b o, F b → MutK o → ¬ X b o) (h2 : ∀ b cs, ¬ X b (.cells cs TU8 (0, 0))) (h3 : ∀ b cs, ¬ X b (.cells cs TNO (0, 0))) (h4 : ∀ b cs, ¬ X b (.cells cs TVE (0, 0))) : SI F w' s d keep vs B br bl down left := by
  obtain ⟨A, m, c, g1, g2⟩ := h.se
  exact ⟨⟨A, m, c, hc.blk g1 (h1 s _ h.fs (Or.inr (Or.inr rfl))), hc.own g2 fun b cs _ => h4 b cs⟩, h.dk.chg hc h1 h2, h.fs, fun v hv => (h.tr v hv).chg hc h3, fun a ha => h.bz a (Nat.le_trans hc.size ha), h.bm⟩
theorem SI.ext {F : Nat → Prop} {w w' : World} {s d keep : Nat} {vs : List (Nat × MT)} {B : Nat → Nat} {br : Bool} {bl : List (List (List Nat))} {down : Bool} {left : Nat} (h : SI F w s d keep vs B br bl down left) (hx : Ext w w') : SI F w' s d keep vs B br bl down left :=
  h.chg (X := fun _ _ => False) (Chg.ext hx) (fun _ _ _ _ h => h) (fun _ _ h => h) (fun _ _ h => h) fun _ _ h => h
/-- A disk without some block that is none of its own. -/
theorem DW.not {F : Nat → Prop} {w : World} {d : Nat} {bl : List (List (List Nat))} {down : Bool} {left : Nat} (h : DW F w d bl down left) {s : Nat} {cs : Array Value} (hs : Blk w s TSE cs) : DW (fun b => F b ∧ b ≠ s) w d bl down left := by
  obtain ⟨g, h1, h2, h3⟩ := h
  refine ⟨g, h1, h2, fun b hb => ⟨h3 b hb, fun e => ?_⟩⟩
  subst e
  exact h1.blk_ne hs (by decide) (by decide) (by rw [List.length_map]; exact hb)
theorem DW.imp {F G : Nat → Prop} {w : World} {d : Nat} {bl : List (List (List Nat))} {down : Bool} {left : Nat} (h : DW F w d bl down left) (hFG : ∀ b, F b → G b) : DW G w d bl down left := by
  obtain ⟨g, h1, h2, h3⟩ := h
  exact ⟨g, h1, h2, fun b hb => hFG b (h3 b hb)⟩
theorem MF.ve {F : Nat → Prop} (b : Nat) (cs : Array Value) : ¬ MF F b (.cells cs TVE (0, 0)) := fun hx => by
  have : TVE = TDK ∨ TVE = TBY ∨ TVE = TSE := hx.2
  revert this
  decide
theorem MF.ti {F : Nat → Prop} (b : Nat) (cs : Array Value) : ¬ MF F b (.cells cs TIN (0, 0)) := fun hx => by
  have : TIN = TDK ∨ TIN = TBY ∨ TIN = TSE := hx.2
  revert this
  decide
/-- What a Commit makes: the new tree's nodes, where they go, and what the acts are. -/
structure Cmt where
  gs : List Nat
  fs : List Nat
  B : Nat → Nat
  ps : List (Nat × List Nat)
  vs : List (Nat × MT)
  r1 : Dst
  r2 : Dst
def cmtOf (keep num : Nat) (vs : List (Nat × MT)) (B : Nat → Nat) (bl : List (List (List Nat))) (left : Nat) (t : MT) : Cmt :=
  let fs := frF B vs (upB (bl.length - 2))
  let B' := asg B (t.fr B) fs
  let ps := (t.frs B).map (ptB B')
  let vs' := ((num + 1, t) :: vs).take (keep + 1)
  let r1 := wrA ps bl left
  { gs := t.fr B, fs := fs, B := B', ps := ps, vs := vs', r1 := r1, r2 := wrA [((num + 1) % 2, blkB (rootB keep (num + 1) (rtB B' vs')))] r1.bl r1.lf }
def ansV (n e : Int) : Ending := .returned (.tuple #[.int .i64 n, .int .i64 e])
/-- What a Commit of a batch answers. -/
inductive CmtA (F : Nat → Prop) (w w' : World) (s d keep num : Nat) (vs : List (Nat × MT)) (B : Nat → Nat) (bl : List (List (List Nat))) (left : Nat) (t : MT) (e : Ending) : Prop
  | full : (cmtOf keep num vs B bl left t).fs.length < (cmtOf keep num vs B bl left t).gs.length → e = ansV 0 8 → Ext w w' → CmtA F w w' s d keep num vs B bl left t e
  | down1 : (cmtOf keep num vs B bl left t).gs.length ≤ (cmtOf keep num vs B bl left t).fs.length → (cmtOf keep num vs B bl left t).r1.dn = true → e = ansV 0 9 →
      SI F w' s d keep vs B true (cmtOf keep num vs B bl left t).r1.bl true (cmtOf keep num vs B bl left t).r1.lf → Chg (MF F) w w' → CmtA F w w' s d keep num vs B bl left t e
  | down2 : (cmtOf keep num vs B bl left t).gs.length ≤ (cmtOf keep num vs B bl left t).fs.length → (cmtOf keep num vs B bl left t).r1.dn = false → (cmtOf keep num vs B bl left t).r2.dn = true → e = ansV 0 9 →
      SI F w' s d keep vs B true (cmtOf keep num vs B bl left t).r2.bl true (cmtOf keep num vs B bl left t).r2.lf → Chg (MF F) w w' → CmtA F w w' s d keep num vs B bl left t e
  | ok : (cmtOf keep num vs B bl left t).gs.length ≤ (cmtOf keep num vs B bl left t).fs.length → (cmtOf keep num vs B bl left t).r1.dn = false → (cmtOf keep num vs B bl left t).r2.dn = false → e = ansV ((num + 1 : Nat) : Int) 0 →
      SI F w' s d keep (cmtOf keep num vs B bl left t).vs (cmtOf keep num vs B bl left t).B false (cmtOf keep num vs B bl left t).r2.bl false (cmtOf keep num vs B bl left t).r2.lf → Chg (MF F) w w' → CmtA F w w' s d keep num vs B bl left t e
/-- .. for some new tree. -/
def CmtR (F : Nat → Prop) (w w' : World) (s d keep num : Nat) (vs : List (Nat × MT)) (B : Nat → Nat) (bl : List (List (List Nat))) (left : Nat) (T : Tr) (e : Ending) : Prop :=
  ∃ t : MT, t.er = T ∧ Mix B (SubV vs) t ∧ (t.fr B).Pairwise (· ≠ ·) ∧ CmtA F w w' s d keep num vs B bl left t e
set_option maxHeartbeats 1600000 in
set_option maxRecDepth 100000 in
theorem rcommit_broken (s d : Nat) (keep : Int) (v : Value) (w : World) (h : Blk w s TSE #[.pointer (some ⟨d, 0, none⟩), .int .i64 keep, v, .bool true]) (A : Option Addr) (n c : Nat) :
    Calls Try.prog 13 #[.pointer (some ⟨s, 0, none⟩), .slice A n c] w fun e w' => e = ansV 0 7 ∧ Ext w w' := by
  have H := Lib.hid h
  clear h
  go_enter Try.func13, Try.ntmps13
  go_wp2_with fail
  refine (rbroken_any s d keep v true w H.out).mono ?_
  rintro e w1 ⟨z1, rfl, rfl, b1⟩
  have X1 := Lib.hid (show Ext w w1 from b1)
  clear b1
  go_wp2
  go_returns
  exact ⟨rfl, X1.out⟩
set_option maxHeartbeats 1600000 in
set_option maxRecDepth 100000 in
theorem rcommit_bad (s d : Nat) (keep : Int) (v : Value) (w : World) (h : Blk w s TSE #[.pointer (some ⟨d, 0, none⟩), .int .i64 keep, v, .bool false]) (A : Option Addr) (n c : Nat) (cs : List Cg) (hr : Rv w 3 A n c (ccs cs)) (hn : n ≤ 1000) (hcs : ∀ c ∈ cs, c.k.size ≤ 1000000000 ∧ c.v.size ≤ 1000000000) (hb : batB cs = false) :
    Calls Try.prog 13 #[.pointer (some ⟨s, 0, none⟩), .slice A n c] w fun e w' => e = ansV 0 1 ∧ Ext w w' := by
  have H := Lib.hid h
  have HR := Lib.hid hr
  have HC := Lib.hid hcs
  have HB := Lib.hid hb
  have hle := hr.le
  have hcp := hr.cap
  clear h hr hcs hb
  go_enter Try.func13, Try.ntmps13
  go_wp2_with fail
  refine (rbroken_any s d keep v false w H.out).mono ?_
  rintro e w1 ⟨z1, rfl, rfl, b1⟩
  have X1 := Lib.hid (show Ext w w1 from b1)
  clear b1
  go_wp2_with fail
  refine (rbatch_any A n c cs w1 (HR.out.below X1.out) hn HC.out).mono ?_
  rintro e w2 ⟨z2, rfl, rfl, b2⟩
  rw [HB.out]
  have X2 := Lib.hid (bt X1.out b2)
  clear b2
  go_wp2
  go_returns
  exact ⟨rfl, X2.out⟩
end Go.Proofs.Tb
