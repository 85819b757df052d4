/- Contract of (*Store).Commit at a batch. -/
import Derived.Test.YtfljnfdeboibhaaSvi
set_option linter.unusedVariables false
set_option linter.unusedSimpArgs false
namespace Go.Proofs.Tb
open Go.Maps Go.RowKit Go.Lib
attribute [local go_sem] cell_set_same neqMapL

theorem TrW.congr {w : World} {B B' : Nat → Nat} (hB : ∀ a, 0 < B a → B' a = B a) : ∀ {t : MT}, TrW w B (Pos B) t → TrW w B' (Pos B') t
  | .nil, _ => trivial
  | .node g _ _ _ _, ⟨h1, h2, h3, h4⟩ => by
    have e : B' g = B g := hB g h2
    exact ⟨by rw [e]; exact h1, by unfold Pos; rw [e]; exact h2, h3.congr hB, h4.congr hB⟩
theorem TrW.fr_new {w w1 : World} {B : Nat → Nat} {P : MT → Prop} : ∀ {t : MT}, TrW w1 B (Qn w B P) t → ∀ g ∈ t.fr B, w.heap.size ≤ g ∧ g < w1.heap.size
  | .nil, _, g, h => by cases h
  | .node g' k v l r, h, g, hg => by
    simp only [MT.fr] at hg
    split at hg
    · cases hg
    · rename_i hz
      rcases List.mem_append.1 hg with hg | hg
      · rcases List.mem_append.1 hg with hg | hg
        · exact h.2.2.1.fr_new g hg
        · exact h.2.2.2.fr_new g hg
      · rw [List.mem_singleton.1 hg]
        refine ⟨?_, h.1.lt⟩
        rcases h.2.1 with h1 | ⟨u, hu, hut, _⟩
        · exact h1
        · cases u with
          | nil => cases hu
          | node gu ku vu lu ru =>
            simp only [MT.ad, Option.some.injEq, Addr.mk.injEq, and_true] at hu
            subst hu
            exact absurd hut.2.1 hz
theorem Chg.wr {F G : Nat → Prop} {w w1 w2 : World} {gs : List Nat} (hx : Ext w w1) (hc : Chg (XW G gs) w1 w2) (hG : ∀ b, G b → F b) (hg : ∀ g ∈ gs, w.heap.size ≤ g) : Chg (MF F) w w2 :=
  ⟨hc.os.trans hx.os, hc.tape.trans hx.tape, hc.output.trans hx.output, Nat.le_trans (Ext.size hx) hc.size, fun b o hb hX => hc.same b o ((hx.block b (obj_lt hb)).trans hb) fun h => by
    rcases h with h | ⟨h, _⟩
    · exact hX ⟨hG b h.1, h.2⟩
    · have := hg b h
      have := obj_lt hb
      omega⟩
/-- Where Commit's loop stands. -/
structure CmL (w wr : World) (B : Nat → Nat) (P : MT → Prop) (T : Tr) (m : Nat) (t : MT) : Prop where
  tr : TrW wr B (Qn w B P) t
  er : t.er = T
  ex : Ext w wr
  sz : t.er.size ≤ m
theorem size_aft (cs : List Cg) {t : Tr} (h : Srtd t.prs) (j : Nat) : (aftT t (cs.take j)).size ≤ t.size + j := by
  have h1 := aft_len (cs.take j) t.prs
  rw [← Tr.size_prs, ← Tr.size_prs, aftT_prs _ h]
  have h2 : (cs.take j).length ≤ j := by rw [List.length_take]; omega
  omega
/-- What is known behind write. -/
structure CmW (F : Nat → Prop) (w W : World) (s d keep num : Nat) (vs : List (Nat × MT)) (B : Nat → Nat) (bl : List (List (List Nat))) (t : MT) (A0 : Option Addr) (m c0 : Nat) (A1 : Option Addr) (q c1 : Nat) (bl' : List (List (List Nat))) (dn : Bool) (lf : Nat) : Prop where
  se : Blk W s TSE #[.pointer (some ⟨d, 0, none⟩), .int .i64 (keep : Int), .slice A0 m c0, .bool false]
  ol : OwS 0 W (.slice A0 m c0) vs
  nw : OwS 0 W (.slice A1 q c1) (((num + 1, t) :: vs).take (keep + 1))
  dk : DW (fun b => F b ∧ b ≠ s) W d bl' dn lf
  ch : Chg (MF F) w W
  gl : ∀ g ∈ t.fr B, g < W.heap.size
theorem CmW.down {F : Nat → Prop} {w W : World} {s d keep num : Nat} {vs : List (Nat × MT)} {B : Nat → Nat} {bl : List (List (List Nat))} {t : MT} {A0 : Option Addr} {m c0 : Nat} {A1 : Option Addr} {q c1 : Nat} {bl' : List (List (List Nat))} {lf left : Nat}
    (h : CmW F w W s d keep num vs B bl t A0 m c0 A1 q c1 bl' true lf) (hi : SI F w s d keep vs B false bl false left) : SI F (W.setCell ⟨s, 3, none⟩ (.bool true)) s d keep vs B true bl' true lf ∧ Chg (MF F) w (W.setCell ⟨s, 3, none⟩ (.bool true)) := by
  have hc : Chg (fun b o => b = s ∧ ∃ cs, o = .cells cs TSE (0, 0)) W (W.setCell ⟨s, 3, none⟩ (.bool true)) := Chg.setB h.se ⟨rfl, _, rfl⟩ _ _
  have hc2 : Chg (MF F) W (W.setCell ⟨s, 3, none⟩ (.bool true)) := Chg.setB h.se ⟨hi.fs, Or.inr (Or.inr rfl)⟩ _ _
  refine ⟨⟨⟨A0, m, c0, h.se.set_ 3 _, hc.own h.ol fun b cs _ hX => by
    obtain ⟨_, cs', hX⟩ := hX
    injection hX with _ hX
    revert hX
    decide⟩, (h.dk.chg hc (fun b o hb _ hX => hb.2 hX.1) fun b cs hX => by
    obtain ⟨_, cs', hX⟩ := hX
    injection hX with _ hX
    revert hX
    decide).imp fun b hb => hb.1, hi.fs, fun v hv => (hi.tr v hv).chg (h.ch.trans hc2) MF.no, fun a ha => hi.bz a (Nat.le_trans (h.ch.trans hc2).size ha), hi.bm⟩, h.ch.trans hc2⟩
theorem CmW.done {F : Nat → Prop} {w w1 W1 W : World} {s d keep num : Nat} {vs : List (Nat × MT)} {B : Nat → Nat} {bl : List (List (List Nat))} {t : MT} {A0 : Option Addr} {m c0 : Nat} {A1 : Option Addr} {q c1 : Nat} {bl' : List (List (List Nat))} {lf left : Nat} {fs : List Nat}
    (h : CmW F w W s d keep num vs B bl t A0 m c0 A1 q c1 bl' false lf) (hi : SI F w s d keep vs B false bl false left) (hx : Ext w w1) (ht : TrW w1 B (Qn w B (SubV vs)) t) (ht' : TrW W1 (asg B (t.fr B) fs) (Qn w B (SubV vs)) t) (hcW : Chg (MF F) W1 W)
    (hnd : (t.fr B).Pairwise (· ≠ ·)) (hfs : ∀ f ∈ fs, 2 ≤ f ∧ f ≤ 4096) (hl : (t.fr B).length ≤ fs.length) :
    SI F (W.setCell ⟨s, 2, none⟩ (.slice A1 q c1)) s d keep (((num + 1, t) :: vs).take (keep + 1)) (asg B (t.fr B) fs) false bl' false lf ∧ Chg (MF F) w (W.setCell ⟨s, 2, none⟩ (.slice A1 q c1)) := by
  have hc : Chg (fun b o => b = s ∧ ∃ cs, o = .cells cs TSE (0, 0)) W (W.setCell ⟨s, 2, none⟩ (.slice A1 q c1)) := Chg.setB h.se ⟨rfl, _, rfl⟩ _ _
  have hc2 : Chg (MF F) W (W.setCell ⟨s, 2, none⟩ (.slice A1 q c1)) := Chg.setB h.se ⟨hi.fs, Or.inr (Or.inr rfl)⟩ _ _
  have hB : ∀ a, 0 < B a → asg B (t.fr B) fs a = B a := fun a ha => asg_not fun hm => by have := MT.fr_zero B t a hm; omega
  have hpos : ∀ g ∈ t.fr B, 0 < asg B (t.fr B) fs g := fun g hg => by
    obtain ⟨j, hj, rfl⟩ := List.getElem_of_mem hg
    rw [asg_at j hj (by omega) hnd]
    have := hfs _ (List.getElem_mem (show j < fs.length by omega))
    omega
  refine ⟨⟨⟨A1, q, c1, h.se.set_ 2 _, hc.own h.nw fun b cs _ hX => by
    obtain ⟨_, cs', hX⟩ := hX
    injection hX with _ hX
    revert hX
    decide⟩, (h.dk.chg hc (fun b o hb _ hX => hb.2 hX.1) fun b cs hX => by
    obtain ⟨_, cs', hX⟩ := hX
    injection hX with _ hX
    revert hX
    decide).imp fun b hb => hb.1, hi.fs, fun v hv => ?_, fun a ha => ?_, asg_le hi.bm fun f hf => (hfs f hf).2⟩, h.ch.trans hc2⟩
  · rcases List.mem_cons.1 (List.mem_of_mem_take hv) with rfl | hv
    · exact (TrW.stands hx hi.bz hB ht ht' hpos).chg (hcW.trans hc2) MF.no
    · exact ((hi.tr v hv).congr hB).chg (h.ch.trans hc2) MF.no
  · have h1 : w.heap.size ≤ a := Nat.le_trans (h.ch.trans hc2).size ha
    rw [asg_not fun hm => by
      have := h.gl a hm
      have := hc2.size
      omega]
    exact hi.bz a h1
end Go.Proofs.Tb
