/- Maps of free blocks; contract of unfree. -/
import Derived.Test.YtfljnfdeboibhaaStn
import Derived.Maps.OwnSet
set_option linter.unusedVariables false
set_option linter.unusedSimpArgs false
namespace Go.Proofs.Tb
open Go.Maps Go.RowKit
attribute [local go_sem] cell_set_same

abbrev TMB : TypeId := 141
abbrev TBO : TypeId := 4
theorem lawI : Keyed Try.prog TIN := int_keyed Try.underlying3
theorem zeroB (w : World) : (zeroValue TBO).run Try.prog w = .ok (.bool false) w := by kernel_rfl
def entB (L : List Nat) : List (Lit × DataW Unit) := L.map fun (k : Nat) => (.int .i64 (k : Int), .lit (.bool true))
/-- A map that holds these keys, each with 'true'. -/
def MkB (w : World) (b n : Nat) (L : List Nat) : Prop := w.ownsMap Try.prog TIN (plainElem (H := Unit) Try.prog TBO) b n (.map (entB L))
theorem keyI (k : Nat) (hk : k ≤ 1000000000) : keyOf Try.prog TIN (.int .i64 (k : Int)) = some (.int .i64 (k : Int)) := keyOf_int_mk Try.underlying3 (by
  simp only [Lit.wf, IntKind.min, IntKind.max, IntKind.bits, IntKind.signed]
  simp
  omega)
theorem entB_find (k : Nat) : ∀ L : List Nat, (entB L).find? (fun p => p.1.sameKey (.int .i64 (k : Int))) = if k ∈ L then some (.int .i64 (k : Int), .lit (.bool true)) else none
  | [] => rfl
  | x :: L => by
    have ih := entB_find k L
    show List.find? _ ((Lit.int IntKind.i64 (x : Int), DataW.lit (.bool true)) :: entB L) = _
    rw [List.find?_cons]
    by_cases h : x = k
    · subst h; simp [Lit.sameKey]
    · have h1 : (Lit.int IntKind.i64 (x : Int)).sameKey (.int .i64 (k : Int)) = false := by
        simp [Lit.sameKey]; omega
      simp only [h1]
      rw [ih]
      have : (k ∈ x :: L) ↔ k ∈ L := by
        rw [List.mem_cons]
        exact ⟨fun hh => hh.resolve_left (Ne.symm h), Or.inr⟩
      simp only [this]
theorem entB_at (k : Nat) (L : List Nat) : (DataW.map (entB L)).atKey (.int .i64 (k : Int)) (.lit (.bool false)) = (.lit (.bool (decide (k ∈ L))) : DataW Unit) := by
  unfold DataW.atKey
  simp only
  rw [entB_find]
  by_cases h : k ∈ L
  · rw [if_pos h]; simp [h]
  · rw [if_neg h]; simp [h]
set_option maxRecDepth 100000 in
theorem MkB.look {w : World} {b n : Nat} {L : List Nat} (h : MkB w b n L) {k : Nat} (hk : k ≤ 1000000000) : (Instr.lookup TMB (.map (some b)) (.int .i64 (k : Int)) false).run Try.prog w = .ok (.bool (decide (k ∈ L))) w := by
  obtain ⟨v, ps, hrun, hR⟩ := World.ownsMap.lookup (H := Unit) h lawI Try.underlying141 (zeroB w) (plainElem_bool Try.underlying4 false) (keyI k hk)
  rw [entB_at] at hR
  have hv : v = .bool (decide (k ∈ L)) := by
    unfold plainElem at hR
    rw [Try.underlying4] at hR
    split at hR
    · simp at hR
      rw [hR.1]
    · exact absurd ‹some TypeDesc.bool = some (TypeDesc.int _)› (by simp)
    · exact absurd ‹some TypeDesc.bool = some TypeDesc.string› (by simp)
    · cases hR
  rw [hrun, hv]
set_option maxRecDepth 100000 in
theorem MkB.del {w : World} {b n : Nat} {L : List Nat} (h : MkB w b n L) {k : Nat} (hk : k ≤ 1000000000) (ty : TypeId) : ∃ w', (Builtin.delete_ #[TMB, TIN] ty #[.map (some b), .int .i64 (k : Int)]).run Try.prog w = .ok (.tuple #[]) w' ∧ MkB w' b n (L.filter fun x => decide (x ≠ k)) ∧ w.grownBy w' (some b) := by
  obtain ⟨w', hrun, h2, h3⟩ := World.ownsMap.drop (H := Unit) h lawI Try.underlying141 (keyI k hk) ty
  refine ⟨w', hrun, ?_, h3.grown⟩
  have e : (DataW.map (entB L)).del (.int .i64 (k : Int)) = (.map (entB (L.filter fun x => decide (x ≠ k))) : DataW Unit) := by
    unfold DataW.del entB
    simp only [DataW.map.injEq]
    rw [List.filter_map]
    congr 1
    apply List.filter_congr
    intro x _
    simp [Lit.sameKey]
    exact ⟨fun h => by omega, fun h => by omega⟩
  rw [e] at h2
  exact h2
theorem gb_trans {w w' w'' : World} {r : Option Nat} (h : w.grownBy w' r) (h' : w'.grownBy w'' r) : w.grownBy w'' r :=
  ⟨h'.os.trans h.os, h'.tape.trans h.tape, h'.output.trans h.output, Nat.le_trans h.size h'.size, fun b hb hr => (h'.block b (Nat.lt_of_lt_of_le hb h.size) hr).trans (h.block b hb hr)⟩
/-- What stands free behind a tree. -/
def MT.unf (B : Nat → Nat) : MT → List Nat → List Nat
  | .nil, L => L
  | .node g _ _ l r, L => if B g ∈ L then r.unf B (l.unf B (L.filter fun x => decide (x ≠ B g))) else L
theorem TrW.grown {w w' : World} {B : Nat → Nat} {Q : Nat → Prop} {b : Nat} (hg : w.grownBy w' (some b)) (hb : ∀ cs T fr, w.heap[b]? ≠ some (.cells cs T fr)) : ∀ {t : MT}, TrW w B Q t → TrW w' B Q t
  | .nil, _ => trivial
  | .node g _ _ _ _, ⟨h1, h2, h3, h4⟩ => ⟨(hg.block g h1.lt (fun e => by
      injection e with e
      subst e
      exact hb _ _ _ h1)).trans h1, h2, h3.grown hg hb, h4.grown hg hb⟩
theorem MkB.nocells {w : World} {b n : Nat} {L : List Nat} (h : MkB w b n L) : ∀ cs T fr, w.heap[b]? ≠ some (.cells cs T fr) := fun cs T fr e => by
  obtain ⟨es, clock, hb, _⟩ := h
  rw [hb] at e
  cases e
set_option maxHeartbeats 6400000 in
set_option maxRecDepth 100000 in
theorem runfree_any (B : Nat → Nat) (Q : Nat → Prop) (hB : ∀ g, B g ≤ 1000000) (b n : Nat) : ∀ (t : MT) (L : List Nat) (w : World), TrW w B Q t → MkB w b n L →
    Calls Try.prog 82 #[.pointer t.ad, .map (some b)] w fun e w' => (∃ z, e = .returned z) ∧ MkB w' b n (t.unf B L) ∧ w.grownBy w' (some b) := by
  intro t
  induction t with
  | nil =>
    intro L w h hm
    have HM := Lib.hid hm
    clear h hm
    show Calls Try.prog 82 #[.pointer none, .map (some b)] w _
    go_enter Try.func82, Try.ntmps82
    go_wp2
    go_end0
    exact ⟨⟨_, rfl⟩, HM.out, ⟨rfl, rfl, rfl, Nat.le_refl _, fun _ _ _ => rfl⟩⟩
  | node g k v l r ihl ihr =>
    intro L w h hm
    have HH := Lib.hid h
    have c0 := h.1.cells
    simp only [cellsAre, Nat.zero_add, Nat.reduceAdd, and_true] at c0
    have HIL := Lib.hid ihl
    have HIR := Lib.hid ihr
    obtain ⟨x, hx⟩ : ∃ x, B g = x := ⟨_, rfl⟩
    have hxl : x ≤ 1000000000 := by rw [← hx]; exact Nat.le_trans (hB g) (by omega)
    rw [hx] at c0
    have HXG := Lib.hid hx
    have HM := Lib.hid hm
    have hlook := hm.look hxl
    rw [MT.ad_node]
    clear h hm ihl ihr hx
    by_cases hin : x ∈ L
    rotate_left
    · rw [decide_eq_false hin] at hlook
      have HE := Lib.hid (show (MT.node g k v l r).unf B L = L by simp only [MT.unf]; rw [HXG.out, if_neg hin])
      go_enter Try.func82, Try.ntmps82
      go_wp2
      go_end0
      refine ⟨⟨_, rfl⟩, ?_, ⟨rfl, rfl, rfl, Nat.le_refl _, fun _ _ _ => rfl⟩⟩
      rw [HE.out]; exact HM.out
    · rw [decide_eq_true hin] at hlook
      have HE := Lib.hid (show (MT.node g k v l r).unf B L = r.unf B (l.unf B (L.filter fun y => decide (y ≠ x))) by simp only [MT.unf]; rw [HXG.out, if_pos hin])
      obtain ⟨w1, hdel, hm1, hg1⟩ := HM.out.del hxl 0
      have HM1 := Lib.hid hm1
      have HG1 := Lib.hid hg1
      have N1 := Lib.hid (HH.out.grown hg1 HM.out.nocells)
      have c1 := N1.out.1.cells
      simp only [cellsAre, Nat.zero_add, Nat.reduceAdd, and_true] at c1
      rw [HXG.out] at c1
      clear hm1 hg1
      go_enter Try.func82, Try.ntmps82
      go_wp2_with fail
      refine (HIL.out _ w1 N1.out.2.2.1 HM1.out).mono ?_
      rintro e w2 ⟨⟨z2, rfl⟩, hm2, hg2⟩
      have HM2 := Lib.hid hm2
      have HG2 := Lib.hid (gb_trans HG1.out hg2)
      have N2 := Lib.hid (N1.out.grown hg2 HM1.out.nocells)
      have c2 := N2.out.1.cells
      simp only [cellsAre, Nat.zero_add, Nat.reduceAdd, and_true] at c2
      clear hm2 hg2 c1
      go_wp2_with fail
      refine (HIR.out _ w2 N2.out.2.2.2 HM2.out).mono ?_
      rintro e w3 ⟨⟨z3, rfl⟩, hm3, hg3⟩
      have HZ := Lib.hid (And.intro hm3 (gb_trans HG2.out hg3))
      clear hm3 hg3
      go_wp2
      go_end0
      refine ⟨⟨_, rfl⟩, ?_, HZ.out.2⟩
      rw [HE.out]; exact HZ.out.1
end Go.Proofs.Tb
