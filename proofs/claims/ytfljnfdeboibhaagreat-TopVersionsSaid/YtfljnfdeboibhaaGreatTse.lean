/- Maps of free blocks; contract of unfree. (With what follows it, in one text.) -/
import Derived.Test.YtfljnfdeboibhaaGreatTsd
import Derived.Maps.OwnSet
import Derived.Shelf.SlLaysM
import Derived.Shelf.SlLaysZI
import Derived.Test.YtfljnfdeboibhaaGreatProg
import Derived.Shelf.SlIterI.Sorted
import Derived.Shelf.SortM.Plain
import Derived.Shelf.SortM.SortNone
set_option linter.unusedVariables false
set_option linter.unusedSimpArgs false
/- Maps of free blocks; contract of unfree. -/
namespace Go.Proofs.Tb
open Go.Maps Go.RowKit
attribute [local go_sem] cell_set_same

abbrev TMB : TypeId := 161
abbrev TBO : TypeId := 4
theorem lawI : Keyed Tryz.prog TIN := int_keyed Tryz.underlying3
theorem zeroB (w : World) : (zeroValue TBO).run Tryz.prog w = .ok (.bool false) w := by kernel_rfl
def entB (L : List Nat) : List (Lit × DataW Unit) := L.map fun (k : Nat) => (.int .i64 (k : Int), .lit (.bool true))
/-- A map that holds these keys, each with 'true'. -/
def MkB (w : World) (b n : Nat) (L : List Nat) : Prop := w.ownsMap Tryz.prog TIN (plainElem (H := Unit) Tryz.prog TBO) b n (.map (entB L))
theorem keyI (k : Nat) (hk : k ≤ 1000000000) : keyOf Tryz.prog TIN (.int .i64 (k : Int)) = some (.int .i64 (k : Int)) := keyOf_int_mk Tryz.underlying3 (by
  simp only [Lit.wf, IntKind.min, IntKind.max, IntKind.bits, IntKind.signed]
  simp
  omega)
theorem entB_find (k : Nat) : ∀ L : List Nat, (entB L).find? (fun p => p.1.sameKey (.int .i64 (k : Int))) = if k ∈ L then some (.int .i64 (k : Int), .lit (.bool true)) else none
  | [] => rfl
  | x :: L => by
    have ih := entB_find k L
    show List.find? _ ((Lit.int IntKind.i64 (x : Int), DataW.lit (.bool true)) :: entB L) = _
    rw [List.find?_cons]
    by_cases h : x = k
    · subst h; simp [Lit.sameKey]
    · have h1 : (Lit.int IntKind.i64 (x : Int)).sameKey (.int .i64 (k : Int)) = false := by
        simp [Lit.sameKey]; omega
      simp only [h1]
      rw [ih]
      have : (k ∈ x :: L) ↔ k ∈ L := by
        rw [List.mem_cons]
        exact ⟨fun hh => hh.resolve_left (Ne.symm h), Or.inr⟩
      simp only [this]
theorem entB_at (k : Nat) (L : List Nat) : (DataW.map (entB L)).atKey (.int .i64 (k : Int)) (.lit (.bool false)) = (.lit (.bool (decide (k ∈ L))) : DataW Unit) := by
  unfold DataW.atKey
  simp only
  rw [entB_find]
  by_cases h : k ∈ L
  · rw [if_pos h]; simp [h]
  · rw [if_neg h]; simp [h]
set_option maxRecDepth 100000 in
theorem MkB.look {w : World} {b n : Nat} {L : List Nat} (h : MkB w b n L) {k : Nat} (hk : k ≤ 1000000000) : (Instr.lookup TMB (.map (some b)) (.int .i64 (k : Int)) false).run Tryz.prog w = .ok (.bool (decide (k ∈ L))) w := by
  obtain ⟨v, ps, hrun, hR⟩ := World.ownsMap.lookup (H := Unit) h lawI Tryz.underlying161 (zeroB w) (plainElem_bool Tryz.underlying4 false) (keyI k hk)
  rw [entB_at] at hR
  have hv : v = .bool (decide (k ∈ L)) := by
    unfold plainElem at hR
    rw [Tryz.underlying4] at hR
    split at hR
    · simp at hR
      rw [hR.1]
    · exact absurd ‹some TypeDesc.bool = some (TypeDesc.int _)› (by simp)
    · exact absurd ‹some TypeDesc.bool = some TypeDesc.string› (by simp)
    · cases hR
  rw [hrun, hv]
set_option maxRecDepth 100000 in
theorem MkB.del {w : World} {b n : Nat} {L : List Nat} (h : MkB w b n L) {k : Nat} (hk : k ≤ 1000000000) (ty : TypeId) : ∃ w', (Builtin.delete_ #[TMB, TIN] ty #[.map (some b), .int .i64 (k : Int)]).run Tryz.prog w = .ok (.tuple #[]) w' ∧ MkB w' b n (L.filter fun x => decide (x ≠ k)) ∧ w.grownBy w' (some b) := by
  obtain ⟨w', hrun, h2, h3⟩ := World.ownsMap.drop (H := Unit) h lawI Tryz.underlying161 (keyI k hk) ty
  refine ⟨w', hrun, ?_, h3.grown⟩
  have e : (DataW.map (entB L)).del (.int .i64 (k : Int)) = (.map (entB (L.filter fun x => decide (x ≠ k))) : DataW Unit) := by
    unfold DataW.del entB
    simp only [DataW.map.injEq]
    rw [List.filter_map]
    congr 1
    apply List.filter_congr
    intro x _
    simp [Lit.sameKey]
    exact ⟨fun h => by omega, fun h => by omega⟩
  rw [e] at h2
  exact h2
theorem gb_trans {w w' w'' : World} {r : Option Nat} (h : w.grownBy w' r) (h' : w'.grownBy w'' r) : w.grownBy w'' r :=
  ⟨h'.os.trans h.os, h'.tape.trans h.tape, h'.output.trans h.output, Nat.le_trans h.size h'.size, fun b hb hr => (h'.block b (Nat.lt_of_lt_of_le hb h.size) hr).trans (h.block b hb hr)⟩
/-- What stands free behind a tree. -/
def MT.unf (B : Nat → Nat) : MT → List Nat → List Nat
  | .nil, L => L
  | .node g _ _ l r, L => if B g ∈ L then r.unf B (l.unf B (L.filter fun x => decide (x ≠ B g))) else L
theorem TrW.grown {w w' : World} {B : Nat → Nat} {Q : Nat → Prop} {b : Nat} (hg : w.grownBy w' (some b)) (hb : ∀ cs T fr, w.heap[b]? ≠ some (.cells cs T fr)) : ∀ {t : MT}, TrW w B Q t → TrW w' B Q t
  | .nil, _ => trivial
  | .node g _ _ _ _, ⟨h1, h2, h3, h4⟩ => ⟨(hg.block g h1.lt (fun e => by
      injection e with e
      subst e
      exact hb _ _ _ h1)).trans h1, h2, h3.grown hg hb, h4.grown hg hb⟩
theorem MkB.nocells {w : World} {b n : Nat} {L : List Nat} (h : MkB w b n L) : ∀ cs T fr, w.heap[b]? ≠ some (.cells cs T fr) := fun cs T fr e => by
  obtain ⟨es, clock, hb, _⟩ := h
  rw [hb] at e
  cases e
set_option maxHeartbeats 6400000 in
set_option maxRecDepth 100000 in
theorem runfree_any (B : Nat → Nat) (Q : Nat → Prop) (hB : ∀ g, B g ≤ 1000000) (b n : Nat) : ∀ (t : MT) (L : List Nat) (w : World), TrW w B Q t → MkB w b n L →
    Calls Tryz.prog 96 #[.pointer t.ad, .map (some b)] w fun e w' => (∃ z, e = .returned z) ∧ MkB w' b n (t.unf B L) ∧ w.grownBy w' (some b) := by
  intro t
  induction t with
  | nil =>
    intro L w h hm
    have HM := Lib.hid hm
    clear h hm
    show Calls Tryz.prog 96 #[.pointer none, .map (some b)] w _
    go_enter Tryz.func96, Tryz.ntmps96
    go_wp2
    go_end0
    exact ⟨⟨_, rfl⟩, HM.out, ⟨rfl, rfl, rfl, Nat.le_refl _, fun _ _ _ => rfl⟩⟩
  | node g k v l r ihl ihr =>
    intro L w h hm
    have HH := Lib.hid h
    have c0 := h.1.cells
    simp only [cellsAre, Nat.zero_add, Nat.reduceAdd, and_true] at c0
    have HIL := Lib.hid ihl
    have HIR := Lib.hid ihr
    obtain ⟨x, hx⟩ : ∃ x, B g = x := ⟨_, rfl⟩
    have hxl : x ≤ 1000000000 := by rw [← hx]; exact Nat.le_trans (hB g) (by omega)
    rw [hx] at c0
    have HXG := Lib.hid hx
    have HM := Lib.hid hm
    have hlook := hm.look hxl
    rw [MT.ad_node]
    clear h hm ihl ihr hx
    by_cases hin : x ∈ L
    rotate_left
    · rw [decide_eq_false hin] at hlook
      have HE := Lib.hid (show (MT.node g k v l r).unf B L = L by simp only [MT.unf]; rw [HXG.out, if_neg hin])
      go_enter Tryz.func96, Tryz.ntmps96
      go_wp2
      go_end0
      refine ⟨⟨_, rfl⟩, ?_, ⟨rfl, rfl, rfl, Nat.le_refl _, fun _ _ _ => rfl⟩⟩
      rw [HE.out]; exact HM.out
    · rw [decide_eq_true hin] at hlook
      have HE := Lib.hid (show (MT.node g k v l r).unf B L = r.unf B (l.unf B (L.filter fun y => decide (y ≠ x))) by simp only [MT.unf]; rw [HXG.out, if_pos hin])
      obtain ⟨w1, hdel, hm1, hg1⟩ := HM.out.del hxl 0
      have HM1 := Lib.hid hm1
      have HG1 := Lib.hid hg1
      have N1 := Lib.hid (HH.out.grown hg1 HM.out.nocells)
      have c1 := N1.out.1.cells
      simp only [cellsAre, Nat.zero_add, Nat.reduceAdd, and_true] at c1
      rw [HXG.out] at c1
      clear hm1 hg1
      go_enter Tryz.func96, Tryz.ntmps96
      go_wp2_with fail
      refine (HIL.out _ w1 N1.out.2.2.1 HM1.out).mono ?_
      rintro e w2 ⟨⟨z2, rfl⟩, hm2, hg2⟩
      have HM2 := Lib.hid hm2
      have HG2 := Lib.hid (gb_trans HG1.out hg2)
      have N2 := Lib.hid (N1.out.grown hg2 HM1.out.nocells)
      have c2 := N2.out.1.cells
      simp only [cellsAre, Nat.zero_add, Nat.reduceAdd, and_true] at c2
      clear hm2 hg2 c1
      go_wp2_with fail
      refine (HIR.out _ w2 N2.out.2.2.2 HM2.out).mono ?_
      rintro e w3 ⟨⟨z3, rfl⟩, hm3, hg3⟩
      have HZ := Lib.hid (And.intro hm3 (gb_trans HG2.out hg3))
      clear hm3 hg3
      go_wp2
      go_end0
      refine ⟨⟨_, rfl⟩, ?_, HZ.out.2⟩
      rw [HE.out]; exact HZ.out.1
end Go.Proofs.Tb
/- The tables of numbers that the kit's contracts of the library's sorts want, at this program. -/
namespace Go.Proofs.Tb
open Go.Shelf
def sortedI_ren : Go.Shelf.Ren := ⟨fun | 6 => 81 | 8 => 105 | 9 => 106 | 11 => 118 | 13 => 116 | 12 => 119 | 23 => 129 | 24 => 130 | 14 => 132 | 15 => 133 | 16 => 134 | 17 => 135 | 18 => 136 | 19 => 137 | 20 => 138 | 21 => 139 | 22 => 140 | 25 => 146 | 26 => 142 | 27 => 143 | 28 => 147 | 29 => 148 | 30 => 149 | 31 => 151 | n => n, fun | 26 => 3 | 28 => 142 | 24 => 115 | 0 => 0 | 3 => 3 | 37 => 112 | 48 => 186 | 50 => 198 | 4 => 4 | 40 => 190 | 39 => 189 | 45 => 194 | 5 => 5 | 9 => 9 | 51 => 205 | 55 => 209 | 57 => 213 | 58 => 214 | 33 => 172 | n => n, fun | n => n⟩
theorem sortedI_lay : Go.Proofs.SlLaysZI.n6 Tryz.prog sortedI_ren := {
  mixed := by kernel_rfl,
  f6 := ⟨Tryz.f81.name, by decide, Tryz.func81.trans (congrArg some (by kernel_rfl))⟩,
  f8 := ⟨Tryz.f105.name, by decide, Tryz.func105.trans (congrArg some (by kernel_rfl))⟩,
  f11 := ⟨Tryz.f118.name, by decide, Tryz.func118.trans (congrArg some (by kernel_rfl))⟩,
  t0 := Tryz.underlying0,
  a0 := Tryz.isAgg0,
  z0 := Tryz.sizeOf0,
  v0 := Tryz.zeroValue0,
  t24 := Tryz.underlying115,
  a24 := Tryz.isAgg115,
  z24 := Tryz.sizeOf115,
  v24 := Tryz.zeroValue115,
  t26 := Tryz.underlying3,
  a26 := Tryz.isAgg3,
  z26 := Tryz.sizeOf3,
  v26 := Tryz.zeroValue3,
  t28 := Tryz.underlying142,
  a28 := Tryz.isAgg142,
  z28 := Tryz.sizeOf142,
  v28 := Tryz.zeroValue142,
  i26 := by kernel_rfl }
def sortI_ren : Go.Shelf.Ren := ⟨fun | 5 => 106 | 8 => 116 | 7 => 119 | 19 => 129 | 20 => 130 | 10 => 132 | 11 => 133 | 12 => 134 | 13 => 135 | 14 => 136 | 15 => 137 | 16 => 138 | 17 => 139 | 18 => 140 | 30 => 146 | 31 => 142 | 32 => 143 | 33 => 147 | 34 => 148 | 35 => 149 | 40 => 151 | n => n, fun | 23 => 115 | 25 => 3 | 3 => 3 | 32 => 112 | 22 => 115 | 0 => 0 | 44 => 186 | 46 => 198 | 4 => 4 | 36 => 190 | 35 => 189 | 41 => 194 | 5 => 5 | 9 => 9 | 53 => 205 | 57 => 209 | 63 => 213 | 64 => 214 | n => n, fun | n => n⟩
theorem sortI_lay : Go.Proofs.SlLaysM.n5 Tryz.prog sortI_ren := {
  mixed := by kernel_rfl,
  f5 := ⟨Tryz.f106.name, by decide, Tryz.func106.trans (congrArg some (by kernel_rfl))⟩,
  f7 := ⟨Tryz.f119.name, by decide, Tryz.func119.trans (congrArg some (by kernel_rfl))⟩,
  f8 := Tryz.func116.trans (congrArg some (by kernel_rfl)),
  f10 := ⟨Tryz.f132.name, by decide, Tryz.func132.trans (congrArg some (by kernel_rfl))⟩,
  f11 := ⟨Tryz.f133.name, by decide, Tryz.func133.trans (congrArg some (by kernel_rfl))⟩,
  f12 := ⟨Tryz.f134.name, by decide, Tryz.func134.trans (congrArg some (by kernel_rfl))⟩,
  f13 := ⟨Tryz.f135.name, by decide, Tryz.func135.trans (congrArg some (by kernel_rfl))⟩,
  f14 := ⟨Tryz.f136.name, by decide, Tryz.func136.trans (congrArg some (by kernel_rfl))⟩,
  f15 := ⟨Tryz.f137.name, by decide, Tryz.func137.trans (congrArg some (by kernel_rfl))⟩,
  f16 := ⟨Tryz.f138.name, by decide, Tryz.func138.trans (congrArg some (by kernel_rfl))⟩,
  f17 := ⟨Tryz.f139.name, by decide, Tryz.func139.trans (congrArg some (by kernel_rfl))⟩,
  f18 := ⟨Tryz.f140.name, by decide, Tryz.func140.trans (congrArg some (by kernel_rfl))⟩,
  f19 := Tryz.func129.trans (congrArg some (by kernel_rfl)),
  f20 := Tryz.func130.trans (congrArg some (by kernel_rfl)),
  f30 := ⟨Tryz.f146.name, by decide, Tryz.func146.trans (congrArg some (by kernel_rfl))⟩,
  f31 := Tryz.func142.trans (congrArg some (by kernel_rfl)),
  f32 := Tryz.func143.trans (congrArg some (by kernel_rfl)),
  f33 := ⟨Tryz.f147.name, by decide, Tryz.func147.trans (congrArg some (by kernel_rfl))⟩,
  f34 := ⟨Tryz.f148.name, by decide, Tryz.func148.trans (congrArg some (by kernel_rfl))⟩,
  f35 := ⟨Tryz.f149.name, by decide, Tryz.func149.trans (congrArg some (by kernel_rfl))⟩,
  f40 := ⟨Tryz.f151.name, by decide, Tryz.func151.trans (congrArg some (by kernel_rfl))⟩,
  t0 := Tryz.underlying0,
  a0 := Tryz.isAgg0,
  z0 := Tryz.sizeOf0,
  v0 := Tryz.zeroValue0,
  t3 := Tryz.underlying3,
  a3 := Tryz.isAgg3,
  z3 := Tryz.sizeOf3,
  v3 := Tryz.zeroValue3,
  t4 := Tryz.underlying4,
  a4 := Tryz.isAgg4,
  z4 := Tryz.sizeOf4,
  v4 := Tryz.zeroValue4,
  t5 := Tryz.underlying5,
  a5 := Tryz.isAgg5,
  z5 := Tryz.sizeOf5,
  v5 := Tryz.zeroValue5,
  t9 := Tryz.underlying9,
  a9 := Tryz.isAgg9,
  z9 := Tryz.sizeOf9,
  v9 := Tryz.zeroValue9,
  t22 := Tryz.underlying115,
  a22 := Tryz.isAgg115,
  z22 := Tryz.sizeOf115,
  v22 := Tryz.zeroValue115,
  t23 := Tryz.underlying115,
  a23 := Tryz.isAgg115,
  z23 := Tryz.sizeOf115,
  v23 := Tryz.zeroValue115,
  t25 := Tryz.underlying3,
  a25 := Tryz.isAgg3,
  z25 := Tryz.sizeOf3,
  v25 := Tryz.zeroValue3,
  t32 := Tryz.underlying112,
  a32 := Tryz.isAgg112,
  z32 := Tryz.sizeOf112,
  v32 := Tryz.zeroValue112,
  t35 := Tryz.underlying189,
  a35 := Tryz.isAgg189,
  z35 := Tryz.sizeOf189,
  v35 := Tryz.zeroValue189,
  t36 := Tryz.underlying190,
  a36 := Tryz.isAgg190,
  z36 := Tryz.sizeOf190,
  v36 := Tryz.zeroValue190,
  t41 := Tryz.underlying194,
  a41 := Tryz.isAgg194,
  z41 := Tryz.sizeOf194,
  v41 := Tryz.zeroValue194,
  t44 := Tryz.underlying186,
  a44 := Tryz.isAgg186,
  z44 := Tryz.sizeOf186,
  v44 := Tryz.zeroValue186,
  t46 := Tryz.underlying198,
  a46 := Tryz.isAgg198,
  z46 := Tryz.sizeOf198,
  v46 := Tryz.zeroValue198,
  t53 := Tryz.underlying205,
  a53 := Tryz.isAgg205,
  z53 := Tryz.sizeOf205,
  v53 := Tryz.zeroValue205,
  t57 := Tryz.underlying209,
  a57 := Tryz.isAgg209,
  z57 := Tryz.sizeOf209,
  v57 := Tryz.zeroValue209,
  t63 := Tryz.underlying213,
  a63 := Tryz.isAgg213,
  z63 := Tryz.sizeOf213,
  v63 := Tryz.zeroValue213,
  t64 := Tryz.underlying214,
  a64 := Tryz.isAgg214,
  z64 := Tryz.sizeOf214,
  v64 := Tryz.zeroValue214 }
def keysB_ren : Go.Shelf.Ren := ⟨fun | 7 => 97 | 10 => 113 | n => n, fun | 23 => 161 | 26 => 3 | 3 => 4 | 28 => 142 | 0 => 0 | 27 => 141 | 33 => 172 | 4 => 4 | n => n, fun | n => n⟩
theorem keysB_lay : Go.Proofs.SlLaysZI.n7 Tryz.prog keysB_ren := {
  mixed := by kernel_rfl,
  f7 := ⟨Tryz.f97.name, by decide, Tryz.func97.trans (congrArg some (by kernel_rfl))⟩,
  f10 := ⟨Tryz.f113.name, by decide, Tryz.func113.trans (congrArg some (by kernel_rfl))⟩,
  t0 := Tryz.underlying0,
  a0 := Tryz.isAgg0,
  z0 := Tryz.sizeOf0,
  v0 := Tryz.zeroValue0,
  t4 := Tryz.underlying4,
  a4 := Tryz.isAgg4,
  z4 := Tryz.sizeOf4,
  v4 := Tryz.zeroValue4,
  t23 := Tryz.underlying161,
  a23 := Tryz.isAgg161,
  z23 := Tryz.sizeOf161,
  v23 := Tryz.zeroValue161,
  t26 := Tryz.underlying3,
  a26 := Tryz.isAgg3,
  z26 := Tryz.sizeOf3,
  v26 := Tryz.zeroValue3,
  t27 := Tryz.underlying141,
  a27 := Tryz.isAgg141,
  z27 := Tryz.sizeOf141,
  v27 := Tryz.zeroValue141,
  t28 := Tryz.underlying142,
  a28 := Tryz.isAgg142,
  z28 := Tryz.sizeOf142,
  v28 := Tryz.zeroValue142,
  t33 := Tryz.underlying172,
  a33 := Tryz.isAgg172,
  z33 := Tryz.sizeOf172,
  v33 := Tryz.zeroValue172 }
def keysY_ren : Go.Shelf.Ren := ⟨fun | 7 => 82 | 10 => 107 | n => n, fun | 23 => 96 | 26 => 3 | 3 => 95 | 28 => 142 | 0 => 0 | 27 => 141 | 33 => 172 | 4 => 4 | n => n, fun | n => n⟩
theorem keysY_lay : Go.Proofs.SlLaysZI.n7 Tryz.prog keysY_ren := {
  mixed := by kernel_rfl,
  f7 := ⟨Tryz.f82.name, by decide, Tryz.func82.trans (congrArg some (by kernel_rfl))⟩,
  f10 := ⟨Tryz.f107.name, by decide, Tryz.func107.trans (congrArg some (by kernel_rfl))⟩,
  t0 := Tryz.underlying0,
  a0 := Tryz.isAgg0,
  z0 := Tryz.sizeOf0,
  v0 := Tryz.zeroValue0,
  t4 := Tryz.underlying4,
  a4 := Tryz.isAgg4,
  z4 := Tryz.sizeOf4,
  v4 := Tryz.zeroValue4,
  t23 := Tryz.underlying96,
  a23 := Tryz.isAgg96,
  z23 := Tryz.sizeOf96,
  v23 := Tryz.zeroValue96,
  t26 := Tryz.underlying3,
  a26 := Tryz.isAgg3,
  z26 := Tryz.sizeOf3,
  v26 := Tryz.zeroValue3,
  t27 := Tryz.underlying141,
  a27 := Tryz.isAgg141,
  z27 := Tryz.sizeOf141,
  v27 := Tryz.zeroValue141,
  t28 := Tryz.underlying142,
  a28 := Tryz.isAgg142,
  z28 := Tryz.sizeOf142,
  v28 := Tryz.zeroValue142,
  t33 := Tryz.underlying172,
  a33 := Tryz.isAgg172,
  z33 := Tryz.sizeOf172,
  v33 := Tryz.zeroValue172 }
def keysB1_ren : Go.Shelf.Ren := ⟨fun | 10 => 113 | n => n, fun | 33 => 172 | 23 => 161 | 0 => 0 | 4 => 4 | 26 => 3 | 3 => 4 | n => n, fun | n => n⟩
theorem keysB1_lay : Go.Proofs.SlLaysZI.n10 Tryz.prog keysB1_ren := {
  mixed := by kernel_rfl,
  f10 := ⟨Tryz.f113.name, by decide, Tryz.func113.trans (congrArg some (by kernel_rfl))⟩,
  t0 := Tryz.underlying0,
  a0 := Tryz.isAgg0,
  z0 := Tryz.sizeOf0,
  v0 := Tryz.zeroValue0,
  t4 := Tryz.underlying4,
  a4 := Tryz.isAgg4,
  z4 := Tryz.sizeOf4,
  v4 := Tryz.zeroValue4,
  t23 := Tryz.underlying161,
  a23 := Tryz.isAgg161,
  z23 := Tryz.sizeOf161,
  v23 := Tryz.zeroValue161,
  t26 := Tryz.underlying3,
  a26 := Tryz.isAgg3,
  z26 := Tryz.sizeOf3,
  v26 := Tryz.zeroValue3,
  t33 := Tryz.underlying172,
  a33 := Tryz.isAgg172,
  z33 := Tryz.sizeOf172,
  v33 := Tryz.zeroValue172 }
def keysY1_ren : Go.Shelf.Ren := ⟨fun | 10 => 107 | n => n, fun | 33 => 172 | 23 => 96 | 0 => 0 | 4 => 4 | 26 => 3 | 3 => 95 | n => n, fun | n => n⟩
theorem keysY1_lay : Go.Proofs.SlLaysZI.n10 Tryz.prog keysY1_ren := {
  mixed := by kernel_rfl,
  f10 := ⟨Tryz.f107.name, by decide, Tryz.func107.trans (congrArg some (by kernel_rfl))⟩,
  t0 := Tryz.underlying0,
  a0 := Tryz.isAgg0,
  z0 := Tryz.sizeOf0,
  v0 := Tryz.zeroValue0,
  t4 := Tryz.underlying4,
  a4 := Tryz.isAgg4,
  z4 := Tryz.sizeOf4,
  v4 := Tryz.zeroValue4,
  t23 := Tryz.underlying96,
  a23 := Tryz.isAgg96,
  z23 := Tryz.sizeOf96,
  v23 := Tryz.zeroValue96,
  t26 := Tryz.underlying3,
  a26 := Tryz.isAgg3,
  z26 := Tryz.sizeOf3,
  v26 := Tryz.zeroValue3,
  t33 := Tryz.underlying172,
  a33 := Tryz.isAgg172,
  z33 := Tryz.sizeOf172,
  v33 := Tryz.zeroValue172 }
end Go.Proofs.Tb
/- slices.Sorted of maps.Keys at a map of free blocks. -/
namespace Go.Proofs.Tb
open Go.Maps Go.RowKit Go.Sort Go.Shelf
attribute [local go_sem] cell_set_same

theorem entB_keys (L : List Nat) : intKeys (.map (entB L) : DataW Unit) = L.map fun (k : Nat) => (k : Int) := by
  unfold intKeys entB
  simp only
  induction L with
  | nil => rfl
  | cons x L ih =>
    show _ :: _ = _ :: _
    rw [ih]
    rfl
theorem entB_size (L : List Nat) : Maps.size (.map (entB L) : DataW Unit) = L.length := by
  unfold Maps.size entB
  simp
theorem sortsI (m : Nat) : AnyZI.SortsIn Tryz.prog sortedI_ren Fence.wide m :=
  ⟨fun blk off cap ss W hH hblk hsz => callsIn_wide.2 (AnyM.slices_Sort_int sortI_lay blk off cap ss W hH hblk hsz),
   fun p cap W => callsIn_wide.2 (AnyM.slices_Sort_int_none sortI_lay p cap W)⟩
theorem rkeysB_any (b : Nat) (w : World) : Calls Tryz.prog 97 #[.map (some b)] w (Ret (fun v w' => v = .func (.func 113) #[] #[.pointer (some ⟨w.heap.size, 0, none⟩)] ∧ Blk w' w.heap.size TMB #[.map (some b)] ∧ Ext w w') w) := by
  have h : CallsIn Fence.wide 5 Tryz.prog 97 #[.map (some b)] w fun e w' => e = .returned (.func (.func 113) #[] #[.pointer (some ⟨w.heap.size, 0, none⟩)]) ∧ w' = w.alloc (.cells #[.map (some b)] TMB) := AnyZI.keys_in keysB_lay Fence.wide 5 trivial rfl (some b) w
  refine ((callsIn_wide (n := 5)).1 h).mono ?_
  rintro e w' ⟨rfl, rfl⟩
  exact ⟨_, rfl, ⟨rfl, Blk.new_ _ _ rfl, Ext.allocR _ _⟩, Ext.allocR _ _⟩
theorem rise_srt {L : List Nat} (hL : L.Pairwise (· < ·)) {ss : List Int} (hp : ss.Perm (L.map fun (k : Nat) => (k : Int))) : ss.mergeSort (fun x y => decide (x ≤ y)) = L.map fun (k : Nat) => (k : Int) := by
  have h1 : (ss.mergeSort fun x y => decide (x ≤ y)).Pairwise (· ≤ ·) := by
    have := List.pairwise_mergeSort (le := fun (x y : Int) => decide (x ≤ y)) (fun a b c h1 h2 => by simp at *; omega) (fun a b => by simp; omega) ss
    exact this.imp fun h => by simpa using h
  have h2 : (L.map fun (k : Nat) => (k : Int)).Pairwise (· ≤ ·) := by
    rw [List.pairwise_map]
    exact hL.imp fun h => by omega
  exact ((List.mergeSort_perm ss _).trans hp).eq_of_pairwise (fun a b _ _ h1 h2 => Int.le_antisymm h1 h2) h1 h2
set_option maxHeartbeats 1600000 in
set_option maxRecDepth 100000 in
theorem rsortedB_any (Bm b n : Nat) (L : List Nat) (w : World) (hb : Blk w Bm TMB #[.map (some b)]) (hm : MkB w b n L) (hL : L.Pairwise (· < ·)) (hl : L.length ≤ 1000000) :
    Calls Tryz.prog 81 #[.func (.func 113) #[] #[.pointer (some ⟨Bm, 0, none⟩)]] w (Ret (fun v w' => w'.ownsRow w.heap.size TIN 1 v L.length (ri L)) w) := by
  have hc := hb.cells
  simp only [cellsAre, Nat.zero_add, Nat.reduceAdd, and_true] at hc
  have hseq : SeqGives Fence.wide 2 Tryz.prog 113 #[.pointer (some ⟨Bm, 0, none⟩)] encZ (fun ss => ss.Perm (intKeys (.map (entB L) : DataW Unit))) (Maps.size (.map (entB L) : DataW Unit)) w :=
    AnyZI.keys_gives keysB1_lay Fence.wide _ trivial rfl (by omega) Bm b n _ w hb.lt hc hm
  have cS := AnyZI.sorted_in sortedI_lay Fence.wide 5 trivial trivial trivial trivial rfl (by omega) (sortsI _) (enters_of Tryz.func106 (by kernel_rfl) rfl) 113 #[.pointer (some ⟨Bm, 0, none⟩)] trivial (enters_of Tryz.func113 (by kernel_rfl) rfl) _ _ (by rw [entB_size]; unfold maxLen; omega) (by rw [entB_size]; omega) _ hseq
  change CallsIn _ _ Tryz.prog 81 _ _ _ at cS
  refine ((callsIn_wide (n := 5)).1 cS).mono ?_
  rintro e w' ⟨v, ss, rfl, hS, hrow, _, hbw⟩
  rw [entB_keys] at hS
  have hss := rise_srt hL hS
  have hll : ss.length = L.length := by have := hS.length_eq; simpa using this
  rw [hss, hll] at hrow
  refine ⟨v, rfl, ?_, hbw⟩
  have e : (L.map fun (k : Nat) => (k : Int)).map encZ = ri L := by unfold ri; rw [List.map_map]; rfl
  rw [e] at hrow
  exact hrow
end Go.Proofs.Tb

