/- Maps of free blocks; contract of unfree. (With what follows it, in one text.) -/
import Derived.Test.YtfljnfdeboibhaaTsd
import Derived.Maps.OwnSet
import Derived.Shelf.SlLaysM
import Derived.Shelf.SlLaysZI
import Derived.Test.YtfljnfdeboibhaaProg
import Derived.Shelf.SlIterI.Sorted
import Derived.Shelf.SortM.Plain
import Derived.Shelf.SortM.SortNone
set_option linter.unusedVariables false
set_option linter.unusedSimpArgs false
/- Maps of free blocks; contract of unfree. -/
namespace Go.Proofs.Tb
open Go.Maps Go.RowKit
attribute [local go_sem] cell_set_same

abbrev TMB : TypeId := 141
abbrev TBO : TypeId := 4
theorem lawI : Keyed Try.prog TIN := int_keyed Try.underlying3
theorem zeroB (w : World) : (zeroValue TBO).run Try.prog w = .ok (.bool false) w := by kernel_rfl
def entB (L : List Nat) : List (Lit × DataW Unit) := L.map fun (k : Nat) => (.int .i64 (k : Int), .lit (.bool true))
/-- A map that holds these keys, each with 'true'. -/
def MkB (w : World) (b n : Nat) (L : List Nat) : Prop := w.ownsMap Try.prog TIN (plainElem (H := Unit) Try.prog TBO) b n (.map (entB L))
theorem keyI (k : Nat) (hk : k ≤ 1000000000) : keyOf Try.prog TIN (.int .i64 (k : Int)) = some (.int .i64 (k : Int)) := keyOf_int_mk Try.underlying3 (by
  simp only [Lit.wf, IntKind.min, IntKind.max, IntKind.bits, IntKind.signed]
  simp
  omega)
theorem entB_find (k : Nat) : ∀ L : List Nat, (entB L).find? (fun p => p.1.sameKey (.int .i64 (k : Int))) = if k ∈ L then some (.int .i64 (k : Int), .lit (.bool true)) else none
  | [] => rfl
  | x :: L => by
    have ih := entB_find k L
    show List.find? _ ((Lit.int IntKind.i64 (x : Int), DataW.lit (.bool true)) :: entB L) = _
    rw [List.find?_cons]
    by_cases h : x = k
    · subst h; simp [Lit.sameKey]
    · have h1 : (Lit.int IntKind.i64 (x : Int)).sameKey (.int .i64 (k : Int)) = false := by
        simp [Lit.sameKey]; omega
      simp only [h1]
      rw [ih]
      have : (k ∈ x :: L) ↔ k ∈ L := by
        rw [List.mem_cons]
        exact ⟨fun hh => hh.resolve_left (Ne.symm h), Or.inr⟩
      simp only [this]
theorem entB_at (k : Nat) (L : List Nat) : (DataW.map (entB L)).atKey (.int .i64 (k : Int)) (.lit (.bool false)) = (.lit (.bool (decide (k ∈ L))) : DataW Unit) := by
  unfold DataW.atKey
  simp only
  rw [entB_find]
  by_cases h : k ∈ L
  · rw [if_pos h]; simp [h]
  · rw [if_neg h]; simp [h]
set_option maxRecDepth 100000 in
theorem MkB.look {w : World} {b n : Nat} {L : List Nat} (h : MkB w b n L) {k : Nat} (hk : k ≤ 1000000000) : (Instr.lookup TMB (.map (some b)) (.int .i64 (k : Int)) false).run Try.prog w = .ok (.bool (decide (k ∈ L))) w := by
  obtain ⟨v, ps, hrun, hR⟩ := World.ownsMap.lookup (H := Unit) h lawI Try.underlying141 (zeroB w) (plainElem_bool Try.underlying4 false) (keyI k hk)
  rw [entB_at] at hR
  have hv : v = .bool (decide (k ∈ L)) := by
    unfold plainElem at hR
    rw [Try.underlying4] at hR
    split at hR
    · simp at hR
      rw [hR.1]
    · exact absurd ‹some TypeDesc.bool = some (TypeDesc.int _)› (by simp)
    · exact absurd ‹some TypeDesc.bool = some TypeDesc.string› (by simp)
    · cases hR
  rw [hrun, hv]
set_option maxRecDepth 100000 in
theorem MkB.del {w : World} {b n : Nat} {L : List Nat} (h : MkB w b n L) {k : Nat} (hk : k ≤ 1000000000) (ty : TypeId) : ∃ w', (Builtin.delete_ #[TMB, TIN] ty #[.map (some b), .int .i64 (k : Int)]).run Try.prog w = .ok (.tuple #[]) w' ∧ MkB w' b n (L.filter fun x => decide (x ≠ k)) ∧ w.grownBy w' (some b) := by
  obtain ⟨w', hrun, h2, h3⟩ := World.ownsMap.drop (H := Unit) h lawI Try.underlying141 (keyI k hk) ty
  refine ⟨w', hrun, ?_, h3.grown⟩
  have e : (DataW.map (entB L)).del (.int .i64 (k : Int)) = (.map (entB (L.filter fun x => decide (x ≠ k))) : DataW Unit) := by
    unfold DataW.del entB
    simp only [DataW.map.injEq]
    rw [List.filter_map]
    congr 1
    apply List.filter_congr
    intro x _
    simp [Lit.sameKey]
    exact ⟨fun h => by omega, fun h => by omega⟩
  rw [e] at h2
  exact h2
theorem gb_trans {w w' w'' : World} {r : Option Nat} (h : w.grownBy w' r) (h' : w'.grownBy w'' r) : w.grownBy w'' r :=
  ⟨h'.os.trans h.os, h'.tape.trans h.tape, h'.output.trans h.output, Nat.le_trans h.size h'.size, fun b hb hr => (h'.block b (Nat.lt_of_lt_of_le hb h.size) hr).trans (h.block b hb hr)⟩
/-- What stands free behind a tree. -/
def MT.unf (B : Nat → Nat) : MT → List Nat → List Nat
  | .nil, L => L
  | .node g _ _ l r, L => if B g ∈ L then r.unf B (l.unf B (L.filter fun x => decide (x ≠ B g))) else L
theorem TrW.grown {w w' : World} {B : Nat → Nat} {Q : Nat → Prop} {b : Nat} (hg : w.grownBy w' (some b)) (hb : ∀ cs T fr, w.heap[b]? ≠ some (.cells cs T fr)) : ∀ {t : MT}, TrW w B Q t → TrW w' B Q t
  | .nil, _ => trivial
  | .node g _ _ _ _, ⟨h1, h2, h3, h4⟩ => ⟨(hg.block g h1.lt (fun e => by
      injection e with e
      subst e
      exact hb _ _ _ h1)).trans h1, h2, h3.grown hg hb, h4.grown hg hb⟩
theorem MkB.nocells {w : World} {b n : Nat} {L : List Nat} (h : MkB w b n L) : ∀ cs T fr, w.heap[b]? ≠ some (.cells cs T fr) := fun cs T fr e => by
  obtain ⟨es, clock, hb, _⟩ := h
  rw [hb] at e
  cases e
set_option maxHeartbeats 6400000 in
set_option maxRecDepth 100000 in
theorem runfree_any (B : Nat → Nat) (Q : Nat → Prop) (hB : ∀ g, B g ≤ 1000000) (b n : Nat) : ∀ (t : MT) (L : List Nat) (w : World), TrW w B Q t → MkB w b n L →
    Calls Try.prog 82 #[.pointer t.ad, .map (some b)] w fun e w' => (∃ z, e = .returned z) ∧ MkB w' b n (t.unf B L) ∧ w.grownBy w' (some b) := by
  intro t
  induction t with
  | nil =>
    intro L w h hm
    have HM := Lib.hid hm
    clear h hm
    show Calls Try.prog 82 #[.pointer none, .map (some b)] w _
    go_enter Try.func82, Try.ntmps82
    go_wp2
    go_end0
    exact ⟨⟨_, rfl⟩, HM.out, ⟨rfl, rfl, rfl, Nat.le_refl _, fun _ _ _ => rfl⟩⟩
  | node g k v l r ihl ihr =>
    intro L w h hm
    have HH := Lib.hid h
    have c0 := h.1.cells
    simp only [cellsAre, Nat.zero_add, Nat.reduceAdd, and_true] at c0
    have HIL := Lib.hid ihl
    have HIR := Lib.hid ihr
    obtain ⟨x, hx⟩ : ∃ x, B g = x := ⟨_, rfl⟩
    have hxl : x ≤ 1000000000 := by rw [← hx]; exact Nat.le_trans (hB g) (by omega)
    rw [hx] at c0
    have HXG := Lib.hid hx
    have HM := Lib.hid hm
    have hlook := hm.look hxl
    rw [MT.ad_node]
    clear h hm ihl ihr hx
    by_cases hin : x ∈ L
    rotate_left
    · rw [decide_eq_false hin] at hlook
      have HE := Lib.hid (show (MT.node g k v l r).unf B L = L by simp only [MT.unf]; rw [HXG.out, if_neg hin])
      go_enter Try.func82, Try.ntmps82
      go_wp2
      go_end0
      refine ⟨⟨_, rfl⟩, ?_, ⟨rfl, rfl, rfl, Nat.le_refl _, fun _ _ _ => rfl⟩⟩
      rw [HE.out]; exact HM.out
    · rw [decide_eq_true hin] at hlook
      have HE := Lib.hid (show (MT.node g k v l r).unf B L = r.unf B (l.unf B (L.filter fun y => decide (y ≠ x))) by simp only [MT.unf]; rw [HXG.out, if_pos hin])
      obtain ⟨w1, hdel, hm1, hg1⟩ := HM.out.del hxl 0
      have HM1 := Lib.hid hm1
      have HG1 := Lib.hid hg1
      have N1 := Lib.hid (HH.out.grown hg1 HM.out.nocells)
      have c1 := N1.out.1.cells
      simp only [cellsAre, Nat.zero_add, Nat.reduceAdd, and_true] at c1
      rw [HXG.out] at c1
      clear hm1 hg1
      go_enter Try.func82, Try.ntmps82
      go_wp2_with fail
      refine (HIL.out _ w1 N1.out.2.2.1 HM1.out).mono ?_
      rintro e w2 ⟨⟨z2, rfl⟩, hm2, hg2⟩
      have HM2 := Lib.hid hm2
      have HG2 := Lib.hid (gb_trans HG1.out hg2)
      have N2 := Lib.hid (N1.out.grown hg2 HM1.out.nocells)
      have c2 := N2.out.1.cells
      simp only [cellsAre, Nat.zero_add, Nat.reduceAdd, and_true] at c2
      clear hm2 hg2 c1
      go_wp2_with fail
      refine (HIR.out _ w2 N2.out.2.2.2 HM2.out).mono ?_
      rintro e w3 ⟨⟨z3, rfl⟩, hm3, hg3⟩
      have HZ := Lib.hid (And.intro hm3 (gb_trans HG2.out hg3))
      clear hm3 hg3
      go_wp2
      go_end0
      refine ⟨⟨_, rfl⟩, ?_, HZ.out.2⟩
      rw [HE.out]; exact HZ.out.1
end Go.Proofs.Tb
/- The tables of numbers that the kit's contracts of the library's sorts want, at this program. -/
namespace Go.Proofs.Tb
open Go.Shelf
def sortedI_ren : Go.Shelf.Ren := ⟨fun | 6 => 73 | 8 => 95 | 9 => 96 | 11 => 105 | 13 => 107 | 12 => 106 | 23 => 118 | 24 => 119 | 14 => 109 | 15 => 110 | 16 => 111 | 17 => 112 | 18 => 113 | 19 => 114 | 20 => 115 | 21 => 116 | 22 => 117 | 25 => 120 | 26 => 121 | 27 => 122 | 28 => 123 | 29 => 124 | 30 => 125 | 31 => 126 | n => n, fun | 26 => 3 | 28 => 133 | 24 => 109 | 0 => 0 | 3 => 3 | 37 => 170 | 48 => 177 | 50 => 190 | 4 => 4 | 40 => 181 | 39 => 180 | 45 => 186 | 5 => 5 | 9 => 9 | 51 => 191 | 55 => 195 | 57 => 197 | 58 => 198 | 33 => 162 | n => n, fun | n => n⟩
theorem sortedI_lay : Go.Proofs.SlLaysZI.n6 Try.prog sortedI_ren := {
  mixed := by kernel_rfl,
  f6 := ⟨Try.f73.name, by decide, Try.func73.trans (congrArg some (by kernel_rfl))⟩,
  f8 := ⟨Try.f95.name, by decide, Try.func95.trans (congrArg some (by kernel_rfl))⟩,
  f11 := ⟨Try.f105.name, by decide, Try.func105.trans (congrArg some (by kernel_rfl))⟩,
  t0 := Try.underlying0,
  a0 := Try.isAgg0,
  z0 := Try.sizeOf0,
  v0 := Try.zeroValue0,
  t24 := Try.underlying109,
  a24 := Try.isAgg109,
  z24 := Try.sizeOf109,
  v24 := Try.zeroValue109,
  t26 := Try.underlying3,
  a26 := Try.isAgg3,
  z26 := Try.sizeOf3,
  v26 := Try.zeroValue3,
  t28 := Try.underlying133,
  a28 := Try.isAgg133,
  z28 := Try.sizeOf133,
  v28 := Try.zeroValue133,
  i26 := by kernel_rfl }
def sortI_ren : Go.Shelf.Ren := ⟨fun | 5 => 96 | 8 => 107 | 7 => 106 | 19 => 118 | 20 => 119 | 10 => 109 | 11 => 110 | 12 => 111 | 13 => 112 | 14 => 113 | 15 => 114 | 16 => 115 | 17 => 116 | 18 => 117 | 30 => 120 | 31 => 121 | 32 => 122 | 33 => 123 | 34 => 124 | 35 => 125 | 40 => 126 | n => n, fun | 23 => 109 | 25 => 3 | 3 => 3 | 32 => 170 | 22 => 109 | 0 => 0 | 44 => 177 | 46 => 190 | 4 => 4 | 36 => 181 | 35 => 180 | 41 => 186 | 5 => 5 | 9 => 9 | 53 => 191 | 57 => 195 | 63 => 197 | 64 => 198 | n => n, fun | n => n⟩
theorem sortI_lay : Go.Proofs.SlLaysM.n5 Try.prog sortI_ren := {
  mixed := by kernel_rfl,
  f5 := ⟨Try.f96.name, by decide, Try.func96.trans (congrArg some (by kernel_rfl))⟩,
  f7 := ⟨Try.f106.name, by decide, Try.func106.trans (congrArg some (by kernel_rfl))⟩,
  f8 := Try.func107.trans (congrArg some (by kernel_rfl)),
  f10 := ⟨Try.f109.name, by decide, Try.func109.trans (congrArg some (by kernel_rfl))⟩,
  f11 := ⟨Try.f110.name, by decide, Try.func110.trans (congrArg some (by kernel_rfl))⟩,
  f12 := ⟨Try.f111.name, by decide, Try.func111.trans (congrArg some (by kernel_rfl))⟩,
  f13 := ⟨Try.f112.name, by decide, Try.func112.trans (congrArg some (by kernel_rfl))⟩,
  f14 := ⟨Try.f113.name, by decide, Try.func113.trans (congrArg some (by kernel_rfl))⟩,
  f15 := ⟨Try.f114.name, by decide, Try.func114.trans (congrArg some (by kernel_rfl))⟩,
  f16 := ⟨Try.f115.name, by decide, Try.func115.trans (congrArg some (by kernel_rfl))⟩,
  f17 := ⟨Try.f116.name, by decide, Try.func116.trans (congrArg some (by kernel_rfl))⟩,
  f18 := ⟨Try.f117.name, by decide, Try.func117.trans (congrArg some (by kernel_rfl))⟩,
  f19 := Try.func118.trans (congrArg some (by kernel_rfl)),
  f20 := Try.func119.trans (congrArg some (by kernel_rfl)),
  f30 := ⟨Try.f120.name, by decide, Try.func120.trans (congrArg some (by kernel_rfl))⟩,
  f31 := Try.func121.trans (congrArg some (by kernel_rfl)),
  f32 := Try.func122.trans (congrArg some (by kernel_rfl)),
  f33 := ⟨Try.f123.name, by decide, Try.func123.trans (congrArg some (by kernel_rfl))⟩,
  f34 := ⟨Try.f124.name, by decide, Try.func124.trans (congrArg some (by kernel_rfl))⟩,
  f35 := ⟨Try.f125.name, by decide, Try.func125.trans (congrArg some (by kernel_rfl))⟩,
  f40 := ⟨Try.f126.name, by decide, Try.func126.trans (congrArg some (by kernel_rfl))⟩,
  t0 := Try.underlying0,
  a0 := Try.isAgg0,
  z0 := Try.sizeOf0,
  v0 := Try.zeroValue0,
  t3 := Try.underlying3,
  a3 := Try.isAgg3,
  z3 := Try.sizeOf3,
  v3 := Try.zeroValue3,
  t4 := Try.underlying4,
  a4 := Try.isAgg4,
  z4 := Try.sizeOf4,
  v4 := Try.zeroValue4,
  t5 := Try.underlying5,
  a5 := Try.isAgg5,
  z5 := Try.sizeOf5,
  v5 := Try.zeroValue5,
  t9 := Try.underlying9,
  a9 := Try.isAgg9,
  z9 := Try.sizeOf9,
  v9 := Try.zeroValue9,
  t22 := Try.underlying109,
  a22 := Try.isAgg109,
  z22 := Try.sizeOf109,
  v22 := Try.zeroValue109,
  t23 := Try.underlying109,
  a23 := Try.isAgg109,
  z23 := Try.sizeOf109,
  v23 := Try.zeroValue109,
  t25 := Try.underlying3,
  a25 := Try.isAgg3,
  z25 := Try.sizeOf3,
  v25 := Try.zeroValue3,
  t32 := Try.underlying170,
  a32 := Try.isAgg170,
  z32 := Try.sizeOf170,
  v32 := Try.zeroValue170,
  t35 := Try.underlying180,
  a35 := Try.isAgg180,
  z35 := Try.sizeOf180,
  v35 := Try.zeroValue180,
  t36 := Try.underlying181,
  a36 := Try.isAgg181,
  z36 := Try.sizeOf181,
  v36 := Try.zeroValue181,
  t41 := Try.underlying186,
  a41 := Try.isAgg186,
  z41 := Try.sizeOf186,
  v41 := Try.zeroValue186,
  t44 := Try.underlying177,
  a44 := Try.isAgg177,
  z44 := Try.sizeOf177,
  v44 := Try.zeroValue177,
  t46 := Try.underlying190,
  a46 := Try.isAgg190,
  z46 := Try.sizeOf190,
  v46 := Try.zeroValue190,
  t53 := Try.underlying191,
  a53 := Try.isAgg191,
  z53 := Try.sizeOf191,
  v53 := Try.zeroValue191,
  t57 := Try.underlying195,
  a57 := Try.isAgg195,
  z57 := Try.sizeOf195,
  v57 := Try.zeroValue195,
  t63 := Try.underlying197,
  a63 := Try.isAgg197,
  z63 := Try.sizeOf197,
  v63 := Try.zeroValue197,
  t64 := Try.underlying198,
  a64 := Try.isAgg198,
  z64 := Try.sizeOf198,
  v64 := Try.zeroValue198 }
def keysB_ren : Go.Shelf.Ren := ⟨fun | 7 => 83 | 10 => 98 | n => n, fun | 23 => 141 | 26 => 3 | 3 => 4 | 28 => 133 | 0 => 0 | 27 => 132 | 33 => 162 | 4 => 4 | n => n, fun | n => n⟩
theorem keysB_lay : Go.Proofs.SlLaysZI.n7 Try.prog keysB_ren := {
  mixed := by kernel_rfl,
  f7 := ⟨Try.f83.name, by decide, Try.func83.trans (congrArg some (by kernel_rfl))⟩,
  f10 := ⟨Try.f98.name, by decide, Try.func98.trans (congrArg some (by kernel_rfl))⟩,
  t0 := Try.underlying0,
  a0 := Try.isAgg0,
  z0 := Try.sizeOf0,
  v0 := Try.zeroValue0,
  t4 := Try.underlying4,
  a4 := Try.isAgg4,
  z4 := Try.sizeOf4,
  v4 := Try.zeroValue4,
  t23 := Try.underlying141,
  a23 := Try.isAgg141,
  z23 := Try.sizeOf141,
  v23 := Try.zeroValue141,
  t26 := Try.underlying3,
  a26 := Try.isAgg3,
  z26 := Try.sizeOf3,
  v26 := Try.zeroValue3,
  t27 := Try.underlying132,
  a27 := Try.isAgg132,
  z27 := Try.sizeOf132,
  v27 := Try.zeroValue132,
  t28 := Try.underlying133,
  a28 := Try.isAgg133,
  z28 := Try.sizeOf133,
  v28 := Try.zeroValue133,
  t33 := Try.underlying162,
  a33 := Try.isAgg162,
  z33 := Try.sizeOf162,
  v33 := Try.zeroValue162 }
def keysY_ren : Go.Shelf.Ren := ⟨fun | 7 => 74 | 10 => 97 | n => n, fun | 23 => 67 | 26 => 3 | 3 => 66 | 28 => 133 | 0 => 0 | 27 => 132 | 33 => 162 | 4 => 4 | n => n, fun | n => n⟩
theorem keysY_lay : Go.Proofs.SlLaysZI.n7 Try.prog keysY_ren := {
  mixed := by kernel_rfl,
  f7 := ⟨Try.f74.name, by decide, Try.func74.trans (congrArg some (by kernel_rfl))⟩,
  f10 := ⟨Try.f97.name, by decide, Try.func97.trans (congrArg some (by kernel_rfl))⟩,
  t0 := Try.underlying0,
  a0 := Try.isAgg0,
  z0 := Try.sizeOf0,
  v0 := Try.zeroValue0,
  t4 := Try.underlying4,
  a4 := Try.isAgg4,
  z4 := Try.sizeOf4,
  v4 := Try.zeroValue4,
  t23 := Try.underlying67,
  a23 := Try.isAgg67,
  z23 := Try.sizeOf67,
  v23 := Try.zeroValue67,
  t26 := Try.underlying3,
  a26 := Try.isAgg3,
  z26 := Try.sizeOf3,
  v26 := Try.zeroValue3,
  t27 := Try.underlying132,
  a27 := Try.isAgg132,
  z27 := Try.sizeOf132,
  v27 := Try.zeroValue132,
  t28 := Try.underlying133,
  a28 := Try.isAgg133,
  z28 := Try.sizeOf133,
  v28 := Try.zeroValue133,
  t33 := Try.underlying162,
  a33 := Try.isAgg162,
  z33 := Try.sizeOf162,
  v33 := Try.zeroValue162 }
def keysB1_ren : Go.Shelf.Ren := ⟨fun | 10 => 98 | n => n, fun | 33 => 162 | 23 => 141 | 0 => 0 | 4 => 4 | 26 => 3 | 3 => 4 | n => n, fun | n => n⟩
theorem keysB1_lay : Go.Proofs.SlLaysZI.n10 Try.prog keysB1_ren := {
  mixed := by kernel_rfl,
  f10 := ⟨Try.f98.name, by decide, Try.func98.trans (congrArg some (by kernel_rfl))⟩,
  t0 := Try.underlying0,
  a0 := Try.isAgg0,
  z0 := Try.sizeOf0,
  v0 := Try.zeroValue0,
  t4 := Try.underlying4,
  a4 := Try.isAgg4,
  z4 := Try.sizeOf4,
  v4 := Try.zeroValue4,
  t23 := Try.underlying141,
  a23 := Try.isAgg141,
  z23 := Try.sizeOf141,
  v23 := Try.zeroValue141,
  t26 := Try.underlying3,
  a26 := Try.isAgg3,
  z26 := Try.sizeOf3,
  v26 := Try.zeroValue3,
  t33 := Try.underlying162,
  a33 := Try.isAgg162,
  z33 := Try.sizeOf162,
  v33 := Try.zeroValue162 }
def keysY1_ren : Go.Shelf.Ren := ⟨fun | 10 => 97 | n => n, fun | 33 => 162 | 23 => 67 | 0 => 0 | 4 => 4 | 26 => 3 | 3 => 66 | n => n, fun | n => n⟩
theorem keysY1_lay : Go.Proofs.SlLaysZI.n10 Try.prog keysY1_ren := {
  mixed := by kernel_rfl,
  f10 := ⟨Try.f97.name, by decide, Try.func97.trans (congrArg some (by kernel_rfl))⟩,
  t0 := Try.underlying0,
  a0 := Try.isAgg0,
  z0 := Try.sizeOf0,
  v0 := Try.zeroValue0,
  t4 := Try.underlying4,
  a4 := Try.isAgg4,
  z4 := Try.sizeOf4,
  v4 := Try.zeroValue4,
  t23 := Try.underlying67,
  a23 := Try.isAgg67,
  z23 := Try.sizeOf67,
  v23 := Try.zeroValue67,
  t26 := Try.underlying3,
  a26 := Try.isAgg3,
  z26 := Try.sizeOf3,
  v26 := Try.zeroValue3,
  t33 := Try.underlying162,
  a33 := Try.isAgg162,
  z33 := Try.sizeOf162,
  v33 := Try.zeroValue162 }
end Go.Proofs.Tb
/- slices.Sorted of maps.Keys at a map of free blocks. -/
namespace Go.Proofs.Tb
open Go.Maps Go.RowKit Go.Sort Go.Shelf
attribute [local go_sem] cell_set_same

theorem entB_keys (L : List Nat) : intKeys (.map (entB L) : DataW Unit) = L.map fun (k : Nat) => (k : Int) := by
  unfold intKeys entB
  simp only
  induction L with
  | nil => rfl
  | cons x L ih =>
    show _ :: _ = _ :: _
    rw [ih]
    rfl
theorem entB_size (L : List Nat) : Maps.size (.map (entB L) : DataW Unit) = L.length := by
  unfold Maps.size entB
  simp
theorem sortsI (m : Nat) : AnyZI.SortsIn Try.prog sortedI_ren Fence.wide m :=
  ⟨fun blk off cap ss W hH hblk hsz => callsIn_wide.2 (AnyM.slices_Sort_int sortI_lay blk off cap ss W hH hblk hsz),
   fun p cap W => callsIn_wide.2 (AnyM.slices_Sort_int_none sortI_lay p cap W)⟩
theorem rkeysB_any (b : Nat) (w : World) : Calls Try.prog 83 #[.map (some b)] w (Ret (fun v w' => v = .func (.func 98) #[] #[.pointer (some ⟨w.heap.size, 0, none⟩)] ∧ Blk w' w.heap.size TMB #[.map (some b)] ∧ Ext w w') w) := by
  have h : CallsIn Fence.wide 5 Try.prog 83 #[.map (some b)] w fun e w' => e = .returned (.func (.func 98) #[] #[.pointer (some ⟨w.heap.size, 0, none⟩)]) ∧ w' = w.alloc (.cells #[.map (some b)] TMB) := AnyZI.keys_in keysB_lay Fence.wide 5 trivial rfl (some b) w
  refine ((callsIn_wide (n := 5)).1 h).mono ?_
  rintro e w' ⟨rfl, rfl⟩
  exact ⟨_, rfl, ⟨rfl, Blk.new_ _ _ rfl, Ext.allocR _ _⟩, Ext.allocR _ _⟩
theorem rise_srt {L : List Nat} (hL : L.Pairwise (· < ·)) {ss : List Int} (hp : ss.Perm (L.map fun (k : Nat) => (k : Int))) : ss.mergeSort (fun x y => decide (x ≤ y)) = L.map fun (k : Nat) => (k : Int) := by
  have h1 : (ss.mergeSort fun x y => decide (x ≤ y)).Pairwise (· ≤ ·) := by
    have := List.pairwise_mergeSort (le := fun (x y : Int) => decide (x ≤ y)) (fun a b c h1 h2 => by simp at *; omega) (fun a b => by simp; omega) ss
    exact this.imp fun h => by simpa using h
  have h2 : (L.map fun (k : Nat) => (k : Int)).Pairwise (· ≤ ·) := by
    rw [List.pairwise_map]
    exact hL.imp fun h => by omega
  exact ((List.mergeSort_perm ss _).trans hp).eq_of_pairwise (fun a b _ _ h1 h2 => Int.le_antisymm h1 h2) h1 h2
set_option maxHeartbeats 1600000 in
set_option maxRecDepth 100000 in
theorem rsortedB_any (Bm b n : Nat) (L : List Nat) (w : World) (hb : Blk w Bm TMB #[.map (some b)]) (hm : MkB w b n L) (hL : L.Pairwise (· < ·)) (hl : L.length ≤ 1000000) :
    Calls Try.prog 73 #[.func (.func 98) #[] #[.pointer (some ⟨Bm, 0, none⟩)]] w (Ret (fun v w' => w'.ownsRow w.heap.size TIN 1 v L.length (ri L)) w) := by
  have hc := hb.cells
  simp only [cellsAre, Nat.zero_add, Nat.reduceAdd, and_true] at hc
  have hseq : SeqGives Fence.wide 2 Try.prog 98 #[.pointer (some ⟨Bm, 0, none⟩)] encZ (fun ss => ss.Perm (intKeys (.map (entB L) : DataW Unit))) (Maps.size (.map (entB L) : DataW Unit)) w :=
    AnyZI.keys_gives keysB1_lay Fence.wide _ trivial rfl (by omega) Bm b n _ w hb.lt hc hm
  have cS := AnyZI.sorted_in sortedI_lay Fence.wide 5 trivial trivial trivial trivial rfl (by omega) (sortsI _) (enters_of Try.func96 (by kernel_rfl) rfl) 98 #[.pointer (some ⟨Bm, 0, none⟩)] trivial (enters_of Try.func98 (by kernel_rfl) rfl) _ _ (by rw [entB_size]; unfold maxLen; omega) (by rw [entB_size]; omega) _ hseq
  change CallsIn _ _ Try.prog 73 _ _ _ at cS
  refine ((callsIn_wide (n := 5)).1 cS).mono ?_
  rintro e w' ⟨v, ss, rfl, hS, hrow, _, hbw⟩
  rw [entB_keys] at hS
  have hss := rise_srt hL hS
  have hll : ss.length = L.length := by have := hS.length_eq; simpa using this
  rw [hss, hll] at hrow
  refine ⟨v, rfl, ?_, hbw⟩
  have e : (L.map fun (k : Nat) => (k : Int)).map encZ = ri L := by unfold ri; rw [List.map_map]; rfl
  rw [e] at hrow
  exact hrow
end Go.Proofs.Tb

