/- Whatever act the disk goes down in while it is made, and whatever remains, Open makes a store of it that answers as a new one (StoreMade). No condition. -/
import Derived.Test.YtfljnfdeboibhaaSxb
import Derived.Test.YtfljnfdeboibhaaRoz
import Derived.ChangeSlices
set_option linter.unusedVariables false
set_option linter.unusedSimpArgs false
namespace Go.Proofs.Tb
open Go.ChangeShapes Go.WideShapes Go.ChangeAt Go.RowKit Go.Deep
set_option maxRecDepth 100000 in
theorem open_byv {H : Type} {enc : TypeId × Value → H} {W : World} {b0 base : Nat} {r : Reach} {spare : Nat → Bool} {held : Bool} {v : Value} {d : DataW H} {p : List MemPlace}
    (hv : Value.okWide Try.prog W r b0 TBY v) (h : DataW.Trod enc Try.prog W base spare held TBY v d p) : ∃ (A : Option Addr) (n c : Nat), v = .slice A n c ∧ ByX W A n c := by
  obtain ⟨A, n, c, rfl⟩ := okWide_slice Try.underlying44 hv
  obtain ⟨fuel, hf⟩ := h
  rcases open_ints Try.underlying44 Try.underlying5 (by kernel_rfl) hf with ⟨h0, _⟩ | ⟨a, len, cap, zs, hcs, _, hl, hm, hz, _, hc, hw⟩
  · simp [Value.cells] at h0
    obtain ⟨rfl, rfl, rfl⟩ := h0
    exact ⟨none, 0, 0, rfl, ⟨[], Rv.nil _ _, fun b hb => absurd hb (by simp)⟩⟩
  · simp [Value.cells] at hcs
    obtain ⟨rfl, rfl, rfl⟩ := hcs
    have hzn : n ≤ zs.length := by rw [hz]; split <;> omega
    have hrg : ∀ z ∈ zs, 0 ≤ z ∧ z ≤ 255 := fun z hzm => by
      have := hw z hzm
      unfold Lit.wf at this
      simp only [Bool.and_eq_true, decide_eq_true_eq] at this
      obtain ⟨h1, h2⟩ := this
      have e1 : IntKind.u8.min = 0 := by decide
      have e2 : IntKind.u8.max = 255 := by decide
      rw [e1] at h1
      rw [e2] at h2
      exact ⟨h1, h2⟩
    refine ⟨some a, n, c, rfl, ⟨(zs.take n).map Int.toNat, ⟨by rw [bc_len, List.length_map, List.length_take]; omega, hl, by simpa [maxLen] using hm, fun h0 => ?_⟩, fun b hb => ?_⟩⟩
    · obtain ⟨bb, off, spot⟩ := a
      have hs0 := hc 0 (by omega)
      have hspot : spot = none := by simpa [Addr.add] using World.cell?_spot hs0
      subst hspot
      refine ⟨bb, off, rfl, fun j u hu => ?_⟩
      have hj : j < n := by
        have := (List.getElem?_eq_some_iff.1 hu).1
        rw [bc_len, List.length_map, List.length_take] at this
        omega
      have h1 := hc j (by omega)
      have hadd : (⟨bb, off, none⟩ : Addr).add j = ⟨bb, off + j, none⟩ := by simp only [Addr.add]; split <;> simp_all
      rw [hadd] at h1
      rw [h1]
      have hjz : j < zs.length := by omega
      unfold bc at hu
      rw [List.getElem?_map, List.getElem?_map, List.getElem?_take, if_pos hj, List.getElem?_eq_getElem hjz] at hu
      injection hu with hu
      rw [← hu, List.getD_eq_getElem?_getD, List.getElem?_eq_getElem hjz]
      have := (hrg _ (List.getElem_mem hjz)).1
      show some (Value.int IntKind.u8 zs[j]) = some (Value.int IntKind.u8 ((zs[j].toNat : Nat) : Int))
      rw [Int.toNat_of_nonneg this]
    · obtain ⟨z, hzm, rfl⟩ := List.mem_map.1 hb
      have := hrg z (List.mem_of_mem_take hzm)
      omega
end Go.Proofs.Tb
namespace Go.Proofs.Ytfljnfdeboibhaa
open Go.ChangeShapes Go.WideShapes Go.ChangeAt Go.RowKit Go.Proofs.Tb

set_option maxRecDepth 100000 in
theorem made_lifted (os : Os) (started : os.Started) (H : Type) (enc : TypeId × Value → H) :
    ReturnsInHanded {} Try.checked os 9 .any (Rows.storeMadeSpec.pre6 enc Try.prog Try.f9 Rows.storeMadeRow.domain false) (Rows.storeMadeSpec.post enc Try.prog Try.f9 false true false false) := by
  refine returnsInHanded_of_change (C := Try.checked) ownk started (by kernel_rfl) Try.func9
    (ChangeSpec.witness6 (enc := enc) (C := Try.checked) false ⟨#[], #[.int .i64 0, .slice none 0 0, .slice none 0 0], []⟩ 8 (by kernel_rfl) (by kernel_rfl) (by kernel_rfl) (by kernel_rfl)) ?_
  intro W base args ds gs before hval0 hW _ _
  have hval : ∀ (j : Nat) t v, Try.f9.params[j]? = some t → args[j]? = some v → Value.okWide Try.prog W .any base t v := hval0
  have hW' := hW
  obtain ⟨p, q, hA0, hV, rfl, _, _⟩ := hW
  have hA : DataW.TrodAll enc Try.prog W 0 (fun _ => true) true Try.f9.params.toList args.toList ds p := hA0
  rw [Try.params9] at hA hval
  obtain ⟨v0, v1, v2, d0, d1, d2, p0, p1, p2, rfl, rfl, rfl, h0, h1, h2⟩ := trodAll_three hA
  obtain ⟨rfl, rfl⟩ := trodVars_none hV
  obtain ⟨x, rfl, _, _, _⟩ := open_int Try.underlying3 (hval 0 3 v0 rfl rfl) h0
  obtain ⟨A', n', c', rfl, hoy⟩ := open_byv (hval 1 _ v1 rfl rfl) h1
  obtain ⟨A, n, c, rfl, hox⟩ := open_opsv (hval 2 _ v2 rfl rfl) h2
  refine (rmadeL_any x A' n' c' A n c W hoy hox).mono fun e W' h => ?_
  obtain ⟨v, he, hv, hb⟩ := h
  subst hv
  exact ⟨_, he, law_post hW' (by kernel_rfl) rfl (by kernel_rfl) ⟨rfl, rfl, rfl⟩ hb⟩

theorem storeMade_holds : Rows.StoreMadeSaid :=
  OpenClaim.holds_of_wide (p := Try.pinned) (s := Rows.storeMadeSpec) (c := Rows.storeMadeRow) 9 Try.f9 rfl rfl rfl rfl rfl rfl rfl ⟨rfl, rfl, rfl, rfl, rfl⟩ rfl rfl rfl rfl rfl (by kernel_rfl) Try.func9 (by kernel_rfl)
    (of_decide_eq_true (by kernel_rfl)) (by unfold Func.isWrapper; first | (rw [if_pos (by decide +kernel)]; kernel_rfl) | (rw [if_neg (by decide +kernel)]; exact ⟨rfl, rfl⟩))
    (fun os started H enc _ => made_lifted os started H enc)
end Go.Proofs.Ytfljnfdeboibhaa
