/- RateHalves: at most half of all pairs of readings have a slope below that of Median's line, and at most half one above it; likewise the readings and the line. No condition. -/
import Derived.Test.YtcbffkkcldnegaaGreatLawZ
import Derived.Test.YtcbffkkcldnegaaGreatLawBC
set_option linter.unusedVariables false
set_option linter.unusedSimpArgs false
namespace Go.Proofs.YtcbffkkcldnegaaGreat
open Go.ChangeShapes Go.WideShapes Go.ChangeAt Go.RowKit Go.Proofs.Tb

set_option maxRecDepth 100000 in
theorem halves_lifted (os : Os) (started : os.Started) (H : Type) (enc : TypeId × Value → H) :
    ReturnsInHanded {} Tryz.checked os 4 .any (Rows.rateHalvesSpec.pre6 enc Tryz.prog Tryz.f4 Rows.rateHalvesRow.domain false) (Rows.rateHalvesSpec.post enc Tryz.prog Tryz.f4 false true false false) := by
  refine returnsInHanded_of_change (C := Tryz.checked) ownk started (by kernel_rfl) Tryz.func4
    (ChangeSpec.witness6 (enc := enc) (C := Tryz.checked) false ⟨#[], #[.slice none 0 0], []⟩ 8 (by kernel_rfl) (by kernel_rfl) (by kernel_rfl) (by kernel_rfl)) ?_
  intro W base args ds gs before hval0 hW _ _
  have hval : ∀ (j : Nat) t v, Tryz.f4.params[j]? = some t → args[j]? = some v → Value.okWide Tryz.prog W .any base t v := hval0
  have hW' := hW
  obtain ⟨p, q, hA0, hV, rfl, _, _⟩ := hW
  have hA : DataW.TrodAll enc Tryz.prog W 0 (fun _ => true) true Tryz.f4.params.toList args.toList ds p := hA0
  rw [Tryz.params4] at hA hval
  obtain ⟨v0, d0, rfl, rfl, h0⟩ := trodAll_one hA
  obtain ⟨rfl, rfl⟩ := trodVars_none hV
  obtain ⟨A, n, c, rs, rfl, hrd⟩ := open_rd (hval 0 _ v0 rfl rfl) h0
  refine (halves_any A n c rs W hrd).mono fun e W' h => ?_
  obtain ⟨v, he, hv, hb⟩ := h
  subst hv
  exact ⟨_, he, law_post hW' (by kernel_rfl) rfl (by kernel_rfl) ⟨rfl, rfl, rfl⟩ hb⟩

theorem rateHalves_holds : Rows.RateHalvesSaid :=
  OpenClaim.holds_of_wide (p := Tryz.pinned) (s := Rows.rateHalvesSpec) (c := Rows.rateHalvesRow) 4 Tryz.f4 rfl rfl rfl rfl rfl rfl rfl ⟨rfl, rfl, rfl, rfl, rfl⟩ rfl rfl rfl rfl rfl (by kernel_rfl) Tryz.func4 (by kernel_rfl)
    (of_decide_eq_true (by kernel_rfl)) (by unfold Func.isWrapper; first | (rw [if_pos (by decide +kernel)]; kernel_rfl) | (rw [if_neg (by decide +kernel)]; exact ⟨rfl, rfl⟩))
    (fun os started H enc _ => halves_lifted os started H enc)
end Go.Proofs.YtcbffkkcldnegaaGreat
