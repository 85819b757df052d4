/- For all readings and errors: the runs of Pieces are each within the error, and none could be longer; Longest is within it, and no run is longer (RateParts). No condition. -/
import Derived.Test.YtcbffkkcldnegaaLawZ
import Derived.Test.YtcbffkkcldnegaaLawAC
set_option linter.unusedVariables false
set_option linter.unusedSimpArgs false
namespace Go.Proofs.Ytcbffkkcldnegaa
open Go.ChangeShapes Go.WideShapes Go.ChangeAt Go.RowKit Go.Proofs.Tb

set_option maxRecDepth 100000 in
theorem frac_cells {H : Type} {enc : TypeId × Value → H} {W : World} {base : Nat} {spare : Nat → Bool} {held : Bool} {fuel : Nat} {cs : List Value} {x : DataW H × List MemPlace}
    (h : DataW.trod enc Try.prog W base spare held fuel TF cs = some x) : ∃ a b : Int, cs = [.int .i64 a, .int .i64 b] ∧ rngI a ∧ rngI b := by
  obtain ⟨y0, y1, n, _, hl, h0, h1⟩ := trod_struct2 Try.underlying24 h
  obtain ⟨a, ha, _, hwa⟩ := DataW.trod_int Try.underlying3 h0
  obtain ⟨b, hb, _, hwb⟩ := DataW.trod_int Try.underlying3 h1
  have hl2 : cs.length = 2 := hl.trans (by kernel_rfl)
  have hc1 : Try.prog.cellsOf 3 = 1 := by kernel_rfl
  match cs, hl2 with
  | [u, v], _ =>
    have ha : (([u, v] : List Value).drop 0).take (Try.prog.cellsOf 3) = [.int .i64 a] := ha
    have hb : (([u, v] : List Value).drop 1).take (Try.prog.cellsOf 3) = [.int .i64 b] := hb
    rw [hc1] at ha hb
    simp at ha hb
    exact ⟨a, b, by rw [ha, hb], wf_rng hwa, wf_rng hwb⟩
set_option maxRecDepth 100000 in
/-- An argument that is a fraction. -/
theorem open_frac {H : Type} {enc : TypeId × Value → H} {W : World} {b0 base : Nat} {r : Reach} {spare : Nat → Bool} {held : Bool} {v : Value} {d : DataW H} {p : List MemPlace}
    (hv : Value.okWide Try.prog W r b0 TF v) (h : DataW.Trod enc Try.prog W base spare held TF v d p) : ∃ a b : Int, v = .agg #[.int .i64 a, .int .i64 b] ∧ rngI a ∧ rngI b := by
  obtain ⟨cs, rfl, _⟩ := okWide_struct Try.underlying24 hv
  obtain ⟨fuel, hf⟩ := h
  obtain ⟨a, b, e0, ra, rb⟩ := frac_cells hf
  have e0 : cs.toList = [.int .i64 a, .int .i64 b] := e0
  obtain ⟨l⟩ := cs
  exact ⟨a, b, by rw [show l = [.int .i64 a, .int .i64 b] from e0], ra, rb⟩

set_option maxRecDepth 100000 in
theorem parts_lifted (os : Os) (started : os.Started) (H : Type) (enc : TypeId × Value → H) :
    ReturnsInHanded {} Try.checked os 13 .any (Rows.ratePartsSpec.pre6 enc Try.prog Try.f13 Rows.ratePartsRow.domain false) (Rows.ratePartsSpec.post enc Try.prog Try.f13 false true false false) := by
  refine returnsInHanded_of_change (C := Try.checked) ownk started (by kernel_rfl) Try.func13
    (ChangeSpec.witness6 (enc := enc) (C := Try.checked) false ⟨#[], #[.slice none 0 0, .agg #[.int .i64 0, .int .i64 0]], []⟩ 8 (by kernel_rfl) (by kernel_rfl) (by kernel_rfl) (by kernel_rfl)) ?_
  intro W base args ds gs before hval0 hW _ _
  have hval : ∀ (j : Nat) t v, Try.f13.params[j]? = some t → args[j]? = some v → Value.okWide Try.prog W .any base t v := hval0
  have hW' := hW
  obtain ⟨p, q, hA0, hV, rfl, _, _⟩ := hW
  have hA : DataW.TrodAll enc Try.prog W 0 (fun _ => true) true Try.f13.params.toList args.toList ds p := hA0
  rw [Try.params13] at hA hval
  obtain ⟨v0, v1, d0, d1, p0, p1, rfl, rfl, rfl, h0, h1⟩ := trodAll_two hA
  obtain ⟨rfl, rfl⟩ := trodVars_none hV
  obtain ⟨A, n, c, rs, rfl, hrd⟩ := open_rd (hval 0 _ v0 rfl rfl) h0
  obtain ⟨la, lb, rfl, r1, r2⟩ := open_frac (hval 1 _ v1 rfl rfl) h1
  refine (parts_any A n c rs la lb W hrd r1 r2).mono fun e W' h => ?_
  obtain ⟨v, he, hv, hb⟩ := h
  subst hv
  exact ⟨_, he, law_post hW' (by kernel_rfl) rfl (by kernel_rfl) ⟨rfl, rfl, rfl⟩ hb⟩

theorem rateParts_holds : Rows.RatePartsSaid :=
  OpenClaim.holds_of_wide (p := Try.pinned) (s := Rows.ratePartsSpec) (c := Rows.ratePartsRow) 13 Try.f13 rfl rfl rfl rfl rfl rfl rfl ⟨rfl, rfl, rfl, rfl, rfl⟩ rfl rfl rfl rfl rfl (by kernel_rfl) Try.func13 (by kernel_rfl)
    (of_decide_eq_true (by kernel_rfl)) (by unfold Func.isWrapper; first | (rw [if_pos (by decide +kernel)]; kernel_rfl) | (rw [if_neg (by decide +kernel)]; exact ⟨rfl, rfl⟩))
    (fun os started H enc _ => parts_lifted os started H enc)
end Go.Proofs.Ytcbffkkcldnegaa
