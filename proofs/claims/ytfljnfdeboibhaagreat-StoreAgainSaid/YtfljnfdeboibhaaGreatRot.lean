/- A store opened again and again on clones of its disk has the same versions, and commits (StoreAgain). No condition. -/
import Derived.Test.YtfljnfdeboibhaaGreatSxb
import Derived.Test.YtfljnfdeboibhaaGreatRos
import Derived.OpenShut
set_option linter.unusedVariables false
set_option linter.unusedSimpArgs false
namespace Go.Proofs.YtfljnfdeboibhaaGreat
open Go.ChangeShapes Go.WideShapes Go.ChangeAt Go.WideElems Go.RowKit Go.Proofs.Tb

set_option maxRecDepth 100000 in
theorem open_arr2 {H : Type} {enc : TypeId × Value → H} {W : World} {b0 base : Nat} {r : Reach} {spare : Nat → Bool} {held : Bool} {v : Value} {d : DataW H} {p : List MemPlace}
    (hv : Value.okWide Tryz.prog W r b0 23 v) (h : DataW.Trod enc Tryz.prog W base spare held 23 v d p) : ∃ x0 x1 : Int, v = .agg #[.int .i64 x0, .int .i64 x1] := by
  unfold Value.okWide at hv
  rw [Tryz.underlying23] at hv
  obtain ⟨cs, rfl, hs, _⟩ := hv
  obtain ⟨fuel, hf⟩ := h
  obtain ⟨xs, m, _, _, _, _, hi⟩ := DataW.trod_array Tryz.underlying23 hf
  have hs3 : cs.size = 2 := hs
  have hc1 : Tryz.prog.cellsOf 3 = 1 := by kernel_rfl
  have hone : ∀ i, i < 2 → ∃ z : Int, cs[i]? = some (.int .i64 z) := fun i hi3 => by
    have h1 := hi i hi3
    rw [hc1] at h1
    have hl : i < xs.length := by
      rename_i hxl _
      omega
    rw [List.getElem?_eq_getElem hl] at h1
    obtain ⟨z, hz, _⟩ := DataW.trod_int Tryz.underlying3 h1
    refine ⟨z, ?_⟩
    have h2 := congrArg (fun l => l[0]?) hz
    simp [Value.cells, List.getElem?_take, List.getElem?_drop] at h2
    simpa using h2
  obtain ⟨a, ha⟩ := hone 0 (by omega)
  obtain ⟨b, hb⟩ := hone 1 (by omega)
  refine ⟨a, b, ?_⟩
  congr 1
  apply Array.ext
  · rw [hs3]; rfl
  · intro i h1 h2
    rw [hs3] at h1
    obtain rfl | rfl : i = 0 ∨ i = 1 := by omega
    · rw [Array.getElem?_eq_getElem (by omega)] at ha; simpa using ha
    · rw [Array.getElem?_eq_getElem (by omega)] at hb; simpa using hb

set_option maxRecDepth 100000 in
theorem again_lifted (os : Os) (started : os.Started) (H : Type) (enc : TypeId × Value → H) :
    ReturnsInHanded {} Tryz.checked os 3 .any (Rows.storeAgainSpec.pre6 enc Tryz.prog Tryz.f3 Rows.storeAgainRow.domain false) (Rows.storeAgainSpec.post enc Tryz.prog Tryz.f3 false true false false) := by
  refine returnsInHanded_of_change (C := Tryz.checked) ownk started (by kernel_rfl) Tryz.func3
    (ChangeSpec.witness6 (enc := enc) (C := Tryz.checked) false ⟨#[], #[.slice none 0 0, .agg #[.int .i64 0, .int .i64 0], .slice none 0 0], []⟩ 8 (by kernel_rfl) (by kernel_rfl) (by kernel_rfl) (by kernel_rfl)) ?_
  intro W base args ds gs before hval0 hW _ _
  have hval : ∀ (j : Nat) t v, Tryz.f3.params[j]? = some t → args[j]? = some v → Value.okWide Tryz.prog W .any base t v := hval0
  have hW' := hW
  obtain ⟨p, q, hA0, hV, rfl, _, _⟩ := hW
  have hA : DataW.TrodAll enc Tryz.prog W 0 (fun _ => true) true Tryz.f3.params.toList args.toList ds p := hA0
  rw [Tryz.params3] at hA hval
  obtain ⟨v0, v1, v2, d0, d1, d2, p0, p1, p2, rfl, rfl, rfl, h0, h1, h2⟩ := trodAll_three hA
  obtain ⟨rfl, rfl⟩ := trodVars_none hV
  obtain ⟨A, n, c, rfl, hox⟩ := open_opsv (hval 0 _ v0 rfl rfl) h0
  obtain ⟨x0, x1, rfl⟩ := open_arr2 (hval 1 _ v1 rfl rfl) h1
  obtain ⟨A', n', c', ys, rfl, hry, hsy⟩ := open_cgsv (hval 2 _ v2 rfl rfl) h2
  refine (ragain_any A n c x0 x1 A' n' c' ys W hox hry hsy).mono fun e W' h => ?_
  obtain ⟨v, he, hv, hb⟩ := h
  subst hv
  exact ⟨_, he, law_post hW' (by kernel_rfl) rfl (by kernel_rfl) ⟨rfl, rfl, rfl⟩ hb⟩

theorem storeAgain_holds : Rows.StoreAgainSaid :=
  OpenClaim.holds_of_wide (p := Tryz.pinned) (s := Rows.storeAgainSpec) (c := Rows.storeAgainRow) 3 Tryz.f3 rfl rfl rfl rfl rfl rfl rfl ⟨rfl, rfl, rfl, rfl, rfl⟩ rfl rfl rfl rfl rfl (by kernel_rfl) Tryz.func3 (by kernel_rfl)
    (of_decide_eq_true (by kernel_rfl)) (by unfold Func.isWrapper; first | (rw [if_pos (by decide +kernel)]; kernel_rfl) | (rw [if_neg (by decide +kernel)]; exact ⟨rfl, rfl⟩))
    (fun os started H enc _ => again_lifted os started H enc)
end Go.Proofs.YtfljnfdeboibhaaGreat
