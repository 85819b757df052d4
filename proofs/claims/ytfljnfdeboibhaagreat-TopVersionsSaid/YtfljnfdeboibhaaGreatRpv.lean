/- The changes of Diff, committed one after the other, give the version (TopVersions). No condition. -/
import Derived.Test.YtfljnfdeboibhaaGreatSxb
import Derived.Test.YtfljnfdeboibhaaGreatRpu
import Derived.OpenShut
set_option linter.unusedVariables false
set_option linter.unusedSimpArgs false
namespace Go.Proofs.Tb
open Go.ChangeShapes Go.WideShapes Go.ChangeAt Go.RowKit Go.Deep
set_option maxRecDepth 100000 in
theorem open_chx {H : Type} {enc : TypeId × Value → H} {W : World} {b0 base : Nat} {r : Reach} {spare : Nat → Bool} {held : Bool} {v : Value} {d : DataW H} {p : List MemPlace}
    (hv : Value.okWide Tryz.prog W r b0 104 v) (h : DataW.Trod enc Tryz.prog W base spare held 104 v d p) : ∃ (A : Option Addr) (n c : Nat), v = .slice A n c ∧ ChX W A n c := by
  obtain ⟨A, n, c, rfl⟩ := okWide_slice Tryz.underlying104 hv
  obtain ⟨fuel, hf⟩ := h
  rcases open_slice1 Tryz.underlying104 (by kernel_rfl) hf with h0 | ⟨a, len, cap, m, nn, V, D, Pl, hcs, hb, hl, hm, hmm, hx, hi⟩
  · have h0 := h0.1
    simp [Value.cells] at h0
    obtain ⟨rfl, rfl, rfl⟩ := h0
    exact ⟨none, 0, 0, rfl, ⟨Nat.le_refl _, by omega, fun j hj => absurd hj (by omega)⟩⟩
  · simp [Value.cells] at hcs
    obtain ⟨rfl, rfl, rfl⟩ := hcs
    refine ⟨some a, n, c, rfl, ⟨hl, by simpa [maxLen] using hm, fun j hj => ?_⟩⟩
    obtain ⟨h1, h2⟩ := hi j (by rw [hmm]; split <;> omega)
    obtain ⟨A', n', c', ys, e, hr, hs⟩ := open_cgs h2
    have e3 : V j = .slice A' n' c' := by simpa using e
    rw [e3] at h1
    obtain ⟨bb, off, spot⟩ := a
    have hspot : spot = none := by
      obtain ⟨hz, _⟩ := hi 0 (by rw [hmm]; split <;> omega)
      simpa [Addr.add] using World.cell?_spot hz
    subst hspot
    have hadd : ∀ j, (⟨bb, off, none⟩ : Addr).add j = ⟨bb, off + j, none⟩ := fun j => by simp only [Addr.add]; split <;> simp_all
    rw [hadd] at h1
    exact ⟨bb, off, rfl, A', n', c', ys, h1, hr, hs⟩
end Go.Proofs.Tb
namespace Go.Proofs.YtfljnfdeboibhaaGreat
open Go.ChangeShapes Go.WideShapes Go.ChangeAt Go.WideElems Go.RowKit Go.Proofs.Tb

set_option maxRecDepth 100000 in
theorem open_arr3 {H : Type} {enc : TypeId × Value → H} {W : World} {b0 base : Nat} {r : Reach} {spare : Nat → Bool} {held : Bool} {v : Value} {d : DataW H} {p : List MemPlace}
    (hv : Value.okWide Tryz.prog W r b0 105 v) (h : DataW.Trod enc Tryz.prog W base spare held 105 v d p) : ∃ x0 x1 x2 : Int, v = .agg #[.int .i64 x0, .int .i64 x1, .int .i64 x2] := by
  unfold Value.okWide at hv
  rw [Tryz.underlying105] at hv
  obtain ⟨cs, rfl, hs, _⟩ := hv
  obtain ⟨fuel, hf⟩ := h
  obtain ⟨xs, m, _, _, _, _, hi⟩ := DataW.trod_array Tryz.underlying105 hf
  have hs3 : cs.size = 3 := hs
  have hc1 : Tryz.prog.cellsOf 3 = 1 := by kernel_rfl
  have hone : ∀ i, i < 3 → ∃ z : Int, cs[i]? = some (.int .i64 z) := fun i hi3 => by
    have h1 := hi i hi3
    rw [hc1] at h1
    have hl : i < xs.length := by
      rename_i hxl _
      omega
    rw [List.getElem?_eq_getElem hl] at h1
    obtain ⟨z, hz, _⟩ := DataW.trod_int Tryz.underlying3 h1
    refine ⟨z, ?_⟩
    have h2 := congrArg (fun l => l[0]?) hz
    simp [Value.cells, List.getElem?_take, List.getElem?_drop] at h2
    simpa using h2
  obtain ⟨a, ha⟩ := hone 0 (by omega)
  obtain ⟨b, hb⟩ := hone 1 (by omega)
  obtain ⟨c, hc⟩ := hone 2 (by omega)
  refine ⟨a, b, c, ?_⟩
  congr 1
  apply Array.ext
  · rw [hs3]; rfl
  · intro i h1 h2
    rw [hs3] at h1
    obtain rfl | rfl | rfl : i = 0 ∨ i = 1 ∨ i = 2 := by omega
    · rw [Array.getElem?_eq_getElem (by omega)] at ha; simpa using ha
    · rw [Array.getElem?_eq_getElem (by omega)] at hb; simpa using hb
    · rw [Array.getElem?_eq_getElem (by omega)] at hc; simpa using hc

set_option maxRecDepth 100000 in
theorem versions_lifted (os : Os) (started : os.Started) (H : Type) (enc : TypeId × Value → H) :
    ReturnsInHanded {} Tryz.checked os 12 .any (Rows.topVersionsSpec.pre6 enc Tryz.prog Tryz.f12 Rows.topVersionsRow.domain false) (Rows.topVersionsSpec.post enc Tryz.prog Tryz.f12 false true false false) := by
  refine returnsInHanded_of_change (C := Tryz.checked) ownk started (by kernel_rfl) Tryz.func12
    (ChangeSpec.witness6 (enc := enc) (C := Tryz.checked) false ⟨#[], #[.slice none 0 0, .agg #[.int .i64 0, .int .i64 0, .int .i64 0], .int .i64 0], []⟩ 8 (by kernel_rfl) (by kernel_rfl) (by kernel_rfl) (by kernel_rfl)) ?_
  intro W base args ds gs before hval0 hW _ _
  have hval : ∀ (j : Nat) t v, Tryz.f12.params[j]? = some t → args[j]? = some v → Value.okWide Tryz.prog W .any base t v := hval0
  have hW' := hW
  obtain ⟨p, q, hA0, hV, rfl, _, _⟩ := hW
  have hA : DataW.TrodAll enc Tryz.prog W 0 (fun _ => true) true Tryz.f12.params.toList args.toList ds p := hA0
  rw [Tryz.params12] at hA hval
  obtain ⟨v0, v1, v2, d0, d1, d2, p0, p1, p2, rfl, rfl, rfl, h0, h1, h2⟩ := trodAll_three hA
  obtain ⟨rfl, rfl⟩ := trodVars_none hV
  obtain ⟨A, n, c, rfl, hox⟩ := open_chx (hval 0 _ v0 rfl rfl) h0
  obtain ⟨x0, x1, x2, rfl⟩ := open_arr3 (hval 1 _ v1 rfl rfl) h1
  obtain ⟨x3, rfl, _, _, _⟩ := open_int Tryz.underlying3 (hval 2 3 v2 rfl rfl) h2
  refine (rversions_any A n c x0 x1 x2 x3 W hox).mono fun e W' h => ?_
  obtain ⟨v, he, hv, hb⟩ := h
  subst hv
  exact ⟨_, he, law_post hW' (by kernel_rfl) rfl (by kernel_rfl) ⟨rfl, rfl, rfl⟩ hb⟩

theorem topVersions_holds : Rows.TopVersionsSaid :=
  OpenClaim.holds_of_wide (p := Tryz.pinned) (s := Rows.topVersionsSpec) (c := Rows.topVersionsRow) 12 Tryz.f12 rfl rfl rfl rfl rfl rfl rfl ⟨rfl, rfl, rfl, rfl, rfl⟩ rfl rfl rfl rfl rfl (by kernel_rfl) Tryz.func12 (by kernel_rfl)
    (of_decide_eq_true (by kernel_rfl)) (by unfold Func.isWrapper; first | (rw [if_pos (by decide +kernel)]; kernel_rfl) | (rw [if_neg (by decide +kernel)]; exact ⟨rfl, rfl⟩))
    (fun os started H enc _ => versions_lifted os started H enc)
end Go.Proofs.YtfljnfdeboibhaaGreat
