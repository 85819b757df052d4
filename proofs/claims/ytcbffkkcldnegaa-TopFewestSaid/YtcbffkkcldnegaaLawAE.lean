/- For all readings, errors and ends: no way to part readings into runs, each within the error, has fewer runs than Pieces; the error of all of them is at least that of each part (TopFewest). No condition. -/
import Derived.Test.YtcbffkkcldnegaaLawZ
import Derived.Test.YtcbffkkcldnegaaTopB
set_option linter.unusedVariables false
set_option linter.unusedSimpArgs false
namespace Go.Proofs.Ytcbffkkcldnegaa
open Go.ChangeShapes Go.WideShapes Go.ChangeAt Go.RowKit Go.Proofs.Tb

set_option maxRecDepth 100000 in
theorem frac_cells {H : Type} {enc : TypeId × Value → H} {W : World} {base : Nat} {spare : Nat → Bool} {held : Bool} {fuel : Nat} {cs : List Value} {x : DataW H × List MemPlace}
    (h : DataW.trod enc Try.prog W base spare held fuel TF cs = some x) : ∃ a b : Int, cs = [.int .i64 a, .int .i64 b] ∧ rngI a ∧ rngI b := by
  obtain ⟨y0, y1, n, _, hl, h0, h1⟩ := trod_struct2 Try.underlying24 h
  obtain ⟨a, ha, _, hwa⟩ := DataW.trod_int Try.underlying3 h0
  obtain ⟨b, hb, _, hwb⟩ := DataW.trod_int Try.underlying3 h1
  have hl2 : cs.length = 2 := hl.trans (by kernel_rfl)
  have hc1 : Try.prog.cellsOf 3 = 1 := by kernel_rfl
  match cs, hl2 with
  | [u, v], _ =>
    have ha : (([u, v] : List Value).drop 0).take (Try.prog.cellsOf 3) = [.int .i64 a] := ha
    have hb : (([u, v] : List Value).drop 1).take (Try.prog.cellsOf 3) = [.int .i64 b] := hb
    rw [hc1] at ha hb
    simp at ha hb
    exact ⟨a, b, by rw [ha, hb], wf_rng hwa, wf_rng hwb⟩
set_option maxRecDepth 100000 in
/-- An argument that is a fraction. -/
theorem open_frac {H : Type} {enc : TypeId × Value → H} {W : World} {b0 base : Nat} {r : Reach} {spare : Nat → Bool} {held : Bool} {v : Value} {d : DataW H} {p : List MemPlace}
    (hv : Value.okWide Try.prog W r b0 TF v) (h : DataW.Trod enc Try.prog W base spare held TF v d p) : ∃ a b : Int, v = .agg #[.int .i64 a, .int .i64 b] ∧ rngI a ∧ rngI b := by
  obtain ⟨cs, rfl, _⟩ := okWide_struct Try.underlying24 hv
  obtain ⟨fuel, hf⟩ := h
  obtain ⟨a, b, e0, ra, rb⟩ := frac_cells hf
  have e0 : cs.toList = [.int .i64 a, .int .i64 b] := e0
  obtain ⟨l⟩ := cs
  exact ⟨a, b, by rw [show l = [.int .i64 a, .int .i64 b] from e0], ra, rb⟩

set_option maxRecDepth 100000 in
/-- An argument that is a slice of integers. -/
theorem open_il {H : Type} {enc : TypeId × Value → H} {W : World} {b0 base : Nat} {r : Reach} {spare : Nat → Bool} {held : Bool} {v : Value} {d : DataW H} {p : List MemPlace}
    (hv : Value.okWide Try.prog W r b0 TS v) (h : DataW.Trod enc Try.prog W base spare held TS v d p) : ∃ (A : Option Addr) (n c : Nat) (zs : List Int), v = .slice A n c ∧ Il W A n c zs := by
  obtain ⟨A, n, c, rfl⟩ := okWide_slice Try.underlying33 hv
  obtain ⟨fuel, hf⟩ := h
  rcases open_ints Try.underlying33 Try.underlying3 (by kernel_rfl) hf with ⟨h0, _⟩ | ⟨a, len, cap, zs, hcs, _, hl, hm, hz, _, hc, hw⟩
  · simp [Value.cells] at h0
    obtain ⟨rfl, rfl, rfl⟩ := h0
    exact ⟨none, 0, 0, [], rfl, Il.nil _⟩
  · simp [Value.cells] at hcs
    obtain ⟨rfl, rfl, rfl⟩ := hcs
    have hzn : n ≤ zs.length := by rw [hz]; split <;> omega
    refine ⟨some a, n, c, zs.take n, rfl, ⟨by simp; omega, hl, by simpa [maxLen] using hm, fun h0 => ?_⟩⟩
    obtain ⟨bb, off, spot⟩ := a
    have hs0 := hc 0 (by omega)
    have hspot : spot = none := by simpa [Addr.add] using World.cell?_spot hs0
    subst hspot
    refine ⟨bb, off, rfl, fun j hj => ?_⟩
    have h1 := hc j (by omega)
    have hadd : (⟨bb, off, none⟩ : Addr).add j = ⟨bb, off + j, none⟩ := by simp only [Addr.add]; split <;> simp_all
    rw [hadd] at h1
    rw [h1]
    simp [List.getD, hj]

set_option maxRecDepth 100000 in
theorem fewest_lifted (os : Os) (started : os.Started) (H : Type) (enc : TypeId × Value → H) :
    ReturnsInHanded {} Try.checked os 14 .any (Rows.topFewestSpec.pre6 enc Try.prog Try.f14 Rows.topFewestRow.domain false) (Rows.topFewestSpec.post enc Try.prog Try.f14 false true false false) := by
  refine returnsInHanded_of_change (C := Try.checked) ownk started (by kernel_rfl) Try.func14
    (ChangeSpec.witness6 (enc := enc) (C := Try.checked) false ⟨#[], #[.slice none 0 0, .agg #[.int .i64 0, .int .i64 0], .slice none 0 0], []⟩ 8 (by kernel_rfl) (by kernel_rfl) (by kernel_rfl) (by kernel_rfl)) ?_
  intro W base args ds gs before hval0 hW _ _
  have hval : ∀ (j : Nat) t v, Try.f14.params[j]? = some t → args[j]? = some v → Value.okWide Try.prog W .any base t v := hval0
  have hW' := hW
  obtain ⟨p, q, hA0, hV, rfl, _, _⟩ := hW
  have hA : DataW.TrodAll enc Try.prog W 0 (fun _ => true) true Try.f14.params.toList args.toList ds p := hA0
  rw [Try.params14] at hA hval
  obtain ⟨v0, v1, v2, d0, d1, d2, p0, p1, p2, rfl, rfl, rfl, h0, h1, h2⟩ := trodAll_three hA
  obtain ⟨rfl, rfl⟩ := trodVars_none hV
  obtain ⟨A, n, c, rs, rfl, hrd⟩ := open_rd (hval 0 _ v0 rfl rfl) h0
  obtain ⟨la, lb, rfl, r1, r2⟩ := open_frac (hval 1 _ v1 rfl rfl) h1
  obtain ⟨D, ne, ce, es, rfl, hes⟩ := open_il (hval 2 _ v2 rfl rfl) h2
  refine (fewest_any A D n c ne ce rs es la lb W hrd hes).mono fun e W' h => ?_
  obtain ⟨v, he, hv, hb⟩ := h
  subst hv
  exact ⟨_, he, law_post hW' (by kernel_rfl) rfl (by kernel_rfl) ⟨rfl, rfl, rfl⟩ hb⟩

theorem topFewest_holds : Rows.TopFewestSaid :=
  OpenClaim.holds_of_wide (p := Try.pinned) (s := Rows.topFewestSpec) (c := Rows.topFewestRow) 14 Try.f14 rfl rfl rfl rfl rfl rfl rfl ⟨rfl, rfl, rfl, rfl, rfl⟩ rfl rfl rfl rfl rfl (by kernel_rfl) Try.func14 (by kernel_rfl)
    (of_decide_eq_true (by kernel_rfl)) (by unfold Func.isWrapper; first | (rw [if_pos (by decide +kernel)]; kernel_rfl) | (rw [if_neg (by decide +kernel)]; exact ⟨rfl, rfl⟩))
    (fun os started H enc _ => fewest_lifted os started H enc)
end Go.Proofs.Ytcbffkkcldnegaa
