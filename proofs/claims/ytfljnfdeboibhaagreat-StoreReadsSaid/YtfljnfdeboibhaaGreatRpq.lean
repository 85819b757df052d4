/- Get, Range, Diff and All return what the versions give, or the errors that the document names, for all numbers and strings (StoreReads). No condition. -/
import Derived.Test.YtfljnfdeboibhaaGreatSxb
import Derived.Test.YtfljnfdeboibhaaGreatRpp
import Derived.OpenShut
import Derived.ChangeSlices
set_option linter.unusedVariables false
set_option linter.unusedSimpArgs false
namespace Go.Proofs.Tb
open Go.ChangeShapes Go.WideShapes Go.ChangeAt Go.RowKit Go.Deep
set_option maxRecDepth 100000 in
theorem qu_cellsM {H : Type} {enc : TypeId × Value → H} {W : World} {base : Nat} {spare : Nat → Bool} {held : Bool} {fuel : Nat} {cs : List Value} {x : DataW H × List MemPlace}
    (h : DataW.trod enc Tryz.prog W base spare held fuel TQU cs = some x) : ∃ (f t : Int) (lo hi : Str) (m : Int), cs = [.int .i64 f, .int .i64 t, .string lo, .string hi, .int .i64 m] ∧ lo.size ≤ maxLen ∧ hi.size ≤ maxLen ∧ m ≤ 9223372036854775807 := by
  obtain ⟨xs, n, _, _, hl, hx, hi⟩ := DataW.trod_struct Tryz.underlying71 h
  have hx5 : xs.length = 5 := hx
  have hl5 : cs.length = 5 := hl.trans (by kernel_rfl)
  have h0 := (hi 0 _ rfl).trans (List.getElem?_eq_getElem (by omega))
  have h1 := (hi 1 _ rfl).trans (List.getElem?_eq_getElem (by omega))
  have h2 := (hi 2 _ rfl).trans (List.getElem?_eq_getElem (by omega))
  have h3 := (hi 3 _ rfl).trans (List.getElem?_eq_getElem (by omega))
  have h4 := (hi 4 _ rfl).trans (List.getElem?_eq_getElem (by omega))
  obtain ⟨f, hf, _, _⟩ := DataW.trod_int Tryz.underlying3 h0
  obtain ⟨t, ht, _, _⟩ := DataW.trod_int Tryz.underlying3 h1
  obtain ⟨lo, hlo, _, l1⟩ := DataW.trod_string Tryz.underlying9 h2
  obtain ⟨hg, hhi, _, l2⟩ := DataW.trod_string Tryz.underlying9 h3
  obtain ⟨m, hm, _, mw⟩ := DataW.trod_int Tryz.underlying3 h4
  have hc1 : Tryz.prog.cellsOf 3 = 1 := by kernel_rfl
  have hc2 : Tryz.prog.cellsOf 9 = 1 := by kernel_rfl
  have hf : (cs.drop 0).take (Tryz.prog.cellsOf 3) = [.int .i64 f] := hf
  have ht : (cs.drop 1).take (Tryz.prog.cellsOf 3) = [.int .i64 t] := ht
  have hlo : (cs.drop 2).take (Tryz.prog.cellsOf 9) = [.string lo] := hlo
  have hhi : (cs.drop 3).take (Tryz.prog.cellsOf 9) = [.string hg] := hhi
  have hm : (cs.drop 4).take (Tryz.prog.cellsOf 3) = [.int .i64 m] := hm
  rw [hc1] at hf ht hm
  rw [hc2] at hlo hhi
  clear h h0 h1 h2 h3 h4 hl hi
  obtain ⟨a, b, c, d, e, rfl⟩ : ∃ a b c d e, cs = [a, b, c, d, e] := by
    match cs, hl5 with
    | [a, b, c, d, e], _ => exact ⟨a, b, c, d, e, rfl⟩
  simp at hf ht hlo hhi hm
  exact ⟨f, t, lo, hg, m, by rw [hf, ht, hlo, hhi, hm], l1, l2, by
    have h := mw
    unfold Lit.wf at h
    simp only [Bool.and_eq_true, decide_eq_true_eq] at h
    have e2 : IntKind.i64.max = 9223372036854775807 := by decide
    rw [e2] at h
    exact h.2⟩
set_option maxRecDepth 100000 in
theorem open_quM {H : Type} {enc : TypeId × Value → H} {W : World} {b0 base : Nat} {r : Reach} {spare : Nat → Bool} {held : Bool} {v : Value} {d : DataW H} {p : List MemPlace}
    (hv : Value.okWide Tryz.prog W r b0 TQU v) (h : DataW.Trod enc Tryz.prog W base spare held TQU v d p) : ∃ (f t : Int) (lo hi : Str) (m : Int), v = .agg #[.int .i64 f, .int .i64 t, .string lo, .string hi, .int .i64 m] ∧ lo.size ≤ maxLen ∧ hi.size ≤ maxLen ∧ m ≤ 9223372036854775807 := by
  obtain ⟨cs, rfl, _⟩ := okWide_struct Tryz.underlying71 hv
  obtain ⟨fuel, hf⟩ := h
  obtain ⟨f, t, lo, hi, m, e0, l1, l2, l3⟩ := qu_cellsM hf
  have e0 : cs.toList = [.int .i64 f, .int .i64 t, .string lo, .string hi, .int .i64 m] := e0
  obtain ⟨l⟩ := cs
  exact ⟨f, t, lo, hi, m, by rw [show l = [.int .i64 f, .int .i64 t, .string lo, .string hi, .int .i64 m] from e0], l1, l2, l3⟩
end Go.Proofs.Tb
namespace Go.Proofs.YtfljnfdeboibhaaGreat
open Go.ChangeShapes Go.WideShapes Go.ChangeAt Go.WideElems Go.RowKit Go.Proofs.Tb

set_option maxRecDepth 100000 in
theorem reads_lifted (os : Os) (started : os.Started) (H : Type) (enc : TypeId × Value → H) :
    ReturnsInHanded {} Tryz.checked os 8 .any (Rows.storeReadsSpec.pre6 enc Tryz.prog Tryz.f8 Rows.storeReadsRow.domain false) (Rows.storeReadsSpec.post enc Tryz.prog Tryz.f8 false true false false) := by
  refine returnsInHanded_of_change (C := Tryz.checked) ownk started (by kernel_rfl) Tryz.func8
    (ChangeSpec.witness6 (enc := enc) (C := Tryz.checked) false ⟨#[], #[.slice none 0 0, .agg #[.int .i64 0, .int .i64 0, .string ByteArray.empty, .string ByteArray.empty, .int .i64 0], .int .i64 0], []⟩ 8 (by kernel_rfl) (by kernel_rfl) (by kernel_rfl) (by kernel_rfl)) ?_
  intro W base args ds gs before hval0 hW _ _
  have hval : ∀ (j : Nat) t v, Tryz.f8.params[j]? = some t → args[j]? = some v → Value.okWide Tryz.prog W .any base t v := hval0
  have hW' := hW
  obtain ⟨p, q, hA0, hV, rfl, _, _⟩ := hW
  have hA : DataW.TrodAll enc Tryz.prog W 0 (fun _ => true) true Tryz.f8.params.toList args.toList ds p := hA0
  rw [Tryz.params8] at hA hval
  obtain ⟨v0, v1, v2, d0, d1, d2, p0, p1, p2, rfl, rfl, rfl, h0, h1, h2⟩ := trodAll_three hA
  obtain ⟨rfl, rfl⟩ := trodVars_none hV
  obtain ⟨A, n, c, rfl, hox⟩ := open_opsv (hval 0 _ v0 rfl rfl) h0
  obtain ⟨qf, qt, ql, qh, qm, rfl, l1, l2, l3⟩ := open_quM (hval 1 _ v1 rfl rfl) h1
  obtain ⟨x0, rfl, _, _, _⟩ := open_int Tryz.underlying3 (hval 2 3 v2 rfl rfl) h2
  refine (rreads_any A n c qf qt qm ql qh x0 W hox l1 l2 l3).mono fun e W' h => ?_
  obtain ⟨v, he, hv, hb⟩ := h
  subst hv
  exact ⟨_, he, law_post hW' (by kernel_rfl) rfl (by kernel_rfl) ⟨rfl, rfl, rfl⟩ hb⟩

theorem storeReads_holds : Rows.StoreReadsSaid :=
  OpenClaim.holds_of_wide (p := Tryz.pinned) (s := Rows.storeReadsSpec) (c := Rows.storeReadsRow) 8 Tryz.f8 rfl rfl rfl rfl rfl rfl rfl ⟨rfl, rfl, rfl, rfl, rfl⟩ rfl rfl rfl rfl rfl (by kernel_rfl) Tryz.func8 (by kernel_rfl)
    (of_decide_eq_true (by kernel_rfl)) (by unfold Func.isWrapper; first | (rw [if_pos (by decide +kernel)]; kernel_rfl) | (rw [if_neg (by decide +kernel)]; exact ⟨rfl, rfl⟩))
    (fun os started H enc _ => reads_lifted os started H enc)
end Go.Proofs.YtfljnfdeboibhaaGreat
