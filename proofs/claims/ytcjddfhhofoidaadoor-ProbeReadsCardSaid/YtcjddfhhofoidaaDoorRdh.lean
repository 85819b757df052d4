/- For every case, plan and number: Cost and Ways read the plan as the document says, or refuse it (ProbeReads). No condition. -/
import Derived.Test.YtcjddfhhofoidaaDoorLzg
import Derived.Test.YtcjddfhhofoidaaDoorRdg
import Derived.Test.YtcjddfhhofoidaaDoorTie
import Derived.Test.YtcjddfhhofoidaaDoorCards
import Derived.SevenTiedAt
set_option linter.unusedVariables false
set_option linter.unusedSimpArgs false
namespace Go.Proofs.YtcjddfhhofoidaaDoor
open Go.ChangeShapes Go.WideShapes Go.ChangeAt Go.WideElems Go.RowKit Go.Proofs.Tb

set_option maxRecDepth 100000 in
theorem reads_lifted (os : Os) (started : os.Started) (H : Type) (enc : TypeId × Value → H) :
    ReturnsInHanded {} Tryd.checked os 13 .any (fun w args => (Rows.probeReadsSpec.pre enc Tryd.prog Tryd.f13 [] false w args ∧ laidMetH Tryd.prog lad2 w) ∧ sizedMet enc Tryd.prog Tryd.f13 (OpenSpec.ofChange Rows.probeReadsSpec) false w args)
      (Rows.probeReadsSpec.post enc Tryd.prog Tryd.f13 false true false false) := by
  refine returnsInHanded_of_change_and (C := Tryd.checked) (X := fun w _ => laidMetH Tryd.prog lad2 w) (fun _ _ _ hh h => h.of_heap hh) ownk started (by kernel_rfl) Tryd.func13
    (ChangeSpec.witness_shaped (enc := enc) (C := Tryd.checked) (os := os) (X := fun w _ => laidMetH Tryd.prog lad2 w) false (World.doorLaid Tryd.prog 400 os) #[.agg #[.slice none 0 0, .slice none 0 0], .slice none 0 0, .int .i64 0] 8 rfl (World.shaped_of_RefB (by kernel_rfl) (by kernel_rfl)) (by kernel_rfl) (by kernel_rfl) (by kernel_rfl) (door_met os _)) ?_
  intro W base args ds gs before hval0 hW _ _ hL _
  have hval : ∀ (j : Nat) t v, Tryd.f13.params[j]? = some t → args[j]? = some v → Value.okWide Tryd.prog W .any base t v := hval0
  have hW' := hW
  obtain ⟨p, q, hA0, hV, rfl, _, _⟩ := hW
  have hA : DataW.TrodAll enc Tryd.prog W 0 (fun _ => true) true Tryd.f13.params.toList args.toList ds p := hA0
  rw [Tryd.params13] at hA hval
  obtain ⟨v0, v1, v2, d0, d1, d2, p0, p1, p2, rfl, rfl, rfl, h0, h1, h2⟩ := trodAll_three hA
  obtain ⟨rfl, rfl⟩ := trodVars_none hV
  obtain ⟨A, A', n, c, m, d, ws, ts, rfl, hi, ht⟩ := open_case (hval 0 _ v0 rfl rfl) h0
  obtain ⟨A3, q, d3, bs, rfl, hx⟩ := open_bsv (hval 1 _ v1 rfl rfl) h1
  obtain ⟨x, rfl, _, _, _⟩ := open_int Tryd.underlying3 (hval 2 3 v2 rfl rfl) h2
  refine (reads_any A A' A3 n c m d q d3 x ws ts bs W hi ht hx (of_laid hL)).mono fun e W' h => ?_
  obtain ⟨v, he, hv, hb⟩ := h
  subst hv
  exact ⟨_, he, law_post hW' (by kernel_rfl) rfl (by kernel_rfl) ⟨rfl, rfl, rfl⟩ hb⟩

theorem probeReads_holds : Rows.ProbeReadsSaid :=
  OpenClaim.holds_of_wide (p := Tryd.pinned) (s := Rows.probeReadsSpec) (c := Rows.probeReadsRow) 13 Tryd.f13 rfl rfl rfl rfl rfl rfl rfl ⟨rfl, rfl, rfl, rfl, rfl⟩ rfl rfl rfl rfl rfl (by kernel_rfl) Tryd.func13 (by kernel_rfl)
    (of_decide_eq_true (by kernel_rfl)) (by unfold Func.isWrapper; first | (rw [if_pos (by decide +kernel)]; kernel_rfl) | (rw [if_neg (by decide +kernel)]; exact ⟨rfl, rfl⟩))
    (fun os started H enc _ => reads_lifted os started H enc)
theorem probeReads_card : Rows.ProbeReadsCardSaid :=
  Claim7.holds_tied_plain_at .later [] [.data, .data] true (true, "38c1aa4ed9e0ce259c420741a4d7d6997ee23614cb19af7f4092c45993d9547e") false
    probeReads_holds (fun _ h => by cases h) (by kernel_rfl) (fun _ h => by cases h) probeReads_row_tie rfl ⟨rfl, rfl⟩ (by kernel_rfl) rfl
    (fun f fn hf hfn => by
      obtain rfl : f = 13 := Option.some.inj ((show Tryd.prog.funcNamed "tourbillon/tourbillonlaw05.ProbeReads" = some 13 by kernel_rfl).symm.trans hf) |>.symm
      obtain rfl : fn = Tryd.f13 := (Option.some.inj (Tryd.func13.symm.trans hfn)).symm
      exact ⟨by kernel_rfl, fun j t ht => by
        rw [Tryd.params13] at ht
        have hm : t ∈ [25, 27, 3] := by simpa using Array.mem_of_getElem? ht
        have hall : ([25, 27, 3].all fun u => !Tryd.prog.wantsStandIn u) = true := by kernel_rfl
        exact (show Tryd.prog.wantsStandIn t = false by simpa using List.all_eq_true.1 hall t hm)⟩)
    (by kernel_rfl)
end Go.Proofs.YtcjddfhhofoidaaDoor
