/- For every case: Apart returns the classes of faults that no test tells apart, and Needed the tests that the document names, or ErrArg (ProbeAparts). No condition. -/
import Derived.Test.YtcjddfhhofoidaaDoorLzd
import Derived.Test.YtcjddfhhofoidaaDoorApd
import Derived.Test.YtcjddfhhofoidaaDoorTie
import Derived.Test.YtcjddfhhofoidaaDoorCards
import Derived.SevenTiedAt
set_option linter.unusedVariables false
set_option linter.unusedSimpArgs false
namespace Go.Proofs.YtcjddfhhofoidaaDoor
open Go.ChangeShapes Go.WideShapes Go.ChangeAt Go.WideElems Go.RowKit Go.Proofs.Tb

set_option maxRecDepth 100000 in
theorem aparts_lifted (os : Os) (started : os.Started) (H : Type) (enc : TypeId × Value → H) :
    ReturnsInHanded {} Tryd.checked os 14 .any (fun w args => (Rows.probeApartsSpec.pre enc Tryd.prog Tryd.f14 [] false w args ∧ laidMetH Tryd.prog lad2 w) ∧ sizedMet enc Tryd.prog Tryd.f14 (OpenSpec.ofChange Rows.probeApartsSpec) false w args)
      (Rows.probeApartsSpec.post enc Tryd.prog Tryd.f14 false true false false) := by
  refine returnsInHanded_of_change_and (C := Tryd.checked) (X := fun w _ => laidMetH Tryd.prog lad2 w) (fun _ _ _ hh h => h.of_heap hh) ownk started (by kernel_rfl) Tryd.func14
    (ChangeSpec.witness_shaped (enc := enc) (C := Tryd.checked) (os := os) (X := fun w _ => laidMetH Tryd.prog lad2 w) false (World.doorLaid Tryd.prog 400 os) #[.agg #[.slice none 0 0, .slice none 0 0]] 8 rfl (World.shaped_of_RefB (by kernel_rfl) (by kernel_rfl)) (by kernel_rfl) (by kernel_rfl) (by kernel_rfl) (door_met os _)) ?_
  intro W base args ds gs before hval0 hW _ _ hL _
  have hval : ∀ (j : Nat) t v, Tryd.f14.params[j]? = some t → args[j]? = some v → Value.okWide Tryd.prog W .any base t v := hval0
  have hW' := hW
  obtain ⟨p, q, hA0, hV, rfl, _, _⟩ := hW
  have hA : DataW.TrodAll enc Tryd.prog W 0 (fun _ => true) true Tryd.f14.params.toList args.toList ds p := hA0
  rw [Tryd.params14] at hA hval
  obtain ⟨v0, d0, rfl, rfl, h0⟩ := trodAll_one hA
  obtain ⟨rfl, rfl⟩ := trodVars_none hV
  obtain ⟨A, A', n, c, m, d, ws, ts, rfl, hi, ht⟩ := open_case (hval 0 _ v0 rfl rfl) h0
  refine (aparts_any A A' n c m d ws ts W hi ht (of_laid hL)).mono fun e W' h => ?_
  obtain ⟨v, he, hv, hb⟩ := h
  subst hv
  exact ⟨_, he, law_post hW' (by kernel_rfl) rfl (by kernel_rfl) ⟨rfl, rfl, rfl⟩ hb⟩

theorem probeAparts_holds : Rows.ProbeApartsSaid :=
  OpenClaim.holds_of_wide (p := Tryd.pinned) (s := Rows.probeApartsSpec) (c := Rows.probeApartsRow) 14 Tryd.f14 rfl rfl rfl rfl rfl rfl rfl ⟨rfl, rfl, rfl, rfl, rfl⟩ rfl rfl rfl rfl rfl (by kernel_rfl) Tryd.func14 (by kernel_rfl)
    (of_decide_eq_true (by kernel_rfl)) (by unfold Func.isWrapper; first | (rw [if_pos (by decide +kernel)]; kernel_rfl) | (rw [if_neg (by decide +kernel)]; exact ⟨rfl, rfl⟩))
    (fun os started H enc _ => aparts_lifted os started H enc)
theorem probeAparts_card : Rows.ProbeApartsCardSaid :=
  Claim7.holds_tied_plain_at .later [] [.data, .data] true (true, "38c1aa4ed9e0ce259c420741a4d7d6997ee23614cb19af7f4092c45993d9547e") false
    probeAparts_holds (fun _ h => by cases h) (by kernel_rfl) (fun _ h => by cases h) probeAparts_row_tie rfl ⟨rfl, rfl⟩ (by kernel_rfl) rfl
    (fun f fn hf hfn => by
      obtain rfl : f = 14 := Option.some.inj ((show Tryd.prog.funcNamed "tourbillon/tourbillonlaw05.ProbeAparts" = some 14 by kernel_rfl).symm.trans hf) |>.symm
      obtain rfl : fn = Tryd.f14 := (Option.some.inj (Tryd.func14.symm.trans hfn)).symm
      exact ⟨by kernel_rfl, fun j t ht => by
        rw [Tryd.params14] at ht
        have hm : t ∈ [25] := by simpa using Array.mem_of_getElem? ht
        have hall : ([25].all fun u => !Tryd.prog.wantsStandIn u) = true := by kernel_rfl
        exact (show Tryd.prog.wantsStandIn t = false by simpa using List.all_eq_true.1 hall t hm)⟩)
    (by kernel_rfl)
end Go.Proofs.YtcjddfhhofoidaaDoor
