/- For every case, three weights and a cost: Floor is at most the cost of Best, and is it where all tests cost the same and any set of classes is shown by a test, for three classes (ProbeFloor). No condition. -/
import Derived.Test.YtcjddfhhofoidaaDoorLzh
import Derived.Test.YtcjddfhhofoidaaDoorFld
import Derived.Test.YtcjddfhhofoidaaDoorTie
import Derived.Test.YtcjddfhhofoidaaDoorCards
import Derived.SevenTiedAt
set_option linter.unusedVariables false
set_option linter.unusedSimpArgs false
namespace Go.Proofs.YtcjddfhhofoidaaDoor
open Go.ChangeShapes Go.WideShapes Go.ChangeAt Go.WideElems Go.RowKit Go.Proofs.Tb

set_option maxRecDepth 100000 in
theorem floor_lifted (os : Os) (started : os.Started) (H : Type) (enc : TypeId × Value → H) :
    ReturnsInHanded {} Tryd.checked os 11 .any (fun w args => (Rows.probeFloorSpec.pre enc Tryd.prog Tryd.f11 [] false w args ∧ laidMetH Tryd.prog lad2 w) ∧ sizedMet enc Tryd.prog Tryd.f11 (OpenSpec.ofChange Rows.probeFloorSpec) false w args)
      (Rows.probeFloorSpec.post enc Tryd.prog Tryd.f11 false true false false) := by
  refine returnsInHanded_of_change_and (C := Tryd.checked) (X := fun w _ => laidMetH Tryd.prog lad2 w) (fun _ _ _ hh h => h.of_heap hh) ownk started (by kernel_rfl) Tryd.func11
    (ChangeSpec.witness_shaped (enc := enc) (C := Tryd.checked) (os := os) (X := fun w _ => laidMetH Tryd.prog lad2 w) false (World.doorLaid Tryd.prog 400 os) #[.agg #[.slice none 0 0, .slice none 0 0], .agg #[.int .i64 0, .int .i64 0, .int .i64 0], .int .i64 0] 8 rfl (World.shaped_of_RefB (by kernel_rfl) (by kernel_rfl)) (by kernel_rfl) (by kernel_rfl) (by kernel_rfl) (door_met os _)) ?_
  intro W base args ds gs before hval0 hW _ _ hL _
  have hval : ∀ (j : Nat) t v, Tryd.f11.params[j]? = some t → args[j]? = some v → Value.okWide Tryd.prog W .any base t v := hval0
  have hW' := hW
  obtain ⟨p, q, hA0, hV, rfl, _, _⟩ := hW
  have hA : DataW.TrodAll enc Tryd.prog W 0 (fun _ => true) true Tryd.f11.params.toList args.toList ds p := hA0
  rw [Tryd.params11] at hA hval
  obtain ⟨v0, v1, v2, d0, d1, d2, p0, p1, p2, rfl, rfl, rfl, h0, h1, h2⟩ := trodAll_three hA
  obtain ⟨rfl, rfl⟩ := trodVars_none hV
  obtain ⟨A, A', n, c, m, d, ws, ts, rfl, hi, ht⟩ := open_case (hval 0 _ v0 rfl rfl) h0
  obtain ⟨x0, x1, x2, rfl⟩ := open_arr3 (hval 1 _ v1 rfl rfl) h1
  obtain ⟨y, rfl, _, _, _⟩ := open_int Tryd.underlying3 (hval 2 3 v2 rfl rfl) h2
  refine (lawfloor_any A A' n c m d x0 x1 x2 y ws ts W hi ht (of_laid hL)).mono fun e W' h => ?_
  obtain ⟨v, he, hv, hb⟩ := h
  subst hv
  exact ⟨_, he, law_post hW' (by kernel_rfl) rfl (by kernel_rfl) ⟨rfl, rfl, rfl⟩ hb⟩

theorem probeFloor_holds : Rows.ProbeFloorSaid :=
  OpenClaim.holds_of_wide (p := Tryd.pinned) (s := Rows.probeFloorSpec) (c := Rows.probeFloorRow) 11 Tryd.f11 rfl rfl rfl rfl rfl rfl rfl ⟨rfl, rfl, rfl, rfl, rfl⟩ rfl rfl rfl rfl rfl (by kernel_rfl) Tryd.func11 (by kernel_rfl)
    (of_decide_eq_true (by kernel_rfl)) (by unfold Func.isWrapper; first | (rw [if_pos (by decide +kernel)]; kernel_rfl) | (rw [if_neg (by decide +kernel)]; exact ⟨rfl, rfl⟩))
    (fun os started H enc _ => floor_lifted os started H enc)
theorem probeFloor_card : Rows.ProbeFloorCardSaid :=
  Claim7.holds_tied_plain_at .later [] [.data, .data] true (true, "38c1aa4ed9e0ce259c420741a4d7d6997ee23614cb19af7f4092c45993d9547e") false
    probeFloor_holds (fun _ h => by cases h) (by kernel_rfl) (fun _ h => by cases h) probeFloor_row_tie rfl ⟨rfl, rfl⟩ (by kernel_rfl) rfl
    (fun f fn hf hfn => by
      obtain rfl : f = 11 := Option.some.inj ((show Tryd.prog.funcNamed "tourbillon/tourbillonlaw05.ProbeFloor" = some 11 by kernel_rfl).symm.trans hf) |>.symm
      obtain rfl : fn = Tryd.f11 := (Option.some.inj (Tryd.func11.symm.trans hfn)).symm
      exact ⟨by kernel_rfl, fun j t ht => by
        rw [Tryd.params11] at ht
        have hm : t ∈ [25, 77, 3] := by simpa using Array.mem_of_getElem? ht
        have hall : ([25, 77, 3].all fun u => !Tryd.prog.wantsStandIn u) = true := by kernel_rfl
        exact (show Tryd.prog.wantsStandIn t = false by simpa using List.all_eq_true.1 hall t hm)⟩)
    (by kernel_rfl)
end Go.Proofs.YtcjddfhhofoidaaDoor
