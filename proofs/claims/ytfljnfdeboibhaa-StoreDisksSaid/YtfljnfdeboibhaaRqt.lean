/- A disk does every act, in any order, as the document says, and a clone is independent (StoreDisks). No condition. -/
import Derived.Test.YtfljnfdeboibhaaSwp
import Derived.Test.YtfljnfdeboibhaaRqs
import Derived.ChangeSlices
set_option linter.unusedVariables false
set_option linter.unusedSimpArgs false
namespace Go.Proofs.Tb
open Go.ChangeShapes Go.WideShapes Go.ChangeAt Go.RowKit Go.Deep
abbrev TAS : TypeId := 72
set_option maxRecDepth 100000 in
theorem open_byx {H : Type} {enc : TypeId × Value → H} {W : World} {base fuel : Nat} {spare : Nat → Bool} {held : Bool} {cs : List Value} {x : DataW H × List MemPlace}
    (hf : DataW.trod enc Try.prog W base spare held fuel TBY cs = some x) : ∃ (A : Option Addr) (n c : Nat), cs = [.slice A n c] ∧ ByX W A n c := by
  rcases open_ints Try.underlying44 Try.underlying5 (by kernel_rfl) hf with ⟨h0, _⟩ | ⟨a, n, c, zs, hcs, _, hl, hm, hz, _, hc, hw⟩
  · exact ⟨none, 0, 0, h0, ⟨[], Rv.nil _ _, fun b hb => absurd hb (by simp)⟩⟩
  · have hzn : n ≤ zs.length := by rw [hz]; split <;> omega
    have hrg : ∀ z ∈ zs, 0 ≤ z ∧ z ≤ 255 := fun z hzm => by
      have := hw z hzm
      unfold Lit.wf at this
      simp only [Bool.and_eq_true, decide_eq_true_eq] at this
      obtain ⟨h1, h2⟩ := this
      have e1 : IntKind.u8.min = 0 := by decide
      have e2 : IntKind.u8.max = 255 := by decide
      rw [e1] at h1
      rw [e2] at h2
      exact ⟨h1, h2⟩
    refine ⟨some a, n, c, hcs, ⟨(zs.take n).map Int.toNat, ⟨by rw [bc_len, List.length_map, List.length_take]; omega, hl, by simpa [maxLen] using hm, fun h0 => ?_⟩, fun b hb => ?_⟩⟩
    · obtain ⟨bb, off, spot⟩ := a
      have hs0 := hc 0 (by omega)
      have hspot : spot = none := by simpa [Addr.add] using World.cell?_spot hs0
      subst hspot
      refine ⟨bb, off, rfl, fun j u hu => ?_⟩
      have hj : j < n := by
        have := (List.getElem?_eq_some_iff.1 hu).1
        rw [bc_len, List.length_map, List.length_take] at this
        omega
      have h1 := hc j (by omega)
      have hadd : (⟨bb, off, none⟩ : Addr).add j = ⟨bb, off + j, none⟩ := by simp only [Addr.add]; split <;> simp_all
      rw [hadd] at h1
      rw [h1]
      have hjz : j < zs.length := by omega
      unfold bc at hu
      rw [List.getElem?_map, List.getElem?_map, List.getElem?_take, if_pos hj, List.getElem?_eq_getElem hjz] at hu
      injection hu with hu
      rw [← hu, List.getD_eq_getElem?_getD, List.getElem?_eq_getElem hjz]
      have := (hrg _ (List.getElem_mem hjz)).1
      show some (Value.int IntKind.u8 zs[j]) = some (Value.int IntKind.u8 ((zs[j].toNat : Nat) : Int))
      rw [Int.toNat_of_nonneg this]
    · obtain ⟨z, hzm, rfl⟩ := List.mem_map.1 hb
      have := hrg z (List.mem_of_mem_take hzm)
      omega
set_option maxRecDepth 100000 in
theorem open_acs {H : Type} {enc : TypeId × Value → H} {W : World} {b0 base : Nat} {r : Reach} {spare : Nat → Bool} {held : Bool} {v : Value} {d : DataW H} {p : List MemPlace}
    (hv : Value.okWide Try.prog W r b0 TAS v) (h : DataW.Trod enc Try.prog W base spare held TAS v d p) : ∃ (A : Option Addr) (n c : Nat), v = .slice A n c ∧ AcX W A n c := by
  obtain ⟨A, n, c, rfl⟩ := okWide_slice Try.underlying72 hv
  obtain ⟨fuel, hf⟩ := h
  rcases open_slice_fields Try.underlying72 Try.underlying78 (by kernel_rfl) (by kernel_rfl) hf with h0 | ⟨a, len, cap, hcs, hl, hm, hi⟩
  · simp [Value.cells] at h0
    obtain ⟨rfl, rfl, rfl⟩ := h0
    exact ⟨none, 0, 0, rfl, ⟨Nat.le_refl _, by omega, fun j hj => absurd hj (by omega)⟩⟩
  · simp [Value.cells] at hcs
    obtain ⟨rfl, rfl, rfl⟩ := hcs
    refine ⟨some a, n, c, rfl, ⟨hl, by simpa [maxLen] using hm, fun j hj => ?_⟩⟩
    obtain ⟨v0, y0, n0, h10, h20⟩ := hi j hj 0 _ rfl
    obtain ⟨v1, y1, n1, h11, h21⟩ := hi j hj 1 _ rfl
    obtain ⟨v2, y2, n2, h12, h22⟩ := hi j hj 2 _ rfl
    obtain ⟨k, e0, _, hwf⟩ := DataW.trod_int Try.underlying5 h20
    obtain ⟨N, e1, _, hwN⟩ := DataW.trod_int Try.underlying3 h21
    obtain ⟨Ak, nk, ck, e2, hby⟩ := open_byx h22
    have e0' : v0 = .int .u8 k := by simpa using e0
    have e1' : v1 = .int .i64 N := by simpa using e1
    have e2' : v2 = .slice Ak nk ck := by simpa using e2
    subst e0' e1' e2'
    have hkr : 0 ≤ k ∧ k ≤ 255 := by
      unfold Lit.wf at hwf
      simp only [Bool.and_eq_true, decide_eq_true_eq] at hwf
      obtain ⟨h1, h2⟩ := hwf
      have e1 : IntKind.u8.min = 0 := by decide
      have e2 : IntKind.u8.max = 255 := by decide
      rw [e1] at h1
      rw [e2] at h2
      exact ⟨h1, h2⟩
    have hNr : -9223372036854775808 ≤ N ∧ N ≤ 9223372036854775807 := by
      unfold Lit.wf at hwN
      simp only [Bool.and_eq_true, decide_eq_true_eq] at hwN
      obtain ⟨h1, h2⟩ := hwN
      have e1 : IntKind.i64.min = -9223372036854775808 := by decide
      have e2 : IntKind.i64.max = 9223372036854775807 := by decide
      rw [e1] at h1
      rw [e2] at h2
      exact ⟨h1, h2⟩
    obtain ⟨kd, rfl⟩ : ∃ kd : Nat, k = (kd : Int) := ⟨k.toNat, by omega⟩
    obtain ⟨bb, off, spot⟩ := a
    have hspot : spot = none := by
      obtain ⟨vz, yz, nz, hz, _⟩ := hi 0 (by omega) 0 _ rfl
      have hz' : W.cell? ((⟨bb, off, spot⟩ : Addr).add 0) = some vz := by rw [← hz]; simp
      simpa [Addr.add] using World.cell?_spot hz'
    subst hspot
    have hadd : ∀ j, (⟨bb, off, none⟩ : Addr).add j = ⟨bb, off + j, none⟩ := fun j => by simp only [Addr.add]; split <;> simp_all
    refine ⟨bb, off, rfl, kd, N, Ak, nk, ck, by omega, hNr.1, hNr.2, ?_, ?_, ?_, hby⟩
    · have h' : W.cell? ((⟨bb, off, none⟩ : Addr).add (j * 3 + 0)) = some (.int .u8 (kd : Int)) := h10
      rw [hadd, Nat.add_zero] at h'
      exact h'
    · have h' : W.cell? ((⟨bb, off, none⟩ : Addr).add (j * 3 + 1)) = some (.int .i64 N) := h11
      rw [hadd, ← Nat.add_assoc] at h'
      exact h'
    · have h' : W.cell? ((⟨bb, off, none⟩ : Addr).add (j * 3 + 2)) = some (.slice Ak nk ck) := h12
      rw [hadd, ← Nat.add_assoc] at h'
      exact h'
end Go.Proofs.Tb
namespace Go.Proofs.Ytfljnfdeboibhaa
open Go.ChangeShapes Go.WideShapes Go.ChangeAt Go.RowKit Go.Proofs.Tb

set_option maxRecDepth 100000 in
theorem disks_lifted (os : Os) (started : os.Started) (H : Type) (enc : TypeId × Value → H) :
    ReturnsInHanded {} Try.checked os 8 .any (Rows.storeDisksSpec.pre6 enc Try.prog Try.f8 Rows.storeDisksRow.domain false) (Rows.storeDisksSpec.post enc Try.prog Try.f8 false true false false) := by
  refine returnsInHanded_of_change (C := Try.checked) ownk started (by kernel_rfl) Try.func8
    (ChangeSpec.witness6 (enc := enc) (C := Try.checked) false ⟨#[], #[.slice none 0 0, .int .i64 0], []⟩ 8 (by kernel_rfl) (by kernel_rfl) (by kernel_rfl) (by kernel_rfl)) ?_
  intro W base args ds gs before hval0 hW _ _
  have hval : ∀ (j : Nat) t v, Try.f8.params[j]? = some t → args[j]? = some v → Value.okWide Try.prog W .any base t v := hval0
  have hW' := hW
  obtain ⟨p, q, hA0, hV, rfl, _, _⟩ := hW
  have hA : DataW.TrodAll enc Try.prog W 0 (fun _ => true) true Try.f8.params.toList args.toList ds p := hA0
  rw [Try.params8] at hA hval
  obtain ⟨v0, v1, d0, d1, p0, p1, rfl, rfl, rfl, h0, h1⟩ := trodAll_two hA
  obtain ⟨rfl, rfl⟩ := trodVars_none hV
  obtain ⟨A, n, c, rfl, hax⟩ := open_acs (hval 0 _ v0 rfl rfl) h0
  obtain ⟨y, rfl, _, _, _⟩ := open_int Try.underlying3 (hval 1 3 v1 rfl rfl) h1
  refine (rdisks_any A n c y W hax).mono fun e W' h => ?_
  obtain ⟨v, he, hv, hb⟩ := h
  subst hv
  exact ⟨_, he, law_post hW' (by kernel_rfl) rfl (by kernel_rfl) ⟨rfl, rfl, rfl⟩ hb⟩

theorem storeDisks_holds : Rows.StoreDisksSaid :=
  OpenClaim.holds_of_wide (p := Try.pinned) (s := Rows.storeDisksSpec) (c := Rows.storeDisksRow) 8 Try.f8 rfl rfl rfl rfl rfl rfl rfl ⟨rfl, rfl, rfl, rfl, rfl⟩ rfl rfl rfl rfl rfl (by kernel_rfl) Try.func8 (by kernel_rfl)
    (of_decide_eq_true (by kernel_rfl)) (by unfold Func.isWrapper; first | (rw [if_pos (by decide +kernel)]; kernel_rfl) | (rw [if_neg (by decide +kernel)]; exact ⟨rfl, rfl⟩))
    (fun os started H enc _ => disks_lifted os started H enc)
end Go.Proofs.Ytfljnfdeboibhaa
