/- The greatest error of the best line is its error; no line has a lesser one. No program stands here. -/
import Derived.Test.YthcialpcefhnnaaLawI
import Derived.Test.YthcialpcefhnnaaLaw2
set_option linter.unusedVariables false
set_option linter.unusedSimpArgs false
namespace Go.Proofs.Tb
open Go.RowKit

theorem rab_le {x E : Rat} : rab x ≤ E ↔ -E ≤ x ∧ x ≤ E := by
  unfold rab
  split <;> constructor <;> intro h <;> grind
theorem rab_ge {x E : Rat} (h : x = E ∨ x = -E) : E ≤ rab x := by
  unfold rab
  split <;> rcases h with h | h <;> grind
theorem wsT_nonneg (rs : List Rdg) (x y : Rat) : ∀ k, 0 ≤ wsT rs x y k := by
  intro k
  induction k with
  | zero => exact Rat.le_refl
  | succ k ih =>
    unfold wsT
    split
    · exact rab_nonneg _
    · exact ih
theorem wsT_ge (rs : List Rdg) (x y : Rat) : ∀ k i, i < k → rab (erQ x y (tm rs i) (ofs rs i)) ≤ wsT rs x y k := by
  intro k
  induction k with
  | zero => intro i hi; omega
  | succ k ih =>
    intro i hi
    unfold wsT
    by_cases hik : i = k
    · subst hik
      split
      · exact Rat.le_refl
      · grind
    · have := ih i (by omega)
      split
      · grind
      · exact this
theorem wsT_le (rs : List Rdg) (x y E : Rat) (hE : 0 ≤ E) : ∀ k, (∀ i, i < k → rab (erQ x y (tm rs i) (ofs rs i)) ≤ E) → wsT rs x y k ≤ E := by
  intro k
  induction k with
  | zero => intro _; exact hE
  | succ k ih =>
    intro h
    unfold wsT
    split
    · exact h k (by omega)
    · exact ih (fun i hi => h i (by omega))
theorem er_erQ (rs : List Rdg) (s h : Rat) (i : Nat) : er (tq rs) (yq rs) s h i = erQ s h (tm rs i) (ofs rs i) := rfl
theorem IsLeast.ws {rs : List Rdg} {s h E : Rat} (h0 : 0 < rs.length) (hi : IsLeast rs.length (tq rs) (yq rs) s h E) : wsT rs s h rs.length = E := by
  have hE := hi.nonneg h0
  have h1 := wsT_le rs s h E hE rs.length (fun i hil => rab_le.2 (by rw [← er_erQ]; exact hi.le i hil))
  have h2 : E ≤ wsT rs s h rs.length := by
    rcases hi.alt with he | ⟨a, b, c, hab, hbc, hcn, _, _, ea⟩
    · rw [he]; exact wsT_nonneg _ _ _ _
    · have := wsT_ge rs s h rs.length a (by omega)
      rw [← er_erQ] at this
      exact Rat.le_trans (rab_ge ea) this
  exact Rat.le_antisymm h1 h2
theorem IsLeast.ws_le {rs : List Rdg} {s h E x y : Rat} (hv : Vld rs) (hi : IsLeast rs.length (tq rs) (yq rs) s h E) : E ≤ wsT rs x y rs.length :=
  hi.best hv.tq_mono hv.1 (s' := x) (h' := y) (fun i hil => rab_le.1 (by rw [er_erQ]; exact wsT_ge rs x y rs.length i hil))
theorem fit_vf {x : Rat} (h : fitQ x) : VF x.num (x.den : Int) := by
  obtain ⟨h1, h2⟩ := h
  have h3 := x.den_pos
  unfold Lim at h1 h2
  refine ⟨⟨by omega, by omega, by omega, by omega⟩, ?_⟩
  have := x.reduced
  unfold Nat.Coprime at this
  unfold Int.gcd
  rw [Int.natAbs_natCast]
  exact this
theorem fit_rng {x : Rat} (h : fitQ x) : rngI x.num ∧ 0 < (x.den : Int) ∧ rngI (x.den : Int) := by
  obtain ⟨h1, h2⟩ := h
  have h3 := x.den_pos
  unfold Lim at h1 h2
  unfold rngI
  omega
/-- What Worst returns of the best line. -/
theorem WorstR.best {rs : List Rdg} {s h E : Rat} {v : Value} (hv : Vld rs) (hi : IsLeast rs.length (tq rs) (yq rs) s h E) (f1 : fitQ s) (f2 : fitQ h) (f3 : fitQ E)
    (hw : WorstR rs s.num (s.den : Int) h.num (h.den : Int) v) : v = .tuple #[.agg #[.int .i64 E.num, .int .i64 (E.den : Int)], .int .i64 0] := by
  have h1 := hw.1 ⟨hv, fit_vf f1, fit_vf f2⟩
  rw [qv_self, qv_self, hi.ws (by have := hv.1; omega)] at h1
  exact h1.1 f3
/-- What Worst returns of any line. -/
theorem WorstR.any {rs : List Rdg} {s h E : Rat} {a b c d : Int} {v : Value} (hv : Vld rs) (hi : IsLeast rs.length (tq rs) (yq rs) s h E)
    (hw : WorstR rs a b c d v) : (∃ F : Rat, fitQ F ∧ E ≤ F ∧ v = .tuple #[.agg #[.int .i64 F.num, .int .i64 (F.den : Int)], .int .i64 0]) ∨ v = .tuple #[.agg #[.int .i64 0, .int .i64 0], .int .i64 1] ∨ v = .tuple #[.agg #[.int .i64 0, .int .i64 0], .int .i64 5] := by
  by_cases hok : WoOk rs a b c d
  · have h1 := hw.1 hok
    by_cases hf : fitQ (wsT rs (qv a b) (qv c d) rs.length)
    · exact Or.inl ⟨_, hf, hi.ws_le hv, h1.1 hf⟩
    · exact Or.inr (Or.inr (h1.2 hf))
  · exact Or.inr (Or.inl (hw.2 hok))
theorem cmpR_le {x y : Rat} (h : x ≤ y) : cmpR x y ≤ 0 := by
  have : ¬ 0 < cmpR x y := fun h' => absurd (cmpR_gt.1 h') (Rat.not_lt.2 h)
  omega
end Go.Proofs.Tb
