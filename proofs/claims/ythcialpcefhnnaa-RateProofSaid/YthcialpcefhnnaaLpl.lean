/- The line of the three readings whose own error is the greatest is the best line. No program stands here. -/
import Derived.Test.YthcialpcefhnnaaWit
import Derived.Test.YthcialpcefhnnaaRefU
set_option linter.unusedVariables false
set_option linter.unusedSimpArgs false
namespace Go.Proofs.Tb
open Go.RowKit

/-- The own error of three readings' line. -/
def ow3 (rs : List Rdg) (i j k : Nat) : Rat := erQ (slQ rs i k) (thH rs i j k) (tm rs i) (ofs rs i)
/-- What holds of the best line of the triples ahead of (i, j, k). -/
def LInv (rs : List Rdg) (n i j k : Nat) (x y z : Rat) : Prop :=
  ((∀ i' j' k', i' < j' → j' < k' → k' < n → ¬ Bef i j k i' j' k') ∧ x = slQ rs 0 1 ∧ y = yq rs 0 - slQ rs 0 1 * tq rs 0 ∧ z = -1) ∨
  (∃ a b c, a < b ∧ b < c ∧ c < n ∧ x = slQ rs a c ∧ y = thH rs a b c ∧ z = rab (ow3 rs a b c) ∧ ∀ i' j' k', i' < j' → j' < k' → k' < n → Bef i j k i' j' k' → rab (ow3 rs i' j' k') ≤ z)
section
variable {rs : List Rdg} {n i j k : Nat} {x y z : Rat}
theorem LInv.start : LInv rs n 0 1 2 (slQ rs 0 1) (yq rs 0 - slQ rs 0 1 * tq rs 0) (-1) := Or.inl ⟨fun i' j' k' h1 h2 _ hb => by unfold Bef at hb; omega, rfl, rfl, rfl⟩
theorem LInv.weak {i2 j2 k2 : Nat} (h : LInv rs n i j k x y z) (hw : ∀ i' j' k', i' < j' → j' < k' → k' < n → (Bef i2 j2 k2 i' j' k' ↔ Bef i j k i' j' k')) : LInv rs n i2 j2 k2 x y z := by
  rcases h with ⟨h1, h2⟩ | ⟨a, b, c, h1, h2, h3, h4, h5, h6, h7⟩
  · exact Or.inl ⟨fun i' j' k' g1 g2 g3 g4 => h1 i' j' k' g1 g2 g3 ((hw _ _ _ g1 g2 g3).1 g4), h2⟩
  · exact Or.inr ⟨a, b, c, h1, h2, h3, h4, h5, h6, fun i' j' k' g1 g2 g3 g4 => h7 i' j' k' g1 g2 g3 ((hw _ _ _ g1 g2 g3).1 g4)⟩
theorem LInv.nextJ (h : LInv rs n i j n x y z) : LInv rs n i (j + 1) (j + 2) x y z := h.weak fun i' j' k' h1 h2 h3 => by unfold Bef; omega
theorem LInv.nextI (h : LInv rs n i n (n + 1) x y z) : LInv rs n (i + 1) (i + 2) (i + 3) x y z := h.weak fun i' j' k' h1 h2 h3 => by unfold Bef; omega
theorem LInv.take (h : LInv rs n i j k x y z) (h1 : i < j) (h2 : j < k) (h3 : k < n) (hz : z < rab (ow3 rs i j k)) : LInv rs n i j (k + 1) (slQ rs i k) (thH rs i j k) (rab (ow3 rs i j k)) := by
  refine Or.inr ⟨i, j, k, h1, h2, h3, rfl, rfl, rfl, fun i' j' k' g1 g2 g3 g4 => ?_⟩
  by_cases he : Bef i j k i' j' k'
  · rcases h with ⟨e1, _⟩ | ⟨a, b, c, _, _, _, _, _, _, e7⟩
    · exact absurd he (e1 i' j' k' g1 g2 g3)
    · have := e7 i' j' k' g1 g2 g3 he; grind
  · have : i' = i ∧ j' = j ∧ k' = k := by unfold Bef at he g4; omega
    obtain ⟨rfl, rfl, rfl⟩ := this
    exact Rat.le_refl
theorem LInv.skip (h : LInv rs n i j k x y z) (h1 : i < j) (h2 : j < k) (h3 : k < n) (hz : ¬ z < rab (ow3 rs i j k)) : LInv rs n i j (k + 1) x y z := by
  rcases h with ⟨e1, e2, e3, e4⟩ | ⟨a, b, c, e1, e2, e3, e4, e5, e6, e7⟩
  · exfalso
    have := rab_nonneg (ow3 rs i j k)
    rw [e4] at hz
    grind
  · refine Or.inr ⟨a, b, c, e1, e2, e3, e4, e5, e6, fun i' j' k' g1 g2 g3 g4 => ?_⟩
    by_cases he : Bef i j k i' j' k'
    · exact e7 i' j' k' g1 g2 g3 he
    · have : i' = i ∧ j' = j ∧ k' = k := by unfold Bef at he g4; omega
      obtain ⟨rfl, rfl, rfl⟩ := this
      exact Rat.not_lt.1 hz
end
theorem slQ_mul {rs : List Rdg} (hv : Vld rs) {i k : Nat} (hik : i < k) (hk : k < rs.length) : slQ rs i k * (tq rs k - tq rs i) = yq rs k - yq rs i := by
  have := hv.tq_mono i k hik hk
  unfold slQ
  exact Rat.div_mul_cancel (by grind)
theorem thH_two (rs : List Rdg) (i j k : Nat) : 2 * thH rs i j k = yq rs i - slQ rs i k * tq rs i + (yq rs j - slQ rs i k * tq rs j) := by
  unfold thH
  grind
/-- The errors of three readings' line at these three. -/
theorem three_er {rs : List Rdg} (hv : Vld rs) {i j k : Nat} (hij : i < j) (hjk : j < k) (hk : k < rs.length) :
    er (tq rs) (yq rs) (slQ rs i k) (thH rs i j k) i = ow3 rs i j k ∧ er (tq rs) (yq rs) (slQ rs i k) (thH rs i j k) j = -ow3 rs i j k ∧ er (tq rs) (yq rs) (slQ rs i k) (thH rs i j k) k = ow3 rs i j k := by
  have h1 := slQ_mul hv (show i < k by omega) hk
  have h2 := thH_two rs i j k
  have e0 : er (tq rs) (yq rs) (slQ rs i k) (thH rs i j k) i = ow3 rs i j k := rfl
  refine ⟨e0, ?_, ?_⟩
  · rw [← e0]; unfold er; grind
  · rw [← e0]; unfold er; grind
theorem three_bd {rs : List Rdg} (hv : Vld rs) {i j k : Nat} (hij : i < j) (hjk : j < k) (hk : k < rs.length) : bd3 (tq rs) (yq rs) i j k = -(2 * ow3 rs i j k * (tq rs k - tq rs i)) := by
  obtain ⟨a, b, c⟩ := three_er hv hij hjk hk
  rw [← bd3_er (s := slQ rs i k) (h := thH rs i j k)]
  unfold bd3
  rw [a, b, c]
  grind
theorem mul_le_of {a b c : Rat} (h : a ≤ b) (hc : 0 ≤ c) : a * c ≤ b * c := Rat.mul_le_mul_of_nonneg_right h hc
theorem LInv.least {rs : List Rdg} {x y z : Rat} (hv : Vld rs) (h : LInv rs rs.length rs.length (rs.length + 1) (rs.length + 2) x y z) : ∃ E, IsLeast rs.length (tq rs) (yq rs) x y E := by
  have hall : ∀ i' j' k', i' < j' → j' < k' → k' < rs.length → Bef rs.length (rs.length + 1) (rs.length + 2) i' j' k' := fun i' j' k' h1 h2 h3 => by unfold Bef; omega
  have hlen := hv.1
  rcases h with ⟨e1, rfl, rfl, _⟩ | ⟨a, b, c, e1, e2, e3, rfl, rfl, rfl, e7⟩
  · have h2 : rs.length = 2 := by
      apply Classical.byContradiction
      intro h2
      exact e1 0 1 2 (by omega) (by omega) (by omega) (hall 0 1 2 (by omega) (by omega) (by omega))
    refine ⟨0, fun i hi => ?_, Or.inl rfl⟩
    have h01 := slQ_mul hv (show 0 < 1 by omega) (by omega)
    have : er (tq rs) (yq rs) (slQ rs 0 1) (yq rs 0 - slQ rs 0 1 * tq rs 0) i = 0 := by
      have hi2 : i = 0 ∨ i = 1 := by omega
      unfold er
      rcases hi2 with rfl | rfl
      · grind
      · grind
    rw [this]; constructor <;> grind
  · obtain ⟨ea, eb, ec⟩ := three_er hv e1 e2 e3
    generalize hS : slQ rs a c = S at *
    generalize hH : thH rs a b c = H at *
    generalize hg : ow3 rs a b c = g at *
    by_cases h0 : g = 0
    · subst h0
      have hz : rab (0 : Rat) = 0 := by unfold rab; grind
      rw [hz] at e7
      have flat : ∀ i j k, i < j → j < k → k < rs.length → bd3 (tq rs) (er (tq rs) (yq rs) S H) i j k = 0 := by
        intro i j k h1 h2 h3
        rw [bd3_er, three_bd hv h1 h2 h3]
        have := e7 i j k h1 h2 h3 (hall i j k h1 h2 h3)
        have h5 := rab_zero (Rat.le_antisymm this (rab_nonneg _))
        rw [h5]; grind
      refine ⟨0, fun m hm => ?_, Or.inl rfl⟩
      have hac := hv.tq_mono a c (by omega) e3
      have : er (tq rs) (yq rs) S H m = 0 := by
        by_cases m1 : m < a
        · have := flat m a c m1 (by omega) e3
          unfold bd3 at this
          rw [ea, ec] at this
          have k2 : er (tq rs) (yq rs) S H m * (tq rs c - tq rs a) = 0 := by grind
          rcases Rat.mul_eq_zero.1 k2 with k2 | k2
          · exact k2
          · grind
        by_cases m2 : m = a
        · subst m2; exact ea
        by_cases m3 : m < c
        · have := flat a m c (by omega) m3 e3
          unfold bd3 at this
          rw [ea, ec] at this
          have k2 : er (tq rs) (yq rs) S H m * (tq rs c - tq rs a) = 0 := by grind
          rcases Rat.mul_eq_zero.1 k2 with k2 | k2
          · exact k2
          · grind
        by_cases m4 : m = c
        · subst m4; exact ec
        · have := flat a c m (by omega) (by omega) hm
          unfold bd3 at this
          rw [ea, ec] at this
          have k2 : er (tq rs) (yq rs) S H m * (tq rs c - tq rs a) = 0 := by grind
          rcases Rat.mul_eq_zero.1 k2 with k2 | k2
          · exact k2
          · grind
      rw [this]; constructor <;> grind
    · refine ⟨rab (-g), IsLeast.of_max hv.tq_mono a b c e1 e2 e3 (-g) (by grind) (by grind) (by grind) (by grind) fun i j k h1 h2 h3 => ?_⟩
      rw [three_bd hv h1 h2 h3, rab_neg]
      have h4 := e7 i j k h1 h2 h3 (hall i j k h1 h2 h3)
      obtain ⟨h5, h6⟩ := rab_le.1 h4
      have h7 : 0 ≤ tq rs k - tq rs i := by have := hv.tq_mono i k (by omega) h3; grind
      have m1 := mul_le_of h5 h7
      have m2 := mul_le_of h6 h7
      constructor <;> grind
end Go.Proofs.Tb
