/- Plain law: a line whose errors at three readings are of one size with signs that alternate is the best one if no other three readings bend more; there is just one such line. No program stands here. -/
import Derived.Test.YtcbffkkcldnegaaRat
set_option linter.unusedVariables false
set_option linter.unusedSimpArgs false
namespace Go.Proofs.Tb
theorem alt_up {ti tj tk fi fj fk E : Rat} (h1 : ti < tj) (h2 : tj < tk) (a : E ≤ fi) (b : fj ≤ -E) (c : E ≤ fk) (s : E < fi ∨ fj < -E ∨ E < fk) :
    fj * (tk - ti) - fi * (tk - tj) - fk * (tj - ti) < -(2 * E * (tk - ti)) := by
  have p1 : 0 ≤ (fi - E) * (tk - tj) := Rat.mul_nonneg (by grind) (by grind)
  have p2 : 0 ≤ (-E - fj) * (tk - ti) := Rat.mul_nonneg (by grind) (by grind)
  have p3 : 0 ≤ (fk - E) * (tj - ti) := Rat.mul_nonneg (by grind) (by grind)
  rcases s with s | s | s
  · have : 0 < (fi - E) * (tk - tj) := Rat.mul_pos (by grind) (by grind)
    grind
  · have : 0 < (-E - fj) * (tk - ti) := Rat.mul_pos (by grind) (by grind)
    grind
  · have : 0 < (fk - E) * (tj - ti) := Rat.mul_pos (by grind) (by grind)
    grind
theorem alt_dn {ti tj tk fi fj fk E : Rat} (h1 : ti < tj) (h2 : tj < tk) (a : fi ≤ -E) (b : E ≤ fj) (c : fk ≤ -E) (s : fi < -E ∨ E < fj ∨ fk < -E) :
    2 * E * (tk - ti) < fj * (tk - ti) - fi * (tk - tj) - fk * (tj - ti) := by
  have h := alt_up (fi := -fi) (fj := -fj) (fk := -fk) (E := E) h1 h2 (by grind) (by grind) (by grind) (by rcases s with s | s | s; exact Or.inl (by grind); exact Or.inr (Or.inl (by grind)); exact Or.inr (Or.inr (by grind)))
  grind
/-- The bend of three values, times the outer distance. -/
def bd3 (t f : Nat → Rat) (i j k : Nat) : Rat := f j * (t k - t i) - f i * (t k - t j) - f k * (t j - t i)
theorem cheb (n : Nat) (t f : Nat → Rat) (mono : ∀ i j, i < j → j < n → t i < t j) (E : Rat) (hE : 0 < E) (a b c : Nat) (hab : a < b) (hbc : b < c) (hcn : c < n)
    (fa : f a = E) (fb : f b = -E) (fc : f c = E) (B : ∀ i j k, i < j → j < k → k < n → -(2 * E * (t k - t i)) ≤ bd3 t f i j k ∧ bd3 t f i j k ≤ 2 * E * (t k - t i)) :
    ∀ m, m < n → -E ≤ f m ∧ f m ≤ E := by
  intro m hm
  have up : ∀ i j k, i < j → j < k → k < n → E ≤ f i → f j ≤ -E → E ≤ f k → (E < f i ∨ f j < -E ∨ E < f k) → False := by
    intro i j k h1 h2 h3 g1 g2 g3 g4
    have := alt_up (mono i j h1 (by omega)) (mono j k h2 h3) g1 g2 g3 g4
    have hB := (B i j k h1 h2 h3).1
    unfold bd3 at hB
    exact absurd this (Rat.not_lt.2 hB)
  have dn : ∀ i j k, i < j → j < k → k < n → f i ≤ -E → E ≤ f j → f k ≤ -E → (f i < -E ∨ E < f j ∨ f k < -E) → False := by
    intro i j k h1 h2 h3 g1 g2 g3 g4
    have := alt_dn (mono i j h1 (by omega)) (mono j k h2 h3) g1 g2 g3 g4
    have hB := (B i j k h1 h2 h3).2
    unfold bd3 at hB
    exact absurd this (Rat.not_lt.2 hB)
  constructor
  · rcases Rat.le_total (a := -E) (b := f m) with h | h
    · exact h
    by_cases he : f m = -E
    · rw [he]; exact Rat.le_refl
    have hlt : f m < -E := Rat.lt_of_le_of_ne h he
    exfalso
    by_cases h1 : m < a
    · exact dn m a b h1 hab (by omega) h (by grind) (by grind) (Or.inl hlt)
    by_cases h2 : m = a
    · subst h2; grind
    by_cases h3 : m < b
    · exact up a m c (by omega) (by omega) hcn (by grind) h (by grind) (Or.inr (Or.inl hlt))
    by_cases h4 : m = b
    · subst h4; grind
    by_cases h5 : m < c
    · exact up a m c (by omega) h5 hcn (by grind) h (by grind) (Or.inr (Or.inl hlt))
    by_cases h6 : m = c
    · subst h6; grind
    · exact dn b c m hbc (by omega) hm (by grind) (by grind) h (Or.inr (Or.inr hlt))
  · rcases Rat.le_total (a := f m) (b := E) with h | h
    · exact h
    by_cases he : f m = E
    · rw [he]; exact Rat.le_refl
    have hlt : E < f m := Rat.lt_of_le_of_ne h (fun e => he e.symm)
    exfalso
    by_cases h1 : m < a
    · exact up m b c (by omega) hbc hcn h (by grind) (by grind) (Or.inl hlt)
    by_cases h2 : m = a
    · subst h2; grind
    by_cases h3 : m < b
    · exact up m b c h3 hbc hcn h (by grind) (by grind) (Or.inl hlt)
    by_cases h4 : m = b
    · subst h4; grind
    by_cases h5 : m < c
    · exact up a b m hab (by omega) hm (by grind) (by grind) h (Or.inr (Or.inr hlt))
    by_cases h6 : m = c
    · subst h6; grind
    · exact up a b m hab (by omega) hm (by grind) (by grind) h (Or.inr (Or.inr hlt))
/-- Values on a line that are from 0 up, up to 0 and from 0 up are 0 at the outer two. -/
theorem three_zero {da db dc ta tb tc : Rat} (h1 : ta < tb) (h2 : tb < tc) (hid : db * (tc - ta) = da * (tc - tb) + dc * (tb - ta)) (ha : 0 ≤ da) (hb : db ≤ 0) (hc : 0 ≤ dc) : da = 0 ∧ dc = 0 := by
  have p1 : 0 ≤ da * (tc - tb) := Rat.mul_nonneg ha (by grind)
  have p2 : 0 ≤ dc * (tb - ta) := Rat.mul_nonneg hc (by grind)
  have p3 : 0 ≤ (-db) * (tc - ta) := Rat.mul_nonneg (by grind) (by grind)
  have e1 : da * (tc - tb) = 0 := by grind
  have e2 : dc * (tb - ta) = 0 := by grind
  constructor
  · rcases Rat.mul_eq_zero.1 e1 with h | h
    · exact h
    · grind
  · rcases Rat.mul_eq_zero.1 e2 with h | h
    · exact h
    · grind
/-- The error of a line at a reading. -/
def er (t y : Nat → Rat) (s h : Rat) (i : Nat) : Rat := y i - (s * t i + h)
/-- The line s, h is the best one, and E its greatest error. -/
structure IsLeast (n : Nat) (t y : Nat → Rat) (s h E : Rat) : Prop where
  le : ∀ i, i < n → -E ≤ er t y s h i ∧ er t y s h i ≤ E
  alt : E = 0 ∨ ∃ a b c, a < b ∧ b < c ∧ c < n ∧ er t y s h b = -er t y s h a ∧ er t y s h c = er t y s h a ∧ (er t y s h a = E ∨ er t y s h a = -E)
section
variable {n : Nat} {t y : Nat → Rat} {s h E s' h' E' : Rat}
theorem IsLeast.nonneg (hn : 0 < n) (k : IsLeast n t y s h E) : 0 ≤ E := by have := k.le 0 hn; grind
theorem same_two {ta tb s s' h h' : Rat} (hlt : ta < tb) (e1 : s * ta + h = s' * ta + h') (e2 : s * tb + h = s' * tb + h') : s = s' ∧ h = h' := by
  have e : (s - s') * (tb - ta) = 0 := by grind
  rcases Rat.mul_eq_zero.1 e with g | g
  · constructor <;> grind
  · grind
theorem IsLeast.uniq_le (mono : ∀ i j, i < j → j < n → t i < t j) (hn : 2 ≤ n) (k : IsLeast n t y s h E) (k' : IsLeast n t y s' h' E') (hle : E' ≤ E) : s = s' ∧ h = h' ∧ E = E' := by
  have n0 := k.nonneg (by omega)
  have n0' := k'.nonneg (by omega)
  rcases k.alt with h0 | ⟨a, b, c, hab, hbc, hcn, eb, ec, ea⟩
  · have e0 : E' = 0 := by grind
    have a0 := k.le 0 (by omega)
    have a1 := k.le 1 (by omega)
    have b0 := k'.le 0 (by omega)
    have b1 := k'.le 1 (by omega)
    unfold er at a0 a1 b0 b1
    have := same_two (ta := t 0) (tb := t 1) (s := s) (s' := s') (h := h) (h' := h') (mono 0 1 (by omega) (by omega)) (by grind) (by grind)
    exact ⟨this.1, this.2, by grind⟩
  · have ma := mono a b hab (by omega)
    have mc := mono b c hbc hcn
    have la := k'.le a (by omega)
    have lb := k'.le b (by omega)
    have lc := k'.le c hcn
    have key : er t y s h a = er t y s' h' a ∧ er t y s h c = er t y s' h' c := by
      rcases ea with ea | ea
      · have := three_zero (da := er t y s h a - er t y s' h' a) (db := er t y s h b - er t y s' h' b) (dc := er t y s h c - er t y s' h' c) ma mc (by unfold er; grind) (by grind) (by grind) (by grind)
        constructor <;> grind
      · have := three_zero (da := er t y s' h' a - er t y s h a) (db := er t y s' h' b - er t y s h b) (dc := er t y s' h' c - er t y s h c) ma mc (by unfold er; grind) (by grind) (by grind) (by grind)
        constructor <;> grind
    have := same_two (ta := t a) (tb := t c) (s := s) (s' := s') (h := h) (h' := h') (mono a c (by omega) hcn) (by have := key.1; unfold er at this; grind) (by have := key.2; unfold er at this; grind)
    exact ⟨this.1, this.2, by grind⟩
theorem IsLeast.uniq (mono : ∀ i j, i < j → j < n → t i < t j) (hn : 2 ≤ n) (k : IsLeast n t y s h E) (k' : IsLeast n t y s' h' E') : s = s' ∧ h = h' ∧ E = E' := by
  rcases Rat.le_total (a := E') (b := E) with hle | hle
  · exact k.uniq_le mono hn k' hle
  · obtain ⟨a, b, c⟩ := k'.uniq_le mono hn k hle
    exact ⟨a.symm, b.symm, c.symm⟩
/-- No line has a lesser greatest error. -/
theorem IsLeast.best (mono : ∀ i j, i < j → j < n → t i < t j) (hn : 2 ≤ n) (k : IsLeast n t y s h E) (hl : ∀ i, i < n → -E' ≤ er t y s' h' i ∧ er t y s' h' i ≤ E') : E ≤ E' := by
  have n0' : 0 ≤ E' := by have := hl 0 (by omega); grind
  rcases k.alt with h0 | ⟨a, b, c, hab, hbc, hcn, eb, ec, ea⟩
  · rw [h0]; exact n0'
  · have ma := mono a b hab (by omega)
    have mc := mono b c hbc hcn
    have la := hl a (by omega)
    have lb := hl b (by omega)
    have lc := hl c hcn
    rcases Rat.le_total (a := E) (b := E') with hle | hle
    · exact hle
    rcases ea with ea | ea
    · have := three_zero (da := er t y s h a - er t y s' h' a) (db := er t y s h b - er t y s' h' b) (dc := er t y s h c - er t y s' h' c) ma mc (by unfold er; grind) (by grind) (by grind) (by grind)
      grind
    · have := three_zero (da := er t y s' h' a - er t y s h a) (db := er t y s' h' b - er t y s h b) (dc := er t y s' h' c - er t y s h c) ma mc (by unfold er; grind) (by grind) (by grind) (by grind)
      grind
/-- The bends of the errors are those of the readings. -/
theorem bd3_er (i j k : Nat) : bd3 t (er t y s h) i j k = bd3 t y i j k := by unfold bd3 er; grind
/-- The line of the three readings that bend most. -/
theorem IsLeast.of_max (mono : ∀ i j, i < j → j < n → t i < t j) (a b c : Nat) (hab : a < b) (hbc : b < c) (hcn : c < n) (g : Rat) (hg : g ≠ 0)
    (ea : er t y s h a = -g) (eb : er t y s h b = g) (ec : er t y s h c = -g)
    (B : ∀ i j k, i < j → j < k → k < n → -(2 * rab g * (t k - t i)) ≤ bd3 t y i j k ∧ bd3 t y i j k ≤ 2 * rab g * (t k - t i)) : IsLeast n t y s h (rab g) := by
  unfold rab at *
  by_cases hg0 : g < 0
  · rw [if_pos hg0] at B ⊢
    refine ⟨?_, Or.inr ⟨a, b, c, hab, hbc, hcn, by grind, by grind, by grind⟩⟩
    exact cheb n t (er t y s h) mono (-g) (by grind) a b c hab hbc hcn (by grind) (by grind) (by grind) (fun i j k h1 h2 h3 => by rw [bd3_er]; exact B i j k h1 h2 h3)
  · rw [if_neg hg0] at B ⊢
    refine ⟨?_, Or.inr ⟨a, b, c, hab, hbc, hcn, by grind, by grind, by grind⟩⟩
    have hc := cheb n t (fun i => -er t y s h i) mono g (by grind) a b c hab hbc hcn (by grind) (by grind) (by grind) (fun i j k h1 h2 h3 => by
      have e : bd3 t (fun i => -er t y s h i) i j k = -bd3 t y i j k := by have h0 := bd3_er (t := t) (y := y) (s := s) (h := h) i j k; unfold bd3 at h0 ⊢; grind
      rw [e]; have := B i j k h1 h2 h3; grind)
    intro m hm
    have := hc m hm
    grind
/-- The line through the first and the last reading, if nothing bends. -/
theorem IsLeast.of_flat (mono : ∀ i j, i < j → j < n → t i < t j) (hn : 2 ≤ n) (e0 : er t y s h 0 = 0) (el : er t y s h (n - 1) = 0) (B : ∀ i j k, i < j → j < k → k < n → bd3 t y i j k = 0) : IsLeast n t y s h 0 := by
  refine ⟨fun i hi => ?_, Or.inl rfl⟩
  have : er t y s h i = 0 := by
    by_cases h1 : i = 0
    · rw [h1]; exact e0
    by_cases h2 : i = n - 1
    · rw [h2]; exact el
    have hb := B 0 i (n - 1) (by omega) (by omega) (by omega)
    rw [← bd3_er (s := s) (h := h)] at hb
    unfold bd3 at hb
    rw [e0, el] at hb
    have hm := mono 0 (n - 1) (by omega) (by omega)
    have : er t y s h i * (t (n - 1) - t 0) = 0 := by grind
    rcases Rat.mul_eq_zero.1 this with g | g
    · exact g
    · grind
  rw [this]; constructor <;> grind
end
end Go.Proofs.Tb
