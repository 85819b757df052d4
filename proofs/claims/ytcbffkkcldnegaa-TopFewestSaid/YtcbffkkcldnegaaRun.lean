/- Plain law: runs of points whose least greatest error is small: the longest one, and the greedy parting. No program stands here. -/
import Derived.Test.YtcbffkkcldnegaaGround
set_option linter.unusedVariables false
set_option linter.unusedSimpArgs false
namespace Go.Proofs.Tb

/-- Three points bend no more than a line with greatest error M bears. -/
def TriOk (t y : Nat → Rat) (M : Rat) (i j k : Nat) : Prop := -(2 * M * (t k - t i)) ≤ bd3 t y i j k ∧ bd3 t y i j k ≤ 2 * M * (t k - t i)
/-- All three of the points from a to b do so. -/
def Wi (t y : Nat → Rat) (M : Rat) (a b : Nat) : Prop := ∀ i j k, a ≤ i → i < j → j < k → k ≤ b → TriOk t y M i j k
section
variable {t y : Nat → Rat} {M : Rat} {n : Nat}
theorem Wi.sub {a b a' b' : Nat} (h : Wi t y M a b) (ha : a ≤ a') (hb : b' ≤ b) : Wi t y M a' b' := fun i j k h1 h2 h3 h4 => h i j k (by omega) h2 h3 (by omega)
theorem Wi.two {a b : Nat} (h : b ≤ a + 1) : Wi t y M a b := fun i j k h1 h2 h3 h4 => by omega
theorem Wi.grow {a b : Nat} (h : Wi t y M a b) (hc : ∀ i j, a ≤ i → i < j → j < b + 1 → TriOk t y M i j (b + 1)) : Wi t y M a (b + 1) := fun i j k h1 h2 h3 h4 => by
  by_cases hk : k = b + 1
  · subst hk; exact hc i j h1 h2 h3
  · exact h i j k h1 h2 h3 (by omega)
theorem IsLeast.tri (mono : ∀ i j, i < j → j < n → t i < t j) {s h E : Rat} (k : IsLeast n t y s h E) (hM : 0 ≤ M) : E ≤ M ↔ ∀ i j k, i < j → j < k → k < n → TriOk t y M i j k := by
  constructor
  · intro hE i j l h1 h2 h3
    have ei := k.le i (by omega)
    have ej := k.le j (by omega)
    have el := k.le l h3
    have m1 := mono i j h1 (by omega)
    have m2 := mono j l h2 h3
    unfold TriOk
    rw [← bd3_er (s := s) (h := h)]
    unfold bd3
    generalize er t y s h i = a at *
    generalize er t y s h j = b at *
    generalize er t y s h l = c at *
    have p1 : 0 ≤ (M - a) * (t l - t j) := Rat.mul_nonneg (by grind) (by grind)
    have p2 : 0 ≤ (M - b) * (t l - t i) := Rat.mul_nonneg (by grind) (by grind)
    have p3 : 0 ≤ (M - c) * (t j - t i) := Rat.mul_nonneg (by grind) (by grind)
    have q1 : 0 ≤ (M + a) * (t l - t j) := Rat.mul_nonneg (by grind) (by grind)
    have q2 : 0 ≤ (M + b) * (t l - t i) := Rat.mul_nonneg (by grind) (by grind)
    have q3 : 0 ≤ (M + c) * (t j - t i) := Rat.mul_nonneg (by grind) (by grind)
    constructor <;> grind
  · intro hall
    rcases k.alt with h0 | ⟨a, b, c, hab, hbc, hcn, eb, ec, ea⟩
    · rw [h0]; exact hM
    · have hx := hall a b c hab hbc hcn
      have m := mono a c (by omega) hcn
      unfold TriOk at hx
      rw [← bd3_er (s := s) (h := h)] at hx
      unfold bd3 at hx
      rw [eb, ec] at hx
      rcases Rat.le_total (a := E) (b := M) with hle | hle
      · exact hle
      · by_cases he : E = M
        · rw [he]; exact Rat.le_refl
        · exfalso
          have p : 0 < (E - M) * (t c - t a) := Rat.mul_pos (by grind) (by grind)
          rcases ea with ea | ea
          · rw [ea] at hx; grind
          · rw [ea] at hx; grind

/-- The longest run so far, the first of those. -/
def LgB (t y : Nat → Rat) (M : Rat) (N i k : Nat) : Prop :=
  i ≤ k ∧ k < N ∧ Wi t y M i k ∧ (∀ a b, a ≤ b → b < N → Wi t y M a b → b - a ≤ k - i) ∧ ∀ a b, a ≤ b → b < N → b - a = k - i → Wi t y M a b → i ≤ a
/-- The run that ends at point b begins as early as it can. -/
def FrB (t y : Nat → Rat) (M : Rat) (a b c : Nat) : Prop := Wi t y M a b ∧ ∀ a', a' < a → ¬ Wi t y M a' c
theorem LgB.start : LgB t y M 1 0 0 := ⟨Nat.le_refl _, by omega, Wi.two (by omega), fun a b h1 h2 _ => by omega, fun a b _ _ _ _ => by omega⟩
theorem FrB.start : FrB t y M 0 0 0 := ⟨Wi.two (by omega), fun _ h => by omega⟩
theorem FrB.ahead {a b : Nat} (h : FrB t y M a b b) : FrB t y M a b (b + 1) := ⟨h.1, fun a' h1 h2 => h.2 a' h1 (h2.sub (Nat.le_refl _) (by omega))⟩
theorem FrB.step {a b : Nat} (h : FrB t y M a b (b + 1)) (hno : ¬ Wi t y M a (b + 1)) : FrB t y M (a + 1) b (b + 1) :=
  ⟨h.1.sub (by omega) (Nat.le_refl _), fun a' h1 h2 => by
    by_cases he : a' = a
    · rw [he] at h2; exact hno h2
    · exact h.2 a' (by omega) h2⟩
theorem FrB.take {a b : Nat} (h : FrB t y M a b (b + 1)) (hyes : Wi t y M a (b + 1)) : FrB t y M a (b + 1) (b + 1) := ⟨hyes, h.2⟩
theorem LgB.keep {i k a b : Nat} (h : LgB t y M b i k) (f : FrB t y M a b b) (hle : b - a ≤ k - i) : LgB t y M (b + 1) i k := by
  obtain ⟨h1, h2, h3, h4, h5⟩ := h
  refine ⟨h1, by omega, h3, fun a' b' g1 g2 g3 => ?_, fun a' b' g1 g2 g3 g4 => ?_⟩
  · by_cases hb : b' = b
    · subst hb
      have : a ≤ a' := Nat.le_of_not_lt fun hlt => f.2 a' hlt g3
      omega
    · exact h4 a' b' g1 (by omega) g3
  · by_cases hb : b' = b
    · subst hb
      omega
    · exact h5 a' b' g1 (by omega) g3 g4
theorem LgB.turn {i k a b : Nat} (h : LgB t y M b i k) (f : FrB t y M a b b) (hab : a ≤ b) (hlt : k - i < b - a) : LgB t y M (b + 1) a b := by
  obtain ⟨h1, h2, h3, h4, h5⟩ := h
  refine ⟨hab, by omega, f.1, fun a' b' g1 g2 g3 => ?_, fun a' b' g1 g2 g3 g4 => ?_⟩
  · by_cases hb : b' = b
    · subst hb
      have : a ≤ a' := Nat.le_of_not_lt fun hlt => f.2 a' hlt g3
      omega
    · have := h4 a' b' g1 (by omega) g3
      omega
  · by_cases hb : b' = b
    · subst hb
      omega
    · have := h4 a' b' g1 (by omega) g4
      omega
theorem LgB.uniq {N i k i' k' : Nat} (h : LgB t y M N i k) (h' : LgB t y M N i' k') : i = i' ∧ k = k' := by
  obtain ⟨h1, h2, h3, h4, h5⟩ := h
  obtain ⟨g1, g2, g3, g4, g5⟩ := h'
  have a1 := h4 i' k' g1 g2 g3
  have a2 := g4 i k h1 h2 h3
  have a3 := h5 i' k' g1 g2 (by omega) g3
  have a4 := g5 i k h1 h2 (by omega) h3
  omega

/-- The beginnings of runs, each as long as it can be, so far. -/
def PcP (t y : Nat → Rat) (M : Rat) (xs : List Nat) : Prop :=
  0 < xs.length ∧ xs.getD 0 0 = 0 ∧ ∀ m, m + 1 < xs.length → xs.getD m 0 < xs.getD (m + 1) 0 ∧ Wi t y M (xs.getD m 0) (xs.getD (m + 1) 0 - 1) ∧ ¬ Wi t y M (xs.getD m 0) (xs.getD (m + 1) 0)
/-- All of them, of N points. -/
def PcS (t y : Nat → Rat) (M : Rat) (N : Nat) (xs : List Nat) : Prop := PcP t y M xs ∧ xs.getD (xs.length - 1) 0 < N ∧ Wi t y M (xs.getD (xs.length - 1) 0) (N - 1)
theorem getD_sn (xs : List Nat) (x k : Nat) : (xs ++ [x]).getD k 0 = if k < xs.length then xs.getD k 0 else if k = xs.length then x else 0 := by
  unfold List.getD
  by_cases h : k < xs.length
  · rw [if_pos h, List.getElem?_append_left h]
  · rw [if_neg h, List.getElem?_append_right (by omega)]
    by_cases h2 : k = xs.length
    · subst h2; simp
    · rw [if_neg h2, List.getElem?_eq_none (by simp; omega)]; rfl
theorem PcP.start : PcP t y M [0] := ⟨by simp, rfl, fun m hm => by simp at hm⟩
theorem PcP.snoc {xs : List Nat} {b : Nat} (h : PcP t y M xs) (hb : xs.getD (xs.length - 1) 0 < b) (hw : Wi t y M (xs.getD (xs.length - 1) 0) (b - 1)) (hno : ¬ Wi t y M (xs.getD (xs.length - 1) 0) b) : PcP t y M (xs ++ [b]) := by
  obtain ⟨h1, h2, h3⟩ := h
  refine ⟨by simp, by rw [getD_sn, if_pos h1]; exact h2, fun m hm => ?_⟩
  rw [List.length_append, List.length_singleton] at hm
  rw [getD_sn, getD_sn, if_pos (show m < xs.length by omega)]
  by_cases hm2 : m + 1 < xs.length
  · rw [if_pos hm2]; exact h3 m hm2
  · rw [if_neg hm2, if_pos (show m + 1 = xs.length by omega)]
    rw [show xs.length - 1 = m by omega] at hb hw hno
    exact ⟨hb, hw, hno⟩
theorem PcP.mono {xs : List Nat} (h : PcP t y M xs) : ∀ d m, m + d < xs.length → xs.getD m 0 + d ≤ xs.getD (m + d) 0
  | 0, m, _ => Nat.le_refl _
  | d + 1, m, hm => by
    have h1 := PcP.mono h d m (by omega)
    have h2 := (h.2.2 (m + d) (by omega)).1
    rw [show m + (d + 1) = m + d + 1 by omega]
    omega
theorem PcS.lt {N : Nat} {xs : List Nat} (h : PcS t y M N xs) (m : Nat) (hm : m < xs.length) : xs.getD m 0 < N := by
  have h1 := h.1.mono (xs.length - 1 - m) m (by omega)
  rw [show m + (xs.length - 1 - m) = xs.length - 1 by omega] at h1
  have := h.2.1
  omega
theorem PcS.uniq_at {N : Nat} {xs zs : List Nat} (h : PcS t y M N xs) (g : PcS t y M N zs) : ∀ m, m < xs.length → m < zs.length ∧ xs.getD m 0 = zs.getD m 0
  | 0, _ => ⟨g.1.1, by rw [h.1.2.1, g.1.2.1]⟩
  | m + 1, hm => by
    obtain ⟨i1, i2⟩ := PcS.uniq_at h g m (by omega)
    obtain ⟨a1, a2, a3⟩ := h.1.2.2 m hm
    have hl := h.lt (m + 1) hm
    have hm2 : m + 1 < zs.length := by
      rcases Nat.lt_or_ge (m + 1) zs.length with hlt | hge
      · exact hlt
      · exfalso
        have e : zs.length - 1 = m := by omega
        have gw := g.2.2
        rw [e, ← i2] at gw
        exact a3 (gw.sub (Nat.le_refl _) (by omega))
    obtain ⟨b1, b2, b3⟩ := g.1.2.2 m hm2
    rw [← i2] at b1 b2 b3
    refine ⟨hm2, ?_⟩
    rcases Nat.lt_trichotomy (xs.getD (m + 1) 0) (zs.getD (m + 1) 0) with hlt | he | hgt
    · exact absurd (b2.sub (Nat.le_refl _) (by omega)) a3
    · exact he
    · exact absurd (a2.sub (Nat.le_refl _) (by omega)) b3
theorem PcS.uniq {N : Nat} {xs zs : List Nat} (h : PcS t y M N xs) (g : PcS t y M N zs) : xs = zs := by
  have l1 := h.uniq_at g (xs.length - 1) (by have := h.1.1; omega)
  have l2 := g.uniq_at h (zs.length - 1) (by have := g.1.1; omega)
  refine List.ext_getElem (by omega) fun m h1 h2 => ?_
  have := (h.uniq_at g m h1).2
  simpa [List.getD, h1, h2] using this
/-- Whoever parts the points otherwise is never ahead. -/
theorem PcS.step {N : Nat} {xs : List Nat} (h : PcS t y M N xs) {m a b : Nat} (ha : m < xs.length → a ≤ xs.getD m 0) (hw : Wi t y M a (b - 1)) : m + 1 < xs.length → b ≤ xs.getD (m + 1) 0 := fun hm => by
  have h1 := ha (by omega)
  obtain ⟨a1, a2, a3⟩ := h.1.2.2 m hm
  exact Nat.le_of_not_lt fun hlt => a3 (hw.sub h1 (by omega))
theorem PcS.few {N : Nat} {xs : List Nat} (h : PcS t y M N xs) {m : Nat} (ha : m < xs.length → N ≤ xs.getD m 0) : xs.length ≤ m := Nat.le_of_not_lt fun hlt => by
  have := ha hlt
  have := h.lt m hlt
  omega
end
end Go.Proofs.Tb
