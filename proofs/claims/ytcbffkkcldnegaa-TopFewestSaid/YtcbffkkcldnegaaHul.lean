/- Plain law: a chain of points that bends one way, with no point beyond its sides, is just the strict corners of the hull. No program stands here. -/
import Derived.Test.YtcbffkkcldnegaaGround
set_option linter.unusedVariables false
set_option linter.unusedSimpArgs false
namespace Go.Proofs.Tb

/-- How the middle one of three points lies to the line through the outer two: above 0 if it is below that line. -/
def trn (t y : Nat → Int) (i j k : Nat) : Int := (t j - t i) * (y k - y i) - (t k - t i) * (y j - y i)

theorem imul_pos {x d : Int} (hd : 0 < d) (h : 0 < x * d) : 0 < x := by
  rcases Int.lt_or_le 0 x with h1 | h1
  · exact h1
  · have := Int.mul_nonneg (show 0 ≤ -x by omega) (show 0 ≤ d by omega)
    rw [Int.neg_mul] at this
    omega
theorem imul_le {x d : Int} (hd : 0 < d) (h : x * d ≤ 0) : x ≤ 0 := by
  rcases Int.lt_or_le 0 x with h1 | h1
  · have := Int.mul_pos h1 hd
    omega
  · exact h1
section
variable {t y : Nat → Int} {i j p q a b c k : Nat}
theorem trn_ab (h1 : t i < t p) (h2 : t p < t a) (h3 : t a < t b) (g1 : 0 < trn t y i p a) (g2 : 0 < trn t y p a b) : 0 < trn t y i a b := by
  refine imul_pos (d := t a - t p) (by omega) ?_
  have e : trn t y i a b * (t a - t p) = trn t y p a b * (t a - t i) + trn t y i p a * (t b - t a) := by unfold trn; grind
  rw [e]
  have p1 := Int.mul_pos g2 (show 0 < t a - t i by omega)
  have p2 := Int.mul_pos g1 (show 0 < t b - t a by omega)
  omega
theorem trn_in (h1 : t p < t i) (h2 : t i < t a) (h3 : t a < t b) (g1 : trn t y p i a ≤ 0) (g2 : 0 < trn t y p a b) : 0 < trn t y i a b := by
  refine imul_pos (d := t a - t p) (by omega) ?_
  have e : trn t y i a b * (t a - t p) = trn t y p a b * (t a - t i) + (-trn t y p i a) * (t b - t a) := by unfold trn; grind
  rw [e]
  have p1 := Int.mul_pos g2 (show 0 < t a - t i by omega)
  have p2 := Int.mul_nonneg (show 0 ≤ -trn t y p i a by omega) (show 0 ≤ t b - t a by omega)
  omega
theorem trn_cut (h1 : t i < t j) (h2 : t j < t q) (h3 : t q < t b) (g1 : 0 < trn t y i j b) (g2 : trn t y j q b ≤ 0) : 0 < trn t y i j q := by
  refine imul_pos (d := t b - t j) (by omega) ?_
  have e : trn t y i j q * (t b - t j) = trn t y i j b * (t q - t j) + (-trn t y j q b) * (t j - t i) := by unfold trn; grind
  rw [e]
  have p1 := Int.mul_pos g1 (show 0 < t q - t j by omega)
  have p2 := Int.mul_nonneg (show 0 ≤ -trn t y j q b by omega) (show 0 ≤ t j - t i by omega)
  omega
theorem trn_far (h1 : t i < t j) (h2 : t j < t a) (h3 : t a < t q) (g1 : 0 < trn t y i j a) (g2 : 0 < trn t y j a q) : 0 < trn t y i j q := by
  refine imul_pos (d := t a - t j) (by omega) ?_
  have e : trn t y i j q * (t a - t j) = trn t y i j a * (t q - t j) + trn t y j a q * (t j - t i) := by unfold trn; grind
  rw [e]
  have p1 := Int.mul_pos g1 (show 0 < t q - t j by omega)
  have p2 := Int.mul_pos g2 (show 0 < t j - t i by omega)
  omega
theorem trn_lo (h1 : t b < t i) (h2 : t i < t c) (h3 : t c < t k) (g1 : trn t y b i c ≤ 0) (g2 : trn t y b c k ≤ 0) : trn t y b i k ≤ 0 := by
  refine imul_le (d := t c - t b) (by omega) ?_
  have e : trn t y b i k * (t c - t b) = -((-trn t y b i c) * (t k - t b)) + -((-trn t y b c k) * (t i - t b)) := by unfold trn; grind
  rw [e]
  have p1 := Int.mul_nonneg (show 0 ≤ -trn t y b i c by omega) (show 0 ≤ t k - t b by omega)
  have p2 := Int.mul_nonneg (show 0 ≤ -trn t y b c k by omega) (show 0 ≤ t i - t b by omega)
  omega
theorem trn_hi (h1 : t b < t c) (h2 : t c < t i) (h3 : t i < t k) (g1 : trn t y c i k ≤ 0) (g2 : trn t y b c k ≤ 0) : trn t y b i k ≤ 0 := by
  refine imul_le (d := t k - t c) (by omega) ?_
  have e : trn t y b i k * (t k - t c) = -((-trn t y c i k) * (t k - t b)) + -((-trn t y b c k) * (t k - t i)) := by unfold trn; grind
  rw [e]
  have p1 := Int.mul_nonneg (show 0 ≤ -trn t y c i k by omega) (show 0 ≤ t k - t b by omega)
  have p2 := Int.mul_nonneg (show 0 ≤ -trn t y b c k by omega) (show 0 ≤ t k - t i by omega)
  omega
end

/-- A chain of corners, the last one first: each side has no point beyond it, each corner bends. -/
def Chn (t y : Nat → Int) : List Nat → Prop
  | [] => False
  | [a] => a = 0
  | b :: a :: l => a < b ∧ (∀ i, a < i → i < b → trn t y a i b ≤ 0) ∧ (∀ p, l.head? = some p → 0 < trn t y p a b) ∧ Chn t y (a :: l)
section
variable {t y : Nat → Int} {n : Nat}
theorem Chn.lt : ∀ {l : List Nat} {b : Nat}, Chn t y (b :: l) → ∀ x, x ∈ l → x < b
  | [], _, _, x, hx => by cases hx
  | a :: l, b, h, x, hx => by
    rcases List.mem_cons.1 hx with rfl | hx
    · exact h.1
    · exact Nat.lt_trans (Chn.lt h.2.2.2 x hx) h.1
theorem Chn.left (mono : ∀ i j, i < j → j < n → t i < t j) : ∀ {l : List Nat} {a b : Nat}, Chn t y (b :: a :: l) → b < n → ∀ i, i < a → 0 < trn t y i a b
  | [], a, b, h, _, i, hi => by have : a = 0 := h.2.2.2; omega
  | p :: l, a, b, h, hb, i, hi => by
    have hab := h.1
    have hp := h.2.2.1 p rfl
    have hc := h.2.2.2
    have hpa := hc.1
    rcases Nat.lt_trichotomy i p with h1 | h1 | h1
    · exact trn_ab (mono i p h1 (by omega)) (mono p a hpa (by omega)) (mono a b hab hb) (Chn.left mono hc (by omega) i h1) hp
    · rw [h1]; exact hp
    · exact trn_in (mono p i h1 (by omega)) (mono i a hi (by omega)) (mono a b hab hb) (hc.2.1 i h1 hi) hp
theorem Chn.crn (mono : ∀ i j, i < j → j < n → t i < t j) : ∀ {l : List Nat} {b : Nat}, Chn t y (b :: l) → b < n → ∀ j, j ∈ b :: l → ∀ i q, i < j → j < q → q ≤ b → 0 < trn t y i j q
  | [], b, _, _, j, hj, i, q, h1, h2, h3 => by
    simp only [List.mem_cons, List.not_mem_nil, or_false] at hj; omega
  | a :: l, b, h, hb, j, hj, i, q, h1, h2, h3 => by
    rcases List.mem_cons.1 hj with rfl | hj
    · omega
    have hab := h.1
    have A : ∀ i q, i < a → a < q → q ≤ b → 0 < trn t y i a q := fun i q g1 g2 g3 => by
      rcases Nat.lt_or_eq_of_le g3 with g | g
      · exact trn_cut (mono i a g1 (by omega)) (mono a q g2 (by omega)) (mono q b g hb) (h.left mono hb i g1) (h.2.1 q g2 g)
      · rw [g]; exact h.left mono hb i g1
    have ih := Chn.crn mono h.2.2.2 (by omega) j hj
    by_cases hq : q ≤ a
    · exact ih i q h1 h2 hq
    rcases List.mem_cons.1 hj with rfl | hj'
    · exact A i q h1 h2 h3
    have hja := h.2.2.2.lt j hj'
    exact trn_far (mono i j h1 (by omega)) (mono j a hja (by omega)) (mono a q (by omega) (by omega)) (ih i a h1 hja (Nat.le_refl _)) (A j q hja (by omega) h3)
/-- What is no corner lies beyond a side. -/
theorem Chn.side : ∀ {l : List Nat} {b : Nat}, Chn t y (b :: l) → ∀ j, j ≤ b → j ∉ b :: l → ∃ i q, i ∈ b :: l ∧ q ∈ b :: l ∧ i < j ∧ j < q ∧ trn t y i j q ≤ 0
  | [], b, h, j, hj, hn => by
    have : b = 0 := h
    exact absurd (show j ∈ [b] by simp; omega) hn
  | a :: l, b, h, j, hj, hn => by
    by_cases hja : j ≤ a
    · obtain ⟨i, q, h1, h2, h3⟩ := h.2.2.2.side j hja (fun hm => hn (List.mem_cons_of_mem _ hm))
      exact ⟨i, q, List.mem_cons_of_mem _ h1, List.mem_cons_of_mem _ h2, h3⟩
    · have hjb : j ≠ b := fun e => hn (by rw [e]; exact List.mem_cons_self ..)
      exact ⟨a, b, by simp, by simp, by omega, by omega, h.2.1 j (by omega) (by omega)⟩
theorem Chn.zero : ∀ {l : List Nat}, Chn t y l → 0 ∈ l
  | [a], h => by have : a = 0 := h; simp [this]
  | b :: a :: l, h => List.mem_cons_of_mem _ h.2.2.2.zero
theorem Chn.last : ∀ {l : List Nat}, Chn t y l → l.getLast? = some 0
  | [a], h => by have : a = 0 := h; simp [this]
  | b :: a :: l, h => by have := h.2.2.2.last; rw [List.getLast?_cons_cons]; exact this
/-- Two that are next to each other. -/
theorem Chn.adj : ∀ {pre l : List Nat} {a b : Nat}, Chn t y (pre ++ b :: a :: l) → a < b ∧ ∀ i, a < i → i < b → trn t y a i b ≤ 0
  | [], _, _, _, h => ⟨h.1, h.2.1⟩
  | [c], _, _, _, h => ⟨h.2.2.2.1, h.2.2.2.2.1⟩
  | c :: d :: pre, l, a, b, h => Chn.adj (pre := d :: pre) h.2.2.2

/-- What holds while corners are taken off before point k is laid on. -/
def CSt (t y : Nat → Int) (k : Nat) (st : List Nat) : Prop := ∃ c l, st = c :: l ∧ Chn t y st ∧ c < k ∧ ∀ i, c < i → i < k → trn t y c i k ≤ 0
theorem CSt.start {b : Nat} {l : List Nat} (h : Chn t y (b :: l)) : CSt t y (b + 1) (b :: l) := ⟨b, l, rfl, h, by omega, fun i _ _ => by omega⟩
theorem CSt.pop (mono : ∀ i j, i < j → j < n → t i < t j) {k c b : Nat} {l : List Nat} (h : CSt t y k (c :: b :: l)) (hk : k < n) (hp : trn t y b c k ≤ 0) : CSt t y k (b :: l) := by
  obtain ⟨c', l', he, hc, hck, hx⟩ := h
  injection he with e1 e2
  subst e1
  have hbc := hc.1
  refine ⟨b, l, rfl, hc.2.2.2, by omega, fun i h1 h2 => ?_⟩
  rcases Nat.lt_trichotomy i c with g | g | g
  · exact trn_lo (mono b i h1 (by omega)) (mono i c g (by omega)) (mono c k hck hk) (hc.2.1 i h1 g) hp
  · rw [g]; exact hp
  · exact trn_hi (mono b c hbc (by omega)) (mono c i g (by omega)) (mono i k h2 hk) (hx i g h2) hp
theorem CSt.push {k c : Nat} {l : List Nat} (h : CSt t y k (c :: l)) (hp : ∀ b, l.head? = some b → 0 < trn t y b c k) : Chn t y (k :: c :: l) := by
  obtain ⟨c', l', he, hc, hck, hx⟩ := h
  injection he with e1 e2
  subst e1
  exact ⟨hck, hx, hp, hc⟩

theorem sorted_ext : ∀ {l1 l2 : List Nat}, l1.Pairwise (· < ·) → l2.Pairwise (· < ·) → (∀ x, x ∈ l1 ↔ x ∈ l2) → l1 = l2
  | [], [], _, _, _ => rfl
  | [], b :: l2, _, _, h => by have := (h b).2 (List.mem_cons_self ..); cases this
  | a :: l1, [], _, _, h => by have := (h a).1 (List.mem_cons_self ..); cases this
  | a :: l1, b :: l2, h1, h2, h => by
    obtain ⟨p1, q1⟩ := List.pairwise_cons.1 h1
    obtain ⟨p2, q2⟩ := List.pairwise_cons.1 h2
    have hab : a = b := by
      have g1 := (h a).1 (List.mem_cons_self ..)
      have g2 := (h b).2 (List.mem_cons_self ..)
      rcases List.mem_cons.1 g1 with g1 | g1
      · exact g1
      rcases List.mem_cons.1 g2 with g2 | g2
      · exact g2.symm
      have := p1 b g2
      have := p2 a g1
      omega
    subst hab
    congr 1
    refine sorted_ext q1 q2 fun x => ⟨fun hx => ?_, fun hx => ?_⟩
    · rcases List.mem_cons.1 ((h x).1 (List.mem_cons_of_mem _ hx)) with g | g
      · have := p1 x hx; omega
      · exact g
    · rcases List.mem_cons.1 ((h x).2 (List.mem_cons_of_mem _ hx)) with g | g
      · have := p2 x hx; omega
      · exact g
/-- A strict corner of the first n points. -/
def Crn (t y : Nat → Int) (n j : Nat) : Prop := ∀ i q, i < j → j < q → q < n → 0 < trn t y i j q
open Classical in
noncomputable def crnL (t y : Nat → Int) (n : Nat) : List Nat := (List.range n).filter fun j => decide (Crn t y n j)
open Classical in
theorem mem_crnL {t y : Nat → Int} {n x : Nat} : x ∈ crnL t y n ↔ x < n ∧ Crn t y n x := by unfold crnL; rw [List.mem_filter, List.mem_range]; simp
theorem Chn.sorted : ∀ {l : List Nat}, Chn t y l → l.reverse.Pairwise (· < ·)
  | [a], _ => by simp
  | b :: a :: l, h => by
    rw [List.reverse_cons, List.pairwise_append]
    refine ⟨h.2.2.2.sorted, by simp, fun x hx z hz => ?_⟩
    simp only [List.mem_cons, List.not_mem_nil, or_false] at hz
    subst hz
    exact h.lt x (List.mem_reverse.1 hx)
theorem Chn.eq (mono : ∀ i j, i < j → j < n → t i < t j) {b : Nat} {l : List Nat} (h : Chn t y (b :: l)) (hb : b + 1 = n) : (b :: l).reverse = crnL t y n := by
  refine sorted_ext h.sorted ?_ fun x => ?_
  · unfold crnL
    exact List.Pairwise.filter _ List.pairwise_lt_range
  · rw [List.mem_reverse, mem_crnL]
    constructor
    · intro hx
      have hxb : x ≤ b := by
        rcases List.mem_cons.1 hx with g | g
        · omega
        · exact Nat.le_of_lt (h.lt x g)
      exact ⟨by omega, fun i q h1 h2 h3 => h.crn mono (by omega) x hx i q h1 h2 (by omega)⟩
    · rintro ⟨h1, h2⟩
      apply Classical.byContradiction
      intro hno
      obtain ⟨i, q, _, hq, g1, g2, g3⟩ := h.side x (by omega) hno
      have hqb : q ≤ b := by
        rcases List.mem_cons.1 hq with g | g
        · omega
        · exact Nat.le_of_lt (h.lt q g)
      have := h2 i q g1 g2 (by omega)
      omega
end
end Go.Proofs.Tb
