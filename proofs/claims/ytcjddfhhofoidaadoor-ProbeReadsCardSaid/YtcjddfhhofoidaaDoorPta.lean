/- The plain law of ProbeParts: the cheapest plan of a set is that of the set's faults alone, renumbered. -/
import Derived.Test.YtcjddfhhofoidaaDoorTma
set_option linter.unusedVariables false
set_option linter.unusedSimpArgs false
namespace Go.Proofs.Tb

theorem bst_map {m : Nat} {ws ws' : List Nat} {ts ts' : List Tst} (φ : Nat → Nat) (hw : ∀ x, x < 2 ^ m → wt ws' x = wt ws (φ x)) (hi : ∀ x i, x < 2 ^ m → φ (inn x (ts'.getD i (0, 0)).2) = inn (φ x) (ts.getD i (0, 0)).2) (ho : ∀ x i, x < 2 ^ m → φ (outs x (ts'.getD i (0, 0)).2) = outs (φ x) (ts.getD i (0, 0)).2)
    (h0 : ∀ x, x < 2 ^ m → (φ x = 0 ↔ x = 0)) (hc : ∀ i, (ts'.getD i (0, 0)).1 = (ts.getD i (0, 0)).1) (hl : ts'.length = ts.length) : ∀ x, x < 2 ^ m → bst ws' ts' x = bst ws ts (φ x) := by
  intro s
  induction s using Nat.strongRecOn with
  | _ s ih =>
    intro hs
    rw [bst_eq, bst_eq ws ts, hl]
    have key : ∀ k, tryL (bst ws' ts') (wt ws' s) s ts' k = tryL (bst ws ts) (wt ws (φ s)) (φ s) ts k := by
      intro k
      induction k with
      | zero => rfl
      | succ k ihk =>
        rw [tryL_succ, tryL_succ, ihk]
        generalize tryL (bst ws ts) (wt ws (φ s)) (φ s) ts k = b
        have e1 := inn_le s (ts'.getD k (0, 0)).2
        have e2 := outs_le s (ts'.getD k (0, 0)).2
        have h2 := in_out s (ts'.getD k (0, 0)).2
        unfold tryT
        rw [← hi s k hs, ← ho s k hs, hw s hs, hc k]
        have hz1 := h0 _ (Nat.lt_of_le_of_lt e1 hs)
        have hz2 := h0 _ (Nat.lt_of_le_of_lt e2 hs)
        by_cases h1 : inn s (ts'.getD k (0, 0)).2 = 0 ∨ outs s (ts'.getD k (0, 0)).2 = 0
        · rw [if_pos h1, if_pos (h1.imp hz1.2 hz2.2)]
        · have h3 : ¬ (φ (inn s (ts'.getD k (0, 0)).2) = 0 ∨ φ (outs s (ts'.getD k (0, 0)).2) = 0) := fun h => h1 (h.imp hz1.1 hz2.1)
          rw [if_neg h1, if_neg h3, ih _ (show inn s (ts'.getD k (0, 0)).2 < s by omega) (Nat.lt_of_le_of_lt e1 hs), ih _ (show outs s (ts'.getD k (0, 0)).2 < s by omega) (Nat.lt_of_le_of_lt e2 hs)]
    exact key _
/-- The set of the numbers of L at the places that are in x. -/
def phi (L : List Nat) (x : Nat) : Nat → Nat
  | 0 => 0
  | k + 1 => if x.testBit k then phi L x k ||| 2 ^ L.getD k 0 else phi L x k
theorem phi_succ (L : List Nat) (x k : Nat) : phi L x (k + 1) = if x.testBit k then phi L x k ||| 2 ^ L.getD k 0 else phi L x k := rfl
theorem phi_bit (L : List Nat) (x j : Nat) : ∀ k, (phi L x k).testBit j = true ↔ ∃ i, i < k ∧ x.testBit i = true ∧ L.getD i 0 = j := by
  intro k
  induction k with
  | zero => simp [phi]
  | succ k ih =>
    have hs : ∀ i, i < k + 1 ↔ i < k ∨ i = k := fun i => by omega
    unfold phi
    by_cases hk : x.testBit k = true
    · rw [if_pos hk, Nat.testBit_or, Bool.or_eq_true, ih, Nat.testBit_two_pow]
      constructor
      · rintro (⟨i, h1, h2⟩ | h)
        · exact ⟨i, by omega, h2⟩
        · exact ⟨k, by omega, hk, by simpa using h⟩
      · rintro ⟨i, h1, h2, h3⟩
        rcases (hs i).1 h1 with h | rfl
        · exact Or.inl ⟨i, h, h2, h3⟩
        · exact Or.inr (by simpa using h3)
    · rw [if_neg hk, ih]
      constructor
      · rintro ⟨i, h1, h2⟩; exact ⟨i, by omega, h2⟩
      · rintro ⟨i, h1, h2, h3⟩
        rcases (hs i).1 h1 with h | rfl
        · exact ⟨i, h, h2, h3⟩
        · exact absurd h2 hk
theorem wtK_or (ws : List Nat) (a j : Nat) (ha : a.testBit j = false) : ∀ k, wtK ws (a ||| 2 ^ j) k = wtK ws a k + if j < k then ws.getD j 0 else 0
  | 0 => by simp [wtK]
  | k + 1 => by
    show wtK ws (a ||| 2 ^ j) k + (if (a ||| 2 ^ j).testBit k then ws.getD k 0 else 0) = wtK ws a k + (if a.testBit k then ws.getD k 0 else 0) + _
    rw [wtK_or ws a j ha k, Nat.testBit_or, Nat.testBit_two_pow]
    by_cases hjk : j = k
    · subst hjk
      simp [ha]
    · have e : (j < k + 1) ↔ j < k := by omega
      simp only [hjk, decide_false, Bool.or_false, e]
      split <;> split <;> omega
section
variable {n : Nat} {L : List Nat}
/-- L: numbers below n, no two alike. -/
def Dis (n : Nat) (L : List Nat) : Prop := (∀ i, i < L.length → L.getD i 0 < n) ∧ ∀ i j, i < L.length → j < L.length → L.getD i 0 = L.getD j 0 → i = j
theorem phi_wt (h : Dis n L) (ws ws' : List Nat) (hn : ws.length = n) (hl : ws'.length = L.length) (hw : ∀ i, i < L.length → ws'.getD i 0 = ws.getD (L.getD i 0) 0) (x : Nat) : wt ws' x = wt ws (phi L x L.length) := by
  have key : ∀ k, k ≤ L.length → wtK ws' x k = wt ws (phi L x k) := by
    intro k
    induction k with
    | zero =>
      intro _
      show 0 = wtK ws 0 ws.length
      have : ∀ k, wtK ws 0 k = 0 := by
        intro k
        induction k with
        | zero => rfl
        | succ k ih =>
          show wtK ws 0 k + (if (0 : Nat).testBit k then ws.getD k 0 else 0) = 0
          rw [ih]; simp
      rw [this]
    | succ k ih =>
      intro hk
      show wtK ws' x k + (if x.testBit k then ws'.getD k 0 else 0) = _
      rw [ih (by omega), phi_succ]
      by_cases hb : x.testBit k = true
      · rw [if_pos hb, if_pos hb]
        have hf : (phi L x k).testBit (L.getD k 0) = false := by
          rw [Bool.eq_false_iff]
          intro hh
          obtain ⟨i, h1, _, h3⟩ := (phi_bit L x _ k).1 hh
          have := h.2 i k (by omega) (by omega) h3
          omega
        unfold wt
        rw [wtK_or _ _ _ hf, hn, if_pos (h.1 k (by omega)), hw k (by omega)]
      · rw [if_neg hb, if_neg hb, Nat.add_zero]
  unfold wt at key ⊢
  rw [hl]
  exact key _ (Nat.le_refl _)
theorem phi_zero (x : Nat) (hx : x < 2 ^ L.length) : phi L x L.length = 0 ↔ x = 0 := by
  constructor
  · intro h
    refine Nat.eq_of_testBit_eq fun i => ?_
    rw [Nat.zero_testBit]
    by_cases hi : i < L.length
    · rw [Bool.eq_false_iff]
      intro hb
      have h1 := (phi_bit L x (L.getD i 0) L.length).2 ⟨i, hi, hb, rfl⟩
      rw [h] at h1
      simp at h1
    · exact Nat.testBit_lt_two_pow (Nat.lt_of_lt_of_le hx (Nat.pow_le_pow_right (by omega) (by omega)))
  · rintro rfl
    refine Nat.eq_of_testBit_eq fun i => ?_
    rw [Nat.zero_testBit, Bool.eq_false_iff]
    intro hb
    obtain ⟨j, _, h2, _⟩ := (phi_bit L 0 i L.length).1 hb
    simp at h2
theorem phi_in (x t t' : Nat) (ht : ∀ i, i < L.length → t'.testBit i = t.testBit (L.getD i 0)) : phi L (inn x t') L.length = inn (phi L x L.length) t := by
  refine Nat.eq_of_testBit_eq fun j => ?_
  rw [Bool.eq_iff_iff, phi_bit, inn_bit, Bool.and_eq_true, phi_bit]
  constructor
  · rintro ⟨i, h1, h2, rfl⟩
    rw [inn_bit, Bool.and_eq_true, ht i h1] at h2
    exact ⟨⟨i, h1, h2.1, rfl⟩, h2.2⟩
  · rintro ⟨⟨i, h1, h2, rfl⟩, h3⟩
    exact ⟨i, h1, by rw [inn_bit, Bool.and_eq_true, ht i h1]; exact ⟨h2, h3⟩, rfl⟩
theorem phi_out (x t t' : Nat) (ht : ∀ i, i < L.length → t'.testBit i = t.testBit (L.getD i 0)) : phi L (outs x t') L.length = outs (phi L x L.length) t := by
  refine Nat.eq_of_testBit_eq fun j => ?_
  rw [Bool.eq_iff_iff, phi_bit, outs_bit, Bool.and_eq_true, phi_bit]
  constructor
  · rintro ⟨i, h1, h2, rfl⟩
    rw [outs_bit, Bool.and_eq_true, ht i h1] at h2
    exact ⟨⟨i, h1, h2.1, rfl⟩, h2.2⟩
  · rintro ⟨⟨i, h1, h2, rfl⟩, h3⟩
    exact ⟨i, h1, by rw [outs_bit, Bool.and_eq_true, ht i h1]; exact ⟨h2, h3⟩, rfl⟩
end
end Go.Proofs.Tb
