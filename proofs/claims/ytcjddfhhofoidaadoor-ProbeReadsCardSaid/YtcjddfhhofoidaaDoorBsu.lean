/- Plain laws: the least number of a set of bits, and the list of its numbers. No program stands here. -/
import Derived.Test.YtcjddfhhofoidaaDoorBst
set_option linter.unusedVariables false
set_option linter.unusedSimpArgs false
namespace Go.Proofs.Tb

/-- k is the least number of the set s. -/
def Low (s k : Nat) : Prop := ∃ m, s = 2 ^ (k + 1) * m + 2 ^ k
theorem low_ex (s : Nat) : s ≠ 0 → ∃ k, Low s k := by
  induction s using Nat.strongRecOn with
  | _ s ih =>
    intro h
    rcases Nat.mod_two_eq_zero_or_one s with h2 | h2
    · obtain ⟨k, m, e⟩ := ih (s / 2) (by omega) (by omega)
      refine ⟨k + 1, m, ?_⟩
      have h3 : s = 2 * (s / 2) := by omega
      have h4 : 2 ^ (k + 1 + 1) = 2 * 2 ^ (k + 1) := by rw [Nat.pow_succ 2 (k + 1), Nat.mul_comm]
      have h5 : 2 ^ (k + 1) = 2 * 2 ^ k := by rw [Nat.pow_succ 2 k, Nat.mul_comm]
      rw [h3, e, h4, Nat.mul_add, ← Nat.mul_assoc, ← h5]
    · exact ⟨0, s / 2, by simp; omega⟩
theorem Low.bit {s k : Nat} (h : Low s k) : s.testBit k = true := by
  obtain ⟨m, rfl⟩ := h
  rw [Nat.testBit_two_pow_mul_add m (Nat.pow_lt_pow_right (by omega) (by omega)) k, if_pos (by omega), Nat.testBit_two_pow]
  simp
theorem Low.under {s k j : Nat} (h : Low s k) (hj : j < k) : s.testBit j = false := by
  obtain ⟨m, rfl⟩ := h
  rw [Nat.testBit_two_pow_mul_add m (Nat.pow_lt_pow_right (by omega) (by omega)) j, if_pos (by omega), Nat.testBit_two_pow]
  simp; omega
theorem Low.pred {s k : Nat} (h : Low s k) (j : Nat) : (s - 1).testBit j = if j < k + 1 then decide (j < k) else s.testBit j := by
  obtain ⟨m, rfl⟩ := h
  have hp : 0 < 2 ^ k := Nat.two_pow_pos k
  have e : 2 ^ (k + 1) * m + 2 ^ k - 1 = 2 ^ (k + 1) * m + (2 ^ k - 1) := by omega
  have hl : 2 ^ k < 2 ^ (k + 1) := Nat.pow_lt_pow_right (by omega) (by omega)
  rw [e, Nat.testBit_two_pow_mul_add m (show 2 ^ k - 1 < 2 ^ (k + 1) by omega) j, Nat.testBit_two_pow_mul_add m hl j]
  by_cases h1 : j < k + 1
  · rw [if_pos h1, if_pos h1, Nat.testBit_two_pow_sub_one]
  · rw [if_neg h1, if_neg h1, if_neg h1]
theorem Low.rest {s k : Nat} (h : Low s k) (j : Nat) : (s &&& (s - 1)).testBit j = (s.testBit j && decide (j ≠ k)) := by
  rw [Nat.testBit_and, h.pred]
  by_cases h1 : j < k + 1
  · rw [if_pos h1]
    by_cases h2 : j = k
    · subst h2; simp
    · have : j < k := by omega
      simp [this, h2]
  · rw [if_neg h1]
    have : j ≠ k := by omega
    simp [this]
theorem Low.lt {s k n : Nat} (h : Low s k) (hs : s < 2 ^ n) : k < n := by
  rcases Nat.lt_or_ge k n with h1 | h1
  · exact h1
  · have h2 := h.bit
    rw [Nat.testBit_lt_two_pow (Nat.lt_of_lt_of_le hs (Nat.pow_le_pow_right (by omega) h1))] at h2
    cases h2
theorem Low.pos {s k : Nat} (h : Low s k) : 0 < s := by
  rcases Nat.eq_zero_or_pos s with rfl | h1
  · have := h.bit; simp at this
  · exact h1
theorem Low.one {s k : Nat} (h : Low s k) (hs : s < 2 ^ 64) : s &&& (2 ^ 64 - s) = 2 ^ k := by
  have hk := h.lt hs
  have hp := h.pos
  apply bits_eq
  intro j
  have e : 2 ^ 64 - s = 2 ^ 64 - ((s - 1) + 1) := by omega
  rw [Nat.testBit_and, e, Nat.testBit_two_pow_sub_succ (show s - 1 < 2 ^ 64 by omega), h.pred, Nat.testBit_two_pow]
  by_cases h1 : j < k + 1
  · rw [if_pos h1]
    by_cases h2 : k = j
    · subst h2; simp [h.bit, hk]
    · have h3 : j < k := by omega
      simp [h.under h3, h2]
  · rw [if_neg h1]
    have h2 : k ≠ j := by omega
    cases s.testBit j <;> simp [h2]
theorem Low.rest_lt {s k : Nat} (h : Low s k) : s &&& (s - 1) < s := by
  have h1 : s &&& (s - 1) ≤ s - 1 := Nat.and_le_right
  have := h.pos
  omega
theorem filter_least {p : Nat → Bool} {k : Nat} (hk : p k = true) (hl : ∀ j, j < k → p j = false) : ∀ n, k < n → (List.range n).filter p = k :: (List.range n).filter fun j => p j && decide (j ≠ k) := by
  intro n
  induction n with
  | zero => intro h; omega
  | succ n ih =>
    intro h
    rw [List.range_succ, List.filter_append, List.filter_append]
    by_cases hn : n = k
    · subst hn
      have e1 : (List.range n).filter p = [] := by
        rw [List.filter_eq_nil_iff]
        intro j hj
        rw [hl j (List.mem_range.1 hj)]
        simp
      have e2 : ((List.range n).filter fun j => p j && decide (j ≠ n)) = [] := by
        rw [List.filter_eq_nil_iff]
        intro j hj
        rw [hl j (List.mem_range.1 hj)]
        simp
      rw [e1, e2]
      simp [hk]
    · rw [ih (by omega)]
      have e3 : [n].filter p = [n].filter fun j => p j && decide (j ≠ k) := by
        simp [List.filter, hn]
      rw [e3]
      rfl
/-- The numbers below n of a set. -/
def memN (n s : Nat) : List Nat := (List.range n).filter fun j => s.testBit j
theorem memN_zero (n : Nat) : memN n 0 = [] := by unfold memN; simp
theorem memN_low {n s k : Nat} (h : Low s k) (hs : s < 2 ^ n) : memN n s = k :: memN n (s &&& (s - 1)) := by
  unfold memN
  rw [filter_least h.bit (fun j hj => h.under hj) n (h.lt hs)]
  congr 1
  apply List.filter_congr
  intro j _
  rw [h.rest]
theorem memN_mem {n s j : Nat} : j ∈ memN n s ↔ j < n ∧ s.testBit j = true := by unfold memN; simp
theorem memN_nil {n s : Nat} (hs : s < 2 ^ n) : memN n s = [] ↔ s = 0 := by
  constructor
  · intro h
    rcases Nat.eq_zero_or_pos s with h0 | h0
    · exact h0
    · obtain ⟨k, hk⟩ := low_ex s (by omega)
      rw [memN_low hk hs] at h
      cases h
  · rintro rfl; exact memN_zero n
theorem memN_nodup (n s : Nat) : (memN n s).Nodup := List.Nodup.sublist List.filter_sublist List.nodup_range
theorem memN_len (n s : Nat) : (memN n s).length ≤ n := Nat.le_trans (List.length_filter_le _ _) (by simp)
/-- The same numbers, as the program's integers. -/
def mems (n s : Nat) : List Int := (memN n s).map fun (i : Nat) => (i : Int)
theorem mems_zero (n : Nat) : mems n 0 = [] := by unfold mems; rw [memN_zero]; rfl
theorem mems_low {n s k : Nat} (h : Low s k) (hs : s < 2 ^ n) : mems n s = (k : Int) :: mems n (s &&& (s - 1)) := by
  unfold mems; rw [memN_low h hs]; rfl
theorem mems_len (n s : Nat) : (mems n s).length ≤ n := by unfold mems; rw [List.length_map]; exact memN_len n s
theorem mems_nil {n s : Nat} (hs : s < 2 ^ n) : mems n s = [] ↔ s = 0 := by unfold mems; rw [List.map_eq_nil_iff, memN_nil hs]
theorem mems_mem {n s : Nat} {x : Int} : x ∈ mems n s ↔ ∃ j : Nat, x = (j : Int) ∧ j < n ∧ s.testBit j = true := by
  unfold mems
  rw [List.mem_map]
  constructor
  · rintro ⟨j, hj, rfl⟩; exact ⟨j, rfl, memN_mem.1 hj⟩
  · rintro ⟨j, rfl, hj⟩; exact ⟨j, memN_mem.2 hj, rfl⟩
theorem mems_filter {n s t : Nat} {p : Int → Bool} (h : ∀ j, j < n → s.testBit j = true → p (j : Int) = t.testBit j) (ht : ∀ j, t.testBit j = true → s.testBit j = true) : (mems n s).filter p = mems n t := by
  unfold mems memN
  rw [List.filter_map, List.filter_filter]
  congr 1
  apply List.filter_congr
  intro j hj
  have hj' := List.mem_range.1 hj
  cases hs : s.testBit j with
  | false =>
    have : t.testBit j = false := by
      cases hh : t.testBit j with
      | false => rfl
      | true => rw [ht j hh] at hs; cases hs
    rw [this]; simp
  | true =>
    have := h j hj' hs
    simp only [Function.comp]
    rw [this]; simp
/-- The set of all numbers below n. -/
theorem full_bit (n j : Nat) : (2 ^ n - 1).testBit j = decide (j < n) := Nat.testBit_two_pow_sub_one n j
theorem mems_full (n : Nat) : mems n (2 ^ n - 1) = (List.range n).map fun (i : Nat) => (i : Int) := by
  unfold mems memN
  congr 1
  rw [List.filter_eq_self]
  intro j hj
  rw [full_bit]
  simpa using hj
end Go.Proofs.Tb
