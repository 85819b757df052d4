/- Plain laws on digits: a natural number and the list of its digits in base B, the lowest first. No program stands here. -/
set_option linter.unusedVariables false
set_option linter.unusedSimpArgs false
namespace Go.Proofs.Tb
/-- The value of a list of digits. -/
def val (B : Nat) : List Nat → Nat
  | [] => 0
  | x :: xs => x + B * val B xs
def digsF (B : Nat) : Nat → Nat → List Nat
  | 0, _ => []
  | f + 1, m => if m = 0 then [] else m % B :: digsF B f (m / B)
/-- The digits of m. -/
def digs (B m : Nat) : List Nat := digsF B m m
/-- All are digits. -/
def Dg (B : Nat) (xs : List Nat) : Prop := ∀ x ∈ xs, x < B
/-- How many digits m has. -/
def dl (B m : Nat) : Nat := (digs B m).length

theorem digsF_fuel (B : Nat) (hB : 2 ≤ B) : ∀ (f g m : Nat), m ≤ f → m ≤ g → digsF B f m = digsF B g m
  | 0, g, m, hf, _ => by
    have : m = 0 := by omega
    subst this
    cases g <;> simp [digsF]
  | f + 1, 0, m, _, hg => by
    have : m = 0 := by omega
    subst this
    simp [digsF]
  | f + 1, g + 1, m, hf, hg => by
    simp only [digsF]
    by_cases h : m = 0
    · simp [h]
    · rw [if_neg h, if_neg h]
      have hlt : m / B < m := Nat.div_lt_self (by omega) (by omega)
      rw [digsF_fuel B hB f g (m / B) (by omega) (by omega)]
theorem digs_zero (B : Nat) : digs B 0 = [] := rfl
theorem digs_pos (B m : Nat) (hB : 2 ≤ B) (h : m ≠ 0) : digs B m = m % B :: digs B (m / B) := by
  unfold digs
  obtain ⟨k, rfl⟩ : ∃ k, m = k + 1 := ⟨m - 1, by omega⟩
  have hlt : (k + 1) / B < k + 1 := Nat.div_lt_self (by omega) (by omega)
  rw [digsF, if_neg h, digsF_fuel B hB k ((k + 1) / B) _ (by omega) (Nat.le_refl _)]
theorem val_digs (B : Nat) (hB : 2 ≤ B) (m : Nat) : val B (digs B m) = m := by
  induction m using Nat.strongRecOn with
  | _ m ih =>
    by_cases h : m = 0
    · subst h; rfl
    · rw [digs_pos B m hB h, val, ih _ (Nat.div_lt_self (by omega) (by omega))]
      exact Nat.mod_add_div m B
theorem digs_dg (B : Nat) (hB : 2 ≤ B) (m : Nat) : Dg B (digs B m) := by
  induction m using Nat.strongRecOn with
  | _ m ih =>
    by_cases h : m = 0
    · subst h; intro x hx; cases hx
    · rw [digs_pos B m hB h]
      intro x hx
      rcases List.mem_cons.1 hx with rfl | hx
      · exact Nat.mod_lt _ (by omega)
      · exact ih _ (Nat.div_lt_self (by omega) (by omega)) x hx
theorem digs_eq_nil (B m : Nat) (hB : 2 ≤ B) : digs B m = [] ↔ m = 0 := by
  constructor
  · intro h
    have := val_digs B hB m
    rw [h] at this
    exact this.symm
  · rintro rfl; rfl
theorem dl_pos (B m : Nat) (hB : 2 ≤ B) : 0 < dl B m ↔ 0 < m := by
  unfold dl
  have h := digs_eq_nil B m hB
  constructor
  · intro hl
    rcases Nat.eq_zero_or_pos m with h0 | h0
    · rw [h.2 h0] at hl; simp at hl
    · exact h0
  · intro hm
    rcases Nat.eq_zero_or_pos (digs B m).length with h0 | h0
    · have := h.1 (List.eq_nil_of_length_eq_zero h0); omega
    · exact h0
theorem val_append (B : Nat) (xs ys : List Nat) : val B (xs ++ ys) = val B xs + B ^ xs.length * val B ys := by
  induction xs with
  | nil => simp [val]
  | cons x xs ih =>
    simp only [List.cons_append, val, ih, List.length_cons, Nat.pow_succ]
    rw [Nat.mul_add, Nat.mul_comm (B ^ xs.length) B, Nat.mul_assoc, Nat.add_assoc]
theorem val_lt (B : Nat) (xs : List Nat) (h : Dg B xs) : val B xs < B ^ xs.length := by
  induction xs with
  | nil => simp [val]
  | cons x xs ih =>
    have h1 : x < B := h x (by simp)
    have h2 := ih (fun y hy => h y (by simp [hy]))
    simp only [val, List.length_cons, Nat.pow_succ]
    have h3 : B * (val B xs + 1) ≤ B * B ^ xs.length := Nat.mul_le_mul_left _ h2
    rw [Nat.mul_comm (B ^ xs.length) B]
    rw [Nat.mul_add] at h3
    omega
/-- A list of digits that does not end in 0 is the list of its value's digits. -/
theorem digs_val (B : Nat) (hB : 2 ≤ B) (xs : List Nat) (h : Dg B xs) (hl : xs.getLast? ≠ some 0) : digs B (val B xs) = xs := by
  induction xs with
  | nil => rfl
  | cons x xs ih =>
    have hx : x < B := h x (by simp)
    have hd : Dg B xs := fun y hy => h y (by simp [hy])
    have hl' : xs.getLast? ≠ some 0 := by
      cases xs with
      | nil => simp
      | cons y ys => simpa using hl
    have ih' := ih hd hl'
    have hne : val B (x :: xs) ≠ 0 := by
      simp only [val]
      intro h0
      have hx0 : x = 0 := by omega
      have hv : B * val B xs = 0 := by omega
      have hv0 : val B xs = 0 := by
        rcases Nat.mul_eq_zero.1 hv with h1 | h1
        · omega
        · exact h1
      rw [hv0] at ih'
      have : xs = [] := ih'.symm
      subst this
      subst hx0
      simp at hl
    rw [digs_pos B _ hB hne]
    have h1 : val B (x :: xs) % B = x := by
      simp only [val]
      rw [Nat.add_mul_mod_self_left]
      exact Nat.mod_eq_of_lt hx
    have h2 : val B (x :: xs) / B = val B xs := by
      simp only [val]
      rw [Nat.add_mul_div_left _ _ (by omega), Nat.div_eq_of_lt hx, Nat.zero_add]
    rw [h1, h2, ih']
theorem digs_last (B : Nat) (hB : 2 ≤ B) (m : Nat) : (digs B m).getLast? ≠ some 0 := by
  induction m using Nat.strongRecOn with
  | _ m ih =>
    by_cases h : m = 0
    · subst h; simp [digs_zero]
    · rw [digs_pos B m hB h]
      have hlt : m / B < m := Nat.div_lt_self (by omega) (by omega)
      have ih' := ih _ hlt
      by_cases h0 : m / B = 0
      · rw [h0, digs_zero]
        simp
        have h1 : m < B := by
          rcases Nat.lt_or_ge m B with h1 | h1
          · exact h1
          · have := Nat.div_pos h1 (by omega); omega
        rw [Nat.mod_eq_of_lt h1]
        exact h
      · cases hd : digs B (m / B) with
        | nil => exact absurd ((digs_eq_nil B _ hB).1 hd) h0
        | cons y ys => rw [hd] at ih'; simpa using ih'
theorem val_zeros (B : Nat) (k : Nat) : val B (List.replicate k 0) = 0 := by
  induction k with
  | zero => rfl
  | succ k ih => simp [List.replicate_succ, val, ih]
/-- Zeros at the end do not count. -/
theorem val_strip (B : Nat) (xs : List Nat) (h : xs.getLast? = some 0) : val B xs = val B xs.dropLast := by
  have hx : xs = xs.dropLast ++ [0] := by
    obtain ⟨ys, hy⟩ := List.getLast?_eq_some_iff.1 h
    rw [hy]; simp
  rw [hx, val_append]
  simp [val]
theorem dl_le (B : Nat) (hB : 2 ≤ B) (k m : Nat) (h : m < B ^ k) : dl B m ≤ k := by
  unfold dl
  induction k generalizing m with
  | zero => have : m = 0 := by simpa using h
            subst this; simp [digs_zero]
  | succ k ih =>
    by_cases h0 : m = 0
    · subst h0; simp [digs_zero]
    · rw [digs_pos B m hB h0]
      have : m / B < B ^ k := by
        rw [Nat.pow_succ] at h
        exact Nat.div_lt_of_lt_mul (by rw [Nat.mul_comm]; exact h)
      have := ih _ this
      simp; omega
theorem lt_pow_dl (B : Nat) (hB : 2 ≤ B) (m : Nat) : m < B ^ dl B m := by
  have h := val_lt B _ (digs_dg B hB m)
  rw [val_digs B hB] at h
  exact h
theorem pow_le_of_dl (B : Nat) (hB : 2 ≤ B) (m k : Nat) (h : k < dl B m) : B ^ k ≤ m := by
  rcases Nat.lt_or_ge m (B ^ k) with h1 | h1
  · have := dl_le B hB k m h1; omega
  · exact h1
theorem dl_mono (B : Nat) (hB : 2 ≤ B) (m k : Nat) (h : m ≤ k) : dl B m ≤ dl B k := dl_le B hB _ _ (Nat.lt_of_le_of_lt h (lt_pow_dl B hB k))
theorem dl_add (B : Nat) (hB : 2 ≤ B) (m k s : Nat) (h : dl B m ≤ s) (h' : dl B k ≤ s) : dl B (m + k) ≤ s + 1 := by
  refine dl_le B hB _ _ ?_
  have h1 := Nat.lt_of_lt_of_le (lt_pow_dl B hB m) (Nat.pow_le_pow_right (by omega) h)
  have h2 := Nat.lt_of_lt_of_le (lt_pow_dl B hB k) (Nat.pow_le_pow_right (by omega) h')
  rw [Nat.pow_succ]
  have : B ^ s * 2 ≤ B ^ s * B := Nat.mul_le_mul_left _ hB
  omega
theorem dl_mul (B : Nat) (hB : 2 ≤ B) (m k : Nat) : dl B (m * k) ≤ dl B m + dl B k := by
  refine dl_le B hB _ _ ?_
  rw [Nat.pow_add]
  exact Nat.mul_lt_mul'' (lt_pow_dl B hB m) (lt_pow_dl B hB k)
/-- Fewer digits: the lesser number. -/
theorem lt_of_dl_lt (B : Nat) (hB : 2 ≤ B) (m k : Nat) (h : dl B m < dl B k) : m < k :=
  Nat.lt_of_lt_of_le (lt_pow_dl B hB m) (pow_le_of_dl B hB k _ h)
theorem val_take_succ (B : Nat) (xs : List Nat) (k : Nat) (h : k < xs.length) : val B (xs.take (k + 1)) = val B (xs.take k) + B ^ k * xs.getD k 0 := by
  rw [List.take_succ_eq_append_getElem h, val_append]
  simp [val, List.getD, h, Nat.min_eq_left (Nat.le_of_lt h)]
theorem val_drop (B : Nat) (xs : List Nat) (k : Nat) (h : k < xs.length) : val B (xs.drop k) = xs.getD k 0 + B * val B (xs.drop (k + 1)) := by
  rw [List.drop_eq_getElem_cons h, val]
  simp [List.getD, h]
theorem Dg.take {B : Nat} {xs : List Nat} (h : Dg B xs) (k : Nat) : Dg B (xs.take k) := fun x hx => h x (List.mem_of_mem_take hx)
theorem Dg.drop {B : Nat} {xs : List Nat} (h : Dg B xs) (k : Nat) : Dg B (xs.drop k) := fun x hx => h x (List.mem_of_mem_drop hx)
theorem Dg.getD {B : Nat} (hB : 0 < B) {xs : List Nat} (h : Dg B xs) (k : Nat) : xs.getD k 0 < B := by
  by_cases hk : k < xs.length
  · simp [List.getD, hk]; exact h _ (List.getElem_mem hk)
  · simp [List.getD, Nat.le_of_not_lt hk]; exact hB
theorem Dg.append {B : Nat} {xs ys : List Nat} (h : Dg B xs) (h' : Dg B ys) : Dg B (xs ++ ys) := fun x hx => (List.mem_append.1 hx).elim (h x) (h' x)
theorem Dg.set_ {B : Nat} {xs : List Nat} (h : Dg B xs) (k v : Nat) (hv : v < B) : Dg B (xs.set k v) := fun x hx => (List.mem_or_eq_of_mem_set hx).elim (h x) (fun e => e ▸ hv)
theorem Dg.replicate {B : Nat} (hB : 0 < B) (k : Nat) : Dg B (List.replicate k 0) := fun x hx => by rw [(List.mem_replicate.1 hx).2]; exact hB
theorem Dg.one {B v : Nat} (hv : v < B) : Dg B [v] := fun x hx => by rw [List.mem_singleton.1 hx]; exact hv
end Go.Proofs.Tb
