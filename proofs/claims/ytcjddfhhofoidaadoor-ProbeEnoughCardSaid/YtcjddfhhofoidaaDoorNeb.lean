/- Functions of the package slices on rows of integers; the order of choices. -/
import Derived.Test.YtcjddfhhofoidaaDoorOpa
import Derived.Test.YtcjddfhhofoidaaDoorQa
import Derived.Test.YtcjddfhhofoidaaDoorMob
set_option linter.unusedVariables false
set_option linter.unusedSimpArgs false
namespace Go.Proofs.Tb
open Go.RowKit
attribute [local go_sem] cell_set_same

/-- Lexicographic order. -/
def ltB : List Int → List Int → Bool
  | _, [] => false
  | [], _ :: _ => true
  | a :: l, b :: r => decide (a < b) || (decide (a = b) && ltB l r)
theorem ltB_nil (l : List Int) : ltB l [] = false := by cases l <;> rfl
theorem ltB_cons (a b : Int) (l r : List Int) : ltB (a :: l) (b :: r) = true ↔ a < b ∨ (a = b ∧ ltB l r = true) := by simp [ltB]
theorem ltB_irr : ∀ l : List Int, ltB l l = false
  | [] => rfl
  | a :: l => by simp [ltB, ltB_irr l]
theorem ltB_trans : ∀ {a b c : List Int}, ltB a b = true → ltB b c = true → ltB a c = true
  | _, _, [], _, h => by rw [ltB_nil] at h; cases h
  | _, [], _, h, _ => by rw [ltB_nil] at h; cases h
  | [], _ :: _, _ :: _, _, _ => rfl
  | x :: a, y :: b, z :: c, h1, h2 => by
    rw [ltB_cons] at h1 h2 ⊢
    rcases h1 with h1 | ⟨rfl, h1⟩
    · rcases h2 with h2 | ⟨rfl, h2⟩
      · exact Or.inl (by omega)
      · exact Or.inl h1
    · rcases h2 with h2 | ⟨rfl, h2⟩
      · exact Or.inl h2
      · exact Or.inr ⟨rfl, ltB_trans h1 h2⟩
theorem ltB_tri : ∀ (a b : List Int), ltB a b = true ∨ a = b ∨ ltB b a = true
  | [], [] => Or.inr (Or.inl rfl)
  | [], _ :: _ => Or.inl rfl
  | _ :: _, [] => Or.inr (Or.inr rfl)
  | x :: a, y :: b => by
    rw [ltB_cons, ltB_cons]
    rcases Int.lt_trichotomy x y with h | rfl | h
    · exact Or.inl (Or.inl h)
    · rcases ltB_tri a b with h | rfl | h
      · exact Or.inl (Or.inr ⟨rfl, h⟩)
      · exact Or.inr (Or.inl rfl)
      · exact Or.inr (Or.inr (Or.inr ⟨rfl, h⟩))
    · exact Or.inr (Or.inr (Or.inl h))
/-- What slices.Compare returns. -/
def cmpL : List Int → List Int → Int
  | [], [] => 0
  | [], _ :: _ => -1
  | _ :: _, [] => 1
  | a :: l, b :: r => if cmI a b = 0 then cmpL l r else cmI a b
theorem cmI_neg {a b : Int} : cmI a b < 0 ↔ a < b := by unfold cmI; split <;> (try split) <;> omega
theorem cmI_zero {a b : Int} : cmI a b = 0 ↔ a = b := by unfold cmI; split <;> (try split) <;> omega
theorem cmpL_lt : ∀ {a b : List Int}, cmpL a b < 0 ↔ ltB a b = true
  | [], [] => by simp [cmpL, ltB]
  | [], _ :: _ => by simp [cmpL, ltB]
  | _ :: _, [] => by simp [cmpL, ltB]
  | x :: a, y :: b => by
    rw [ltB_cons, cmpL]
    by_cases h : cmI x y = 0
    · rw [if_pos h, cmpL_lt]
      rw [cmI_zero] at h
      subst h
      constructor
      · exact fun h => Or.inr ⟨rfl, h⟩
      · rintro (h | ⟨_, h⟩)
        · omega
        · exact h
    · rw [if_neg h, cmI_neg]
      rw [cmI_zero] at h
      constructor
      · exact Or.inl
      · rintro (h1 | ⟨h1, _⟩)
        · exact h1
        · exact absurd h1 h
def or3 (x y z : Int) : Int := orI x (orI y z)
/-- What a choice is held against others by. -/
def ky (ts : List Tt) (l : List Int) : List Int := csW ts l :: (l.length : Int) :: l
theorem bef_lt (ts : List Tt) (a b : List Int) : or3 (cmI (csW ts a) (csW ts b)) (cmI (a.length : Int) (b.length : Int)) (cmpL a b) < 0 ↔ ltB (ky ts a) (ky ts b) = true := by
  unfold ky or3 orI
  rw [ltB_cons, ltB_cons, ← cmpL_lt]
  by_cases h1 : cmI (csW ts a) (csW ts b) = 0
  · rw [if_pos h1]
    rw [cmI_zero] at h1
    rw [h1]
    by_cases h2 : cmI (a.length : Int) (b.length : Int) = 0
    · rw [if_pos h2]
      rw [cmI_zero] at h2
      rw [h2]
      constructor
      · exact fun h => Or.inr ⟨rfl, Or.inr ⟨rfl, h⟩⟩
      · rintro (h | ⟨_, h | ⟨_, h⟩⟩)
        · omega
        · omega
        · exact h
    · rw [if_neg h2, cmI_neg]
      rw [cmI_zero] at h2
      constructor
      · exact fun h => Or.inr ⟨rfl, Or.inl h⟩
      · rintro (h | ⟨_, h | ⟨h, _⟩⟩)
        · omega
        · exact h
        · exact absurd h h2
  · rw [if_neg h1, cmI_neg]
    rw [cmI_zero] at h1
    constructor
    · exact Or.inl
    · rintro (h | ⟨h, _⟩)
      · exact h
      · exact absurd h h1
/-- The tests that tell two faults apart, as a set. -/
def difB (ts : List Tt) (a b : Int) (k : Nat) : Bool := shB (tS ts k) a != shB (tS ts k) b
def byK (ts : List Tt) (a b : Int) : Nat → Nat
  | 0 => 0
  | k + 1 => if difB ts a b k = true then byK ts a b k ||| 2 ^ k else byK ts a b k
theorem byK_bit (ts : List Tt) (a b : Int) (i : Nat) : ∀ k, (byK ts a b k).testBit i = (decide (i < k) && difB ts a b i)
  | 0 => by simp [byK]
  | k + 1 => by
    unfold byK
    by_cases h : difB ts a b k = true
    · rw [if_pos h, Nat.testBit_or, byK_bit ts a b i k, Nat.testBit_two_pow]
      by_cases hk : i = k
      · subst hk; simp [h]
      · by_cases hl : i < k
        · have : i < k + 1 := by omega
          simp [hl, this, hk, Ne.symm hk]
        · have : ¬ i < k + 1 := by omega
          simp [hl, this, Ne.symm hk]
    · rw [if_neg h, byK_bit ts a b i k]
      have h' : difB ts a b k = false := by simpa using h
      by_cases hk : i = k
      · subst hk; simp [h']
      · by_cases hl : i < k
        · have : i < k + 1 := by omega
          simp [hl, this]
        · have : ¬ i < k + 1 := by omega
          simp [hl, this]
theorem byK_lt (ts : List Tt) (a b : Int) (k : Nat) : byK ts a b k < 2 ^ k := Nat.lt_pow_two_of_testBit _ fun i hi => by
  rw [byK_bit, decide_eq_false (by omega)]
  rfl
theorem byK_ne {ts : List Tt} {a b : Int} {k : Nat} : byK ts a b k ≠ 0 ↔ ∃ i, i < k ∧ difB ts a b i = true := by
  constructor
  · intro h
    obtain ⟨i, hi⟩ := Nat.exists_testBit_of_ne_zero h
    rw [byK_bit, Bool.and_eq_true, decide_eq_true_eq] at hi
    exact ⟨i, hi⟩
  · rintro ⟨i, hi, hd⟩ h
    have := byK_bit ts a b i k
    rw [h, decide_eq_true hi, hd] at this
    simp at this
theorem byK_and {ts : List Tt} {a b : Int} {k s : Nat} : byK ts a b k &&& s ≠ 0 ↔ ∃ i, i < k ∧ difB ts a b i = true ∧ s.testBit i = true := by
  constructor
  · intro h
    obtain ⟨i, hi⟩ := Nat.exists_testBit_of_ne_zero h
    rw [Nat.testBit_and, byK_bit, Bool.and_eq_true, Bool.and_eq_true, decide_eq_true_eq] at hi
    exact ⟨i, hi.1.1, hi.1.2, hi.2⟩
  · rintro ⟨i, hi, hd, hs⟩ h
    have : (byK ts a b k &&& s).testBit i = true := by rw [Nat.testBit_and, byK_bit, decide_eq_true hi, hd, hs]; rfl
    rw [h] at this
    simp at this
/-- The pairs that can be told apart. -/
def pzB (ts : List Tt) (a : Nat) : Nat → List Int
  | 0 => []
  | b + 1 => pzB ts a b ++ if byK ts (a : Int) (b : Int) ts.length ≠ 0 then [(byK ts (a : Int) (b : Int) ts.length : Int)] else []
def pzA (ts : List Tt) : Nat → List Int
  | 0 => []
  | a + 1 => pzA ts a ++ pzB ts a a
theorem pzB_mem {ts : List Tt} {a : Nat} {x : Int} : ∀ {k}, x ∈ pzB ts a k ↔ ∃ b, b < k ∧ x = (byK ts (a : Int) (b : Int) ts.length : Int) ∧ byK ts (a : Int) (b : Int) ts.length ≠ 0
  | 0 => by simp [pzB]
  | k + 1 => by
    unfold pzB
    rw [List.mem_append, pzB_mem]
    constructor
    · rintro (⟨b, h1, h2⟩ | h)
      · exact ⟨b, by omega, h2⟩
      · split at h
        · rename_i h0
          simp at h
          exact ⟨k, by omega, h, h0⟩
        · cases h
    · rintro ⟨b, h1, h2, h3⟩
      by_cases hb : b = k
      · subst hb
        right
        rw [if_pos h3]
        simp [h2]
      · exact Or.inl ⟨b, by omega, h2, h3⟩
theorem pzA_mem {ts : List Tt} {x : Int} : ∀ {n}, x ∈ pzA ts n ↔ ∃ a b, a < n ∧ b < a ∧ x = (byK ts ((a : Nat) : Int) ((b : Nat) : Int) ts.length : Int) ∧ byK ts (a : Int) (b : Int) ts.length ≠ 0
  | 0 => by simp [pzA]
  | n + 1 => by
    unfold pzA
    rw [List.mem_append, pzA_mem, pzB_mem]
    constructor
    · rintro (⟨a, b, h1, h2⟩ | ⟨b, h1, h2⟩)
      · exact ⟨a, b, by omega, h2⟩
      · exact ⟨n, b, by omega, h1, h2⟩
    · rintro ⟨a, b, h1, h2, h3⟩
      by_cases hb : a = n
      · subst hb
        exact Or.inr ⟨b, h2, h3⟩
      · exact Or.inl ⟨a, b, by omega, h2, h3⟩
theorem pzB_len (ts : List Tt) (a : Nat) : ∀ k, (pzB ts a k).length ≤ k
  | 0 => by simp [pzB]
  | k + 1 => by
    have := pzB_len ts a k
    unfold pzB
    rw [List.length_append]
    split <;> simp <;> omega
theorem pzA_len (ts : List Tt) : ∀ n, (pzA ts n).length ≤ n * n
  | 0 => by simp [pzA]
  | n + 1 => by
    have h1 := pzA_len ts n
    have h2 := pzB_len ts n n
    unfold pzA
    rw [List.length_append, Nat.add_mul, Nat.mul_add]
    omega
/-- A set of tests that tells apart whatever all tests do. -/
def okS (ts : List Tt) (n s : Nat) : Prop := ∀ a b : Nat, a < n → b < a → byK ts (a : Int) (b : Int) ts.length ≠ 0 → byK ts (a : Int) (b : Int) ts.length &&& s ≠ 0
def misB (xs : List Int) (s : Int) : Bool := xs.any fun x => decide (bits .and .i64 x s = 0)
theorem mis_ok {ts : List Tt} {n s : Nat} (hm : ts.length ≤ 16) (hs : s < 2 ^ ts.length) : misB (pzA ts n) (s : Int) = false ↔ okS ts n s := by
  have h16 : 2 ^ ts.length ≤ 65536 := Nat.pow_le_pow_right (n := 2) (by omega) hm
  have hb : ∀ a b : Int, bits .and .i64 (byK ts a b ts.length : Int) (s : Int) = ((byK ts a b ts.length &&& s : Nat) : Int) := fun a b => i64_and _ _ (by have := byK_lt ts a b ts.length; omega) (by omega)
  unfold misB
  rw [List.any_eq_false]
  constructor
  · intro h a b ha hb' h0 h1
    have := h _ (pzA_mem.2 ⟨a, b, ha, hb', rfl, h0⟩)
    rw [hb, h1] at this
    simp at this
  · intro h x hx
    obtain ⟨a, b, ha, hb', rfl, h0⟩ := pzA_mem.1 hx
    rw [hb]
    have := h a b ha hb' h0
    simpa using this
theorem okS_full (ts : List Tt) (n : Nat) : okS ts n (2 ^ ts.length - 1) := fun a b _ _ h => by
  rw [byK_and]
  obtain ⟨i, hi, hd⟩ := byK_ne.1 h
  exact ⟨i, hi, hd, by rw [full_bit]; simpa using hi⟩
/-- The best of the first sets. -/
def bsK (ts : List Tt) (n : Nat) : Nat → Option Nat
  | 0 => none
  | s + 1 => if misB (pzA ts n) (s : Int) = true then bsK ts n s else match bsK ts n s with
    | none => some s
    | some b => if ltB (ky ts (mems ts.length s)) (ky ts (mems ts.length b)) = true then some s else some b
theorem bsK_ok (ts : List Tt) (n : Nat) : ∀ k, (bsK ts n k = none → ∀ s, s < k → misB (pzA ts n) (s : Int) = true) ∧
    ∀ b, bsK ts n k = some b → b < k ∧ misB (pzA ts n) (b : Int) = false ∧ ∀ s, s < k → misB (pzA ts n) (s : Int) = false → ltB (ky ts (mems ts.length s)) (ky ts (mems ts.length b)) = false
  | 0 => ⟨fun _ s hs => absurd hs (by omega), fun b h => by cases h⟩
  | k + 1 => by
    obtain ⟨h1, h2⟩ := bsK_ok ts n k
    unfold bsK
    by_cases hm : misB (pzA ts n) (k : Int) = true
    · rw [if_pos hm]
      refine ⟨fun h s hs => ?_, fun b h => ?_⟩
      · by_cases hk : s = k
        · subst hk; exact hm
        · exact h1 h s (by omega)
      · obtain ⟨a1, a2, a3⟩ := h2 b h
        refine ⟨by omega, a2, fun s hs h5 => ?_⟩
        by_cases hk : s = k
        · subst hk; rw [hm] at h5; cases h5
        · exact a3 s (by omega) h5
    · rw [if_neg hm]
      have hm' : misB (pzA ts n) (k : Int) = false := by simpa using hm
      cases hb : bsK ts n k with
      | none =>
        refine ⟨(fun h => by cases h), fun b h => ?_⟩
        injection h with h
        subst h
        refine ⟨by omega, hm', fun s hs h => ?_⟩
        by_cases hk : s = k
        · subst hk; exact ltB_irr _
        · rw [h1 hb s (by omega)] at h; cases h
      | some c =>
        obtain ⟨a1, a2, a3⟩ := h2 c hb
        refine ⟨(fun h => by simp only at h; split at h <;> cases h), fun b h => ?_⟩
        simp only at h
        split at h
        · rename_i hlt
          injection h with h
          subst h
          refine ⟨by omega, hm', fun s hs h => ?_⟩
          by_cases hk : s = k
          · subst hk; exact ltB_irr _
          · have := a3 s (by omega) h
            cases h5 : ltB (ky ts (mems ts.length s)) (ky ts (mems ts.length k)) with
            | false => rfl
            | true => rw [ltB_trans h5 hlt] at this; cases this
        · rename_i hlt
          injection h with h
          subst h
          refine ⟨by omega, a2, fun s hs h => ?_⟩
          by_cases hk : s = k
          · subst hk; simpa using hlt
          · exact a3 s (by omega) h
def ndS (ts : List Tt) (n : Nat) : Nat := (bsK ts n (2 ^ ts.length)).getD 0
theorem nd_ok {ts : List Tt} {n : Nat} (hm : ts.length ≤ 16) : bsK ts n (2 ^ ts.length) = some (ndS ts n) ∧ ndS ts n < 2 ^ ts.length ∧ okS ts n (ndS ts n) ∧ ∀ s, s < 2 ^ ts.length → okS ts n s → ltB (ky ts (mems ts.length s)) (ky ts (mems ts.length (ndS ts n))) = false := by
  obtain ⟨h1, h2⟩ := bsK_ok ts n (2 ^ ts.length)
  have hp : 0 < 2 ^ ts.length := Nat.pow_pos (by omega)
  cases hb : bsK ts n (2 ^ ts.length) with
  | none =>
    have := h1 hb (2 ^ ts.length - 1) (by omega)
    rw [(mis_ok hm (by omega)).2 (okS_full ts n)] at this
    cases this
  | some b =>
    obtain ⟨a1, a2, a3⟩ := h2 b hb
    have e : ndS ts n = b := by unfold ndS; rw [hb]; rfl
    rw [e]
    exact ⟨rfl, a1, (mis_ok hm a1).1 a2, fun s hs h => a3 s hs ((mis_ok hm hs).2 h)⟩
theorem tdB_iff {ts : List Tt} {ks : List Int} {a b : Int} : tdB ts ks a b = true ↔ ∃ x ∈ ks, difB ts a b x.toNat = true := by
  unfold tdB
  rw [List.any_eq_true]
  constructor
  · rintro ⟨k, hk, h⟩
    have hk' := List.mem_range.1 hk
    exact ⟨ks.getD k 0, by rw [show ks.getD k 0 = ks[k] by simp [List.getD, hk']]; exact List.getElem_mem hk', h⟩
  · rintro ⟨x, hx, h⟩
    obtain ⟨k, hk, rfl⟩ := List.getElem_of_mem hx
    refine ⟨k, List.mem_range.2 hk, ?_⟩
    unfold tdk
    rw [show ks.getD k 0 = ks[k] by simp [List.getD, hk]]
    exact h
theorem tdB_mems {ts : List Tt} {s : Nat} {a b : Int} : tdB ts (mems ts.length s) a b = true ↔ ∃ i, i < ts.length ∧ difB ts a b i = true ∧ s.testBit i = true := by
  rw [tdB_iff]
  constructor
  · rintro ⟨x, hx, h⟩
    obtain ⟨i, rfl, hi, hs⟩ := mems_mem.1 hx
    exact ⟨i, hi, h, hs⟩
  · rintro ⟨i, hi, h, hs⟩
    exact ⟨(i : Int), mems_mem.2 ⟨i, rfl, hi, hs⟩, h⟩
theorem tdB_all {ts : List Tt} {a b : Int} : tdB ts (upL ts.length) a b = true ↔ byK ts a b ts.length ≠ 0 := by
  rw [tdB_iff, byK_ne]
  constructor
  · rintro ⟨x, hx, h⟩
    obtain ⟨h0, h1⟩ := upL_mem'.1 hx
    exact ⟨x.toNat, by omega, h⟩
  · rintro ⟨i, hi, h⟩
    exact ⟨(i : Int), upL_mem'.2 ⟨by omega, by omega⟩, h⟩
/-- Tests that tell apart whatever all tests do. -/
def EnP (n : Nat) (ts : List Tt) (ks : List Int) : Prop := ∀ a b : Nat, a < n → b < a → tdB ts (upL ts.length) (a : Int) (b : Int) = true → tdB ts ks (a : Int) (b : Int) = true
theorem en_ok {n : Nat} {ts : List Tt} {s : Nat} : EnP n ts (mems ts.length s) ↔ okS ts n s := by
  unfold EnP okS
  constructor
  · intro h a b ha hb h0
    rw [byK_and]
    exact tdB_mems.1 (h a b ha hb (tdB_all.2 h0))
  · intro h a b ha hb h0
    exact tdB_mems.2 (byK_and.1 (h a b ha hb (tdB_all.1 h0)))
theorem Ris.step {xs : List Int} {lim : Int} (h : Ris xs lim) : ∀ j, j < xs.length → ∀ i, i < j → xs.getD i 0 < xs.getD j 0 := by
  intro j
  induction j with
  | zero => intro _ i hi; omega
  | succ j ih =>
    intro hj i hi
    have h1 := (h (j + 1) hj).1
    rw [prv_succ] at h1
    by_cases hij : i = j
    · subst hij; exact h1
    · have := ih (by omega) i (by omega)
      omega
theorem Ris.pw {xs : List Int} {lim : Int} (h : Ris xs lim) : xs.Pairwise (· < ·) := by
  rw [List.pairwise_iff_getElem]
  intro i j hi hj hij
  have := h.step j hj i hij
  simpa [List.getD, hi, hj] using this
theorem srt_ext : ∀ {a b : List Int}, a.Pairwise (· < ·) → b.Pairwise (· < ·) → (∀ x, x ∈ a ↔ x ∈ b) → a = b
  | [], [], _, _, _ => rfl
  | [], y :: b, _, _, h => by have := (h y).2 (List.mem_cons_self ..); cases this
  | x :: a, [], _, _, h => by have := (h x).1 (List.mem_cons_self ..); cases this
  | x :: a, y :: b, ha, hb, h => by
    rw [List.pairwise_cons] at ha hb
    have e : x = y := by
      rcases List.mem_cons.1 ((h x).1 (List.mem_cons_self ..)) with h1 | h1
      · exact h1
      · rcases List.mem_cons.1 ((h y).2 (List.mem_cons_self ..)) with h2 | h2
        · exact h2.symm
        · have a1 := hb.1 x h1
          have a2 := ha.1 y h2
          omega
    subst e
    rw [srt_ext ha.2 hb.2 fun z => ?_]
    constructor
    · intro hz
      rcases List.mem_cons.1 ((h z).1 (List.mem_cons_of_mem _ hz)) with h1 | h1
      · have := ha.1 z hz; omega
      · exact h1
    · intro hz
      rcases List.mem_cons.1 ((h z).2 (List.mem_cons_of_mem _ hz)) with h1 | h1
      · have := hb.1 z hz; omega
      · exact h1
theorem mems_pw (m s : Nat) : (mems m s).Pairwise (· < ·) := by
  unfold mems memN
  rw [List.pairwise_map]
  exact (List.Pairwise.sublist List.filter_sublist (List.pairwise_lt_range)).imp fun h => by omega
theorem mems_ris (m s : Nat) : Ris (mems m s) (m : Int) := ris_of (mems_pw m s) fun x hx => by
  obtain ⟨j, rfl, hj, _⟩ := mems_mem.1 hx
  omega
theorem ris_set {xs : List Int} {m : Nat} (h : Ris xs (m : Int)) : ∃ s, s < 2 ^ m ∧ mems m s = xs := by
  have hb := h.bd
  refine ⟨setK xs xs.length, setK_pow xs m hb _ (Nat.le_refl _), srt_ext (mems_pw _ _) h.pw fun x => ?_⟩
  rw [mems_mem]
  constructor
  · rintro ⟨j, rfl, hj, ht⟩
    obtain ⟨k, hk, hkj⟩ := (setK_bit xs j _).1 ht
    have := hb k hk
    have e : ((j : Nat) : Int) = xs.getD k 0 := by omega
    rw [e, show xs.getD k 0 = xs[k] by simp [List.getD, hk]]
    exact List.getElem_mem hk
  · intro hx
    obtain ⟨k, hk, rfl⟩ := List.getElem_of_mem hx
    have := hb k hk
    rw [show xs.getD k 0 = xs[k] by simp [List.getD, hk]] at this
    exact ⟨xs[k].toNat, by omega, by omega, (setK_bit xs _ _).2 ⟨k, hk, by simp [List.getD, hk]⟩⟩
set_option maxHeartbeats 1600000 in
theorem lindex_any (A : Option Addr) (n c : Nat) (xs : List Int) (x : Int) (w : World) (h : Il w A n c xs) : Calls Tryd.prog 77 #[.slice A n c, .int .i64 x] w (Ret (fun v _ => ∃ i : Int, v = .int .i64 i ∧ decide (0 ≤ i) = shB xs x) w) := by
  have hn := h.le
  have hc := h.cap
  have HL := Lib.hid h.len
  have H := Lib.hid h
  clear h
  go_enter Tryd.func77, Tryd.ntmps77
  go_wp2_with fail
  go_loopw [8] (fun i wr => ∃ k : Nat, k ≤ n ∧ i = .int .i64 (k : Int) ∧ (∀ j, j < k → xs.getD j 0 ≠ x) ∧ Ext w wr) (fun i _ => n - (intOf i).toNat)
  case atStart => exact ⟨0, by omega, rfl, fun j hj => absurd hj (by omega), Ext.refl _⟩
  case round =>
    obtain ⟨k, hk, rfl, hr, hx⟩ := hrel
    have HR := Lib.hid hr
    have HX := Lib.hid hx
    by_cases hkn : k < n
    · have pk : (k : Int) < (n : Int) := by omega
      obtain ⟨b, o, rfl, hcell⟩ := (H.out.below hx).at_ (by omega)
      have ck := hcell k hkn
      obtain ⟨y, hy⟩ : ∃ y, xs.getD k 0 = y := ⟨_, rfl⟩
      rw [hy] at ck
      by_cases hxy : x = y
      · subst hxy
        have g2 : (x == x) = true := by simp
        have HN := Lib.hid (shB_t (by rw [HL.out]; exact hkn) hy)
        clear hr hx hcell hy
        go_wp2
        go_returns
        exact ⟨_, rfl, ⟨(k : Int), rfl, by rw [HN.out]; simp⟩, HX.out⟩
      · have g2 : (x == y) = false := by simpa using hxy
        have HN := Lib.hid (show ∀ j, j < k + 1 → xs.getD j 0 ≠ x from fun j hj => by
          rcases Nat.lt_or_eq_of_le (Nat.le_of_lt_succ hj) with h | rfl
          · exact hr j h
          · rw [hy]; exact fun e => hxy e.symm)
        clear hr hx hcell hy
        go_wp2
        go_roundw
        case rel => exact ⟨k + 1, by omega, by go_num, HN.out, HX.out⟩
        case measure => simp [intOf]; omega
    · obtain rfl : k = n := by omega
      have HN := Lib.hid (shB_f (xs := xs) (f := x) (by rw [HL.out]; exact hr))
      clear hr hx
      go_wp2
      go_returns
      exact ⟨_, rfl, ⟨-1, rfl, by rw [HN.out]; rfl⟩, HX.out⟩
theorem lcontains_any (A : Option Addr) (n c : Nat) (xs : List Int) (x : Int) (w : World) (h : Il w A n c xs) : Calls Tryd.prog 59 #[.slice A n c, .int .i64 x] w (Ret (fun v _ => v = .bool (shB xs x)) w) := by
  have H := Lib.hid h
  clear h
  go_enter Tryd.func59, Tryd.ntmps59
  go_wp2_with fail
  refine (lindex_any A n c xs x w H.out).mono ?_
  rintro e w1 ⟨v1, rfl, ⟨i, rfl, hi⟩, hb⟩
  have HI := Lib.hid hi
  have HB := Lib.hid hb
  clear hi hb
  by_cases h0 : 0 ≤ i
  · have HN := Lib.hid (show shB xs x = true by rw [← HI.out]; simpa using h0)
    go_wp2
    go_returns
    exact ⟨_, rfl, by rw [HN.out]; rfl, HB.out⟩
  · have HN := Lib.hid (show shB xs x = false by rw [← HI.out]; simpa using h0)
    have g2 : decide (0 ≤ i) = false := by simpa using h0
    go_wp2
    go_returns
    exact ⟨_, rfl, by rw [HN.out]; rfl, HB.out⟩
theorem rneedf_any (x s : Int) (g : Nat) (w : World) (h : w.cell? ⟨g, 0, none⟩ = some (.int .i64 s)) : Calls Tryd.prog 61 #[.int .i64 x, .pointer (some ⟨g, 0, none⟩)] w (Ret (fun v _ => v = .bool (decide (bits .and .i64 x s = 0))) w) := by
  obtain ⟨z, hz⟩ : ∃ z, bits .and .i64 x s = z := ⟨_, rfl⟩
  rw [hz]
  go_enter Tryd.func61, Tryd.ntmps61
  by_cases h0 : z = 0
  · have g2 : (z == 0) = true := by simpa using h0
    go_wp2
    go_returns
    exact ⟨_, rfl, by rw [decide_eq_true h0]; rfl, Below.refl _ _⟩
  · have g2 : (z == 0) = false := by simpa using h0
    go_wp2
    go_returns
    exact ⟨_, rfl, by rw [decide_eq_false h0]; rfl, Below.refl _ _⟩
theorem getD_mem' {xs : List Int} {k : Nat} (h : k < xs.length) : xs.getD k 0 ∈ xs := by
  rw [show xs.getD k 0 = xs[k] by simp [List.getD, h]]
  exact List.getElem_mem h
theorem misB_t {xs : List Int} {s : Int} {k : Nat} (hk : k < xs.length) (h : decide (bits .and .i64 (xs.getD k 0) s = 0) = true) : misB xs s = true := by
  unfold misB
  exact List.any_eq_true.2 ⟨_, getD_mem' hk, h⟩
theorem misB_f {xs : List Int} {s : Int} (h : ∀ k, k < xs.length → decide (bits .and .i64 (xs.getD k 0) s = 0) = false) : misB xs s = false := by
  unfold misB
  rw [List.any_eq_false]
  intro x hx
  obtain ⟨k, hk, rfl⟩ := List.getElem_of_mem hx
  have := h k hk
  rw [show xs.getD k 0 = xs[k] by simp [List.getD, hk]] at this
  simpa using this
set_option maxHeartbeats 1600000 in
theorem lindexf_any (A : Option Addr) (n c : Nat) (xs : List Int) (s : Int) (g : Nat) (w : World) (h : Il w A n c xs) (hg : w.cell? ⟨g, 0, none⟩ = some (.int .i64 s)) :
    Calls Tryd.prog 78 #[.slice A n c, .func (.func 61) #[] #[.pointer (some ⟨g, 0, none⟩)]] w (Ret (fun v _ => ∃ i : Int, v = .int .i64 i ∧ decide (0 ≤ i) = misB xs s) w) := by
  have hn := h.le
  have hc := h.cap
  have HL := Lib.hid h.len
  have H := Lib.hid h
  have HG := Lib.hid hg
  clear h hg
  go_enter Tryd.func78, Tryd.ntmps78
  go_wp2_with fail
  go_loopw [8] (fun i wr => ∃ k : Nat, k ≤ n ∧ i = .int .i64 (k : Int) ∧ (∀ j, j < k → decide (bits .and .i64 (xs.getD j 0) s = 0) = false) ∧ Ext w wr) (fun i _ => n - (intOf i).toNat)
  case atStart => exact ⟨0, by omega, rfl, fun j hj => absurd hj (by omega), Ext.refl _⟩
  case round =>
    obtain ⟨k, hk, rfl, hr, hx⟩ := hrel
    have HR := Lib.hid hr
    have HX := Lib.hid hx
    clear hr
    by_cases hkn : k < n
    · have pk : (k : Int) < (n : Int) := by omega
      obtain ⟨b, o, rfl, hcell⟩ := (H.out.below hx).at_ (by omega)
      have ck := hcell k hkn
      obtain ⟨y, hy⟩ : ∃ y, xs.getD k 0 = y := ⟨_, rfl⟩
      rw [hy] at ck
      have HY := Lib.hid hy
      clear hcell hy hx
      go_wp2_with fail
      refine (rneedf_any y s g wr (Ext.cell HX.out HG.out)).mono ?_
      rintro e w2 ⟨v2, rfl, rfl, hb2⟩
      have HX2 := Lib.hid (bt HX.out hb2)
      clear hb2
      cases hd : decide (bits .and .i64 y s = 0) with
      | true =>
        have HN := Lib.hid (misB_t (xs := xs) (s := s) (k := k) (by rw [HL.out]; exact hkn) (by rw [HY.out]; exact hd))
        clear hd
        go_wp2
        go_returns
        exact ⟨_, rfl, ⟨(k : Int), rfl, by rw [HN.out]; simp⟩, HX2.out⟩
      | false =>
        have HN := Lib.hid (show ∀ j, j < k + 1 → decide (bits .and .i64 (xs.getD j 0) s = 0) = false from fun j hj => by
          rcases Nat.lt_or_eq_of_le (Nat.le_of_lt_succ hj) with h | rfl
          · exact HR.out j h
          · rw [HY.out]; exact hd)
        clear hd
        go_wp2
        go_roundw
        case rel => exact ⟨k + 1, by omega, by go_num, HN.out, HX2.out⟩
        case measure => simp [intOf]; omega
    · obtain rfl : k = n := by omega
      have HN := Lib.hid (misB_f (xs := xs) (s := s) (by rw [HL.out]; exact HR.out))
      clear hx
      go_wp2
      go_returns
      exact ⟨_, rfl, ⟨-1, rfl, by rw [HN.out]; rfl⟩, HX.out⟩
theorem lcontainsf_any (A : Option Addr) (n c : Nat) (xs : List Int) (s : Int) (g : Nat) (w : World) (h : Il w A n c xs) (hg : w.cell? ⟨g, 0, none⟩ = some (.int .i64 s)) :
    Calls Tryd.prog 60 #[.slice A n c, .func (.func 61) #[] #[.pointer (some ⟨g, 0, none⟩)]] w (Ret (fun v _ => v = .bool (misB xs s)) w) := by
  have H := Lib.hid h
  have HG := Lib.hid hg
  clear h hg
  go_enter Tryd.func60, Tryd.ntmps60
  go_wp2_with fail
  refine (lindexf_any A n c xs s g w H.out HG.out).mono ?_
  rintro e w1 ⟨v1, rfl, ⟨i, rfl, hi⟩, hb⟩
  have HI := Lib.hid hi
  have HB := Lib.hid hb
  clear hi hb
  by_cases h0 : 0 ≤ i
  · have HN := Lib.hid (show misB xs s = true by rw [← HI.out]; simpa using h0)
    go_wp2
    go_returns
    exact ⟨_, rfl, by rw [HN.out]; rfl, HB.out⟩
  · have HN := Lib.hid (show misB xs s = false by rw [← HI.out]; simpa using h0)
    have g2 : decide (0 ≤ i) = false := by simpa using h0
    go_wp2
    go_returns
    exact ⟨_, rfl, by rw [HN.out]; rfl, HB.out⟩
theorem drop_get {xs : List Int} {k : Nat} (h : k < xs.length) : xs.drop k = xs.getD k 0 :: xs.drop (k + 1) := by
  rw [List.drop_eq_getElem_cons h]
  simp [List.getD, h]
set_option maxHeartbeats 1600000 in
theorem lcmp_any (A A' : Option Addr) (n c m d : Nat) (xs ys : List Int) (w : World) (h : Il w A n c xs) (h' : Il w A' m d ys) : Calls Tryd.prog 80 #[.slice A n c, .slice A' m d] w (Ret (fun v _ => v = .int .i64 (cmpL xs ys)) w) := by
  have hn := h.le
  have hc := h.cap
  have hm := h'.le
  have hd := h'.cap
  have HL := Lib.hid h.len
  have HL' := Lib.hid h'.len
  have H := Lib.hid h
  have H' := Lib.hid h'
  clear h h'
  go_enter Tryd.func80, Tryd.ntmps80
  go_wp2_with fail
  go_loopw [11] (fun i wr => ∃ k : Nat, k ≤ n ∧ k ≤ m ∧ i = .int .i64 (k : Int) ∧ cmpL xs ys = cmpL (xs.drop k) (ys.drop k) ∧ Ext w wr) (fun i _ => n - (intOf i).toNat)
  case atStart => exact ⟨0, by omega, by omega, rfl, rfl, Ext.refl _⟩
  case round =>
    obtain ⟨k, hk, hk', rfl, hr, hx⟩ := hrel
    have HX := Lib.hid hx
    by_cases hkn : k < n
    · have pk : (k : Int) < (n : Int) := by omega
      have dx := drop_get (xs := xs) (k := k) (by rw [HL.out]; exact hkn)
      obtain ⟨b, o, rfl, hcell⟩ := (H.out.below hx).at_ (by omega)
      have ck := hcell k hkn
      obtain ⟨x, hxx⟩ : ∃ y, xs.getD k 0 = y := ⟨_, rfl⟩
      rw [hxx] at ck dx
      by_cases hkm : k < m
      · have pm : (k : Int) < (m : Int) := by omega
        have pm' : ¬ ((m : Int) ≤ (k : Int)) := by omega
        have dy := drop_get (xs := ys) (k := k) (by rw [HL'.out]; exact hkm)
        obtain ⟨b', o', rfl, hcell'⟩ := (H'.out.below hx).at_ (by omega)
        have ck' := hcell' k hkm
        obtain ⟨y, hyy⟩ : ∃ z, ys.getD k 0 = z := ⟨_, rfl⟩
        rw [hyy] at ck' dy
        rw [dx, dy, cmpL] at hr
        have HR := Lib.hid hr
        clear hr dx dy hcell hcell' hxx hyy hx
        go_wp2_with fail
        refine (lcompare_any x y wr).mono ?_
        rintro e y1 ⟨rfl, rfl⟩
        obtain ⟨z, hz⟩ : ∃ z, cmI x y = z := ⟨_, rfl⟩
        rw [hz] at HR ⊢
        clear hz
        by_cases h0 : z = 0
        · have g2 : (z != 0) = false := by simpa using h0
          have HN : Hid (cmpL xs ys = cmpL (xs.drop (k + 1)) (ys.drop (k + 1))) := show _ = _ by rw [HR.out, if_pos h0]
          clear ck ck'
          go_wp2
          go_roundw
          case rel => exact ⟨k + 1, by omega, by omega, by go_num, HN.out, HX.out⟩
          case measure => simp [intOf]; omega
        · have g2 : (z != 0) = true := by simpa using h0
          have HN : Hid (cmpL xs ys = z) := show _ = _ by rw [HR.out, if_neg h0]
          clear ck ck'
          go_wp2
          go_returns
          exact ⟨_, rfl, by rw [HN.out]; rfl, HX.out⟩
      · obtain rfl : k = m := by omega
        have pm : (k : Int) ≤ (k : Int) := by omega
        have HN : Hid (cmpL xs ys = 1) := show _ = _ by rw [hr, dx, show ys.drop k = [] from List.drop_of_length_le (by rw [HL'.out]; exact Nat.le_refl _)]; rfl
        clear hr dx hcell hxx hx
        go_wp2
        go_returns
        exact ⟨_, rfl, by rw [HN.out]; rfl, HX.out⟩
    · obtain rfl : k = n := by omega
      rw [show xs.drop k = [] from List.drop_of_length_le (by rw [HL.out]; exact Nat.le_refl _)] at hr
      clear hx
      by_cases hkm : k < m
      · have pm : (k : Int) < (m : Int) := by omega
        have HN : Hid (cmpL xs ys = -1) := show _ = _ by rw [hr, drop_get (by rw [HL'.out]; exact hkm)]; rfl
        clear hr
        go_wp2
        go_returns
        exact ⟨_, rfl, by rw [HN.out]; rfl, HX.out⟩
      · obtain rfl : k = m := by omega
        have HN : Hid (cmpL xs ys = 0) := show _ = _ by rw [hr, show ys.drop k = [] from List.drop_of_length_le (by rw [HL'.out]; exact Nat.le_refl _)]; rfl
        clear hr
        go_wp2
        go_returns
        exact ⟨_, rfl, by rw [HN.out]; rfl, HX.out⟩
theorem lor3_any (x y z : Int) (g c : Nat) (w : World) (h : Il w (some ⟨g, 0, none⟩) 3 c [x, y, z]) : Calls Tryd.prog 72 #[.slice (some ⟨g, 0, none⟩) 3 c] w (Ret (fun v _ => v = .int .i64 (or3 x y z)) w) := by
  have hc := h.cap
  have hl := h.le
  obtain ⟨b, o, hA, hcell⟩ := h.at_ (by omega)
  injection hA with hA
  injection hA with e1 e2 _
  subst e1 e2
  have c0 : w.cell? ⟨g, 0, none⟩ = some (.int .i64 x) := hcell 0 (by omega)
  have c1 : w.cell? ⟨g, 0 + 1, none⟩ = some (.int .i64 y) := hcell 1 (by omega)
  have c2 : w.cell? ⟨g, 0 + 2, none⟩ = some (.int .i64 z) := hcell 2 (by omega)
  rw [Nat.zero_add] at c1 c2
  clear hcell h
  go_enter Tryd.func72, Tryd.ntmps72
  go_wp2_with fail
  go_loopw [8] (fun i wr => wr = w ∧ ((i = .int .i64 0) ∨ (i = .int .i64 1 ∧ x = 0) ∨ (i = .int .i64 2 ∧ x = 0 ∧ y = 0) ∨ (i = .int .i64 3 ∧ x = 0 ∧ y = 0 ∧ z = 0))) (fun i _ => 4 - (intOf i).toNat)
  case atStart => exact ⟨rfl, Or.inl rfl⟩
  case round =>
    obtain ⟨rfl, hrel⟩ := hrel
    rcases hrel with rfl | ⟨rfl, hx⟩ | ⟨rfl, hx, hy⟩ | ⟨rfl, hx, hy, hz⟩
    · by_cases hx : x = 0
      · have g1 : (x != 0) = false := by simpa using hx
        go_wp2
        go_roundw
        case rel => exact ⟨trivial, Or.inr (Or.inl ⟨rfl, hx⟩)⟩
        case measure => simp [intOf]
      · have g1 : (x != 0) = true := by simpa using hx
        have HE : Hid (or3 x y z = x) := show _ = _ by unfold or3 orI; rw [if_neg hx]
        go_wp2
        go_returns
        exact ⟨_, rfl, by rw [HE.out]; rfl, Below.refl _ _⟩
    · by_cases hy : y = 0
      · have g1 : (y != 0) = false := by simpa using hy
        go_wp2
        go_roundw
        case rel => exact ⟨trivial, Or.inr (Or.inr (Or.inl ⟨rfl, hx, hy⟩))⟩
        case measure => simp [intOf]
      · have g1 : (y != 0) = true := by simpa using hy
        have HE : Hid (or3 x y z = y) := show _ = _ by unfold or3 orI; rw [if_pos hx, if_neg hy]
        go_wp2
        go_returns
        exact ⟨_, rfl, by rw [HE.out]; rfl, Below.refl _ _⟩
    · by_cases hz : z = 0
      · have g1 : (z != 0) = false := by simpa using hz
        go_wp2
        go_roundw
        case rel => exact ⟨trivial, Or.inr (Or.inr (Or.inr ⟨rfl, hx, hy, hz⟩))⟩
        case measure => simp [intOf]
      · have g1 : (z != 0) = true := by simpa using hz
        have HE : Hid (or3 x y z = z) := show _ = _ by unfold or3 orI; rw [if_pos hx, if_pos hy]
        go_wp2
        go_returns
        exact ⟨_, rfl, by rw [HE.out]; rfl, Below.refl _ _⟩
    · have HE : Hid (or3 x y z = 0) := show _ = _ by unfold or3 orI; rw [if_pos hx, if_pos hy, hz]
      go_wp2
      go_returns
      exact ⟨_, rfl, by rw [HE.out]; rfl, Below.refl _ _⟩
abbrev TCH : TypeId := 106
set_option maxHeartbeats 1600000 in
set_option maxRecDepth 100000 in
theorem rbefore_any (a b : Int) (xs ys : List Int) (A A' : Option Addr) (n c n' c' : Nat) (w : World) (hx : Il w A n c xs) (hy : Il w A' n' c' ys) :
    Calls Tryd.prog 63 #[.agg #[.int .i64 a, .slice A n c], .agg #[.int .i64 b, .slice A' n' c']] w (Ret (fun v _ => v = .int .i64 (or3 (cmI a b) (cmI (n : Int) (n' : Int)) (cmpL xs ys))) w) := by
  have HX := Lib.hid hx
  have HY := Lib.hid hy
  have lx := hx.le
  have lx' := hx.cap
  have ly := hy.le
  have ly' := hy.cap
  obtain ⟨C1, hC1⟩ : ∃ R, cmI a b = R := ⟨_, rfl⟩
  obtain ⟨C2, hC2⟩ : ∃ R, cmI (n : Int) (n' : Int) = R := ⟨_, rfl⟩
  obtain ⟨C3, hC3⟩ : ∃ R, cmpL xs ys = R := ⟨_, rfl⟩
  obtain ⟨R, hR⟩ : ∃ R, or3 C1 C2 C3 = R := ⟨_, rfl⟩
  rw [hC1, hC2, hC3, hR]
  have HC1 := Lib.hid hC1
  have HC2 := Lib.hid hC2
  have HC3 := Lib.hid hC3
  have HR := Lib.hid hR
  clear hx hy hR hC1 hC2 hC3
  go_enter Tryd.func63, Tryd.ntmps63
  go_upto_region 1 with fail
  refine wp_world (fun W0 => Blk W0 w.heap.size TCH #[.int .i64 a, .slice A n c] ∧ Blk W0 (w.heap.size + 1) TCH #[.int .i64 b, .slice A' n' c'] ∧ Below w.heap.size w W0) (by exact ⟨(Blk.new_ _ _ rfl).alloc _, Blk.new_ _ _ (by simp), by go_grown⟩) ?_
  rintro W0 ⟨b0, b1, hbw⟩
  have HBW := Lib.hid hbw
  have k0 := fun w' (hh : Ext W0 w') => (b0.below hh).cells
  have k1 := fun w' (hh : Ext W0 w') => (b1.below hh).cells
  simp only [cellsAre, Nat.zero_add, Nat.reduceAdd, and_true] at k0 k1
  have hst : Ext W0 W0.drew := Ext.drew _
  clear b0 b1 hbw
  refine wp_region_adv 16 [] [(0, true, some 5, none), (1, true, some 6, none), (2, true, some 7, none), (3, true, some 8, none), (5, true, some 10, none), (6, true, some 11, none), (7, true, some 12, none), (8, true, some 13, none), (9, true, some 14, none), (10, true, some 15, none), (12, true, some 17, none), (13, true, some 18, none), (14, true, some 19, none), (15, true, some 20, none), (4, false, some 9, none), (11, false, some 16, none)] (by kernel_rfl) (by kernel_rfl) (by kernel_rfl) (by intro it hit; (repeat (rcases List.mem_cons.1 hit with rfl | hit; (focus (intro o ho ev w; injection ho with ho; subst ho; kernel_rfl)))); cases hit) (fun _ _ _ _ _ => ⟨fun h => h, fun h => h⟩) hst ?_
  repeat (first | (refine wpSeq_pure (v := ?_) rfl ?_ ?_; rotate_left 1; (focus (intro wq_ hSq_; (try dsimp only at hSq_); go_simp; (try with_reducible rfl); done)); (try simp only [Act.put, List.setIfInBounds_toArray, List.set_cons_zero, List.set_cons_succ])) | (refine wpSeq_pureG (v := ?_) rfl rfl ?_ ?_; rotate_left 1; (focus (intro wq_ hSq_; (try dsimp only at hSq_); go_simp; (try with_reducible rfl); done)); (try simp only [Act.put, List.setIfInBounds_toArray, List.set_cons_zero, List.set_cons_succ])) | (refine wpSeq_off rfl rfl ?_; (try simp only [Act.put, List.setIfInBounds_toArray, List.set_cons_zero, List.set_cons_succ])))
  first | refine wpSeq_call rfl (fun u1 g1 s1 K hK => ?_) | refine wpSeq_callG rfl rfl (fun u1 g1 s1 K hK => ?_)
  go_simp
  refine (lcompare_any a b u1).mono ?_
  rintro e y1 ⟨rfl, rfl⟩
  rw [HC1.out]
  (try go_wp2_with fail)
  refine hK.out _ _ (Ext.refl _) ?_
  clear hK K
  (try simp only [Act.put, List.setIfInBounds_toArray, List.set_cons_zero, List.set_cons_succ])
  repeat (first | (refine wpSeq_pure (v := ?_) rfl ?_ ?_; rotate_left 1; (focus (intro wq_ hSq_; (try dsimp only at hSq_); go_simp; (try with_reducible rfl); done)); (try simp only [Act.put, List.setIfInBounds_toArray, List.set_cons_zero, List.set_cons_succ])) | (refine wpSeq_pureG (v := ?_) rfl rfl ?_ ?_; rotate_left 1; (focus (intro wq_ hSq_; (try dsimp only at hSq_); go_simp; (try with_reducible rfl); done)); (try simp only [Act.put, List.setIfInBounds_toArray, List.set_cons_zero, List.set_cons_succ])) | (refine wpSeq_off rfl rfl ?_; (try simp only [Act.put, List.setIfInBounds_toArray, List.set_cons_zero, List.set_cons_succ])))
  first | refine wpSeq_call rfl (fun u2 g2 s2 K hK => ?_) | refine wpSeq_callG rfl rfl (fun u2 g2 s2 K hK => ?_)
  go_simp
  refine (lcompare_any (n : Int) (n' : Int) u2).mono ?_
  rintro e y2 ⟨rfl, rfl⟩
  rw [HC2.out]
  (try go_wp2_with fail)
  refine hK.out _ _ (Ext.refl _) ?_
  clear hK K
  (try simp only [Act.put, List.setIfInBounds_toArray, List.set_cons_zero, List.set_cons_succ])
  repeat (first | (refine wpSeq_pure (v := ?_) rfl ?_ ?_; rotate_left 1; (focus (intro wq_ hSq_; (try dsimp only at hSq_); go_simp; (try with_reducible rfl); done)); (try simp only [Act.put, List.setIfInBounds_toArray, List.set_cons_zero, List.set_cons_succ])) | (refine wpSeq_pureG (v := ?_) rfl rfl ?_ ?_; rotate_left 1; (focus (intro wq_ hSq_; (try dsimp only at hSq_); go_simp; (try with_reducible rfl); done)); (try simp only [Act.put, List.setIfInBounds_toArray, List.set_cons_zero, List.set_cons_succ])) | (refine wpSeq_off rfl rfl ?_; (try simp only [Act.put, List.setIfInBounds_toArray, List.set_cons_zero, List.set_cons_succ])))
  intro wz gz sz_
  (try simp only [endJ, List.drop_succ_cons, List.drop_zero])
  have HZ := Lib.hid (bt HBW.out sz_)
  clear hst k0 k1 g1 s1 g2 s2 gz sz_
  go_wp2_with fail
  refine (lcmp_any A A' n c n' c' xs ys wz (HX.out.below HZ.out) (HY.out.below HZ.out)).mono ?_
  rintro e y2 ⟨v2, rfl, rfl, hb2⟩
  rw [HC3.out]
  have HB2 := Lib.hid (bt HZ.out hb2)
  clear hb2
  go_wp2_with fail
  have hb : Blk (y2.alloc (.cells #[.int .i64 C1, .int .i64 C2, .int .i64 C3] TIN)) y2.heap.size TIN #[.int .i64 C1, .int .i64 C2, .int .i64 C3] := Blk.new_ _ _ rfl
  have hil : Il (y2.alloc (.cells #[.int .i64 C1, .int .i64 C2, .int .i64 C3] TIN)) (some ⟨y2.heap.size, 0, none⟩) 3 3 [C1, C2, C3] := ⟨rfl, Nat.le_refl _, by omega, fun _ => ⟨_, 0, rfl, fun j hj => by
    rw [Nat.zero_add, cell_of_row _ _ j _ TIN (0, 0) hb]
    obtain rfl | rfl | rfl : j = 0 ∨ j = 1 ∨ j = 2 := by omega
    · rfl
    · rfl
    · rfl⟩⟩
  refine (lor3_any C1 C2 C3 y2.heap.size 3 _ hil).mono ?_
  rintro e y3 ⟨v3, rfl, rfl, hb3⟩
  rw [HR.out]
  have HB3 := Lib.hid (bt HB2.out (bt (Ext.allocR y2 (.cells #[.int .i64 C1, .int .i64 C2, .int .i64 C3] TIN)) hb3))
  clear hb hil hb3
  go_wp2
  go_returns
  exact ⟨_, rfl, rfl, HB3.out⟩
end Go.Proofs.Tb
