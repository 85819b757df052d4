/- The order of sets of tests; the cheapest set that tells all apart. -/
import Derived.Test.YtcjddfhhofoidaaDoorOpa
import Derived.Test.YtcjddfhhofoidaaDoorQa
import Derived.Test.YtcjddfhhofoidaaDoorMob
set_option linter.unusedVariables false
set_option linter.unusedSimpArgs false
namespace Go.Proofs.Tb
open Go.RowKit

/-- Lexicographic order. -/
def ltB : List Int → List Int → Bool
  | _, [] => false
  | [], _ :: _ => true
  | a :: l, b :: r => decide (a < b) || (decide (a = b) && ltB l r)
theorem ltB_nil (l : List Int) : ltB l [] = false := by cases l <;> rfl
theorem ltB_cons (a b : Int) (l r : List Int) : ltB (a :: l) (b :: r) = true ↔ a < b ∨ (a = b ∧ ltB l r = true) := by simp [ltB]
theorem ltB_irr : ∀ l : List Int, ltB l l = false
  | [] => rfl
  | a :: l => by simp [ltB, ltB_irr l]
theorem ltB_trans : ∀ {a b c : List Int}, ltB a b = true → ltB b c = true → ltB a c = true
  | _, _, [], _, h => by rw [ltB_nil] at h; cases h
  | _, [], _, h, _ => by rw [ltB_nil] at h; cases h
  | [], _ :: _, _ :: _, _, _ => rfl
  | x :: a, y :: b, z :: c, h1, h2 => by
    rw [ltB_cons] at h1 h2 ⊢
    rcases h1 with h1 | ⟨rfl, h1⟩
    · rcases h2 with h2 | ⟨rfl, h2⟩
      · exact Or.inl (by omega)
      · exact Or.inl h1
    · rcases h2 with h2 | ⟨rfl, h2⟩
      · exact Or.inl h2
      · exact Or.inr ⟨rfl, ltB_trans h1 h2⟩
theorem ltB_tri : ∀ (a b : List Int), ltB a b = true ∨ a = b ∨ ltB b a = true
  | [], [] => Or.inr (Or.inl rfl)
  | [], _ :: _ => Or.inl rfl
  | _ :: _, [] => Or.inr (Or.inr rfl)
  | x :: a, y :: b => by
    rw [ltB_cons, ltB_cons]
    rcases Int.lt_trichotomy x y with h | rfl | h
    · exact Or.inl (Or.inl h)
    · rcases ltB_tri a b with h | rfl | h
      · exact Or.inl (Or.inr ⟨rfl, h⟩)
      · exact Or.inr (Or.inl rfl)
      · exact Or.inr (Or.inr (Or.inr ⟨rfl, h⟩))
    · exact Or.inr (Or.inr (Or.inl h))
/-- What slices.Compare returns. -/
def cmpL : List Int → List Int → Int
  | [], [] => 0
  | [], _ :: _ => -1
  | _ :: _, [] => 1
  | a :: l, b :: r => if cmI a b = 0 then cmpL l r else cmI a b
theorem cmI_neg {a b : Int} : cmI a b < 0 ↔ a < b := by unfold cmI; split <;> (try split) <;> omega
theorem cmI_zero {a b : Int} : cmI a b = 0 ↔ a = b := by unfold cmI; split <;> (try split) <;> omega
theorem cmpL_lt : ∀ {a b : List Int}, cmpL a b < 0 ↔ ltB a b = true
  | [], [] => by simp [cmpL, ltB]
  | [], _ :: _ => by simp [cmpL, ltB]
  | _ :: _, [] => by simp [cmpL, ltB]
  | x :: a, y :: b => by
    rw [ltB_cons, cmpL]
    by_cases h : cmI x y = 0
    · rw [if_pos h, cmpL_lt]
      rw [cmI_zero] at h
      subst h
      constructor
      · exact fun h => Or.inr ⟨rfl, h⟩
      · rintro (h | ⟨_, h⟩)
        · omega
        · exact h
    · rw [if_neg h, cmI_neg]
      rw [cmI_zero] at h
      constructor
      · exact Or.inl
      · rintro (h1 | ⟨h1, _⟩)
        · exact h1
        · exact absurd h1 h
def or3 (x y z : Int) : Int := orI x (orI y z)
/-- What a choice is held against others by. -/
def ky (ts : List Tt) (l : List Int) : List Int := csW ts l :: (l.length : Int) :: l
theorem bef_lt (ts : List Tt) (a b : List Int) : or3 (cmI (csW ts a) (csW ts b)) (cmI (a.length : Int) (b.length : Int)) (cmpL a b) < 0 ↔ ltB (ky ts a) (ky ts b) = true := by
  unfold ky or3 orI
  rw [ltB_cons, ltB_cons, ← cmpL_lt]
  by_cases h1 : cmI (csW ts a) (csW ts b) = 0
  · rw [if_pos h1]
    rw [cmI_zero] at h1
    rw [h1]
    by_cases h2 : cmI (a.length : Int) (b.length : Int) = 0
    · rw [if_pos h2]
      rw [cmI_zero] at h2
      rw [h2]
      constructor
      · exact fun h => Or.inr ⟨rfl, Or.inr ⟨rfl, h⟩⟩
      · rintro (h | ⟨_, h | ⟨_, h⟩⟩)
        · omega
        · omega
        · exact h
    · rw [if_neg h2, cmI_neg]
      rw [cmI_zero] at h2
      constructor
      · exact fun h => Or.inr ⟨rfl, Or.inl h⟩
      · rintro (h | ⟨_, h | ⟨h, _⟩⟩)
        · omega
        · exact h
        · exact absurd h h2
  · rw [if_neg h1, cmI_neg]
    rw [cmI_zero] at h1
    constructor
    · exact Or.inl
    · rintro (h | ⟨h, _⟩)
      · exact h
      · exact absurd h h1
/-- The tests that tell two faults apart, as a set. -/
def difB (ts : List Tt) (a b : Int) (k : Nat) : Bool := shB (tS ts k) a != shB (tS ts k) b
def byK (ts : List Tt) (a b : Int) : Nat → Nat
  | 0 => 0
  | k + 1 => if difB ts a b k = true then byK ts a b k ||| 2 ^ k else byK ts a b k
theorem byK_bit (ts : List Tt) (a b : Int) (i : Nat) : ∀ k, (byK ts a b k).testBit i = (decide (i < k) && difB ts a b i)
  | 0 => by simp [byK]
  | k + 1 => by
    unfold byK
    by_cases h : difB ts a b k = true
    · rw [if_pos h, Nat.testBit_or, byK_bit ts a b i k, Nat.testBit_two_pow]
      by_cases hk : i = k
      · subst hk; simp [h]
      · by_cases hl : i < k
        · have : i < k + 1 := by omega
          simp [hl, this, hk, Ne.symm hk]
        · have : ¬ i < k + 1 := by omega
          simp [hl, this, Ne.symm hk]
    · rw [if_neg h, byK_bit ts a b i k]
      have h' : difB ts a b k = false := by simpa using h
      by_cases hk : i = k
      · subst hk; simp [h']
      · by_cases hl : i < k
        · have : i < k + 1 := by omega
          simp [hl, this]
        · have : ¬ i < k + 1 := by omega
          simp [hl, this]
theorem byK_lt (ts : List Tt) (a b : Int) (k : Nat) : byK ts a b k < 2 ^ k := Nat.lt_pow_two_of_testBit _ fun i hi => by
  rw [byK_bit, decide_eq_false (by omega)]
  rfl
theorem byK_ne {ts : List Tt} {a b : Int} {k : Nat} : byK ts a b k ≠ 0 ↔ ∃ i, i < k ∧ difB ts a b i = true := by
  constructor
  · intro h
    obtain ⟨i, hi⟩ := Nat.exists_testBit_of_ne_zero h
    rw [byK_bit, Bool.and_eq_true, decide_eq_true_eq] at hi
    exact ⟨i, hi⟩
  · rintro ⟨i, hi, hd⟩ h
    have := byK_bit ts a b i k
    rw [h, decide_eq_true hi, hd] at this
    simp at this
theorem byK_and {ts : List Tt} {a b : Int} {k s : Nat} : byK ts a b k &&& s ≠ 0 ↔ ∃ i, i < k ∧ difB ts a b i = true ∧ s.testBit i = true := by
  constructor
  · intro h
    obtain ⟨i, hi⟩ := Nat.exists_testBit_of_ne_zero h
    rw [Nat.testBit_and, byK_bit, Bool.and_eq_true, Bool.and_eq_true, decide_eq_true_eq] at hi
    exact ⟨i, hi.1.1, hi.1.2, hi.2⟩
  · rintro ⟨i, hi, hd, hs⟩ h
    have : (byK ts a b k &&& s).testBit i = true := by rw [Nat.testBit_and, byK_bit, decide_eq_true hi, hd, hs]; rfl
    rw [h] at this
    simp at this
/-- The pairs that can be told apart. -/
def pzB (ts : List Tt) (a : Nat) : Nat → List Int
  | 0 => []
  | b + 1 => pzB ts a b ++ if byK ts (a : Int) (b : Int) ts.length ≠ 0 then [(byK ts (a : Int) (b : Int) ts.length : Int)] else []
def pzA (ts : List Tt) : Nat → List Int
  | 0 => []
  | a + 1 => pzA ts a ++ pzB ts a a
theorem pzB_mem {ts : List Tt} {a : Nat} {x : Int} : ∀ {k}, x ∈ pzB ts a k ↔ ∃ b, b < k ∧ x = (byK ts (a : Int) (b : Int) ts.length : Int) ∧ byK ts (a : Int) (b : Int) ts.length ≠ 0
  | 0 => by simp [pzB]
  | k + 1 => by
    unfold pzB
    rw [List.mem_append, pzB_mem]
    constructor
    · rintro (⟨b, h1, h2⟩ | h)
      · exact ⟨b, by omega, h2⟩
      · split at h
        · rename_i h0
          simp at h
          exact ⟨k, by omega, h, h0⟩
        · cases h
    · rintro ⟨b, h1, h2, h3⟩
      by_cases hb : b = k
      · subst hb
        right
        rw [if_pos h3]
        simp [h2]
      · exact Or.inl ⟨b, by omega, h2, h3⟩
theorem pzA_mem {ts : List Tt} {x : Int} : ∀ {n}, x ∈ pzA ts n ↔ ∃ a b, a < n ∧ b < a ∧ x = (byK ts ((a : Nat) : Int) ((b : Nat) : Int) ts.length : Int) ∧ byK ts (a : Int) (b : Int) ts.length ≠ 0
  | 0 => by simp [pzA]
  | n + 1 => by
    unfold pzA
    rw [List.mem_append, pzA_mem, pzB_mem]
    constructor
    · rintro (⟨a, b, h1, h2⟩ | ⟨b, h1, h2⟩)
      · exact ⟨a, b, by omega, h2⟩
      · exact ⟨n, b, by omega, h1, h2⟩
    · rintro ⟨a, b, h1, h2, h3⟩
      by_cases hb : a = n
      · subst hb
        exact Or.inr ⟨b, h2, h3⟩
      · exact Or.inl ⟨a, b, by omega, h2, h3⟩
theorem pzB_len (ts : List Tt) (a : Nat) : ∀ k, (pzB ts a k).length ≤ k
  | 0 => by simp [pzB]
  | k + 1 => by
    have := pzB_len ts a k
    unfold pzB
    rw [List.length_append]
    split <;> simp <;> omega
theorem pzA_len (ts : List Tt) : ∀ n, (pzA ts n).length ≤ n * n
  | 0 => by simp [pzA]
  | n + 1 => by
    have h1 := pzA_len ts n
    have h2 := pzB_len ts n n
    unfold pzA
    rw [List.length_append, Nat.add_mul, Nat.mul_add]
    omega
/-- A set of tests that tells apart whatever all tests do. -/
def okS (ts : List Tt) (n s : Nat) : Prop := ∀ a b : Nat, a < n → b < a → byK ts (a : Int) (b : Int) ts.length ≠ 0 → byK ts (a : Int) (b : Int) ts.length &&& s ≠ 0
def misB (xs : List Int) (s : Int) : Bool := xs.any fun x => decide (bits .and .i64 x s = 0)
theorem mis_ok {ts : List Tt} {n s : Nat} (hm : ts.length ≤ 16) (hs : s < 2 ^ ts.length) : misB (pzA ts n) (s : Int) = false ↔ okS ts n s := by
  have h16 : 2 ^ ts.length ≤ 65536 := Nat.pow_le_pow_right (n := 2) (by omega) hm
  have hb : ∀ a b : Int, bits .and .i64 (byK ts a b ts.length : Int) (s : Int) = ((byK ts a b ts.length &&& s : Nat) : Int) := fun a b => i64_and _ _ (by have := byK_lt ts a b ts.length; omega) (by omega)
  unfold misB
  rw [List.any_eq_false]
  constructor
  · intro h a b ha hb' h0 h1
    have := h _ (pzA_mem.2 ⟨a, b, ha, hb', rfl, h0⟩)
    rw [hb, h1] at this
    simp at this
  · intro h x hx
    obtain ⟨a, b, ha, hb', rfl, h0⟩ := pzA_mem.1 hx
    rw [hb]
    have := h a b ha hb' h0
    simpa using this
theorem okS_full (ts : List Tt) (n : Nat) : okS ts n (2 ^ ts.length - 1) := fun a b _ _ h => by
  rw [byK_and]
  obtain ⟨i, hi, hd⟩ := byK_ne.1 h
  exact ⟨i, hi, hd, by rw [full_bit]; simpa using hi⟩
/-- The best of the first sets. -/
def bsK (ts : List Tt) (n : Nat) : Nat → Option Nat
  | 0 => none
  | s + 1 => if misB (pzA ts n) (s : Int) = true then bsK ts n s else match bsK ts n s with
    | none => some s
    | some b => if ltB (ky ts (mems ts.length s)) (ky ts (mems ts.length b)) = true then some s else some b
theorem bsK_ok (ts : List Tt) (n : Nat) : ∀ k, (bsK ts n k = none → ∀ s, s < k → misB (pzA ts n) (s : Int) = true) ∧
    ∀ b, bsK ts n k = some b → b < k ∧ misB (pzA ts n) (b : Int) = false ∧ ∀ s, s < k → misB (pzA ts n) (s : Int) = false → ltB (ky ts (mems ts.length s)) (ky ts (mems ts.length b)) = false
  | 0 => ⟨fun _ s hs => absurd hs (by omega), fun b h => by cases h⟩
  | k + 1 => by
    obtain ⟨h1, h2⟩ := bsK_ok ts n k
    unfold bsK
    by_cases hm : misB (pzA ts n) (k : Int) = true
    · rw [if_pos hm]
      refine ⟨fun h s hs => ?_, fun b h => ?_⟩
      · by_cases hk : s = k
        · subst hk; exact hm
        · exact h1 h s (by omega)
      · obtain ⟨a1, a2, a3⟩ := h2 b h
        refine ⟨by omega, a2, fun s hs h5 => ?_⟩
        by_cases hk : s = k
        · subst hk; rw [hm] at h5; cases h5
        · exact a3 s (by omega) h5
    · rw [if_neg hm]
      have hm' : misB (pzA ts n) (k : Int) = false := by simpa using hm
      cases hb : bsK ts n k with
      | none =>
        refine ⟨(fun h => by cases h), fun b h => ?_⟩
        injection h with h
        subst h
        refine ⟨by omega, hm', fun s hs h => ?_⟩
        by_cases hk : s = k
        · subst hk; exact ltB_irr _
        · rw [h1 hb s (by omega)] at h; cases h
      | some c =>
        obtain ⟨a1, a2, a3⟩ := h2 c hb
        refine ⟨(fun h => by simp only at h; split at h <;> cases h), fun b h => ?_⟩
        simp only at h
        split at h
        · rename_i hlt
          injection h with h
          subst h
          refine ⟨by omega, hm', fun s hs h => ?_⟩
          by_cases hk : s = k
          · subst hk; exact ltB_irr _
          · have := a3 s (by omega) h
            cases h5 : ltB (ky ts (mems ts.length s)) (ky ts (mems ts.length k)) with
            | false => rfl
            | true => rw [ltB_trans h5 hlt] at this; cases this
        · rename_i hlt
          injection h with h
          subst h
          refine ⟨by omega, a2, fun s hs h => ?_⟩
          by_cases hk : s = k
          · subst hk; simpa using hlt
          · exact a3 s (by omega) h
def ndS (ts : List Tt) (n : Nat) : Nat := (bsK ts n (2 ^ ts.length)).getD 0
theorem nd_ok {ts : List Tt} {n : Nat} (hm : ts.length ≤ 16) : bsK ts n (2 ^ ts.length) = some (ndS ts n) ∧ ndS ts n < 2 ^ ts.length ∧ okS ts n (ndS ts n) ∧ ∀ s, s < 2 ^ ts.length → okS ts n s → ltB (ky ts (mems ts.length s)) (ky ts (mems ts.length (ndS ts n))) = false := by
  obtain ⟨h1, h2⟩ := bsK_ok ts n (2 ^ ts.length)
  have hp : 0 < 2 ^ ts.length := Nat.pow_pos (by omega)
  cases hb : bsK ts n (2 ^ ts.length) with
  | none =>
    have := h1 hb (2 ^ ts.length - 1) (by omega)
    rw [(mis_ok hm (by omega)).2 (okS_full ts n)] at this
    cases this
  | some b =>
    obtain ⟨a1, a2, a3⟩ := h2 b hb
    have e : ndS ts n = b := by unfold ndS; rw [hb]; rfl
    rw [e]
    exact ⟨rfl, a1, (mis_ok hm a1).1 a2, fun s hs h => a3 s hs ((mis_ok hm hs).2 h)⟩
theorem tdB_iff {ts : List Tt} {ks : List Int} {a b : Int} : tdB ts ks a b = true ↔ ∃ x ∈ ks, difB ts a b x.toNat = true := by
  unfold tdB
  rw [List.any_eq_true]
  constructor
  · rintro ⟨k, hk, h⟩
    have hk' := List.mem_range.1 hk
    exact ⟨ks.getD k 0, by rw [show ks.getD k 0 = ks[k] by simp [List.getD, hk']]; exact List.getElem_mem hk', h⟩
  · rintro ⟨x, hx, h⟩
    obtain ⟨k, hk, rfl⟩ := List.getElem_of_mem hx
    refine ⟨k, List.mem_range.2 hk, ?_⟩
    unfold tdk
    rw [show ks.getD k 0 = ks[k] by simp [List.getD, hk]]
    exact h
theorem tdB_mems {ts : List Tt} {s : Nat} {a b : Int} : tdB ts (mems ts.length s) a b = true ↔ ∃ i, i < ts.length ∧ difB ts a b i = true ∧ s.testBit i = true := by
  rw [tdB_iff]
  constructor
  · rintro ⟨x, hx, h⟩
    obtain ⟨i, rfl, hi, hs⟩ := mems_mem.1 hx
    exact ⟨i, hi, h, hs⟩
  · rintro ⟨i, hi, h, hs⟩
    exact ⟨(i : Int), mems_mem.2 ⟨i, rfl, hi, hs⟩, h⟩
theorem tdB_all {ts : List Tt} {a b : Int} : tdB ts (upL ts.length) a b = true ↔ byK ts a b ts.length ≠ 0 := by
  rw [tdB_iff, byK_ne]
  constructor
  · rintro ⟨x, hx, h⟩
    obtain ⟨h0, h1⟩ := upL_mem'.1 hx
    exact ⟨x.toNat, by omega, h⟩
  · rintro ⟨i, hi, h⟩
    exact ⟨(i : Int), upL_mem'.2 ⟨by omega, by omega⟩, h⟩
/-- Tests that tell apart whatever all tests do. -/
def EnP (n : Nat) (ts : List Tt) (ks : List Int) : Prop := ∀ a b : Nat, a < n → b < a → tdB ts (upL ts.length) (a : Int) (b : Int) = true → tdB ts ks (a : Int) (b : Int) = true
theorem en_ok {n : Nat} {ts : List Tt} {s : Nat} : EnP n ts (mems ts.length s) ↔ okS ts n s := by
  unfold EnP okS
  constructor
  · intro h a b ha hb h0
    rw [byK_and]
    exact tdB_mems.1 (h a b ha hb (tdB_all.2 h0))
  · intro h a b ha hb h0
    exact tdB_mems.2 (byK_and.1 (h a b ha hb (tdB_all.1 h0)))
theorem Ris.step {xs : List Int} {lim : Int} (h : Ris xs lim) : ∀ j, j < xs.length → ∀ i, i < j → xs.getD i 0 < xs.getD j 0 := by
  intro j
  induction j with
  | zero => intro _ i hi; omega
  | succ j ih =>
    intro hj i hi
    have h1 := (h (j + 1) hj).1
    rw [prv_succ] at h1
    by_cases hij : i = j
    · subst hij; exact h1
    · have := ih (by omega) i (by omega)
      omega
theorem Ris.pw {xs : List Int} {lim : Int} (h : Ris xs lim) : xs.Pairwise (· < ·) := by
  rw [List.pairwise_iff_getElem]
  intro i j hi hj hij
  have := h.step j hj i hij
  simpa [List.getD, hi, hj] using this
theorem srt_ext : ∀ {a b : List Int}, a.Pairwise (· < ·) → b.Pairwise (· < ·) → (∀ x, x ∈ a ↔ x ∈ b) → a = b
  | [], [], _, _, _ => rfl
  | [], y :: b, _, _, h => by have := (h y).2 (List.mem_cons_self ..); cases this
  | x :: a, [], _, _, h => by have := (h x).1 (List.mem_cons_self ..); cases this
  | x :: a, y :: b, ha, hb, h => by
    rw [List.pairwise_cons] at ha hb
    have e : x = y := by
      rcases List.mem_cons.1 ((h x).1 (List.mem_cons_self ..)) with h1 | h1
      · exact h1
      · rcases List.mem_cons.1 ((h y).2 (List.mem_cons_self ..)) with h2 | h2
        · exact h2.symm
        · have a1 := hb.1 x h1
          have a2 := ha.1 y h2
          omega
    subst e
    rw [srt_ext ha.2 hb.2 fun z => ?_]
    constructor
    · intro hz
      rcases List.mem_cons.1 ((h z).1 (List.mem_cons_of_mem _ hz)) with h1 | h1
      · have := ha.1 z hz; omega
      · exact h1
    · intro hz
      rcases List.mem_cons.1 ((h z).2 (List.mem_cons_of_mem _ hz)) with h1 | h1
      · have := hb.1 z hz; omega
      · exact h1
theorem mems_pw (m s : Nat) : (mems m s).Pairwise (· < ·) := by
  unfold mems memN
  rw [List.pairwise_map]
  exact (List.Pairwise.sublist List.filter_sublist (List.pairwise_lt_range)).imp fun h => by omega
theorem mems_ris (m s : Nat) : Ris (mems m s) (m : Int) := ris_of (mems_pw m s) fun x hx => by
  obtain ⟨j, rfl, hj, _⟩ := mems_mem.1 hx
  omega
theorem ris_set {xs : List Int} {m : Nat} (h : Ris xs (m : Int)) : ∃ s, s < 2 ^ m ∧ mems m s = xs := by
  have hb := h.bd
  refine ⟨setK xs xs.length, setK_pow xs m hb _ (Nat.le_refl _), srt_ext (mems_pw _ _) h.pw fun x => ?_⟩
  rw [mems_mem]
  constructor
  · rintro ⟨j, rfl, hj, ht⟩
    obtain ⟨k, hk, hkj⟩ := (setK_bit xs j _).1 ht
    have := hb k hk
    have e : ((j : Nat) : Int) = xs.getD k 0 := by omega
    rw [e, show xs.getD k 0 = xs[k] by simp [List.getD, hk]]
    exact List.getElem_mem hk
  · intro hx
    obtain ⟨k, hk, rfl⟩ := List.getElem_of_mem hx
    have := hb k hk
    rw [show xs.getD k 0 = xs[k] by simp [List.getD, hk]] at this
    exact ⟨xs[k].toNat, by omega, by omega, (setK_bit xs _ _).2 ⟨k, hk, by simp [List.getD, hk]⟩⟩
end Go.Proofs.Tb
