/- Plain: trees that are balanced, changes, batches. -/
import Derived.Test.YtfljnfdeboibhaaStb
set_option linter.unusedVariables false
set_option linter.unusedSimpArgs false
namespace Go.Proofs.Tb
namespace Tr
/-- Balanced: the parts of each node differ by one at most in height. -/
def bld : Tr → Prop
  | nil => True
  | node _ _ l r => l.ht ≤ r.ht + 1 ∧ r.ht ≤ l.ht + 1 ∧ l.bld ∧ r.bld
theorem bal_bld (k v : Str) (l r : Tr) (hl : l.bld) (hr : r.bld) (h1 : l.ht ≤ r.ht + 2) (h2 : r.ht ≤ l.ht + 2) :
    (bal k v l r).bld ∧ max l.ht r.ht ≤ (bal k v l r).ht ∧ (bal k v l r).ht ≤ 1 + max l.ht r.ht ∧ (l.ht ≤ r.ht + 1 → r.ht ≤ l.ht + 1 → (bal k v l r).ht = 1 + max l.ht r.ht) := by
  unfold bal
  split
  · cases l with
    | nil => simp [ht] at *
    | node lk lv ll lr =>
      simp only [bld, ht] at *
      split
      · cases lr with
        | nil => simp [ht] at *
        | node mk mv ml mr =>
          simp only [bld, ht] at *
          obtain ⟨a1, a2, a3, b1, b2, b3, b4⟩ := hl
          refine ⟨⟨by omega, by omega, ⟨by omega, by omega, a3, b3⟩, by omega, by omega, b4, hr⟩, by omega, by omega, fun _ _ => by omega⟩
      · simp only [bld, ht] at *
        obtain ⟨a1, a2, a3, a4⟩ := hl
        refine ⟨⟨by omega, by omega, a3, by omega, by omega, a4, hr⟩, by omega, by omega, fun _ _ => by omega⟩
  · split
    · cases r with
      | nil => simp [ht] at *
      | node rk rv rl rr =>
        simp only [bld, ht] at *
        split
        · cases rl with
          | nil => simp [ht] at *
          | node mk mv ml mr =>
            simp only [bld, ht] at *
            obtain ⟨a1, a2, ⟨b1, b2, b3, b4⟩, a4⟩ := hr
            refine ⟨⟨by omega, by omega, ⟨by omega, by omega, hl, b3⟩, by omega, by omega, b4, a4⟩, by omega, by omega, fun _ _ => by omega⟩
        · simp only [bld, ht] at *
          obtain ⟨a1, a2, a3, a4⟩ := hr
          refine ⟨⟨by omega, by omega, ⟨by omega, by omega, hl, a3⟩, a4⟩, by omega, by omega, fun _ _ => by omega⟩
    · simp only [bld, ht]
      exact ⟨⟨by omega, by omega, hl, hr⟩, by omega, by omega, fun _ _ => by first | trivial | rfl⟩
theorem set_bld (k v : Str) : ∀ t : Tr, t.bld → (t.set_ k v).bld ∧ t.ht ≤ (t.set_ k v).ht ∧ (t.set_ k v).ht ≤ t.ht + 1
  | nil, _ => by
    unfold set_
    simp [bld, ht]
  | node k' v' l r, ⟨h1, h2, h3, h4⟩ => by
    unfold set_
    split
    · obtain ⟨i1, i2, i3⟩ := set_bld k v l h3
      obtain ⟨j1, j2, j3, j4⟩ := bal_bld k' v' (l.set_ k v) r i1 h4 (by omega) (by omega)
      refine ⟨j1, ?_, by simp only [ht]; omega⟩
      simp only [ht]
      by_cases c : (l.set_ k v).ht ≤ r.ht + 1
      · have := j4 c (by omega); omega
      · omega
    · split
      · obtain ⟨i1, i2, i3⟩ := set_bld k v r h4
        obtain ⟨j1, j2, j3, j4⟩ := bal_bld k' v' l (r.set_ k v) h3 i1 (by omega) (by omega)
        refine ⟨j1, ?_, by simp only [ht]; omega⟩
        simp only [ht]
        by_cases c : (r.set_ k v).ht ≤ l.ht + 1
        · have := j4 (by omega) c; omega
        · omega
      · split
        · exact ⟨⟨h1, h2, h3, h4⟩, by omega, by omega⟩
        · exact ⟨⟨h1, h2, h3, h4⟩, by simp [ht], by simp [ht]⟩
theorem without_bld : ∀ (t : Tr) (k : Str), t.bld → (t.without k).bld ∧ (t.without k).ht ≤ t.ht ∧ t.ht ≤ (t.without k).ht + 1
  | nil, k, _ => by
    unfold without
    simp [bld, ht]
  | node k' v' l r, k, ⟨h1, h2, h3, h4⟩ => by
    unfold without
    split
    · obtain ⟨i1, i2, i3⟩ := without_bld l k h3
      obtain ⟨j1, j2, j3, j4⟩ := bal_bld k' v' (l.without k) r i1 h4 (by omega) (by omega)
      refine ⟨j1, by simp only [ht]; omega, ?_⟩
      simp only [ht]
      by_cases c : r.ht ≤ (l.without k).ht + 1
      · have := j4 (by omega) c; omega
      · omega
    · split
      · obtain ⟨i1, i2, i3⟩ := without_bld r k h4
        obtain ⟨j1, j2, j3, j4⟩ := bal_bld k' v' l (r.without k) h3 i1 (by omega) (by omega)
        refine ⟨j1, by simp only [ht]; omega, ?_⟩
        simp only [ht]
        by_cases c : l.ht ≤ (r.without k).ht + 1
        · have := j4 c (by omega); omega
        · omega
      · cases l with
        | nil =>
          simp only [ht] at *
          exact ⟨h4, by omega, by omega⟩
        | node lk lv ll lr =>
          cases r with
          | nil =>
            simp only [ht] at *
            exact ⟨h3, by omega, by omega⟩
          | node rk rv rl rr =>
            obtain ⟨R, hR⟩ : ∃ R, node rk rv rl rr = R := ⟨_, rfl⟩
            obtain ⟨L, hL⟩ : ∃ L, node lk lv ll lr = L := ⟨_, rfl⟩
            obtain ⟨i1, i2, i3⟩ := without_bld (node rk rv rl rr) (node rk rv rl rr).first.1 h4
            simp only
            rw [hR] at i1 i2 i3 h1 h2 h4 ⊢
            rw [hL] at h1 h2 h3 ⊢
            obtain ⟨j1, j2, j3, j4⟩ := bal_bld R.first.1 R.first.2 L (R.without R.first.1) h3 i1 (by omega) (by omega)
            refine ⟨j1, by simp only [ht]; omega, ?_⟩
            simp only [ht]
            by_cases c : L.ht ≤ (R.without R.first.1).ht + 1
            · have := j4 c (by omega); omega
            · omega
theorem ht_pow : ∀ t : Tr, t.bld → 2 ^ ((t.ht + 1) / 2) ≤ t.size + 1
  | nil, _ => by simp [ht, size]
  | node k v l r, ⟨h1, h2, h3, h4⟩ => by
    have i1 := ht_pow l h3
    have i2 := ht_pow r h4
    simp only [ht, size]
    obtain ⟨m, hm⟩ : ∃ m, (max l.ht r.ht) / 2 = m := ⟨_, rfl⟩
    have e : (1 + max l.ht r.ht + 1) / 2 = m + 1 := by omega
    have a1 : 2 ^ m ≤ 2 ^ ((l.ht + 1) / 2) := Nat.pow_le_pow_right (by omega) (by omega)
    have a2 : 2 ^ m ≤ 2 ^ ((r.ht + 1) / 2) := Nat.pow_le_pow_right (by omega) (by omega)
    rw [e, Nat.pow_succ]
    omega
theorem ht_lt {t : Tr} (h : t.bld) (hs : t.size ≤ 100000) : t.ht < 64 := by
  rcases Nat.lt_or_ge t.ht 64 with h' | h'
  · exact h'
  · have h1 := ht_pow t h
    have h2 : 2 ^ 20 ≤ 2 ^ ((t.ht + 1) / 2) := Nat.pow_le_pow_right (by omega) (by omega)
    have h3 : (2 : Nat) ^ 20 = 1048576 := by decide
    omega
end Tr
/-- A change: a key, a value, and whether it is gone. -/
structure Cg where
  k : Str
  v : Str
  gone : Bool
def apC (t : Tr) (c : Cg) : Tr := if c.gone = true then t.without c.k else t.set_ c.k c.v
def apP (l : List Pr) (c : Cg) : List Pr := if c.gone = true then delP l c.k else setP l c.k c.v
def aft (l : List Pr) (cs : List Cg) : List Pr := cs.foldl apP l
def aftT (t : Tr) (cs : List Cg) : Tr := cs.foldl apC t
theorem apP_srtd {l : List Pr} (h : Srtd l) (c : Cg) : Srtd (apP l c) := by
  unfold apP
  split
  · exact delP_srtd h _
  · exact setP_srtd h _ _
theorem apC_prs {t : Tr} (h : Srtd t.prs) (c : Cg) : (apC t c).prs = apP t.prs c := by
  unfold apC apP
  split
  · exact Tr.without_prs h _
  · exact Tr.set_prs h _ _
theorem aftT_prs : ∀ (cs : List Cg) {t : Tr}, Srtd t.prs → (aftT t cs).prs = aft t.prs cs
  | [], _, _ => rfl
  | c :: cs, t, h => by
    show (aftT (apC t c) cs).prs = aft (apP t.prs c) cs
    rw [aftT_prs cs (by rw [apC_prs h]; exact apP_srtd h c), apC_prs h]
theorem aft_srtd : ∀ (cs : List Cg) {l : List Pr}, Srtd l → Srtd (aft l cs)
  | [], _, h => h
  | c :: cs, l, h => aft_srtd cs (apP_srtd h c)
theorem apC_bld {t : Tr} (h : t.bld) (c : Cg) : (apC t c).bld := by
  unfold apC
  split
  · exact (Tr.without_bld _ _ h).1
  · exact (Tr.set_bld _ _ _ h).1
theorem aftT_bld : ∀ (cs : List Cg) {t : Tr}, t.bld → (aftT t cs).bld
  | [], _, h => h
  | c :: cs, t, h => aftT_bld cs (apC_bld h c)
theorem low_len (k : Str) (l : List Pr) : (low k l).length + (high k l).length ≤ l.length := by
  induction l with
  | nil => simp [low, high]
  | cons p l ih =>
    rw [low_cons, high_cons]
    by_cases h1 : sl p.1 k = true
    · rw [if_pos h1, if_neg (by rw [sl_asymm h1]; exact Bool.false_ne_true)]
      simp only [List.length_cons]; omega
    · rw [if_neg h1]
      split <;> simp only [List.length_cons] <;> omega
theorem apP_len (l : List Pr) (c : Cg) : (apP l c).length ≤ l.length + 1 := by
  have := low_len c.k l
  unfold apP delP setP
  split
  · rw [List.length_append]; omega
  · rw [List.length_append, List.length_cons]; omega
theorem aft_len : ∀ (cs : List Cg) (l : List Pr), (aft l cs).length ≤ l.length + cs.length
  | [], _ => Nat.le_refl _
  | c :: cs, l => by
    have h1 := aft_len cs (apP l c)
    have h2 := apP_len l c
    show (aft (apP l c) cs).length ≤ _
    rw [List.length_cons]; omega
/-- Pairs of keys and values that are not too long. -/
def OkP (l : List Pr) : Prop := ∀ p ∈ l, p.1.size ≤ 12 ∧ p.2.size ≤ 24
def OkC (cs : List Cg) : Prop := ∀ c ∈ cs, c.k.size ≤ 12 ∧ c.v.size ≤ 24
theorem apP_ok {l : List Pr} (h : OkP l) {c : Cg} (hc : c.k.size ≤ 12 ∧ c.v.size ≤ 24) : OkP (apP l c) := by
  intro p hp
  unfold apP delP setP at hp
  split at hp
  · rcases List.mem_append.1 hp with hp | hp
    · exact h p (List.mem_filter.1 hp).1
    · exact h p (List.mem_filter.1 hp).1
  · rcases List.mem_append.1 hp with hp | hp
    · exact h p (List.mem_filter.1 hp).1
    · rcases List.mem_cons.1 hp with rfl | hp
      · exact hc
      · exact h p (List.mem_filter.1 hp).1
theorem aft_ok : ∀ (cs : List Cg) {l : List Pr}, OkP l → OkC cs → OkP (aft l cs)
  | [], _, h, _ => h
  | c :: cs, _, h, hc => aft_ok cs (apP_ok h (hc c List.mem_cons_self)) fun d hd => hc d (List.mem_cons_of_mem _ hd)
theorem aft_take_succ (l : List Pr) (cs : List Cg) {j : Nat} (hj : j < cs.length) : aft l (cs.take (j + 1)) = apP (aft l (cs.take j)) cs[j] := by
  unfold aft
  rw [List.take_succ_eq_append_getElem hj, List.foldl_append]
  rfl
theorem aftT_take_succ (t : Tr) (cs : List Cg) {j : Nat} (hj : j < cs.length) : aftT t (cs.take (j + 1)) = apC (aftT t (cs.take j)) cs[j] := by
  unfold aftT
  rw [List.take_succ_eq_append_getElem hj, List.foldl_append]
  rfl
/-- A disk's acts: Write after Write, and a Sync. -/
def putB (bl : List (List (List Nat))) (p : Nat × List Nat) : List (List (List Nat)) := bl.set p.1 (bl.getD p.1 [] ++ [p.2])
end Go.Proofs.Tb
