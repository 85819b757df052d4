/- Plain laws on sets of numbers as bits, and on the cheapest plans of all sets. No program stands here. -/
import Derived.Test.YtcjddfhhofoidaaDoorGround
set_option linter.unusedVariables false
set_option linter.unusedSimpArgs false
namespace Go.Proofs.Tb

/-- The part of a set that a test shows, and the rest. -/
def inn (s m : Nat) : Nat := s &&& m
def outs (s m : Nat) : Nat := s ^^^ (s &&& m)
theorem inn_bit (s m i : Nat) : (inn s m).testBit i = (s.testBit i && m.testBit i) := Nat.testBit_and s m i
theorem outs_bit (s m i : Nat) : (outs s m).testBit i = (s.testBit i && !m.testBit i) := by
  unfold outs
  rw [Nat.testBit_xor, Nat.testBit_and]
  cases s.testBit i <;> cases m.testBit i <;> rfl
theorem inn_le (s m : Nat) : inn s m ≤ s := Nat.and_le_left
theorem bits_eq {a b : Nat} (h : ∀ i, a.testBit i = b.testBit i) : a = b := Nat.eq_of_testBit_eq h
theorem sub_xor : ∀ (s m : Nat), (s &&& m) + (s ^^^ (s &&& m)) = s := by
  intro s
  induction s using Nat.strongRecOn with
  | _ s ih =>
    intro m
    by_cases h0 : s = 0
    · subst h0; simp
    · have h := ih (s / 2) (by omega) (m / 2)
      have a1 : (s &&& m) / 2 = s / 2 &&& m / 2 := Nat.and_div_two
      have a2 : (s ^^^ (s &&& m)) / 2 = s / 2 ^^^ (s &&& m) / 2 := Nat.xor_div_two
      have b1 : (s &&& m) % 2 = (s % 2) * (m % 2) := by
        have h1 : (s &&& m).testBit 0 = (s.testBit 0 && m.testBit 0) := Nat.testBit_and s m 0
        simp only [Nat.testBit_zero] at h1
        rcases Nat.mod_two_eq_zero_or_one s with hs | hs <;> rcases Nat.mod_two_eq_zero_or_one m with hm | hm <;> rcases Nat.mod_two_eq_zero_or_one (s &&& m) with hr | hr <;> simp [hs, hm, hr] at h1 ⊢
      have b2 : (s ^^^ (s &&& m)) % 2 = (s % 2) * (1 - m % 2) := by
        have h1 := outs_bit s m 0
        unfold outs at h1
        simp only [Nat.testBit_zero] at h1
        rcases Nat.mod_two_eq_zero_or_one s with hs | hs <;> rcases Nat.mod_two_eq_zero_or_one m with hm | hm <;> rcases Nat.mod_two_eq_zero_or_one (s ^^^ (s &&& m)) with hr | hr <;> simp [hs, hm, hr] at h1 ⊢
      rw [← a1, ← a2] at h
      generalize s ^^^ (s &&& m) = X at *
      generalize s &&& m = A at *
      clear a1 a2 ih
      rcases Nat.mod_two_eq_zero_or_one s with hs | hs <;> rcases Nat.mod_two_eq_zero_or_one m with hm | hm <;> rw [hs, hm] at b1 b2 <;> omega
theorem in_out (s m : Nat) : inn s m + outs s m = s := sub_xor s m
theorem outs_le (s m : Nat) : outs s m ≤ s := by have := in_out s m; omega

/-- What the tests are: their costs and the sets that they show. -/
abbrev Tst := Nat × Nat
/-- One more test looked at: the cheapest plan so far, and its first test (-1: none). -/
def tryT (c : Nat → Nat × Int) (W s : Nat) (i : Nat) (t : Tst) (b : Nat × Int) : Nat × Int :=
  if inn s t.2 = 0 ∨ outs s t.2 = 0 then b
  else if b.2 = -1 ∨ W * t.1 + (c (inn s t.2)).1 + (c (outs s t.2)).1 < b.1 then (W * t.1 + (c (inn s t.2)).1 + (c (outs s t.2)).1, (i : Int)) else b
def tryL (c : Nat → Nat × Int) (W s : Nat) (ts : List Tst) (k : Nat) : Nat × Int := (List.range k).foldl (fun b i => tryT c W s i (ts.getD i (0, 0)) b) (0, -1)
theorem tryL_succ (c : Nat → Nat × Int) (W s : Nat) (ts : List Tst) (k : Nat) : tryL c W s ts (k + 1) = tryT c W s k (ts.getD k (0, 0)) (tryL c W s ts k) := by
  unfold tryL
  rw [List.range_succ, List.foldl_append]
  rfl
/-- The weight of a set. -/
def wtK (ws : List Nat) (s k : Nat) : Nat := match k with
  | 0 => 0
  | k + 1 => wtK ws s k + if s.testBit k then ws.getD k 0 else 0
def wt (ws : List Nat) (s : Nat) : Nat := wtK ws s ws.length
def bstF (ws : List Nat) (ts : List Tst) : Nat → Nat → Nat × Int
  | 0, _ => (0, -1)
  | f + 1, s => tryL (bstF ws ts f) (wt ws s) s ts ts.length
/-- The cheapest plan of a set: its cost, and its first test. -/
def bst (ws : List Nat) (ts : List Tst) (s : Nat) : Nat × Int := bstF ws ts (s + 1) s
theorem tryT_congr {c c' : Nat → Nat × Int} {W s i : Nat} {t : Tst} {b : Nat × Int} (h : ∀ x, x < s → c x = c' x) : tryT c W s i t b = tryT c' W s i t b := by
  unfold tryT
  by_cases h1 : inn s t.2 = 0 ∨ outs s t.2 = 0
  · rw [if_pos h1, if_pos h1]
  · rw [if_neg h1, if_neg h1]
    have := in_out s t.2
    rw [h (inn s t.2) (by omega), h (outs s t.2) (by omega)]
theorem tryL_congr {c c' : Nat → Nat × Int} {W s : Nat} {ts : List Tst} (h : ∀ x, x < s → c x = c' x) (k : Nat) : tryL c W s ts k = tryL c' W s ts k := by
  induction k with
  | zero => rfl
  | succ k ih => rw [tryL_succ, tryL_succ, ih, tryT_congr h]
theorem bstF_eq (ws : List Nat) (ts : List Tst) : ∀ (f g s : Nat), s < f → s < g → bstF ws ts f s = bstF ws ts g s
  | 0, _, _, h, _ => by omega
  | _, 0, _, _, h => by omega
  | f + 1, g + 1, s, h1, h2 => tryL_congr (fun x hx => bstF_eq ws ts f g x (by omega) (by omega)) ts.length
theorem bst_eq (ws : List Nat) (ts : List Tst) (s : Nat) : bst ws ts s = tryL (bst ws ts) (wt ws s) s ts ts.length :=
  tryL_congr (fun x hx => bstF_eq ws ts s (x + 1) x hx (by omega)) ts.length
end Go.Proofs.Tb
