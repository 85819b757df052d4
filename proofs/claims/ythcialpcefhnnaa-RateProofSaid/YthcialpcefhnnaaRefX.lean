/- Contract of the reference for rates: Witnesses; the law's same. -/
import Derived.Test.YthcialpcefhnnaaRefW
set_option linter.unusedVariables false
set_option linter.unusedSimpArgs false
namespace Go.Proofs.Tb
open Go.RowKit
attribute [local go_sem] cell_set_same

def sameB (xs ys : List Int) : Bool := decide (xs = ys)
theorem sameB_t {xs ys : List Int} (h : xs = ys) : sameB xs ys = true := by unfold sameB; simpa using h
theorem sameB_f {xs ys : List Int} (h : xs ≠ ys) : sameB xs ys = false := by unfold sameB; simpa using h
theorem Il.rng {w : World} {A : Option Addr} {n c : Nat} {xs : List Int} (h : Il w A n c xs) : n ≤ 9223372036854775807 := Nat.le_trans h.le h.cap
/-- The first three readings at which a line's errors alternate. -/
def FirstAlt (rs : List Rdg) (n : Nat) (x y E : Rat) (ws : List Int) : Prop :=
  (ws = [] ∧ ∀ i j k, i < j → j < k → k < n → ¬ Alt rs x y E i j k) ∨
  ∃ a b c : Nat, a < b ∧ b < c ∧ c < n ∧ ws = [(a : Int), (b : Int), (c : Int)] ∧ Alt rs x y E a b c ∧ ∀ i j k, i < j → j < k → k < n → Bef a b c i j k → ¬ Alt rs x y E i j k
/-- None of those ahead of (i, j, k) alternates. -/
def NoAlt (rs : List Rdg) (n : Nat) (x y E : Rat) (i j k : Nat) : Prop := ∀ i' j' k', i' < j' → j' < k' → k' < n → Bef i j k i' j' k' → ¬ Alt rs x y E i' j' k'
theorem NoAlt.start (rs : List Rdg) (n : Nat) (x y E : Rat) : NoAlt rs n x y E 0 1 2 := fun i' j' k' h1 h2 _ hb => by unfold Bef at hb; omega
theorem NoAlt.weak {rs : List Rdg} {n : Nat} {x y E : Rat} {i j k i2 j2 k2 : Nat} (h : NoAlt rs n x y E i j k) (hw : ∀ i' j' k', i' < j' → j' < k' → k' < n → (Bef i2 j2 k2 i' j' k' ↔ Bef i j k i' j' k')) : NoAlt rs n x y E i2 j2 k2 := fun i' j' k' g1 g2 g3 g4 => h i' j' k' g1 g2 g3 ((hw _ _ _ g1 g2 g3).1 g4)
theorem NoAlt.nextJ {rs : List Rdg} {n : Nat} {x y E : Rat} {i j : Nat} (h : NoAlt rs n x y E i j n) : NoAlt rs n x y E i (j + 1) (j + 2) := h.weak fun i' j' k' h1 h2 h3 => by unfold Bef; omega
theorem NoAlt.nextI {rs : List Rdg} {n : Nat} {x y E : Rat} {i : Nat} (h : NoAlt rs n x y E i n (n + 1)) : NoAlt rs n x y E (i + 1) (i + 2) (i + 3) := h.weak fun i' j' k' h1 h2 h3 => by unfold Bef; omega
theorem NoAlt.skip {rs : List Rdg} {n : Nat} {x y E : Rat} {i j k : Nat} (h : NoAlt rs n x y E i j k) (hno : ¬ Alt rs x y E i j k) : NoAlt rs n x y E i j (k + 1) := fun i' j' k' g1 g2 g3 g4 => by
  by_cases he : Bef i j k i' j' k'
  · exact h i' j' k' g1 g2 g3 he
  · have : i' = i ∧ j' = j ∧ k' = k := by unfold Bef at he g4; omega
    obtain ⟨rfl, rfl, rfl⟩ := this
    exact hno
def ZWR (rs : List Rdg) (v : Value) (w' : World) : Prop := ∃ x y E A n c ws, IsLeast rs.length (tq rs) (yq rs) x y E ∧ v = .slice A n c ∧ Il w' A n c ws ∧ FirstAlt rs rs.length x y E ws
theorem il3 {w : World} {g : Nat} {T : TypeId} {a b c : Int} (h : Blk w g T #[.int .i64 a, .int .i64 b, .int .i64 c]) : Il w (some ⟨g, 0, none⟩) 3 3 [a, b, c] := by
  have k := h.cells
  simp only [cellsAre, Nat.zero_add, Nat.reduceAdd, and_true] at k
  refine ⟨rfl, by omega, by omega, fun _ => ⟨g, 0, rfl, fun j hj => ?_⟩⟩
  have : j = 0 ∨ j = 1 ∨ j = 2 := by omega
  rcases this with rfl | rfl | rfl
  · exact k.1
  · exact k.2.1
  · exact k.2.2

end Go.Proofs.Tb
