/- Plain: blocks of bytes: numbers, texts, sums. -/
import Derived.Test.YtfljnfdeboibhaaSta
set_option linter.unusedVariables false
set_option linter.unusedSimpArgs false
namespace Go.Proofs.Tb
open Go.RowKit

/-- A number in some bytes, the highest first. -/
def beB (n : Nat) : Nat → List Nat
  | 0 => []
  | k + 1 => (n / 2 ^ (8 * k) % 256) :: beB n k
theorem beB_len (n : Nat) : ∀ k, (beB n k).length = k
  | 0 => rfl
  | k + 1 => by rw [beB, List.length_cons, beB_len n k]
theorem beB_lt (n : Nat) : ∀ k, ∀ b ∈ beB n k, b < 256
  | 0, _, h => by cases h
  | k + 1, b, h => by
    rcases List.mem_cons.1 h with rfl | h
    · omega
    · exact beB_lt n k b h
/-- What is read off some bytes. -/
def rdB (l : List Nat) : Nat := l.foldl (fun n b => n * 256 + b) 0
theorem rdB_snoc (l : List Nat) (b : Nat) : rdB (l ++ [b]) = rdB l * 256 + b := by unfold rdB; rw [List.foldl_append]; rfl
theorem rdB_go (l : List Nat) : ∀ a, l.foldl (fun n b => n * 256 + b) a = a * 256 ^ l.length + rdB l := by
  induction l with
  | nil => intro a; simp [rdB]
  | cons x l ih =>
    intro a
    unfold rdB
    rw [List.foldl_cons, List.foldl_cons, ih, ih (0 * 256 + x), List.length_cons, Nat.pow_succ, Nat.zero_mul, Nat.zero_add, Nat.add_mul, Nat.mul_assoc a, Nat.mul_comm 256, Nat.add_assoc]
theorem rdB_be (n : Nat) : ∀ k, n < 256 ^ k → rdB (beB n k) = n := by
  have key : ∀ k, rdB (beB n k) = n % 256 ^ k := by
    intro k
    induction k with
    | zero => simp [beB, rdB, Nat.mod_one]
    | succ k ih =>
      show (beB n (k + 1)).foldl (fun n b => n * 256 + b) 0 = _
      unfold beB
      rw [List.foldl_cons, rdB_go, beB_len, Nat.zero_mul, Nat.zero_add, ih]
      have h1 : 2 ^ (8 * k) = 256 ^ k := by rw [Nat.pow_mul]
      rw [h1, Nat.pow_succ, Nat.mod_mul, Nat.add_comm, Nat.mul_comm]
  intro k hk
  rw [key, Nat.mod_eq_of_lt hk]
def strB (s : Str) : List Nat := s.toList.map UInt8.toNat
theorem strB_lt (s : Str) : ∀ b ∈ strB s, b < 256 := fun b hb => by
  obtain ⟨u, _, rfl⟩ := List.mem_map.1 hb
  exact u.toNat_lt
theorem strB_len (s : Str) : (strB s).length = s.size := by
  unfold strB
  rw [List.length_map, ByteArray.toList_eq]
  rfl
/-- A text and its length. -/
def txB (s : Str) (most : Nat) : List Nat := beB s.size 1 ++ strB s ++ List.replicate (most - s.size) 0
theorem txB_len {s : Str} {most : Nat} (h : s.size ≤ most) : (txB s most).length = most + 1 := by
  unfold txB
  rw [List.length_append, List.length_append, beB_len, strB_len, List.length_replicate]
  omega
theorem txB_lt (s : Str) (most : Nat) : ∀ b ∈ txB s most, b < 256 := fun b hb => by
  unfold txB at hb
  rcases List.mem_append.1 hb with hb | hb
  · rcases List.mem_append.1 hb with hb | hb
    · exact beB_lt _ _ b hb
    · exact strB_lt s b hb
  · rw [List.mem_replicate] at hb; omega
/-- A sum of bytes. -/
def rot5 (x : Nat) : Nat := (x * 32 % 4294967296) ||| (x / 134217728)
def sumS (s b : Nat) : Nat := ((rot5 s * 31 % 4294967296 + b) % 4294967296 + 7) % 4294967296
def sumB (l : List Nat) : Nat := l.foldl sumS ((l.length + 1) % 4294967296)
def sumK (l : List Nat) (k : Nat) : Nat := (l.take k).foldl sumS ((l.length + 1) % 4294967296)
theorem sumK_zero (l : List Nat) : sumK l 0 = (l.length + 1) % 4294967296 := by simp [sumK]
theorem sumK_succ {l : List Nat} {k : Nat} (h : k < l.length) : sumK l (k + 1) = sumS (sumK l k) (l.getD k 0) := by
  unfold sumK
  rw [List.take_succ_eq_append_getElem h, List.foldl_append]
  simp [List.getD, h]
theorem sumK_end (l : List Nat) : sumK l l.length = sumB l := by unfold sumK sumB; rw [List.take_length]
theorem sumS_lt (s b : Nat) : sumS s b < 4294967296 := Nat.mod_lt _ (by decide)
theorem sumK_lt (l : List Nat) : ∀ k, sumK l k < 4294967296
  | 0 => by rw [sumK_zero]; exact Nat.mod_lt _ (by decide)
  | k + 1 => by
    by_cases h : k < l.length
    · rw [sumK_succ h]; exact sumS_lt _ _
    · have : sumK l (k + 1) = sumK l k := by unfold sumK; rw [List.take_of_length_le (by omega), List.take_of_length_le (by omega)]
      rw [this]; exact sumK_lt l k
theorem sumB_lt (l : List Nat) : sumB l < 4294967296 := by rw [← sumK_end]; exact sumK_lt l _
/-- A block. -/
def endB (l : List Nat) : List Nat := l ++ List.replicate (60 - l.length) 0
def blkB (l : List Nat) : List Nat := endB l ++ beB (sumB (endB l)) 4
theorem endB_len {l : List Nat} (h : l.length ≤ 60) : (endB l).length = 60 := by unfold endB; rw [List.length_append, List.length_replicate]; omega
theorem blkB_len {l : List Nat} (h : l.length ≤ 60) : (blkB l).length = 64 := by unfold blkB; rw [List.length_append, endB_len h, beB_len]
def nodB (k v : Str) (l r h : Nat) : List Nat := [110] ++ txB k 12 ++ txB v 24 ++ beB l 2 ++ beB r 2 ++ beB h 1
def rootB (keep number : Nat) (roots : List Nat) : List Nat := [114] ++ beB keep 1 ++ beB number 8 ++ beB roots.length 1 ++ (roots.map fun r => beB r 2).flatten
theorem nodB_len {k v : Str} {l r h : Nat} (hk : k.size ≤ 12) (hv : v.size ≤ 24) : (nodB k v l r h).length = 44 := by
  unfold nodB
  simp only [List.length_append, txB_len hk, txB_len hv, beB_len, List.length_cons, List.length_nil]
theorem flat2_len (roots : List Nat) : ((roots.map fun r => beB r 2).flatten).length = 2 * roots.length := by
  induction roots with
  | nil => rfl
  | cons r l ih => rw [List.map_cons, List.flatten_cons, List.length_append, beB_len, ih, List.length_cons]; omega
theorem rootB_len (keep number : Nat) (roots : List Nat) : (rootB keep number roots).length = 11 + 2 * roots.length := by
  unfold rootB
  simp only [List.length_append, beB_len, flat2_len, List.length_cons, List.length_nil]
end Go.Proofs.Tb
