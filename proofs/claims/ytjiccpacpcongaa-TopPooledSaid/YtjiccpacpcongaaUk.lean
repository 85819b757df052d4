/- items, Strength, members, Members. -/
import Derived.Test.YtjiccpacpcongaaUj
import Derived.Test.YtjiccpacpcongaaUc
set_option linter.unusedVariables false
set_option linter.unusedSimpArgs false
namespace Go.Proofs.Tb
open Go.RowKit Go.Lib
attribute [local go_sem] cell_set_same

abbrev TPO : TypeId := 23
abbrev poolV (q P : Nat) : Value := .agg #[.int .i64 (q : Int), .int .i64 2, .int .i64 (P : Int)]
set_option maxHeartbeats 3200000 in
set_option maxRecDepth 100000 in
theorem ritems_any {q P : Nat} (hq : Q4 q) (hP : 2 ≤ P) (hPq : P ≤ q) (w : World) : Calls Try.prog 10 #[poolV q P] w (Ret (fun z _ => z = .int .i64 ((q * q : Nat) : Int)) w) := by
  have hb : 5 ≤ q ∧ q ≤ 13 := by rcases hq with h | h | h | h <;> omega
  obtain ⟨hb1, hb2⟩ := hb
  have hqq : q * q ≤ 13 * 13 := Nat.mul_le_mul hb2 hb2
  obtain ⟨s, hs⟩ : ∃ s, q * q = s := ⟨_, rfl⟩
  have w1 : IntKind.i64.wrap ((q : Int) * (q : Int)) = (s : Int) := by rw [← Int.natCast_mul, hs, IntWalk.i64_in _ (by omega)]
  have w0 : IntKind.i64.wrap (1 * (q : Int)) = (q : Int) := by rw [Int.one_mul, IntWalk.i64_in _ (by omega)]
  rw [hs] at hqq ⊢
  clear hs
  have p1 : ¬ (q : Int) < 2 := by omega
  have p2 : ¬ (P : Int) < 2 := by omega
  have p3 : ¬ (q : Int) < (P : Int) := by omega
  have x1 : Ext w (w.alloc (.cells #[.int .i64 (q : Int), .int .i64 2, .int .i64 (P : Int)] TPO)) := Ext.allocR _ _
  have X1 := Lib.hid x1
  have hB := Blk.new_ (w := w) TPO #[.int .i64 (q : Int), .int .i64 2, .int .i64 (P : Int)] rfl
  have HB := Lib.hid hB
  clear x1 hB
  go_enter Try.func10, Try.ntmps10
  go_wp2_with fail
  obtain ⟨w1_, hw1⟩ : ∃ w1_, w.alloc (.cells #[.int .i64 (q : Int), .int .i64 2, .int .i64 (P : Int)] TPO) = w1_ := ⟨_, rfl⟩
  obtain ⟨B, hB⟩ : ∃ B, w.heap.size = B := ⟨_, rfl⟩
  rw [hw1] at X1 HB ⊢
  rw [hB] at HB ⊢
  clear hw1 hB
  refine (rprime_any hq w1_).mono ?_
  rintro e w2 ⟨z, rfl, rfl, b2⟩
  have HB2 := Lib.hid (HB.out.below b2)
  have X2 := Lib.hid (bt X1.out b2)
  have kb := HB2.out.cells
  simp only [cellsAre, Nat.zero_add, Nat.reduceAdd, and_true] at kb
  clear b2
  go_wp2_with fail
  go_loopw [3, 36] (fun v i wr => ∃ k : Nat, k ≤ 2 ∧ v = .int .i64 (if k = 0 then 1 else if k = 1 then (q : Int) else (s : Int)) ∧ i = .int .i64 (k : Int) ∧ wr = w2) (fun _ i _ => 2 - (intOf i).toNat)
  case atStart => exact ⟨0, by omega, rfl, rfl, rfl⟩
  case round =>
    obtain ⟨k, hk, rfl, rfl, rfl⟩ := hrel
    obtain rfl | rfl | rfl : k = 0 ∨ k = 1 ∨ k = 2 := by omega
    · have q1 : ¬ (1000 : Int) < (q : Int) := by omega
      go_wp2_with fail
      exact ⟨⟨1, by omega, rfl, rfl, trivial⟩, by decide⟩
    · have q1 : ¬ (1000 : Int) < (s : Int) := by omega
      go_wp2_with fail
      exact ⟨⟨2, by omega, rfl, rfl, trivial⟩, by decide⟩
    · go_wp2_with fail
      go_returns
      exact ⟨_, rfl, rfl, X2.out⟩
set_option maxHeartbeats 3200000 in
set_option maxRecDepth 100000 in
theorem rstrength_any {q P : Nat} (hq : Q4 q) (hP : 2 ≤ P) (hPq : P ≤ q) (w : World) : Calls Try.prog 7 #[poolV q P, .int .i64 0] w (Ret (fun z _ => z = .tuple #[.int .i64 ((P : Int) - 1), .int .i64 0]) w) := by
  have hb : 5 ≤ q ∧ q ≤ 13 := by rcases hq with h | h | h | h <;> omega
  obtain ⟨hb1, hb2⟩ := hb
  have hqq : 1 * 1 ≤ q * q := Nat.mul_le_mul (by omega) (by omega)
  have HI := Lib.hid (fun w' => ritems_any hq hP hPq w')
  obtain ⟨s, hs⟩ : ∃ s, q * q = s := ⟨_, rfl⟩
  rw [hs] at HI hqq
  have ps : ¬ (s : Int) = 0 := by omega
  have w0 : IntKind.i64.wrap ((P : Int) - 1) = (P : Int) - 1 := by rw [IntWalk.i64_in _ (by omega)]
  have pP : ¬ (P : Int) ≤ 0 := by omega
  obtain ⟨m, hm⟩ : ∃ m : Nat, (P : Int) - 1 = (m : Int) := ⟨P - 1, by omega⟩
  have hmb : m ≤ 100 := by omega
  rw [hm] at w0 ⊢
  have w00 : IntKind.i64.wrap (m : Int) = (m : Int) := by rw [IntWalk.i64_in _ (by omega)]
  have x1 : Ext w (w.alloc (.cells #[.int .i64 (q : Int), .int .i64 2, .int .i64 (P : Int)] TPO)) := Ext.allocR _ _
  have X1 := Lib.hid x1
  have hB := Blk.new_ (w := w) TPO #[.int .i64 (q : Int), .int .i64 2, .int .i64 (P : Int)] rfl
  have HB := Lib.hid hB
  clear x1 hB hs hqq
  go_enter Try.func7, Try.ntmps7
  go_wp2_with fail
  obtain ⟨w1_, hw1⟩ : ∃ w1_, w.alloc (.cells #[.int .i64 (q : Int), .int .i64 2, .int .i64 (P : Int)] TPO) = w1_ := ⟨_, rfl⟩
  obtain ⟨B, hB⟩ : ∃ B, w.heap.size = B := ⟨_, rfl⟩
  rw [hw1] at X1 HB ⊢
  rw [hB] at HB ⊢
  clear hw1 hB
  refine (HI.out w1_).mono ?_
  rintro e w2 ⟨z, rfl, rfl, b2⟩
  have HB2 := Lib.hid (HB.out.below b2)
  have X2 := Lib.hid (bt X1.out b2)
  have kb := HB2.out.cells
  simp only [cellsAre, Nat.zero_add, Nat.reduceAdd, and_true] at kb
  clear b2
  go_wp2_with fail
  go_returns
  exact ⟨_, rfl, rfl, X2.out⟩
end Go.Proofs.Tb
