/- The disk: Write refused for its arguments. -/
import Derived.Test.YtfljnfdeboibhaaSze
set_option linter.unusedVariables false
set_option linter.unusedSimpArgs false
namespace Go.Proofs.Tb
open Go.Maps Go.RowKit Go.Lib
attribute [local go_sem] cell_set_same neqMapL
set_option maxHeartbeats 1600000 in
set_option maxRecDepth 100000 in
theorem rwrite_bad {F : Nat → Prop} {w : World} {d : Nat} {bl : List (List (List Nat))} {left : Nat} (hw : DW F w d bl false left) (h0 : 0 < bl.length) (k : Int) (A : Option Addr) (n c : Nat) (hk : k < 0 ∨ (bl.length : Int) ≤ k ∨ n ≠ 64) :
    Calls Try.prog 41 #[.pointer (some ⟨d, 0, none⟩), .int .i64 k, .slice A n c] w (Ret (fun z _ => z = .int .i64 1) w) := by
  obtain ⟨gm, gb, cap, hb⟩ := hw.len h0
  obtain ⟨m, hm⟩ : ∃ m, bl.length = m := ⟨_, rfl⟩
  rw [hm] at hb hk
  have HD := Lib.hid hb
  clear hw hb hm h0
  by_cases hk0 : k < 0
  · clear hk
    go_enter Try.func41, Try.ntmps41
    go_wp2_with fail
    refine (rready_any d gm _ false left w HD.out).mono ?_
    rintro e w1 ⟨v1, rfl, rfl, b1⟩
    rw [show (if false = true then (9 : Int) else 0) = 0 from rfl]
    have k1 := (HD.out.below b1).cells
    simp only [cellsAre, Nat.zero_add, Nat.reduceAdd, and_true] at k1
    go_wp2_with fail
    (try simp only [Exit.inBlock, Exit.then])
    refine bodyPost_ret (v := (.int .i64 1)) (by simp [results, Try.results41, go_sem, *]) rfl ?_
    exact ⟨_, rfl, rfl, b1⟩
  · by_cases hk1 : (m : Int) ≤ k
    · clear hk
      go_enter Try.func41, Try.ntmps41
      go_wp2_with fail
      refine (rready_any d gm _ false left w HD.out).mono ?_
      rintro e w1 ⟨v1, rfl, rfl, b1⟩
      rw [show (if false = true then (9 : Int) else 0) = 0 from rfl]
      have k1 := (HD.out.below b1).cells
      simp only [cellsAre, Nat.zero_add, Nat.reduceAdd, and_true] at k1
      go_wp2_with fail
      (try simp only [Exit.inBlock, Exit.then])
      refine bodyPost_ret (v := (.int .i64 1)) (by simp [results, Try.results41, go_sem, *]) rfl ?_
      exact ⟨_, rfl, rfl, b1⟩
    · have hn : n ≠ 64 := by omega
      have hn1 : ((n : Int) != 64) = true := by rw [bne_iff_ne]; omega
      clear hk
      go_enter Try.func41, Try.ntmps41
      go_wp2_with fail
      refine (rready_any d gm _ false left w HD.out).mono ?_
      rintro e w1 ⟨v1, rfl, rfl, b1⟩
      rw [show (if false = true then (9 : Int) else 0) = 0 from rfl]
      have k1 := (HD.out.below b1).cells
      simp only [cellsAre, Nat.zero_add, Nat.reduceAdd, and_true] at k1
      go_wp2_with fail
      (try simp only [Exit.inBlock, Exit.then])
      refine bodyPost_ret (v := (.int .i64 1)) (by simp [results, Try.results41, go_sem, *]) rfl ?_
      exact ⟨_, rfl, rfl, b1⟩
end Go.Proofs.Tb
