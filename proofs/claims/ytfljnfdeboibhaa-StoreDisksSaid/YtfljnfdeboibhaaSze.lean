/- The disk: Read and Write of a block that it lacks. -/
import Derived.Test.YtfljnfdeboibhaaSzd
set_option linter.unusedVariables false
set_option linter.unusedSimpArgs false
namespace Go.Proofs.Tb
open Go.Maps Go.RowKit Go.Lib
attribute [local go_sem] cell_set_same neqMapL
theorem DW.len {F : Nat → Prop} {w : World} {d : Nat} {bl : List (List (List Nat))} {down : Bool} {left : Nat} (hw : DW F w d bl down left) (h0 : 0 < bl.length) : ∃ g gb cap, Blk w d TDK #[.slice (some ⟨gb, 0, none⟩) bl.length cap, .map (some g), .bool down, .int .i64 (left : Int)] := by
  obtain ⟨g, h, hlo, hfp⟩ := hw
  have hne : bl.map (fun l => l.getLastD z64) ≠ [] := fun e => by
    have := congrArg List.length e
    rw [List.length_map] at this
    simp at this
    rw [this] at h0
    simp at h0
  obtain ⟨gb, cap, hv, hc1, hc2, hd⟩ := h.form hne
  rw [List.length_map] at hd
  exact ⟨g.m, gb, cap, hd⟩
set_option maxHeartbeats 1600000 in
set_option maxRecDepth 100000 in
theorem rread_bad {F : Nat → Prop} {w : World} {d : Nat} {bl : List (List (List Nat))} {left : Nat} (hw : DW F w d bl false left) (h0 : 0 < bl.length) (k : Int) (hk : k < 0 ∨ (bl.length : Int) ≤ k) :
    Calls Try.prog 36 #[.pointer (some ⟨d, 0, none⟩), .int .i64 k] w (Ret (fun z _ => z = .tuple #[.slice none 0 0, .int .i64 1]) w) := by
  obtain ⟨gm, gb, cap, hb⟩ := hw.len h0
  obtain ⟨n, hn⟩ : ∃ n, bl.length = n := ⟨_, rfl⟩
  rw [hn] at hb hk
  have HD := Lib.hid hb
  clear hw hb hn h0
  by_cases hk0 : k < 0
  · clear hk
    go_enter Try.func36, Try.ntmps36
    go_wp2_with fail
    refine (rready_any d gm _ false left w HD.out).mono ?_
    rintro e w1 ⟨v1, rfl, rfl, b1⟩
    rw [show (if false = true then (9 : Int) else 0) = 0 from rfl]
    have k1 := (HD.out.below b1).cells
    simp only [cellsAre, Nat.zero_add, Nat.reduceAdd, and_true] at k1
    go_wp2_with fail
    (try simp only [Exit.inBlock, Exit.then])
    refine bodyPost_ret (v := (.tuple #[.slice none 0 0, .int .i64 1])) (by simp [results, Try.results36, go_sem, *]) rfl ?_
    exact ⟨_, rfl, rfl, b1⟩
  · have hk1 : (n : Int) ≤ k := by omega
    clear hk
    go_enter Try.func36, Try.ntmps36
    go_wp2_with fail
    refine (rready_any d gm _ false left w HD.out).mono ?_
    rintro e w1 ⟨v1, rfl, rfl, b1⟩
    rw [show (if false = true then (9 : Int) else 0) = 0 from rfl]
    have k1 := (HD.out.below b1).cells
    simp only [cellsAre, Nat.zero_add, Nat.reduceAdd, and_true] at k1
    go_wp2_with fail
    (try simp only [Exit.inBlock, Exit.then])
    refine bodyPost_ret (v := (.tuple #[.slice none 0 0, .int .i64 1])) (by simp [results, Try.results36, go_sem, *]) rfl ?_
    exact ⟨_, rfl, rfl, b1⟩
end Go.Proofs.Tb
