/- The disk: Read refused; Write and Sync refused. -/
import Derived.Test.YtfljnfdeboibhaaSzc
set_option linter.unusedVariables false
set_option linter.unusedSimpArgs false
namespace Go.Proofs.Tb
open Go.Maps Go.RowKit Go.Lib
attribute [local go_sem] cell_set_same neqMapL
set_option maxHeartbeats 1600000 in
set_option maxRecDepth 100000 in
theorem rread_dn {F : Nat → Prop} {w : World} {d : Nat} {bl : List (List (List Nat))} {left : Nat} (hw : DW F w d bl true left) (k : Int) :
    Calls Try.prog 36 #[.pointer (some ⟨d, 0, none⟩), .int .i64 k] w (Ret (fun z _ => z = .tuple #[.slice none 0 0, .int .i64 9]) w) := by
  obtain ⟨gm, gv, hb⟩ := hw.blk
  have HD := Lib.hid hb
  clear hw hb
  go_enter Try.func36, Try.ntmps36
  go_wp2_with fail
  refine (rready_any d gm gv true left w HD.out).mono ?_
  rintro e w1 ⟨v1, rfl, rfl, b1⟩
  rw [show (if true = true then (9 : Int) else 0) = 9 from rfl]
  go_wp2_with fail
  (try simp only [Exit.inBlock, Exit.then])
  refine bodyPost_ret (v := (.tuple #[.slice none 0 0, .int .i64 9])) (by simp [results, Try.results36, go_sem, *]) rfl ?_
  exact ⟨_, rfl, rfl, b1⟩
set_option maxHeartbeats 1600000 in
set_option maxRecDepth 100000 in
theorem rsync_dn {F : Nat → Prop} {w : World} {d : Nat} {bl : List (List (List Nat))} {left : Nat} (hw : DW F w d bl true left) :
    Calls Try.prog 29 #[.pointer (some ⟨d, 0, none⟩)] w (Ret (fun z _ => z = .int .i64 9) w) := by
  obtain ⟨gm, gv, hb⟩ := hw.blk
  have HD := Lib.hid hb
  clear hw hb
  go_enter Try.func29, Try.ntmps29
  go_wp2_with fail
  refine (rready_any d gm gv true left w HD.out).mono ?_
  rintro e w1 ⟨v1, rfl, rfl, b1⟩
  rw [show (if true = true then (9 : Int) else 0) = 9 from rfl]
  go_wp2_with fail
  (try simp only [Exit.inBlock, Exit.then])
  refine bodyPost_ret (v := (.int .i64 9)) (by simp [results, Try.results29, go_sem, *]) rfl ?_
  exact ⟨_, rfl, rfl, b1⟩
set_option maxHeartbeats 1600000 in
set_option maxRecDepth 100000 in
theorem rwrite_dn {F : Nat → Prop} {w : World} {d : Nat} {bl : List (List (List Nat))} {left : Nat} (hw : DW F w d bl true left) (k : Int) (A : Option Addr) (n c : Nat) :
    Calls Try.prog 41 #[.pointer (some ⟨d, 0, none⟩), .int .i64 k, .slice A n c] w (Ret (fun z _ => z = .int .i64 9) w) := by
  obtain ⟨gm, gv, hb⟩ := hw.blk
  have HD := Lib.hid hb
  clear hw hb
  go_enter Try.func41, Try.ntmps41
  go_wp2_with fail
  refine (rready_any d gm gv true left w HD.out).mono ?_
  rintro e w1 ⟨v1, rfl, rfl, b1⟩
  rw [show (if true = true then (9 : Int) else 0) = 9 from rfl]
  go_wp2_with fail
  (try simp only [Exit.inBlock, Exit.then])
  refine bodyPost_ret (v := (.int .i64 9)) (by simp [results, Try.results41, go_sem, *]) rfl ?_
  exact ⟨_, rfl, rfl, b1⟩
end Go.Proofs.Tb
