/- The disk: Read. -/
import Derived.Test.YtfljnfdeboibhaaSzb
set_option linter.unusedVariables false
set_option linter.unusedSimpArgs false
namespace Go.Proofs.Tb
open Go.Maps Go.RowKit Go.Lib
attribute [local go_sem] cell_set_same neqMapL
set_option maxHeartbeats 1600000 in
set_option maxRecDepth 100000 in
theorem rread_ok {F : Nat → Prop} {w : World} {d : Nat} {bl : List (List (List Nat))} {left : Nat} (hw : DW F w d bl false left) {k : Nat} (hk : k < bl.length) :
    Calls Try.prog 36 #[.pointer (some ⟨d, 0, none⟩), .int .i64 (k : Int)] w (Ret (fun z w' => ∃ A c, z = .tuple #[.slice A 64 c, .int .i64 0] ∧ OwB w.heap.size w' (.slice A 64 c) ((bl.getD k []).getLastD z64)) w) := by
  obtain ⟨g, h, hlo, hfp⟩ := hw
  obtain ⟨cur, hcur⟩ : ∃ cur, bl.map (fun l => l.getLastD z64) = cur := ⟨_, rfl⟩
  rw [hcur] at h
  have hlen : cur.length = bl.length := by rw [← hcur, List.length_map]
  have hx : cur.getD k z64 = (bl.getD k []).getLastD z64 := by
    rw [← hcur]
    simp [List.getD, hk]
  have hne : cur ≠ [] := fun e => by rw [e] at hlen; simp at hlen; omega
  obtain ⟨gb, cap, hv, hc1, hc2, hd⟩ := h.form hne
  obtain ⟨n, hn⟩ : ∃ n, cur.length = n := ⟨_, rfl⟩
  have hkn : (k : Int) < (n : Int) := by omega
  have hk0 : ¬ (k : Int) < 0 := by omega
  have hk1 : ¬ (n : Int) ≤ (k : Int) := by omega
  rw [hn] at hd
  have hkc : k < cur.length := by omega
  have HD := Lib.hid hd
  have HH := Lib.hid h
  have HX := Lib.hid hx
  have HK := Lib.hid hkc
  clear hlo hfp hcur hlen hx hne hv hc1 hd h hn hkc
  go_enter Try.func36, Try.ntmps36
  go_wp2_with fail
  refine (rready_any d g.m _ false left w HD.out).mono ?_
  rintro e w1 ⟨v1, rfl, rfl, b1⟩
  rw [show (if false = true then (9 : Int) else 0) = 0 from rfl]
  have k1 := (HD.out.below b1).cells
  simp only [cellsAre, Nat.zero_add, Nat.reduceAdd, and_true] at k1
  have X1 := Lib.hid b1
  clear b1
  go_wp2_with fail
  refine (rat_any (HH.out.ext X1.out) HK.out).mono ?_
  rintro e w2 ⟨v2, rfl, ⟨A2, c2, rfl, ho2⟩, b2⟩
  rw [HX.out] at ho2
  have HO := Lib.hid (show OwB w.heap.size w2 (.slice A2 64 c2) ((bl.getD k []).getLastD z64) from own_lower ho2 X1.out.size)
  have X2 := Lib.hid (bt X1.out b2)
  clear ho2 b2 k1
  go_wp2_with fail
  (try simp only [Exit.inBlock, Exit.then])
  refine bodyPost_ret (v := (.tuple #[.slice A2 64 c2, .int .i64 0])) (by simp [results, Try.results36, go_sem, *]) rfl ?_
  exact ⟨_, rfl, ⟨_, _, rfl, HO.out⟩, X2.out⟩
end Go.Proofs.Tb
