/- The reference's disk: Loose. -/
import Derived.Test.YtfljnfdeboibhaaRqg
set_option linter.unusedVariables false
set_option linter.unusedSimpArgs false
namespace Go.Proofs.Tb
open Go.Maps Go.RowKit Go.Lib
attribute [local go_sem] cell_set_same neqMapL

/-- How many blocks have more than one content. -/
def looL (bl : List (List (List Nat))) : Nat := (bl.filter fun l => decide (2 ≤ l.length)).length
theorem looL_le (bl : List (List (List Nat))) : looL bl ≤ bl.length := List.length_filter_le _ _
theorem looL_take {bl : List (List (List Nat))} {j : Nat} (hj : j < bl.length) : looL (bl.take (j + 1)) = looL (bl.take j) + (if 2 ≤ (bl.getD j []).length then 1 else 0) := by
  unfold looL
  rw [List.take_succ_eq_append_getElem hj, List.filter_append, List.length_append]
  congr 1
  rw [List.getD_eq_getElem?_getD, List.getElem?_eq_getElem hj]
  by_cases h : 2 ≤ (bl[j]).length <;> simp [h]
set_option maxHeartbeats 3200000 in
set_option maxRecDepth 100000 in
theorem zloose_any {w : World} {v : Value} {bl : List (List (List Nat))} {down : Bool} {left : Nat} (h : RdV w v bl down left) (hb : bl.length ≤ 1000000) (hfew : ∀ k, (bl.getD k []).length ≤ 1000000) :
    Calls Try.prog 44 #[v] w (Ret (fun z _ => z = .int .i64 (looL bl : Int)) w) := by
  obtain ⟨A, n, c, a, lf, rfl, ho, h3⟩ := h
  clear h3
  obtain ⟨hn, hle, hcp⟩ := ho.len
  have HO := Lib.hid ho
  have HN := Lib.hid hn
  have hn2 : n ≤ 1000000 := by omega
  clear ho hn hb
  unfold rdk
  go_enter Try.func44, Try.ntmps44
  go_upto_region 1 with fail
  obtain ⟨H, hH⟩ : ∃ H, w.heap.size = H := ⟨_, rfl⟩
  have x1 : Ext w (w.alloc (.cells #[.slice A n c, .bool down, .bool a, .int .i64 lf] TRD)) := Ext.allocR _ _
  refine wp_world (fun W => Ext w W ∧ Blk W H TRD #[.slice A n c, .bool down, .bool a, .int .i64 lf]) ⟨x1, Blk.new_ _ _ hH⟩ ?_
  rw [hH]
  rintro W ⟨hx, hb⟩
  have X := Lib.hid hx
  have kb := hb.cells
  simp only [cellsAre, Nat.zero_add, Nat.reduceAdd, and_true] at kb
  clear hx hb x1 hH
  go_wp2_with fail
  go_loopw [3, 4] (fun m i wr => ∃ j : Nat, j ≤ n ∧ m = .int .i64 (looL (bl.take j) : Int) ∧ i = .int .i64 (j : Int) ∧ wr = W) (fun _ i _ => n - (intOf i).toNat)
  case atStart => exact ⟨0, by omega, rfl, rfl, rfl⟩
  case round =>
    obtain ⟨j, hj, rfl, rfl, rfl⟩ := hrel
    obtain ⟨q, hq⟩ : ∃ q, looL (bl.take j) = q := ⟨_, rfl⟩
    rw [hq]
    by_cases hjn : j < n
    · have pj : (j : Int) < (n : Int) := by omega
      have hjl : j < bl.length := by rw [← HN.out]; exact hjn
      obtain ⟨b, o, Az, cz, rfl, kz0, rz⟩ := HO.out.at_ hjl
      have kz := ext_cell X.out kz0
      have hll := hfew j
      have hs := looL_take hjl
      have hq6 : q ≤ 1000000 := by
        rw [← hq]
        exact Nat.le_trans (looL_le _) (by rw [List.length_take]; omega)
      rw [hq] at hs
      have HS := Lib.hid hs
      obtain ⟨m, hm⟩ : ∃ m, (bl.getD j []).length = m := ⟨_, rfl⟩
      rw [hm] at kz hll
      have HM := Lib.hid hm
      have wj : IntKind.i64.wrap ((j : Int) + 1) = ((j + 1 : Nat) : Int) := by rw [IntWalk.i64_in _ (by omega)]; rfl
      have wq : IntKind.i64.wrap ((q : Int) + 1) = ((q + 1 : Nat) : Int) := by rw [IntWalk.i64_in _ (by omega)]; rfl
      clear hs hq hm kz0 rz hjl
      by_cases h2 : 2 ≤ m
      · have p2 : (1 : Int) < (m : Int) := by omega
        go_wp2_with fail
        exact ⟨⟨j + 1, by omega, by rw [HS.out, HM.out, if_pos h2]; go_num, by go_num, trivial⟩, by simp [intOf]; omega⟩
      · have p2 : ¬ (1 : Int) < (m : Int) := by omega
        go_wp2_with fail
        exact ⟨⟨j + 1, by omega, by rw [HS.out, HM.out, if_neg h2, Nat.add_zero], by go_num, trivial⟩, by simp [intOf]; omega⟩
    · obtain rfl : j = n := by omega
      have hqf : looL bl = q := by rw [← hq, List.take_of_length_le (by rw [HN.out]; exact Nat.le_refl _)]
      have HQF := Lib.hid hqf
      clear hq hqf
      go_wp2_with fail
      (try simp only [Exit.inBlock, Exit.then])
      refine bodyPost_ret (v := (.int .i64 (q : Int))) (by simp [results, Try.results44, go_sem, *]) rfl ?_
      exact ⟨_, rfl, by rw [HQF.out], X.out⟩
end Go.Proofs.Tb
