/- Contracts of package gear: valid (of one fraction), Check. -/
import Derived.Test.YtcbffkkcldnegaaGearA
import Derived.Test.YtcbffkkcldnegaaRefL
set_option linter.unusedVariables false
set_option linter.unusedSimpArgs false
namespace Go.Proofs.Tb
open Go.RowKit
attribute [local go_sem] cell_set_same
abbrev TFS : TypeId := 145

set_option maxHeartbeats 1600000 in
set_option maxRecDepth 100000 in
theorem gvalid1_any (xn xd : Int) (b : Nat) (w : World) (h1 : -9223372036854775808 ≤ xn) (h2 : xn ≤ 9223372036854775807) (h3 : -9223372036854775808 ≤ xd) (h4 : xd ≤ 9223372036854775807)
    (hc : w.cell? ⟨b, 0, none⟩ = some (.int .i64 xn) ∧ w.cell? ⟨b, 1, none⟩ = some (.int .i64 xd)) :
    Calls Try.prog 93 #[.slice (some ⟨b, 0, none⟩) 1 1] w (Ret (fun v _ => v = .bool (vF xn xd)) w) := by
  have HC := Lib.hid hc
  have hlt : b < w.heap.size := World.block_lt_of_cell? w _ hc.1
  obtain ⟨S, hS⟩ : ∃ S, xn.natAbs = S := ⟨_, rfl⟩
  obtain ⟨D, hD⟩ : ∃ D, xd.natAbs = D := ⟨_, rfl⟩
  obtain ⟨G, hG⟩ : ∃ G, Nat.gcd S D = G := ⟨_, rfl⟩
  have HSN : Hid (∀ W, Calls Try.prog 119 #[.int .i64 xn] W fun e w' => e = .returned (.int .u64 (S : Int)) ∧ w' = W) := fun W => by rw [← hS]; exact gsize_any xn W h1 h2
  have HSD : Hid (∀ W, Calls Try.prog 119 #[.int .i64 xd] W fun e w' => e = .returned (.int .u64 (D : Int)) ∧ w' = W) := fun W => by rw [← hD]; exact gsize_any xd W h3 h4
  have HGG : Hid (∀ W, Calls Try.prog 120 #[.int .u64 (S : Int), .int .u64 (D : Int)] W fun e w' => e = .returned (.int .u64 (G : Int)) ∧ ∃ m, w' = W.drewN m) := fun W => by rw [← hG]; exact ggcd_any S D W (by omega) (by omega)
  have HVF : Hid (VF xn xd ↔ (1 ≤ xd ∧ xd ≤ 4611686018427387904 ∧ S ≤ 4611686018427387904 ∧ G = 1)) := by
    have hg : Int.gcd xn xd = G := by rw [← hG, ← hS, ← hD]; rfl
    show VF xn xd ↔ _
    unfold VF
    rw [hg]
    constructor
    · intro h; refine ⟨h.1.1, h.1.2.1, ?_, h.2⟩; have := h.1; omega
    · intro h; refine ⟨⟨h.1, h.2.1, ?_, ?_⟩, h.2.2.2⟩ <;> omega
  clear hc hS hD hG
  go_enter Try.func93, Try.ntmps93
  go_wp2
  go_loopw [7] (fun i wr => ∃ k : Nat, k ≤ 1 ∧ (0 < k → VF xn xd) ∧ i = .int .i64 k ∧ Below w.heap.size w wr) (fun i _ => 1 - (intOf i).toNat)
  case atStart => exact ⟨0, by omega, fun h => absurd h (by omega), rfl, Below.refl _ _⟩
  case round =>
    obtain ⟨k, hk, hv, rfl, hbw⟩ := hrel
    have HV := Lib.hid hv
    clear hv
    by_cases hk0 : k = 0
    · subst hk0
      have k0 := (hbw.cell (p := ⟨b, 0, none⟩) hlt).trans HC.out.1
      have k1 := (hbw.cell (p := ⟨b, 1, none⟩) hlt).trans HC.out.2
      have HW1 : Hid (∀ nq o, Below w.heap.size w ((wr.alloc o).drewN nq)) := fun nq o => ⟨hbw.os, hbw.tape, hbw.output, (hbw.alloc hbw.size o).size, (hbw.alloc hbw.size o).block⟩
      have HF := Lib.hid (vF_false (n := xn) (d := xd))
      by_cases g1 : xd < 1
      · have d1 : decide (xd < 1) = true := by simpa using g1
        have HNO := Lib.hid (HF.out (by rw [HVF.out]; omega))
        go_wp2
        go_quiet ((first | (go_at_call_of 119 xn; exact Calls.quiet_of_same (HSN.out _)) | (go_at_call_of 119 xd; exact Calls.quiet_of_same (HSD.out _)) | (go_at_call 120; exact Calls.quiet_of (HGG.out _))))
        go_wp2
        go_returns
        exact ⟨_, rfl, by rw [HNO.out]; rfl, HW1.out _ _⟩
      have d1 : decide (xd < 1) = false := by simpa using g1
      by_cases g2 : 4611686018427387904 < xd
      · have d2 : decide (4611686018427387904 < xd) = true := by simpa using g2
        have HNO := Lib.hid (HF.out (by rw [HVF.out]; omega))
        go_wp2
        go_quiet ((first | (go_at_call_of 119 xn; exact Calls.quiet_of_same (HSN.out _)) | (go_at_call_of 119 xd; exact Calls.quiet_of_same (HSD.out _)) | (go_at_call 120; exact Calls.quiet_of (HGG.out _))))
        go_wp2
        go_returns
        exact ⟨_, rfl, by rw [HNO.out]; rfl, HW1.out _ _⟩
      have d2 : decide (4611686018427387904 < xd) = false := by simpa using g2
      by_cases g3 : 4611686018427387904 < S
      · have d3 : decide ((4611686018427387904 : Int) < (S : Int)) = true := by simp; omega
        have HNO := Lib.hid (HF.out (by rw [HVF.out]; omega))
        go_wp2
        go_quiet ((first | (go_at_call_of 119 xn; exact Calls.quiet_of_same (HSN.out _)) | (go_at_call_of 119 xd; exact Calls.quiet_of_same (HSD.out _)) | (go_at_call 120; exact Calls.quiet_of (HGG.out _))))
        go_wp2
        go_returns
        exact ⟨_, rfl, by rw [HNO.out]; rfl, HW1.out _ _⟩
      have d3 : decide ((4611686018427387904 : Int) < (S : Int)) = false := by simp; omega
      by_cases g4 : G = 1
      · have HGO := Lib.hid (HVF.out.2 ⟨by omega, by omega, by omega, g4⟩)
        subst g4
        go_wp2
        go_quiet ((first | (go_at_call_of 119 xn; exact Calls.quiet_of_same (HSN.out _)) | (go_at_call_of 119 xd; exact Calls.quiet_of_same (HSD.out _)) | (go_at_call 120; exact Calls.quiet_of (HGG.out _))))
        go_wp2
        go_roundw
        case rel => exact ⟨1, by omega, fun _ => HGO.out, by go_num, HW1.out _ _⟩
        case measure => simp [intOf]
      · have d4 : ((G : Int) == 1) = false := by simp; omega
        have HNO := Lib.hid (HF.out (by rw [HVF.out]; omega))
        go_wp2
        go_quiet ((first | (go_at_call_of 119 xn; exact Calls.quiet_of_same (HSN.out _)) | (go_at_call_of 119 xd; exact Calls.quiet_of_same (HSD.out _)) | (go_at_call 120; exact Calls.quiet_of (HGG.out _))))
        go_wp2
        go_returns
        exact ⟨_, rfl, by rw [HNO.out]; rfl, HW1.out _ _⟩
    · have : k = 1 := by omega
      subst this
      have HT := Lib.hid (vF_true (HV.out (by omega)))
      go_wp2
      go_returns
      exact ⟨_, rfl, by rw [HT.out]; rfl, hbw⟩

/-- What Check returns. -/
def ckI (n d : Int) : Int := if VF n d then 0 else 2
theorem ckI_t {n d : Int} (h : VF n d) : ckI n d = 0 := if_pos h
theorem ckI_f {n d : Int} (h : ¬ VF n d) : ckI n d = 2 := if_neg h
set_option maxHeartbeats 800000 in
theorem gcheck_any (xn xd : Int) (w : World) (h1 : -9223372036854775808 ≤ xn) (h2 : xn ≤ 9223372036854775807) (h3 : -9223372036854775808 ≤ xd) (h4 : xd ≤ 9223372036854775807) :
    Calls Try.prog 86 #[.agg #[.int .i64 xn, .int .i64 xd]] w (Ret (fun v _ => v = .int .i64 (ckI xn xd)) w) := by
  obtain ⟨W0, hW0⟩ : ∃ W0, W0 = (w.alloc (.cells #[.int .i64 xn, .int .i64 xd] TF)).alloc (.cells #[.int .i64 xn, .int .i64 xd] TF) := ⟨_, rfl⟩
  have hbw : Below w.heap.size w W0 := by rw [hW0]; go_grown
  have b1 : Blk W0 (w.heap.size + 1) TF #[.int .i64 xn, .int .i64 xd] := by rw [hW0]; exact Blk.new_ _ _ (by simp)
  have k1 := b1.cells
  simp only [cellsAre, Nat.zero_add, Nat.reduceAdd, and_true] at k1
  have HV := Lib.hid (gvalid1_any xn xd (w.heap.size + 1) W0 h1 h2 h3 h4 k1)
  clear b1 k1
  by_cases hv : VF xn xd
  · rw [vF_true hv] at HV
    rw [ckI_t hv]
    go_enter Try.func86, Try.ntmps86
    go_wp2_with fail
    rw [← hW0]
    clear hW0
    refine HV.out.mono ?_
    rintro e w1 ⟨v1, rfl, rfl, hb1⟩
    go_wp2
    go_returns
    exact ⟨_, rfl, rfl, bt hbw hb1⟩
  · rw [vF_false hv] at HV
    rw [ckI_f hv]
    go_enter Try.func86, Try.ntmps86
    go_wp2_with fail
    rw [← hW0]
    clear hW0
    refine HV.out.mono ?_
    rintro e w1 ⟨v1, rfl, rfl, hb1⟩
    go_wp2
    go_returns
    exact ⟨_, rfl, rfl, bt hbw hb1⟩
end Go.Proofs.Tb
