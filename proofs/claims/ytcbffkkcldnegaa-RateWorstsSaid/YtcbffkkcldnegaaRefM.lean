/- Contracts of the reference for rates: in, Valid. -/
import Derived.Test.YtcbffkkcldnegaaRateB
set_option linter.unusedVariables false
set_option linter.unusedSimpArgs false
namespace Go.Proofs.Tb
open Go.RowKit
attribute [local go_sem] cell_set_same

def inB (v l h : Int) : Bool := decide (l ≤ v) && decide (v ≤ h)
theorem inB_t {v l h : Int} (h1 : l ≤ v) (h2 : v ≤ h) : inB v l h = true := by unfold inB; simp [h1, h2]
theorem inB_f {v l h : Int} (h1 : ¬ (l ≤ v ∧ v ≤ h)) : inB v l h = false := by unfold inB; simp; omega
theorem ret_bool {a b : Bool} (h : a = b) : Ending.returned (.bool a) = .returned (.bool b) := by rw [h]
theorem zin_any (v l h : Int) (w : World) : Calls Try.prog 79 #[.int .i64 v, .int .i64 l, .int .i64 h] w fun e w' => e = .returned (.bool (inB v l h)) ∧ w' = w := by
  by_cases h1 : l ≤ v
  · by_cases h2 : v ≤ h
    · have d2 : decide (v ≤ h) = true := by simpa using h2
      have HE := Lib.hid (inB_t h1 h2)
      go_enter Try.func79, Try.ntmps79
      go_wp2
      go_returns
      exact ⟨ret_bool HE.out.symm, rfl⟩
    · have d2 : decide (v ≤ h) = false := by simpa using h2
      have HE := Lib.hid (inB_f (v := v) (l := l) (h := h) (by omega))
      go_enter Try.func79, Try.ntmps79
      go_wp2
      go_returns
      exact ⟨ret_bool HE.out.symm, rfl⟩
  · have d1 : decide (l ≤ v) = false := by simpa using h1
    have HE := Lib.hid (inB_f (v := v) (l := l) (h := h) (by omega))
    go_enter Try.func79, Try.ntmps79
    go_wp2
    go_returns
    exact ⟨ret_bool HE.out.symm, rfl⟩

set_option maxHeartbeats 3200000 in
set_option maxRecDepth 100000 in
theorem zvld_any (A : Option Addr) (n c : Nat) (rs : List Rdg) (w : World) (h : Rd w A n c rs) :
    Calls Try.prog 30 #[.slice A n c] w (Ret (fun v _ => v = .bool (vld rs)) w) := by
  have hn := h.le
  have hc := h.cap
  have hl := h.len
  have H := Lib.hid h
  clear h
  by_cases g0 : 2 ≤ n ∧ n ≤ 64
  · have HC : Hid (∀ W : World, Calls Try.prog 79 #[.int .i64 (n : Int), .int .i64 2, .int .i64 64] W fun e w' => e = .returned (.bool true) ∧ W = w') := fun W => by
      have := zin_any (n : Int) 2 64 W
      rw [inB_t (by omega) (by omega)] at this
      exact this.mono fun e w' h => ⟨h.1, h.2.symm⟩
    have HL := Lib.hid hl
    have G0 := Lib.hid g0
    clear hl g0
    go_enter Try.func30, Try.ntmps30
    go_wp2_with (go_at_call 79; refine (HC.out _).mono ?_; rintro e w' ⟨rfl, rfl⟩)
    go_loopw [3] (fun i wr => ∃ k : Nat, k ≤ n ∧ (∀ j, j < k → okAt rs j) ∧ i = .int .i64 k ∧ Below w.heap.size w wr) (fun i _ => n - (intOf i).toNat)
    case atStart => exact ⟨0, Nat.zero_le _, fun j hj => absurd hj (by omega), rfl, Below.refl _ _⟩
    case round =>
      obtain ⟨k, hk, hok, rfl, hbw⟩ := hrel
      have HK := Lib.hid hok
      clear hok
      by_cases hkn : k < n
      · have g1 : decide ((k : Int) < (n : Int)) = true := by simp; omega
        obtain ⟨b, o, rfl, hcell⟩ := (H.out.below hbw).at_ (by omega)
        obtain ⟨hct, hcy⟩ := hcell k hkn
        have hcp := (hcell (k - 1) (by omega)).1
        obtain ⟨t1, t2, y1, y2⟩ := H.out.getD_rng k
        have HF := Lib.hid (vld_false (rs := rs))
        have HNOK : Hid (¬ okAt rs k → ¬ Vld rs) := fun hno hv => hno (hv.2.2 k (by have := HL.out; omega))
        obtain ⟨t, ht⟩ : ∃ t, (rs.getD k (0, 0)).1 = t := ⟨_, rfl⟩
        obtain ⟨y, hy⟩ : ∃ t, (rs.getD k (0, 0)).2 = t := ⟨_, rfl⟩
        obtain ⟨p, hp⟩ : ∃ t, (rs.getD (k - 1) (0, 0)).1 = t := ⟨_, rfl⟩
        rw [ht] at hct t1 t2
        rw [hy] at hcy y1 y2
        rw [hp] at hcp
        have HOK2 : Hid (okAt rs k ↔ (-1000000 ≤ t ∧ t ≤ 1000000 ∧ -1000000 ≤ y ∧ y ≤ 1000000 ∧ (0 < k → p < t))) := by
          show okAt rs k ↔ _
          unfold okAt
          rw [ht, hy, hp]
        have HW1 : Hid (∀ nq, Below w.heap.size w (wr.drewN nq)) := fun nq => ⟨hbw.os, hbw.tape, hbw.output, hbw.size, hbw.block⟩
        clear ht hy hp hcell
        have HIT := Lib.hid (fun W : World => zin_any t (-1000000) 1000000 W)
        have HIY := Lib.hid (fun W : World => zin_any y (-1000000) 1000000 W)
        by_cases g2 : -1000000 ≤ t ∧ t ≤ 1000000
        · have HT : Hid (∀ W : World, Calls Try.prog 79 #[.int .i64 t, .int .i64 (-1000000), .int .i64 1000000] W fun e w' => e = .returned (.bool true) ∧ w' = W) := fun W => by
            have := HIT.out W
            rw [inB_t g2.1 g2.2] at this
            exact this
          by_cases g3 : -1000000 ≤ y ∧ y ≤ 1000000
          · have HY : Hid (∀ W : World, Calls Try.prog 79 #[.int .i64 y, .int .i64 (-1000000), .int .i64 1000000] W fun e w' => e = .returned (.bool true) ∧ w' = W) := fun W => by
              have := HIY.out W
              rw [inB_t g3.1 g3.2] at this
              exact this
            by_cases hk0 : 0 < k
            · have hk1 : decide ((0 : Int) < (k : Int)) = true := by simp; omega
              have q0 : (0 : Int) ≤ (k : Int) - 1 := by omega
              have q4 : (1 : Int) ≤ (k : Int) := by omega
              have q5 : 1 ≤ k := hk0
              have q6 : (k : Int) ≤ (n : Int) := by omega
              have q1 : (k : Int) - 1 < (n : Int) := by omega
              have q2 : ((k : Int) - 1).toNat = k - 1 := by omega
              have q3 : IntKind.i64.wrap ((k : Int) - 1) = (k : Int) - 1 := IntWalk.i64_in _ (by omega)
              by_cases g5 : t ≤ p
              · have d5 : decide (t ≤ p) = true := by simpa using g5
                have HNO := Lib.hid (HNOK.out (by rw [HOK2.out]; intro h; have := h.2.2.2.2 hk0; omega))
                clear g2 g3
                go_wp2
                go_quiet ((first | (go_at_call_of 79 t; exact Calls.quiet_of_same (HT.out _)) | (go_at_call_of 79 y; exact Calls.quiet_of_same (HY.out _))))
                go_wp2
                go_returns
                exact ⟨_, rfl, by rw [HF.out HNO.out]; rfl, HW1.out _⟩
              · have d5 : decide (t ≤ p) = false := by simpa using g5
                have HGO := Lib.hid (HOK2.out.2 ⟨g2.1, g2.2, g3.1, g3.2, fun _ => by omega⟩)
                clear g2 g3
                go_wp2
                go_quiet ((first | (go_at_call_of 79 t; exact Calls.quiet_of_same (HT.out _)) | (go_at_call_of 79 y; exact Calls.quiet_of_same (HY.out _))))
                clear q2 q3
                go_wp2
                go_roundw
                case rel => exact ⟨k + 1, by omega, fun j hj => by rcases Nat.lt_or_eq_of_le (Nat.le_of_lt_succ hj) with h | h; exact HK.out j h; rw [h]; exact HGO.out, by go_num, HW1.out _⟩
                case measure => simp [intOf]; omega
            · have hk1 : decide ((0 : Int) < (k : Int)) = false := by simp; omega
              have HGO := Lib.hid (HOK2.out.2 ⟨g2.1, g2.2, g3.1, g3.2, fun h => by omega⟩)
              clear g2 g3
              go_wp2
              go_quiet ((first | (go_at_call_of 79 t; exact Calls.quiet_of_same (HT.out _)) | (go_at_call_of 79 y; exact Calls.quiet_of_same (HY.out _))))
              skip
              go_wp2
              go_roundw
              case rel => exact ⟨k + 1, by omega, fun j hj => by rcases Nat.lt_or_eq_of_le (Nat.le_of_lt_succ hj) with h | h; exact HK.out j h; rw [h]; exact HGO.out, by go_num, HW1.out _⟩
              case measure => simp [intOf]; omega
          · have HY : Hid (∀ W : World, Calls Try.prog 79 #[.int .i64 y, .int .i64 (-1000000), .int .i64 1000000] W fun e w' => e = .returned (.bool false) ∧ w' = W) := fun W => by
              have := HIY.out W
              rw [inB_f g3] at this
              exact this
            have HNO := Lib.hid (HNOK.out (by rw [HOK2.out]; intro h; exact g3 ⟨h.2.2.1, h.2.2.2.1⟩))
            clear g2 g3
            go_wp2
            go_quiet ((first | (go_at_call_of 79 t; exact Calls.quiet_of_same (HT.out _)) | (go_at_call_of 79 y; exact Calls.quiet_of_same (HY.out _))))
            go_wp2
            go_returns
            exact ⟨_, rfl, by rw [HF.out HNO.out]; rfl, HW1.out _⟩
        · have HT : Hid (∀ W : World, Calls Try.prog 79 #[.int .i64 t, .int .i64 (-1000000), .int .i64 1000000] W fun e w' => e = .returned (.bool false) ∧ w' = W) := fun W => by
            have := HIT.out W
            rw [inB_f g2] at this
            exact this
          have HNO := Lib.hid (HNOK.out (by rw [HOK2.out]; intro h; exact g2 ⟨h.1, h.2.1⟩))
          clear g2
          go_wp2
          go_quiet ((first | (go_at_call_of 79 t; exact Calls.quiet_of_same (HT.out _)) | (go_at_call_of 79 y; exact Calls.quiet_of_same (HIY.out _))))
          go_wp2
          go_returns
          exact ⟨_, rfl, by rw [HF.out HNO.out]; rfl, HW1.out _⟩
      · have g1 : decide ((k : Int) < (n : Int)) = false := by simp; omega
        have : k = n := by omega
        subst this
        have HV : Hid (Vld rs) := ⟨by rw [HL.out]; exact G0.out.1, by rw [HL.out]; exact G0.out.2, fun j hj => HK.out j (by have := HL.out; omega)⟩
        go_wp2
        go_returns
        exact ⟨_, rfl, by rw [vld_true HV.out]; rfl, hbw⟩
  · have HC : Hid (∀ W : World, Calls Try.prog 79 #[.int .i64 (n : Int), .int .i64 2, .int .i64 64] W fun e w' => e = .returned (.bool false) ∧ W = w') := fun W => by
      have := zin_any (n : Int) 2 64 W
      rw [inB_f (by omega)] at this
      exact this.mono fun e w' h => ⟨h.1, h.2.symm⟩
    have HF := Lib.hid (vld_false (rs := rs) (fun hv => g0 ⟨by have := hv.1; omega, by have := hv.2.1; omega⟩))
    clear hl g0
    go_enter Try.func30, Try.ntmps30
    go_wp2_with (go_at_call 79; refine (HC.out _).mono ?_; rintro e w' ⟨rfl, rfl⟩)
    go_returns
    exact ⟨_, rfl, by rw [HF.out]; rfl, Below.refl _ _⟩
end Go.Proofs.Tb
