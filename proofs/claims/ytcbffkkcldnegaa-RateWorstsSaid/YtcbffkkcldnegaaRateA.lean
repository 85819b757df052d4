/- Contracts of package rate: readings in memory; size; valid. -/
import Derived.Test.YtcbffkkcldnegaaWideL
set_option linter.unusedVariables false
set_option linter.unusedSimpArgs false
namespace Go.Proofs.Tb
open Go.RowKit
attribute [local go_sem] cell_set_same

/-- A reading: its time and its offset. -/
abbrev Rdg := Int × Int
/-- The slice '.slice A n c' reads as the readings rs. -/
structure Rd (w : World) (A : Option Addr) (n c : Nat) (rs : List Rdg) : Prop where
  len : rs.length = n
  le : n ≤ c
  cap : c ≤ 9223372036854775807
  at_ : 0 < n → ∃ b o, A = some ⟨b, o, none⟩ ∧ ∀ j, j < n → w.cell? ⟨b, o + j * 2, none⟩ = some (.int .i64 (rs.getD j (0, 0)).1) ∧ w.cell? ⟨b, o + j * 2 + 1, none⟩ = some (.int .i64 (rs.getD j (0, 0)).2)
  rng : ∀ x, x ∈ rs → -9223372036854775808 ≤ x.1 ∧ x.1 ≤ 9223372036854775807 ∧ -9223372036854775808 ≤ x.2 ∧ x.2 ≤ 9223372036854775807
section
variable {w w' : World} {A : Option Addr} {n c : Nat} {rs : List Rdg}
theorem Rd.below (h : Rd w A n c rs) (hb : Below w.heap.size w w') : Rd w' A n c rs := by
  refine ⟨h.len, h.le, h.cap, fun hn => ?_, h.rng⟩
  obtain ⟨b, o, hA, hc⟩ := h.at_ hn
  refine ⟨b, o, hA, fun j hj => ?_⟩
  obtain ⟨h1, h2⟩ := hc j hj
  exact ⟨(hb.cell (p := ⟨b, o + j * 2, none⟩) (World.block_lt_of_cell? w _ h1)).trans h1, (hb.cell (p := ⟨b, o + j * 2 + 1, none⟩) (World.block_lt_of_cell? w _ h2)).trans h2⟩
theorem Rd.getD_rng (h : Rd w A n c rs) (j : Nat) : -9223372036854775808 ≤ (rs.getD j (0, 0)).1 ∧ (rs.getD j (0, 0)).1 ≤ 9223372036854775807 ∧ -9223372036854775808 ≤ (rs.getD j (0, 0)).2 ∧ (rs.getD j (0, 0)).2 ≤ 9223372036854775807 := by
  by_cases hj : j < rs.length
  · have := h.rng _ (List.getElem_mem hj)
    simp [List.getD, hj]
    exact this
  · simp [List.getD, Nat.le_of_not_lt hj]
end

theorem ret_int {k : IntKind} {a b : Int} (h : a = b) : Ending.returned (.int k a) = .returned (.int k b) := by rw [h]
/-- What rate.size returns. -/
def szI (n : Int) : Int := if n = -9223372036854775808 then n else (n.natAbs : Int)
theorem szI_small (n : Int) (h : -1000000 ≤ n) (h' : n ≤ 1000000) : szI n ≤ 1000000 := by unfold szI; split <;> omega
theorem szI_big (n : Int) (h : szI n ≤ 1000000) (h' : -1000000 ≤ n) : n ≤ 1000000 := by unfold szI at h; split at h <;> omega
set_option maxHeartbeats 400000 in
theorem rsize_any (n : Int) (w : World) (h : -9223372036854775808 ≤ n) (h' : n ≤ 9223372036854775807) :
    Calls Try.prog 97 #[.int .i64 n] w fun e w' => e = .returned (.int .i64 (szI n)) ∧ w' = w := by
  go_enter Try.func97, Try.ntmps97
  go_wp2
  · go_returns
    exact ⟨ret_int (by unfold wrap64 at *; unfold szI; split <;> omega), rfl⟩
  · go_returns
    exact ⟨ret_int (by unfold wrap64 at *; unfold szI; split <;> omega), rfl⟩

/-- Is reading k as it should be, behind the one before it? -/
def okAt (rs : List Rdg) (k : Nat) : Prop :=
  -1000000 ≤ (rs.getD k (0, 0)).1 ∧ (rs.getD k (0, 0)).1 ≤ 1000000 ∧ -1000000 ≤ (rs.getD k (0, 0)).2 ∧ (rs.getD k (0, 0)).2 ≤ 1000000 ∧ (0 < k → (rs.getD (k - 1) (0, 0)).1 < (rs.getD k (0, 0)).1)
/-- Valid readings. -/
def Vld (rs : List Rdg) : Prop := 2 ≤ rs.length ∧ rs.length ≤ 64 ∧ ∀ k, k < rs.length → okAt rs k
open Classical in
/-- The same as a Bool. -/
noncomputable def vld (rs : List Rdg) : Bool := decide (Vld rs)
theorem vld_true {rs : List Rdg} (h : Vld rs) : vld rs = true := by unfold vld; simpa using h
theorem vld_false {rs : List Rdg} (h : ¬ Vld rs) : vld rs = false := by unfold vld; simpa using h

set_option maxHeartbeats 3200000 in
theorem rvalid_any (A : Option Addr) (n c : Nat) (rs : List Rdg) (w : World) (h : Rd w A n c rs) :
    Calls Try.prog 56 #[.slice A n c] w (Ret (fun v _ => v = .bool (vld rs)) w) := by
  have hn := h.le
  have hc := h.cap
  have H := Lib.hid h
  clear h
  go_enter Try.func56, Try.ntmps56
  go_wp2
  go_loopw [7] (fun i wr => ∃ k : Nat, k ≤ n ∧ (∀ j, j < k → okAt rs j) ∧ i = .int .i64 k ∧ Below w.heap.size w wr) (fun i _ => n - (intOf i).toNat)
  case atStart => exact ⟨0, Nat.zero_le _, fun j hj => absurd hj (by omega), rfl, Below.refl _ _⟩
  case round =>
    obtain ⟨k, hk, hok, rfl, hbw⟩ := hrel
    have HK := Lib.hid hok
    clear hok
    by_cases hkn : k < n
    · obtain ⟨b, o, rfl, hcell⟩ := (H.out.below hbw).at_ (by omega)
      obtain ⟨hct, hcy⟩ := hcell k hkn
      have hcp := (hcell (k - 1) (by omega)).1
      obtain ⟨t1, t2, y1, y2⟩ := H.out.getD_rng k
      have HF := Lib.hid (vld_false (rs := rs))
      have HNOK : Hid (¬ okAt rs k → ¬ Vld rs) := fun hno hv => hno (hv.2.2 k (by have := H.out.len; omega))
      have HOK : Hid (okAt rs k ↔ _) := Iff.rfl
      obtain ⟨t, ht⟩ : ∃ t, (rs.getD k (0, 0)).1 = t := ⟨_, rfl⟩
      obtain ⟨y, hy⟩ : ∃ t, (rs.getD k (0, 0)).2 = t := ⟨_, rfl⟩
      obtain ⟨p, hp⟩ : ∃ t, (rs.getD (k - 1) (0, 0)).1 = t := ⟨_, rfl⟩
      rw [ht] at hct t1 t2
      rw [hy] at hcy y1 y2
      rw [hp] at hcp
      have HOK2 : Hid (okAt rs k ↔ (-1000000 ≤ t ∧ t ≤ 1000000 ∧ -1000000 ≤ y ∧ y ≤ 1000000 ∧ (0 < k → p < t))) := by
        show okAt rs k ↔ _
        unfold okAt
        rw [ht, hy, hp]
      obtain ⟨a, ha⟩ : ∃ a, szI t = a := ⟨_, rfl⟩
      obtain ⟨d, hd⟩ : ∃ a, szI y = a := ⟨_, rfl⟩
      have hra : ∀ W : World, Calls Try.prog 97 #[.int .i64 t] W fun e w' => e = .returned (.int .i64 a) ∧ w' = W := fun W => by rw [← ha]; exact rsize_any t W t1 t2
      have hrd : ∀ W : World, Calls Try.prog 97 #[.int .i64 y] W fun e w' => e = .returned (.int .i64 d) ∧ w' = W := fun W => by rw [← hd]; exact rsize_any y W y1 y2
      have HRA := Lib.hid hra
      have HRD := Lib.hid hrd
      have HA := Lib.hid ha
      have HD := Lib.hid hd
      clear ht hy hp HOK hcell ha hd hra hrd
      have hw1 : ∀ nq o, Below w.heap.size w ((wr.alloc o).drewN nq) := fun nq o => ⟨hbw.os, hbw.tape, hbw.output, (hbw.alloc hbw.size o).size, (hbw.alloc hbw.size o).block⟩
      have HW1 := Lib.hid hw1
      clear hw1
      by_cases g1 : (1000000 : Int) < a
      · have d1 : decide ((1000000 : Int) < a) = true := by simpa using g1
        have HNO := Lib.hid (HNOK.out (by rw [HOK2.out]; intro h; have := szI_small t h.1 h.2.1; rw [HA.out] at this; omega))
        go_wp2
        go_quiet ((first | (go_at_call_of 97 t; exact Calls.quiet_of_same (HRA.out _)) | (go_at_call_of 97 y; exact Calls.quiet_of_same (HRD.out _))))
        go_wp2
        go_returns
        exact ⟨_, rfl, by rw [HF.out HNO.out]; rfl, HW1.out _ _⟩
      have d1 : decide ((1000000 : Int) < a) = false := by simpa using g1
      by_cases g2 : (1000000 : Int) < d
      · have d2 : decide ((1000000 : Int) < d) = true := by simpa using g2
        have HNO := Lib.hid (HNOK.out (by rw [HOK2.out]; intro h; have := szI_small y h.2.2.1 h.2.2.2.1; rw [HD.out] at this; omega))
        go_wp2
        go_quiet ((first | (go_at_call_of 97 t; exact Calls.quiet_of_same (HRA.out _)) | (go_at_call_of 97 y; exact Calls.quiet_of_same (HRD.out _))))
        go_wp2
        go_returns
        exact ⟨_, rfl, by rw [HF.out HNO.out]; rfl, HW1.out _ _⟩
      have d2 : decide ((1000000 : Int) < d) = false := by simpa using g2
      by_cases g3 : t < -1000000
      · have d3 : decide (t < -1000000) = true := by simpa using g3
        have HNO := Lib.hid (HNOK.out (by rw [HOK2.out]; intro h; omega))
        go_wp2
        go_quiet ((first | (go_at_call_of 97 t; exact Calls.quiet_of_same (HRA.out _)) | (go_at_call_of 97 y; exact Calls.quiet_of_same (HRD.out _))))
        go_wp2
        go_returns
        exact ⟨_, rfl, by rw [HF.out HNO.out]; rfl, HW1.out _ _⟩
      have d3 : decide (t < -1000000) = false := by simpa using g3
      by_cases g4 : y < -1000000
      · have d4 : decide (y < -1000000) = true := by simpa using g4
        have HNO := Lib.hid (HNOK.out (by rw [HOK2.out]; intro h; omega))
        go_wp2
        go_quiet ((first | (go_at_call_of 97 t; exact Calls.quiet_of_same (HRA.out _)) | (go_at_call_of 97 y; exact Calls.quiet_of_same (HRD.out _))))
        go_wp2
        go_returns
        exact ⟨_, rfl, by rw [HF.out HNO.out]; rfl, HW1.out _ _⟩
      have d4 : decide (y < -1000000) = false := by simpa using g4
      have HT := Lib.hid (szI_big t (by rw [HA.out]; omega) (by omega))
      have HY := Lib.hid (szI_big y (by rw [HD.out]; omega) (by omega))
      by_cases hk0 : 0 < k
      · have hk1 : decide ((0 : Int) < (k : Int)) = true := by simp; omega
        have q8 : ∀ o', (wr.alloc o').cell? ⟨b, o + (k - 1) * 2, none⟩ = some (.int .i64 p) := fun o' => (World.cell?_alloc_lt wr o' _ (World.block_lt_of_cell? wr _ hcp)).trans hcp
        have q0 : (0 : Int) ≤ (k : Int) - 1 := by omega
        have q4 : (1 : Int) ≤ (k : Int) := by omega
        have q5 : 1 ≤ k := hk0
        have q6 : (k : Int) ≤ (n : Int) := by omega
        have q7 : (k : Int) - 1 < (n : Int) := by omega
        have q1 : (k : Int) - 1 < (n : Int) := by omega
        have q2 : ((k : Int) - 1).toNat = k - 1 := by omega
        have q3 : IntKind.i64.wrap ((k : Int) - 1) = (k : Int) - 1 := IntWalk.i64_in _ (by omega)
        by_cases g5 : t ≤ p
        · have d5 : decide (t ≤ p) = true := by simpa using g5
          have HNO := Lib.hid (HNOK.out (by rw [HOK2.out]; intro h; have := h.2.2.2.2 hk0; omega))
          go_wp2
          go_quiet ((first | (go_at_call_of 97 t; exact Calls.quiet_of_same (HRA.out _)) | (go_at_call_of 97 y; exact Calls.quiet_of_same (HRD.out _))))
          go_wp2
          go_returns
          exact ⟨_, rfl, by rw [HF.out HNO.out]; rfl, HW1.out _ _⟩
        have d5 : decide (t ≤ p) = false := by simpa using g5
        have HGO := Lib.hid (HOK2.out.2 ⟨by omega, HT.out, by omega, HY.out, fun _ => by omega⟩)
        go_wp2
        go_quiet ((first | (go_at_call_of 97 t; exact Calls.quiet_of_same (HRA.out _)) | (go_at_call_of 97 y; exact Calls.quiet_of_same (HRD.out _))))
        clear q2 q3
        go_wp2
        go_roundw
        case rel => exact ⟨k + 1, by omega, fun j hj => by rcases Nat.lt_or_eq_of_le (Nat.le_of_lt_succ hj) with h | h; exact HK.out j h; rw [h]; exact HGO.out, by go_num, HW1.out _ _⟩
        case measure => simp [intOf]; omega
      · have hk1 : decide ((0 : Int) < (k : Int)) = false := by simp; omega
        have HGO := Lib.hid (HOK2.out.2 ⟨by omega, HT.out, by omega, HY.out, fun h => by omega⟩)
        go_wp2
        go_quiet ((first | (go_at_call_of 97 t; exact Calls.quiet_of_same (HRA.out _)) | (go_at_call_of 97 y; exact Calls.quiet_of_same (HRD.out _))))
        skip
        go_wp2
        go_roundw
        case rel => exact ⟨k + 1, by omega, fun j hj => by rcases Nat.lt_or_eq_of_le (Nat.le_of_lt_succ hj) with h | h; exact HK.out j h; rw [h]; exact HGO.out, by go_num, HW1.out _ _⟩
        case measure => simp [intOf]; omega
    · have : k = n := by omega
      subst this
      have hl := H.out.len
      have HV := Lib.hid (show (2 ≤ k ∧ k ≤ 64) ↔ Vld rs from ⟨fun h => ⟨by omega, by omega, fun j hj => HK.out j (by omega)⟩, fun h => ⟨by have := h.1; omega, by have := h.2.1; omega⟩⟩)
      clear hl
      by_cases g1 : 2 ≤ k
      · by_cases g2 : k ≤ 64
        · have d6 : decide ((k : Int) ≤ 64) = true := by simp; omega
          go_wp2
          go_returns
          exact ⟨_, rfl, by rw [vld_true (HV.out.1 ⟨g1, g2⟩)]; rfl, hbw⟩
        · have d6 : decide ((k : Int) ≤ 64) = false := by simp; omega
          go_wp2
          go_returns
          exact ⟨_, rfl, by rw [vld_false (fun h => g2 (HV.out.2 h).2)]; rfl, hbw⟩
      · go_wp2
        go_returns
        exact ⟨_, rfl, by rw [vld_false (fun h => g1 (HV.out.2 h).1)]; rfl, hbw⟩
end Go.Proofs.Tb
