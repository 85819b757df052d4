/- Contracts of package rate: readings in memory; size; valid. (With what follows it, in one text.) -/
import Derived.Test.YthcialpcefhnnaaWide2
set_option linter.unusedVariables false
set_option linter.unusedSimpArgs false
/- Contracts of package rate: readings in memory; size; valid. -/
namespace Go.Proofs.Tb
open Go.RowKit
attribute [local go_sem] cell_set_same

/-- A reading: its time and its offset. -/
abbrev Rdg := Int × Int
/-- The slice '.slice A n c' reads as the readings rs. -/
structure Rd (w : World) (A : Option Addr) (n c : Nat) (rs : List Rdg) : Prop where
  len : rs.length = n
  le : n ≤ c
  cap : c ≤ 9223372036854775807
  at_ : 0 < n → ∃ b o, A = some ⟨b, o, none⟩ ∧ ∀ j, j < n → w.cell? ⟨b, o + j * 2, none⟩ = some (.int .i64 (rs.getD j (0, 0)).1) ∧ w.cell? ⟨b, o + j * 2 + 1, none⟩ = some (.int .i64 (rs.getD j (0, 0)).2)
  rng : ∀ x, x ∈ rs → -9223372036854775808 ≤ x.1 ∧ x.1 ≤ 9223372036854775807 ∧ -9223372036854775808 ≤ x.2 ∧ x.2 ≤ 9223372036854775807
section
variable {w w' : World} {A : Option Addr} {n c : Nat} {rs : List Rdg}
theorem Rd.below (h : Rd w A n c rs) (hb : Below w.heap.size w w') : Rd w' A n c rs := by
  refine ⟨h.len, h.le, h.cap, fun hn => ?_, h.rng⟩
  obtain ⟨b, o, hA, hc⟩ := h.at_ hn
  refine ⟨b, o, hA, fun j hj => ?_⟩
  obtain ⟨h1, h2⟩ := hc j hj
  exact ⟨(hb.cell (p := ⟨b, o + j * 2, none⟩) (World.block_lt_of_cell? w _ h1)).trans h1, (hb.cell (p := ⟨b, o + j * 2 + 1, none⟩) (World.block_lt_of_cell? w _ h2)).trans h2⟩
theorem Rd.getD_rng (h : Rd w A n c rs) (j : Nat) : -9223372036854775808 ≤ (rs.getD j (0, 0)).1 ∧ (rs.getD j (0, 0)).1 ≤ 9223372036854775807 ∧ -9223372036854775808 ≤ (rs.getD j (0, 0)).2 ∧ (rs.getD j (0, 0)).2 ≤ 9223372036854775807 := by
  by_cases hj : j < rs.length
  · have := h.rng _ (List.getElem_mem hj)
    simp [List.getD, hj]
    exact this
  · simp [List.getD, Nat.le_of_not_lt hj]
end

theorem ret_int {k : IntKind} {a b : Int} (h : a = b) : Ending.returned (.int k a) = .returned (.int k b) := by rw [h]
/-- What rate.size returns. -/
def szI (n : Int) : Int := if n = -9223372036854775808 then n else (n.natAbs : Int)
theorem szI_small (n : Int) (h : -1000000 ≤ n) (h' : n ≤ 1000000) : szI n ≤ 1000000 := by unfold szI; split <;> omega
theorem szI_big (n : Int) (h : szI n ≤ 1000000) (h' : -1000000 ≤ n) : n ≤ 1000000 := by unfold szI at h; split at h <;> omega
set_option maxHeartbeats 400000 in
theorem rsize_any (n : Int) (w : World) (h : -9223372036854775808 ≤ n) (h' : n ≤ 9223372036854775807) :
    Calls Try.prog 34 #[.int .i64 n] w fun e w' => e = .returned (.int .i64 (szI n)) ∧ w' = w := by
  go_enter Try.func34, Try.ntmps34
  go_wp2
  · go_returns
    exact ⟨ret_int (by unfold wrap64 at *; unfold szI; split <;> omega), rfl⟩
  · go_returns
    exact ⟨ret_int (by unfold wrap64 at *; unfold szI; split <;> omega), rfl⟩

/-- Is reading k as it should be, behind the one before it? -/
def okAt (rs : List Rdg) (k : Nat) : Prop :=
  -1000000 ≤ (rs.getD k (0, 0)).1 ∧ (rs.getD k (0, 0)).1 ≤ 1000000 ∧ -1000000 ≤ (rs.getD k (0, 0)).2 ∧ (rs.getD k (0, 0)).2 ≤ 1000000 ∧ (0 < k → (rs.getD (k - 1) (0, 0)).1 < (rs.getD k (0, 0)).1)
/-- Valid readings. -/
def Vld (rs : List Rdg) : Prop := 2 ≤ rs.length ∧ rs.length ≤ 64 ∧ ∀ k, k < rs.length → okAt rs k
open Classical in
/-- The same as a Bool. -/
noncomputable def vld (rs : List Rdg) : Bool := decide (Vld rs)
theorem vld_true {rs : List Rdg} (h : Vld rs) : vld rs = true := by unfold vld; simpa using h
theorem vld_false {rs : List Rdg} (h : ¬ Vld rs) : vld rs = false := by unfold vld; simpa using h

set_option maxHeartbeats 3200000 in
theorem rvalid_any (A : Option Addr) (n c : Nat) (rs : List Rdg) (w : World) (h : Rd w A n c rs) :
    Calls Try.prog 12 #[.slice A n c] w (Ret (fun v _ => v = .bool (vld rs)) w) := by
  have hn := h.le
  have hc := h.cap
  have H := Lib.hid h
  clear h
  go_enter Try.func12, Try.ntmps12
  go_wp2
  go_loopw [7] (fun i wr => ∃ k : Nat, k ≤ n ∧ (∀ j, j < k → okAt rs j) ∧ i = .int .i64 k ∧ Below w.heap.size w wr) (fun i _ => n - (intOf i).toNat)
  case atStart => exact ⟨0, Nat.zero_le _, fun j hj => absurd hj (by omega), rfl, Below.refl _ _⟩
  case round =>
    obtain ⟨k, hk, hok, rfl, hbw⟩ := hrel
    have HK := Lib.hid hok
    clear hok
    by_cases hkn : k < n
    · obtain ⟨b, o, rfl, hcell⟩ := (H.out.below hbw).at_ (by omega)
      obtain ⟨hct, hcy⟩ := hcell k hkn
      have hcp := (hcell (k - 1) (by omega)).1
      obtain ⟨t1, t2, y1, y2⟩ := H.out.getD_rng k
      have HF := Lib.hid (vld_false (rs := rs))
      have HNOK : Hid (¬ okAt rs k → ¬ Vld rs) := fun hno hv => hno (hv.2.2 k (by have := H.out.len; omega))
      have HOK : Hid (okAt rs k ↔ _) := Iff.rfl
      obtain ⟨t, ht⟩ : ∃ t, (rs.getD k (0, 0)).1 = t := ⟨_, rfl⟩
      obtain ⟨y, hy⟩ : ∃ t, (rs.getD k (0, 0)).2 = t := ⟨_, rfl⟩
      obtain ⟨p, hp⟩ : ∃ t, (rs.getD (k - 1) (0, 0)).1 = t := ⟨_, rfl⟩
      rw [ht] at hct t1 t2
      rw [hy] at hcy y1 y2
      rw [hp] at hcp
      have HOK2 : Hid (okAt rs k ↔ (-1000000 ≤ t ∧ t ≤ 1000000 ∧ -1000000 ≤ y ∧ y ≤ 1000000 ∧ (0 < k → p < t))) := by
        show okAt rs k ↔ _
        unfold okAt
        rw [ht, hy, hp]
      obtain ⟨a, ha⟩ : ∃ a, szI t = a := ⟨_, rfl⟩
      obtain ⟨d, hd⟩ : ∃ a, szI y = a := ⟨_, rfl⟩
      have hra : ∀ W : World, Calls Try.prog 34 #[.int .i64 t] W fun e w' => e = .returned (.int .i64 a) ∧ w' = W := fun W => by rw [← ha]; exact rsize_any t W t1 t2
      have hrd : ∀ W : World, Calls Try.prog 34 #[.int .i64 y] W fun e w' => e = .returned (.int .i64 d) ∧ w' = W := fun W => by rw [← hd]; exact rsize_any y W y1 y2
      have HRA := Lib.hid hra
      have HRD := Lib.hid hrd
      have HA := Lib.hid ha
      have HD := Lib.hid hd
      clear ht hy hp HOK hcell ha hd hra hrd
      have hw1 : ∀ nq o, Below w.heap.size w ((wr.alloc o).drewN nq) := fun nq o => ⟨hbw.os, hbw.tape, hbw.output, (hbw.alloc hbw.size o).size, (hbw.alloc hbw.size o).block⟩
      have HW1 := Lib.hid hw1
      clear hw1
      by_cases g1 : (1000000 : Int) < a
      · have d1 : decide ((1000000 : Int) < a) = true := by simpa using g1
        have HNO := Lib.hid (HNOK.out (by rw [HOK2.out]; intro h; have := szI_small t h.1 h.2.1; rw [HA.out] at this; omega))
        go_wp2
        go_quiet ((first | (go_at_call_of 34 t; exact Calls.quiet_of_same (HRA.out _)) | (go_at_call_of 34 y; exact Calls.quiet_of_same (HRD.out _))))
        go_wp2
        go_returns
        exact ⟨_, rfl, by rw [HF.out HNO.out]; rfl, HW1.out _ _⟩
      have d1 : decide ((1000000 : Int) < a) = false := by simpa using g1
      by_cases g2 : (1000000 : Int) < d
      · have d2 : decide ((1000000 : Int) < d) = true := by simpa using g2
        have HNO := Lib.hid (HNOK.out (by rw [HOK2.out]; intro h; have := szI_small y h.2.2.1 h.2.2.2.1; rw [HD.out] at this; omega))
        go_wp2
        go_quiet ((first | (go_at_call_of 34 t; exact Calls.quiet_of_same (HRA.out _)) | (go_at_call_of 34 y; exact Calls.quiet_of_same (HRD.out _))))
        go_wp2
        go_returns
        exact ⟨_, rfl, by rw [HF.out HNO.out]; rfl, HW1.out _ _⟩
      have d2 : decide ((1000000 : Int) < d) = false := by simpa using g2
      by_cases g3 : t < -1000000
      · have d3 : decide (t < -1000000) = true := by simpa using g3
        have HNO := Lib.hid (HNOK.out (by rw [HOK2.out]; intro h; omega))
        go_wp2
        go_quiet ((first | (go_at_call_of 34 t; exact Calls.quiet_of_same (HRA.out _)) | (go_at_call_of 34 y; exact Calls.quiet_of_same (HRD.out _))))
        go_wp2
        go_returns
        exact ⟨_, rfl, by rw [HF.out HNO.out]; rfl, HW1.out _ _⟩
      have d3 : decide (t < -1000000) = false := by simpa using g3
      by_cases g4 : y < -1000000
      · have d4 : decide (y < -1000000) = true := by simpa using g4
        have HNO := Lib.hid (HNOK.out (by rw [HOK2.out]; intro h; omega))
        go_wp2
        go_quiet ((first | (go_at_call_of 34 t; exact Calls.quiet_of_same (HRA.out _)) | (go_at_call_of 34 y; exact Calls.quiet_of_same (HRD.out _))))
        go_wp2
        go_returns
        exact ⟨_, rfl, by rw [HF.out HNO.out]; rfl, HW1.out _ _⟩
      have d4 : decide (y < -1000000) = false := by simpa using g4
      have HT := Lib.hid (szI_big t (by rw [HA.out]; omega) (by omega))
      have HY := Lib.hid (szI_big y (by rw [HD.out]; omega) (by omega))
      by_cases hk0 : 0 < k
      · have hk1 : decide ((0 : Int) < (k : Int)) = true := by simp; omega
        have q8 : ∀ o', (wr.alloc o').cell? ⟨b, o + (k - 1) * 2, none⟩ = some (.int .i64 p) := fun o' => (World.cell?_alloc_lt wr o' _ (World.block_lt_of_cell? wr _ hcp)).trans hcp
        have q0 : (0 : Int) ≤ (k : Int) - 1 := by omega
        have q4 : (1 : Int) ≤ (k : Int) := by omega
        have q5 : 1 ≤ k := hk0
        have q6 : (k : Int) ≤ (n : Int) := by omega
        have q7 : (k : Int) - 1 < (n : Int) := by omega
        have q1 : (k : Int) - 1 < (n : Int) := by omega
        have q2 : ((k : Int) - 1).toNat = k - 1 := by omega
        have q3 : IntKind.i64.wrap ((k : Int) - 1) = (k : Int) - 1 := IntWalk.i64_in _ (by omega)
        by_cases g5 : t ≤ p
        · have d5 : decide (t ≤ p) = true := by simpa using g5
          have HNO := Lib.hid (HNOK.out (by rw [HOK2.out]; intro h; have := h.2.2.2.2 hk0; omega))
          go_wp2
          go_quiet ((first | (go_at_call_of 34 t; exact Calls.quiet_of_same (HRA.out _)) | (go_at_call_of 34 y; exact Calls.quiet_of_same (HRD.out _))))
          go_wp2
          go_returns
          exact ⟨_, rfl, by rw [HF.out HNO.out]; rfl, HW1.out _ _⟩
        have d5 : decide (t ≤ p) = false := by simpa using g5
        have HGO := Lib.hid (HOK2.out.2 ⟨by omega, HT.out, by omega, HY.out, fun _ => by omega⟩)
        go_wp2
        go_quiet ((first | (go_at_call_of 34 t; exact Calls.quiet_of_same (HRA.out _)) | (go_at_call_of 34 y; exact Calls.quiet_of_same (HRD.out _))))
        clear q2 q3
        go_wp2
        go_roundw
        case rel => exact ⟨k + 1, by omega, fun j hj => by rcases Nat.lt_or_eq_of_le (Nat.le_of_lt_succ hj) with h | h; exact HK.out j h; rw [h]; exact HGO.out, by go_num, HW1.out _ _⟩
        case measure => simp [intOf]; omega
      · have hk1 : decide ((0 : Int) < (k : Int)) = false := by simp; omega
        have HGO := Lib.hid (HOK2.out.2 ⟨by omega, HT.out, by omega, HY.out, fun h => by omega⟩)
        go_wp2
        go_quiet ((first | (go_at_call_of 34 t; exact Calls.quiet_of_same (HRA.out _)) | (go_at_call_of 34 y; exact Calls.quiet_of_same (HRD.out _))))
        skip
        go_wp2
        go_roundw
        case rel => exact ⟨k + 1, by omega, fun j hj => by rcases Nat.lt_or_eq_of_le (Nat.le_of_lt_succ hj) with h | h; exact HK.out j h; rw [h]; exact HGO.out, by go_num, HW1.out _ _⟩
        case measure => simp [intOf]; omega
    · have : k = n := by omega
      subst this
      have hl := H.out.len
      have HV := Lib.hid (show (2 ≤ k ∧ k ≤ 64) ↔ Vld rs from ⟨fun h => ⟨by omega, by omega, fun j hj => HK.out j (by omega)⟩, fun h => ⟨by have := h.1; omega, by have := h.2.1; omega⟩⟩)
      clear hl
      by_cases g1 : 2 ≤ k
      · by_cases g2 : k ≤ 64
        · have d6 : decide ((k : Int) ≤ 64) = true := by simp; omega
          go_wp2
          go_returns
          exact ⟨_, rfl, by rw [vld_true (HV.out.1 ⟨g1, g2⟩)]; rfl, hbw⟩
        · have d6 : decide ((k : Int) ≤ 64) = false := by simp; omega
          go_wp2
          go_returns
          exact ⟨_, rfl, by rw [vld_false (fun h => g2 (HV.out.2 h).2)]; rfl, hbw⟩
      · go_wp2
        go_returns
        exact ⟨_, rfl, by rw [vld_false (fun h => g1 (HV.out.2 h).1)]; rfl, hbw⟩
end Go.Proofs.Tb
/- Contracts of package rate: between, bent, rat, half, line; comparing bends. -/
namespace Go.Proofs.Tb
open Go.RowKit
attribute [local go_sem] cell_set_same
abbrev TRD : TypeId := 46
abbrev TSP : TypeId := 59
abbrev TBD : TypeId := 50
abbrev TAL : TypeId := 27

theorem mul_bd (a b : Int) (h1 : -2000000 ≤ a) (h2 : a ≤ 2000000) (h3 : -2000000 ≤ b) (h4 : b ≤ 2000000) : -4000000000000 ≤ a * b ∧ a * b ≤ 4000000000000 := by
  have h : (a * b).natAbs ≤ 4000000000000 := by
    rw [Int.natAbs_mul]
    calc a.natAbs * b.natAbs ≤ 2000000 * 2000000 := Nat.mul_le_mul (by omega) (by omega)
      _ = 4000000000000 := by decide
  omega
/-- A reading's value. -/
def RV (x : Rdg) : Value := .agg #[.int .i64 x.1, .int .i64 x.2]
set_option maxHeartbeats 800000 in
theorem rbent_any (t0 y0 t1 y1 t2 y2 : Int) (w : World) (h0 : -1000000 ≤ t0 ∧ t0 ≤ 1000000 ∧ -1000000 ≤ y0 ∧ y0 ≤ 1000000) (h1 : -1000000 ≤ t1 ∧ t1 ≤ 1000000 ∧ -1000000 ≤ y1 ∧ y1 ≤ 1000000) (h2 : -1000000 ≤ t2 ∧ t2 ≤ 1000000 ∧ -1000000 ≤ y2 ∧ y2 ≤ 1000000) :
    Calls Try.prog 35 #[.agg #[.int .i64 t0, .int .i64 y0], .agg #[.int .i64 t1, .int .i64 y1], .agg #[.int .i64 t2, .int .i64 y2]] w (Ret (fun v _ => v = .agg #[.int .i64 ((y1 - y0) * (t2 - t0) - (y2 - y0) * (t1 - t0)), .int .i64 (t2 - t0)]) w) := by
  obtain ⟨a1, a2, a3, a4⟩ := h0
  obtain ⟨b1, b2, b3, b4⟩ := h1
  obtain ⟨c1, c2, c3, c4⟩ := h2
  have m1 : -4000000000000 ≤ (y1 - y0) * (t2 - t0) ∧ (y1 - y0) * (t2 - t0) ≤ 4000000000000 := mul_bd _ _ (by omega) (by omega) (by omega) (by omega)
  have m2 : -4000000000000 ≤ (y2 - y0) * (t1 - t0) ∧ (y2 - y0) * (t1 - t0) ≤ 4000000000000 := mul_bd _ _ (by omega) (by omega) (by omega) (by omega)
  obtain ⟨m1a, m1b⟩ := m1
  obtain ⟨m2a, m2b⟩ := m2
  go_enter Try.func35, Try.ntmps35
  go_wp2
  go_returns
  exact ⟨_, rfl, rfl, by go_grown⟩

set_option maxHeartbeats 800000 in
theorem rbetween_any (t0 y0 t1 y1 : Int) (w : World) (h0 : -1000000 ≤ t0 ∧ t0 ≤ 1000000 ∧ -1000000 ≤ y0 ∧ y0 ≤ 1000000) (h1 : -1000000 ≤ t1 ∧ t1 ≤ 1000000 ∧ -1000000 ≤ y1 ∧ y1 ≤ 1000000) :
    Calls Try.prog 14 #[.agg #[.int .i64 t0, .int .i64 y0], .agg #[.int .i64 t1, .int .i64 y1]] w (Ret (fun v _ => v = if t1 < t0 then .agg #[.int .i64 (y0 - y1), .int .i64 (t0 - t1)] else .agg #[.int .i64 (y1 - y0), .int .i64 (t1 - t0)]) w) := by
  obtain ⟨a1, a2, a3, a4⟩ := h0
  obtain ⟨b1, b2, b3, b4⟩ := h1
  by_cases hlt : t1 < t0
  · rw [if_pos hlt]
    go_enter Try.func14, Try.ntmps14
    go_wp2
    go_returns
    exact ⟨_, rfl, rfl, by go_grown⟩
  · rw [if_neg hlt]
    go_enter Try.func14, Try.ntmps14
    go_wp2
    go_returns
    exact ⟨_, rfl, rfl, by go_grown⟩

theorem and_mask (x : Nat) (hx : x < 18446744073709551616) : bits BinOp.and IntKind.u64 (x : Int) 4294967295 = ((x % 4294967296 : Nat) : Int) := by
  have h := u64_and_nat x 4294967295 hx (by omega)
  have h2 := Nat.and_two_pow_sub_one_eq_mod x 32
  rw [show (2 : Nat) ^ 32 - 1 = 4294967295 by decide, show (2 : Nat) ^ 32 = 4294967296 by decide] at h2
  rw [h2] at h
  exact h
set_option maxHeartbeats 1600000 in
theorem mul64_small (x y : Nat) (w : World) (hx : x < 8796093022208) (hy : y < 2097152) :
    Calls Try.prog 58 #[.int .u64 x, .int .u64 y] w fun e w' => e = .returned (.tuple #[.int .u64 0, .int .u64 (x * y : Nat)]) ∧ w = w' := by
  obtain ⟨x0, hx0⟩ : ∃ k, x % 4294967296 = k := ⟨_, rfl⟩
  obtain ⟨x1, hx1⟩ : ∃ k, x / 4294967296 = k := ⟨_, rfl⟩
  have e1 := and_mask x (by omega)
  rw [hx0] at e1
  have e2 : (x : Int) / 4294967296 = (x1 : Int) := by omega
  have e3 := and_mask y (by omega)
  rw [Nat.mod_eq_of_lt (show y < 4294967296 by omega)] at e3
  have e4 : (y : Int) / 4294967296 = 0 := by omega
  have b1 : x1 < 2048 := by omega
  have b0 : x0 < 4294967296 := by omega
  have p0 : x0 * y < 9007199254740992 := by
    have := Nat.mul_le_mul (show x0 ≤ 4294967295 by omega) (show y ≤ 2097151 by omega); omega
  have p1 : x1 * y < 4294967296 - 2097152 := by
    have := Nat.mul_le_mul (show x1 ≤ 2047 by omega) (show y ≤ 2097151 by omega); omega
  have p2 : x * y < 18446744073709551615 := by
    have := Nat.mul_le_mul (show x ≤ 8796093022207 by omega) (show y ≤ 2097151 by omega); omega
  obtain ⟨P0, hP0⟩ : ∃ k, x0 * y = k := ⟨_, rfl⟩
  obtain ⟨P1, hP1⟩ : ∃ k, x1 * y = k := ⟨_, rfl⟩
  obtain ⟨P, hP⟩ : ∃ k, x * y = k := ⟨_, rfl⟩
  have e5 : (x0 : Int) * (y : Int) = (P0 : Int) := by rw [← hP0]; simp
  have e6 : (x1 : Int) * (y : Int) = (P1 : Int) := by rw [← hP1]; simp
  have e7 : (x : Int) * (y : Int) = (P : Int) := by rw [← hP]; simp
  rw [hP0] at p0
  rw [hP1] at p1
  rw [hP] at p2 ⊢
  obtain ⟨q, hq⟩ : ∃ k, P0 / 4294967296 = k := ⟨_, rfl⟩
  have e8 : (P0 : Int) / 4294967296 = (q : Int) := by omega
  have bq : q < 2097152 := by omega
  obtain ⟨t, ht⟩ : ∃ k, P1 + q = k := ⟨_, rfl⟩
  have e9 : (P1 : Int) + (q : Int) = (t : Int) := by omega
  have bt' : t < 4294967296 := by omega
  have e10 := and_mask t (by omega)
  rw [Nat.mod_eq_of_lt bt'] at e10
  have e11 : (t : Int) / 4294967296 = 0 := by omega
  clear hx0 hx1 hP0 hP1 hP hq ht
  go_enter Try.func58, Try.ntmps58
  go_wp2
  go_returns
  exact ⟨rfl, rfl⟩

set_option maxHeartbeats 800000 in
theorem isNaN_any (x : Int) (w : World) : Calls Try.prog 74 #[.int .u64 x] w fun e w' => e = .returned (.bool false) ∧ w = w' := by
  have h : (x != x) = false := by simp
  go_enter Try.func74, Try.ntmps74
  go_wp2
  go_returns
  exact ⟨rfl, rfl⟩
/-- cmp.Compare. -/
def cmpI (x y : Int) : Int := if x < y then -1 else if y < x then 1 else 0
set_option maxHeartbeats 800000 in
theorem compare_any (x y : Int) (w : World) : Calls Try.prog 60 #[.int .u64 x, .int .u64 y] w fun e w' => e = .returned (.int .i64 (cmpI x y)) ∧ w = w' := by
  unfold cmpI
  by_cases h1 : x < y
  · rw [if_pos h1]
    go_enter Try.func60, Try.ntmps60
    go_wp2_with (go_at_call 74; refine (isNaN_any _ _).mono ?_; rintro e w' ⟨rfl, rfl⟩)
    go_returns
    exact ⟨rfl, rfl⟩
  · rw [if_neg h1]
    by_cases h2 : y < x
    · rw [if_pos h2]
      go_enter Try.func60, Try.ntmps60
      go_wp2_with (go_at_call 74; refine (isNaN_any _ _).mono ?_; rintro e w' ⟨rfl, rfl⟩)
      go_returns
      exact ⟨rfl, rfl⟩
    · rw [if_neg h2]
      go_enter Try.func60, Try.ntmps60
      go_wp2_with (go_at_call 74; refine (isNaN_any _ _).mono ?_; rintro e w' ⟨rfl, rfl⟩)
      go_returns
      exact ⟨rfl, rfl⟩

set_option maxHeartbeats 800000 in
theorem rrat_any (sn sd : Int) (w : World)  (h1 : -9223372036854775808 ≤ sn) (h2 : sn ≤ 9223372036854775807) (h3 : -9223372036854775808 ≤ sd) (h4 : sd ≤ 9223372036854775807) (h5 : sd ≠ 0) :
    Calls Try.prog 15 #[.agg #[.int .i64 sn, .int .i64 sd]] w (Ret (fun v w' => WQ w' v (rn sn sd) (rd sd)) w) := by
  have H5_ := Lib.hid h5
  clear h5
  go_enter Try.func15, Try.ntmps15
  go_wp2
  refine wp_world (fun W0 => Blk W0 (w.heap.size) TSP #[.int .i64 sn, .int .i64 sd] ∧ Blk W0 (w.heap.size + 1) TR #[.bool false, .slice none 0 0, .bool false, .slice none 0 0] ∧ Below w.heap.size w W0) (by exact ⟨(Blk.new_ _ _ rfl).alloc _, Blk.new_ _ _ (by simp), by go_grown⟩) ?_
  rintro W0 ⟨b0, b1, hbw⟩
  have k0 := fun w' (hh : Held (w.heap.size + 1) 4 TR W0 w') => (b0.held hh (by omega)).cells
  have hst : Held (w.heap.size + 1) 4 TR W0 W0.drew := b1.heldS.drew
  have r1 := (rules (w.heap.size + 1) 4 TR W0).some
  have r2 := (rules (w.heap.size + 1) 4 TR W0).free
  simp only [cellsAre, Nat.zero_add, Nat.reduceAdd, and_true] at k0
  clear b0 b1
  have bw0 : Below w.heap.size w W0.drew := hbw.drew
  go_region_held3 (fun w' => Held (w.heap.size + 1) 4 TR W0 w') (first | assumption | exact Held.trans_ (by assumption) (by assumption) | exact Held.set_ (Held.set_ (Held.set_ (Held.set_ ((by assumption)) _ _) _ _) _ _) _ _)
    (first | (go_at_call 37; have tk := hb2; refine (wratio_any _ _ (sn) (sd) _ ⟨_, _, _, rfl, (hx1_0.below hb2)⟩ ⟨_, _, _, rfl, hx2_0⟩ H5_.out).mono ?_; rintro e w3 ⟨v3, rfl, ⟨A3_0, n3_0, c3_0, A3_1, n3_1, c3_1, rfl, hx3_0, hx3_1, hp3_0⟩, hb3⟩; have hh3 : Held (w.heap.size + 1) 4 TR W0 w3 := hh2.trans_ hb3; have bw3 := bt bw2 hb3) | (go_at_call 38; have tk := hb1; refine (wof_any (sd) _ (by omega) (by omega)).mono ?_; rintro e w2 ⟨v2, rfl, ⟨A2_0, n2_0, c2_0, rfl, hx2_0⟩, hb2⟩; have hh2 : Held (w.heap.size + 1) 4 TR W0 w2 := hh1.trans_ hb2; have bw2 := bt bw1 hb2) | (go_at_call 38; refine (wof_any (sn) _ (by omega) (by omega)).mono ?_; rintro e w1 ⟨v1, rfl, ⟨A1_0, n1_0, c1_0, rfl, hx1_0⟩, hb1⟩; have hh1 : Held (w.heap.size + 1) 4 TR W0 w1 := hst.trans_ hb1; have bw1 := bt bw0 hb1))
  go_wp2
  (try simp only [Exit.inBlock, Exit.then])
  refine bodyPost_ret (v := .agg #[.bool (ng (rn sn sd)), .slice A3_0 n3_0 c3_0, .bool (ng (rd sd)), .slice A3_1 n3_1 c3_1]) (by simp [results, Try.results15, go_sem, r1 _ hh3]) rfl ?_
  have hst2 := Held.set_ (Held.set_ (Held.set_ (Held.set_ (hh3.here) 0 (.bool (ng (rn sn sd)))) 1 (.slice A3_0 n3_0 c3_0)) 2 (.bool (ng (rd sd)))) 3 (.slice A3_1 n3_1 c3_1)
  exact ⟨_, rfl, ⟨_, _, _, _, _, _, rfl, (hx3_0).held hst2 (by decide), (hx3_1).held hst2 (by decide), hp3_0⟩, (hh3.trans2 hst2).below hbw (by omega)⟩

set_option maxHeartbeats 800000 in
theorem rhalf_any (sn sd : Int) (w : World)  (h1 : -9223372036854775808 ≤ sn) (h2 : sn ≤ 9223372036854775807) (h3 : -4611686018427387904 ≤ sd) (h4 : sd ≤ 4611686018427387903) (h5 : 2 * sd ≠ 0) :
    Calls Try.prog 21 #[.agg #[.int .i64 sn, .int .i64 sd]] w (Ret (fun v w' => WQ w' v (rn sn (2 * sd)) (rd (2 * sd))) w) := by
  have H5_ := Lib.hid h5
  clear h5
  have q2 : IntKind.i64.wrap (2 * sd) = 2 * sd := IntWalk.i64_in _ (by omega)
  go_enter Try.func21, Try.ntmps21
  go_wp2
  refine wp_world (fun W0 => Blk W0 (w.heap.size) TBD #[.int .i64 sn, .int .i64 sd] ∧ Blk W0 (w.heap.size + 1) TR #[.bool false, .slice none 0 0, .bool false, .slice none 0 0] ∧ Below w.heap.size w W0) (by exact ⟨(Blk.new_ _ _ rfl).alloc _, Blk.new_ _ _ (by simp), by go_grown⟩) ?_
  rintro W0 ⟨b0, b1, hbw⟩
  have k0 := fun w' (hh : Held (w.heap.size + 1) 4 TR W0 w') => (b0.held hh (by omega)).cells
  have hst : Held (w.heap.size + 1) 4 TR W0 W0.drew := b1.heldS.drew
  have r1 := (rules (w.heap.size + 1) 4 TR W0).some
  have r2 := (rules (w.heap.size + 1) 4 TR W0).free
  simp only [cellsAre, Nat.zero_add, Nat.reduceAdd, and_true] at k0
  clear b0 b1
  have bw0 : Below w.heap.size w W0.drew := hbw.drew
  go_region_held3 (fun w' => Held (w.heap.size + 1) 4 TR W0 w') (first | assumption | exact Held.trans_ (by assumption) (by assumption) | exact Held.set_ (Held.set_ (Held.set_ (Held.set_ ((by assumption)) _ _) _ _) _ _) _ _)
    (first | (go_at_call 37; have tk := hb2; refine (wratio_any _ _ (sn) ((2 * sd)) _ ⟨_, _, _, rfl, (hx1_0.below hb2)⟩ ⟨_, _, _, rfl, hx2_0⟩ H5_.out).mono ?_; rintro e w3 ⟨v3, rfl, ⟨A3_0, n3_0, c3_0, A3_1, n3_1, c3_1, rfl, hx3_0, hx3_1, hp3_0⟩, hb3⟩; have hh3 : Held (w.heap.size + 1) 4 TR W0 w3 := hh2.trans_ hb3; have bw3 := bt bw2 hb3) | (go_at_call 38; have tk := hb1; refine (wof_any ((2 * sd)) _ (by omega) (by omega)).mono ?_; rintro e w2 ⟨v2, rfl, ⟨A2_0, n2_0, c2_0, rfl, hx2_0⟩, hb2⟩; have hh2 : Held (w.heap.size + 1) 4 TR W0 w2 := hh1.trans_ hb2; have bw2 := bt bw1 hb2) | (go_at_call 38; refine (wof_any (sn) _ (by omega) (by omega)).mono ?_; rintro e w1 ⟨v1, rfl, ⟨A1_0, n1_0, c1_0, rfl, hx1_0⟩, hb1⟩; have hh1 : Held (w.heap.size + 1) 4 TR W0 w1 := hst.trans_ hb1; have bw1 := bt bw0 hb1))
  go_wp2
  (try simp only [Exit.inBlock, Exit.then])
  refine bodyPost_ret (v := .agg #[.bool (ng (rn sn ((2 * sd)))), .slice A3_0 n3_0 c3_0, .bool (ng (rd ((2 * sd)))), .slice A3_1 n3_1 c3_1]) (by simp [results, Try.results21, go_sem, r1 _ hh3]) rfl ?_
  have hst2 := Held.set_ (Held.set_ (Held.set_ (Held.set_ (hh3.here) 0 (.bool (ng (rn sn ((2 * sd)))))) 1 (.slice A3_0 n3_0 c3_0)) 2 (.bool (ng (rd ((2 * sd)))))) 3 (.slice A3_1 n3_1 c3_1)
  exact ⟨_, rfl, ⟨_, _, _, _, _, _, rfl, (hx3_0).held hst2 (by decide), (hx3_1).held hst2 (by decide), hp3_0⟩, (hh3.trans2 hst2).below hbw (by omega)⟩

end Go.Proofs.Tb
/- Contracts of package rate: comparing two bends; a line in lowest terms. -/
namespace Go.Proofs.Tb
open Go.RowKit
attribute [local go_sem] cell_set_same

set_option maxHeartbeats 800000 in
theorem or2_any (b o c : Nat) (x y : Int) (w : World) (h1 : w.cell? ⟨b, o, none⟩ = some (.int .i64 x)) (h2 : w.cell? ⟨b, o + 1, none⟩ = some (.int .i64 y)) :
    Calls Try.prog 59 #[.slice (some ⟨b, o, none⟩) 2 c] w fun e w' => e = .returned (.int .i64 (if x = 0 then y else x)) ∧ w = w' := by
  by_cases hx : x = 0
  · subst hx
    rw [if_pos rfl]
    by_cases hy : y = 0
    · subst hy
      go_enter Try.func59, Try.ntmps59
      go_wp2
      go_rounds 3
      go_returns
      exact ⟨rfl, rfl⟩
    · have hy1 : (y != 0) = true := by rw [bne_iff_ne]; exact hy
      have HY := Lib.hid hy
      clear hy
      go_enter Try.func59, Try.ntmps59
      go_wp2
      go_rounds 3
      go_returns
      exact ⟨rfl, rfl⟩
  · have hx1 : (x != 0) = true := by rw [bne_iff_ne]; exact hx
    rw [if_neg hx]
    clear hx
    go_enter Try.func59, Try.ntmps59
    go_wp2
    go_rounds 3
    go_returns
    exact ⟨rfl, rfl⟩

set_option maxHeartbeats 1600000 in
theorem rcompare_any (xo xr yo yr : Int) (w : World) (h1 : -8000000000000 ≤ xo ∧ xo ≤ 8000000000000) (h2 : 0 ≤ xr ∧ xr ≤ 2000000) (h3 : -8000000000000 ≤ yo ∧ yo ≤ 8000000000000) (h4 : 0 ≤ yr ∧ yr ≤ 2000000) :
    Calls Try.prog 36 #[.agg #[.int .i64 xo, .int .i64 xr], .agg #[.int .i64 yo, .int .i64 yr]] w (Ret (fun v _ => v = .int .i64 (cmpI ((xo.natAbs * yr.natAbs : Nat) : Int) ((yo.natAbs * xr.natAbs : Nat) : Int))) w) := by
  obtain ⟨xr, rfl⟩ := Int.eq_ofNat_of_zero_le h2.1
  obtain ⟨yr, rfl⟩ := Int.eq_ofNat_of_zero_le h4.1
  simp only [Int.natAbs_natCast]
  obtain ⟨a, ha⟩ : ∃ a, xo.natAbs = a := ⟨_, rfl⟩
  obtain ⟨d, hd⟩ : ∃ d, yo.natAbs = d := ⟨_, rfl⟩
  rw [ha, hd]
  have hxr : xr < 2097152 := by omega
  have hyr : yr < 2097152 := by omega
  have hal : a < 8796093022208 := by omega
  have hdl : d < 8796093022208 := by omega
  have hsx : ∀ W : World, Calls Try.prog 34 #[.int .i64 xo] W fun e w' => e = .returned (.int .i64 (a : Int)) ∧ w' = W := fun W => by
    have := rsize_any xo W (by omega) (by omega)
    rwa [show szI xo = (a : Int) by unfold szI; split <;> omega] at this
  have hsy : ∀ W : World, Calls Try.prog 34 #[.int .i64 yo] W fun e w' => e = .returned (.int .i64 (d : Int)) ∧ w' = W := fun W => by
    have := rsize_any yo W (by omega) (by omega)
    rwa [show szI yo = (d : Int) by unfold szI; split <;> omega] at this
  have hm1 : ∀ W : World, Calls Try.prog 58 #[.int .u64 (a : Int), .int .u64 (yr : Int)] W fun e w' => e = .returned (.tuple #[.int .u64 0, .int .u64 ((a * yr : Nat) : Int)]) ∧ w' = W := fun W => (mul64_small a yr W hal hyr).mono fun _ _ ⟨x, y⟩ => ⟨x, y.symm⟩
  have hm2 : ∀ W : World, Calls Try.prog 58 #[.int .u64 (d : Int), .int .u64 (xr : Int)] W fun e w' => e = .returned (.tuple #[.int .u64 0, .int .u64 ((d * xr : Nat) : Int)]) ∧ w' = W := fun W => (mul64_small d xr W hdl hxr).mono fun _ _ ⟨x, y⟩ => ⟨x, y.symm⟩
  obtain ⟨P, hP⟩ : ∃ k, a * yr = k := ⟨_, rfl⟩
  obtain ⟨R, hR⟩ : ∃ k, d * xr = k := ⟨_, rfl⟩
  rw [hP] at hm1 ⊢
  rw [hR] at hm2 ⊢
  have q1 : IntKind.u64.wrap (a : Int) = (a : Int) := by rw [IntKind.wrap_u64]; omega
  have q2 : IntKind.u64.wrap (d : Int) = (d : Int) := by rw [IntKind.wrap_u64]; omega
  have q3 : IntKind.u64.wrap (xr : Int) = (xr : Int) := by rw [IntKind.wrap_u64]; omega
  have q4 : IntKind.u64.wrap (yr : Int) = (yr : Int) := by rw [IntKind.wrap_u64]; omega
  have HSX := Lib.hid hsx
  have HSY := Lib.hid hsy
  have HM1 := Lib.hid hm1
  have HM2 := Lib.hid hm2
  clear hsx hsy hm1 hm2 hP hR ha hd h1 h2 h3 h4 hxr hyr hal hdl
  go_enter Try.func36, Try.ntmps36
  go_wp2
  go_quiet ((first | (go_at_call 34; exact Calls.quiet_of_same (HSX.out _)) | (go_at_call 58; exact Calls.quiet_of_same (HM1.out _))))
  go_wp2
  go_quiet ((first | (go_at_call 34; exact quiet_add_same (HSY.out _)) | (go_at_call 58; exact quiet_add_same (HM2.out _))))
  clear q1 q2 q3 q4
  go_wp2_with fail
  refine (compare_any _ _ _).mono ?_
  rintro e w1 ⟨rfl, hw1⟩
  subst hw1
  have c0 : cmpI 0 0 = 0 := by unfold cmpI; simp
  go_wp2_with fail
  refine (compare_any _ _ _).mono ?_
  rintro e w1 ⟨rfl, hw1⟩
  subst hw1
  go_wp2_with fail
  refine (or2_any _ _ _ 0 (cmpI P R) _ (by go_simp) (by go_simp)).mono ?_
  rintro e w1 ⟨rfl, hw1⟩
  subst hw1
  rw [if_pos rfl]
  go_wp2
  go_returns
  exact ⟨_, rfl, rfl, (below_drewN ((Below.refl _ _).alloc (Nat.le_refl _) _ |>.alloc (by simp) _) _).alloc (by simp <;> omega) _⟩

/-- What Frac of p/q is, if it is valid. -/
def okFrac (p q : Int) : Prop := Lim (lown p q) ∧ Lim (lowd p q)
/-- What line returns of a slope and a shift. -/
def LineR (p q r s : Int) (v : Value) (_ : World) : Prop :=
  (okFrac p q ∧ okFrac r s → v = .tuple #[.agg #[.int .i64 (lown p q), .int .i64 (lowd p q), .int .i64 (lown r s), .int .i64 (lowd r s)], .int .i64 0]) ∧
  (¬ (okFrac p q ∧ okFrac r s) → v = .tuple #[.agg #[.int .i64 0, .int .i64 0, .int .i64 0, .int .i64 0], .int .i64 5])
set_option maxHeartbeats 1600000 in
theorem rline_any (a b : Value) (p q r s : Int) (w : World) (h : WQ w a p q) (h' : WQ w b r s) (hs : sz p + sz q + sz r + sz s ≤ 100000000000) :
    Calls Try.prog 16 #[a, b] w (Ret (LineR p q r s) w) := by
  obtain ⟨A, n, c, A', n', c', rfl, ha, ha', hq⟩ := h
  obtain ⟨B, m, d, B', m', d', rfl, hb, hb', hq'⟩ := h'
  have HA := Lib.hid ha
  have HA' := Lib.hid ha'
  have HB := Lib.hid hb
  have HB' := Lib.hid hb'
  have HQ := Lib.hid hq
  have HQ' := Lib.hid hq'
  have HS := Lib.hid hs
  clear ha ha' hb hb' hq hq' hs
  go_enter Try.func16, Try.ntmps16
  go_wp2_with fail
  obtain ⟨W0, hW0⟩ : ∃ W0, W0 = ((w.alloc (.cells #[.bool (ng p), .slice A n c, .bool (ng q), .slice A' n' c'] TR)).alloc (.cells #[.bool (ng r), .slice B m d, .bool (ng s), .slice B' m' d'] TR)).alloc (.cells #[.int .i64 0, .int .i64 0, .int .i64 0, .int .i64 0] TAL) := ⟨_, rfl⟩
  have b1 : Blk W0 (w.heap.size + 1) TR #[.bool (ng r), .slice B m d, .bool (ng s), .slice B' m' d'] := by rw [hW0]; exact (Blk.new_ _ _ (by simp)).alloc _
  have b2 : Blk W0 (w.heap.size + 1 + 1) TAL #[.int .i64 0, .int .i64 0, .int .i64 0, .int .i64 0] := by rw [hW0]; exact Blk.new_ _ _ (by simp)
  have hbw : Below w.heap.size w W0 := by rw [hW0]; go_grown
  rw [← hW0]
  clear hW0
  refine (wfrac_any _ p q _ ⟨_, _, _, _, _, _, rfl, HA.out.below hbw, HA'.out.below hbw, HQ.out⟩ (by have := HS.out; omega) (by have := HS.out; omega)).mono ?_
  rintro e w1 ⟨v1, rfl, h1, hb1⟩
  have B1 := Lib.hid (b1.below hb1)
  have B2 := Lib.hid (b2.below hb1)
  have HW1 := Lib.hid (bt hbw hb1)
  clear b1 b2 hbw hb1
  by_cases hok1 : okFrac p q
  · have hv1 := h1.1 hok1
    subst hv1
    clear h1
    have k1 := B1.out.cells
    simp only [cellsAre, Nat.zero_add, Nat.reduceAdd, and_true] at k1
    have lt1 := B1.out.lt
    have lt2 := B2.out.lt
    go_wp2_with fail
    clear k1
    obtain ⟨W2, hW2⟩ : ∃ W2, W2 = w1.alloc (.cells #[.int .i64 (lown p q), .int .i64 (lowd p q)] TF) := ⟨_, rfl⟩
    have b1 : Blk W2 w1.heap.size TF #[.int .i64 (lown p q), .int .i64 (lowd p q)] := by rw [hW2]; exact Blk.new_ _ _ rfl
    have b2 : Blk W2 (w.heap.size + 1 + 1) TAL #[.int .i64 0, .int .i64 0, .int .i64 0, .int .i64 0] := by rw [hW2]; exact B2.out.alloc _
    have hbw : Below w.heap.size w W2 := by rw [hW2]; exact HW1.out.alloc HW1.out.size _
    rw [← hW2]
    clear hW2
    refine (wfrac_any _ r s _ ⟨_, _, _, _, _, _, rfl, HB.out.below hbw, HB'.out.below hbw, HQ'.out⟩ (by have := HS.out; omega) (by have := HS.out; omega)).mono ?_
    rintro e w2 ⟨v2, rfl, h2, hb2⟩
    have kb := (b1.below hb2).cells
    have kc := (b2.below hb2).cells
    have kf := (b2.below hb2).free
    have ltb := (b1.below hb2).lt
    have ltc := (b2.below hb2).lt
    simp only [cellsAre, Nat.zero_add, Nat.reduceAdd, and_true] at kb kc
    have HBW2 := Lib.hid (bt hbw hb2)
    clear b1 b2 hbw hb2 lt1 lt2
    by_cases hok2 : okFrac r s
    · have hv2 := h2.1 hok2
      subst hv2
      clear h2
      go_wp2
      have kk2 := kc
      have hbf : ∀ o x0 x1 x2 x3, Below w.heap.size w (((((w2.setCell ⟨w.heap.size + 1 + 1, 0, none⟩ x0).setCell ⟨w.heap.size + 1 + 1, 1, none⟩ x1).setCell ⟨w.heap.size + 1 + 1, 2, none⟩ x2).setCell ⟨w.heap.size + 1 + 1, 3, none⟩ x3).alloc o) := fun o x0 x1 x2 x3 => ((((HBW2.out.setCell (by simp <;> omega) _).setCell (by simp <;> omega) _).setCell (by simp <;> omega) _).setCell (by simp <;> omega) _).alloc (by have := HBW2.out.size; simpa using this) o
      have HBF := Lib.hid hbf
      (try simp only [Exit.inBlock, Exit.then])
      refine bodyPost_ret (v := .tuple #[.agg #[.int .i64 (lown p q), .int .i64 (lowd p q), .int .i64 (lown r s), .int .i64 (lowd r s)], .int .i64 0]) (by simp [results, Try.results16, go_sem, kk2, Nat.ne_of_lt ltc, World.cell?_alloc_old]) rfl ?_
      exact ⟨_, rfl, ⟨fun _ => rfl, fun h => absurd ⟨hok1, hok2⟩ h⟩, HBF.out _ _ _ _ _⟩
    · have hv2 := h2.2 hok2
      subst hv2
      clear h2
      go_wp2
      have kk2 := kc
      have hbf : ∀ o x0 x1 x2 x3, Below w.heap.size w (((((w2.setCell ⟨w.heap.size + 1 + 1, 0, none⟩ x0).setCell ⟨w.heap.size + 1 + 1, 1, none⟩ x1).setCell ⟨w.heap.size + 1 + 1, 2, none⟩ x2).setCell ⟨w.heap.size + 1 + 1, 3, none⟩ x3).alloc o) := fun o x0 x1 x2 x3 => ((((HBW2.out.setCell (by simp <;> omega) _).setCell (by simp <;> omega) _).setCell (by simp <;> omega) _).setCell (by simp <;> omega) _).alloc (by have := HBW2.out.size; simpa using this) o
      have HBF := Lib.hid hbf
      (try simp only [Exit.inBlock, Exit.then])
      refine bodyPost_ret (v := .tuple #[.agg #[.int .i64 0, .int .i64 0, .int .i64 0, .int .i64 0], .int .i64 5]) (by simp [results, Try.results16, go_sem, kk2, Nat.ne_of_lt ltc, World.cell?_alloc_old]) rfl ?_
      exact ⟨_, rfl, ⟨fun h => absurd h.2 hok2, fun _ => rfl⟩, HBF.out _ _ _ _ _⟩
  · have hv1 := h1.2 hok1
    subst hv1
    clear h1
    have k1 := B1.out.cells
    simp only [cellsAre, Nat.zero_add, Nat.reduceAdd, and_true] at k1
    have lt1 := B1.out.lt
    have lt2 := B2.out.lt
    go_wp2_with fail
    clear k1
    obtain ⟨W2, hW2⟩ : ∃ W2, W2 = w1.alloc (.cells #[.int .i64 (0), .int .i64 (0)] TF) := ⟨_, rfl⟩
    have b1 : Blk W2 w1.heap.size TF #[.int .i64 (0), .int .i64 (0)] := by rw [hW2]; exact Blk.new_ _ _ rfl
    have b2 : Blk W2 (w.heap.size + 1 + 1) TAL #[.int .i64 0, .int .i64 0, .int .i64 0, .int .i64 0] := by rw [hW2]; exact B2.out.alloc _
    have hbw : Below w.heap.size w W2 := by rw [hW2]; exact HW1.out.alloc HW1.out.size _
    rw [← hW2]
    clear hW2
    refine (wfrac_any _ r s _ ⟨_, _, _, _, _, _, rfl, HB.out.below hbw, HB'.out.below hbw, HQ'.out⟩ (by have := HS.out; omega) (by have := HS.out; omega)).mono ?_
    rintro e w2 ⟨v2, rfl, h2, hb2⟩
    have kb := (b1.below hb2).cells
    have kc := (b2.below hb2).cells
    have kf := (b2.below hb2).free
    have ltb := (b1.below hb2).lt
    have ltc := (b2.below hb2).lt
    simp only [cellsAre, Nat.zero_add, Nat.reduceAdd, and_true] at kb kc
    have HBW2 := Lib.hid (bt hbw hb2)
    clear b1 b2 hbw hb2 lt1 lt2
    by_cases hok2 : okFrac r s
    · have hv2 := h2.1 hok2
      subst hv2
      clear h2
      go_wp2
      have kk2 := kc
      have hbf : ∀ o x0 x1 x2 x3, Below w.heap.size w (((((w2.setCell ⟨w.heap.size + 1 + 1, 0, none⟩ x0).setCell ⟨w.heap.size + 1 + 1, 1, none⟩ x1).setCell ⟨w.heap.size + 1 + 1, 2, none⟩ x2).setCell ⟨w.heap.size + 1 + 1, 3, none⟩ x3).alloc o) := fun o x0 x1 x2 x3 => ((((HBW2.out.setCell (by simp <;> omega) _).setCell (by simp <;> omega) _).setCell (by simp <;> omega) _).setCell (by simp <;> omega) _).alloc (by have := HBW2.out.size; simpa using this) o
      have HBF := Lib.hid hbf
      (try simp only [Exit.inBlock, Exit.then])
      refine bodyPost_ret (v := .tuple #[.agg #[.int .i64 0, .int .i64 0, .int .i64 0, .int .i64 0], .int .i64 5]) (by simp [results, Try.results16, go_sem, kk2, Nat.ne_of_lt ltc, World.cell?_alloc_old]) rfl ?_
      exact ⟨_, rfl, ⟨fun h => absurd h.1 hok1, fun _ => rfl⟩, HBF.out _ _ _ _ _⟩
    · have hv2 := h2.2 hok2
      subst hv2
      clear h2
      go_wp2
      have kk2 := kc
      have hbf : ∀ o x0 x1 x2 x3, Below w.heap.size w (((((w2.setCell ⟨w.heap.size + 1 + 1, 0, none⟩ x0).setCell ⟨w.heap.size + 1 + 1, 1, none⟩ x1).setCell ⟨w.heap.size + 1 + 1, 2, none⟩ x2).setCell ⟨w.heap.size + 1 + 1, 3, none⟩ x3).alloc o) := fun o x0 x1 x2 x3 => ((((HBW2.out.setCell (by simp <;> omega) _).setCell (by simp <;> omega) _).setCell (by simp <;> omega) _).setCell (by simp <;> omega) _).alloc (by have := HBW2.out.size; simpa using this) o
      have HBF := Lib.hid hbf
      (try simp only [Exit.inBlock, Exit.then])
      refine bodyPost_ret (v := .tuple #[.agg #[.int .i64 0, .int .i64 0, .int .i64 0, .int .i64 0], .int .i64 5]) (by simp [results, Try.results16, go_sem, kk2, Nat.ne_of_lt ltc, World.cell?_alloc_old]) rfl ?_
      exact ⟨_, rfl, ⟨fun h => absurd h.1 hok1, fun _ => rfl⟩, HBF.out _ _ _ _ _⟩
end Go.Proofs.Tb
/- greatest: the three readings whose bend is the greatest. -/
namespace Go.Proofs.Tb
open Go.RowKit
attribute [local go_sem] cell_set_same
abbrev T3 : TypeId := 48

/-- The times and offsets of reading i; the bend of three readings. -/
def tm (rs : List Rdg) (i : Nat) : Int := (rs.getD i (0, 0)).1
def ofs (rs : List Rdg) (i : Nat) : Int := (rs.getD i (0, 0)).2
def bo (rs : List Rdg) (i j k : Nat) : Int := (ofs rs j - ofs rs i) * (tm rs k - tm rs i) - (ofs rs k - ofs rs i) * (tm rs j - tm rs i)
def br (rs : List Rdg) (i k : Nat) : Int := tm rs k - tm rs i
/-- (i', j', k') is ahead of (i, j, k). -/
def Bef (i j k i' j' k' : Nat) : Prop := i' < i ∨ (i' = i ∧ (j' < j ∨ (j' = j ∧ k' < k)))
/-- What holds of the best one of those ahead of (i, j, k). -/
def GInv (rs : List Rdg) (n i j k a b c : Nat) (off run : Int) : Prop :=
  (off = 0 ∧ run = 1 ∧ a = 0 ∧ b = 0 ∧ c = 0 ∧ ∀ i' j' k', i' < j' → j' < k' → k' < n → Bef i j k i' j' k' → bo rs i' j' k' = 0) ∨
  (a < b ∧ b < c ∧ c < n ∧ off = bo rs a b c ∧ run = br rs a c ∧ off ≠ 0 ∧ Bef i j k a b c ∧
    ∀ i' j' k', i' < j' → j' < k' → k' < n → Bef i j k i' j' k' →
      (bo rs i' j' k').natAbs * run.natAbs ≤ off.natAbs * (br rs i' k').natAbs ∧
      (Bef a b c i' j' k' → (bo rs i' j' k').natAbs * run.natAbs < off.natAbs * (br rs i' k').natAbs))

theorem Vld.mono_tm {rs : List Rdg} (h : Vld rs) {i k : Nat} (hik : i < k) (hk : k < rs.length) : tm rs i < tm rs k := by
  induction k with
  | zero => omega
  | succ k ih =>
    have h1 := (h.2.2 (k + 1) hk).2.2.2.2 (by omega)
    rw [Nat.add_sub_cancel] at h1
    rcases Nat.lt_or_eq_of_le (Nat.le_of_lt_succ hik) with h2 | h2
    · exact Int.lt_trans (ih h2 (by omega)) h1
    · subst h2; exact h1
theorem Vld.br_pos {rs : List Rdg} (h : Vld rs) {i k : Nat} (hik : i < k) (hk : k < rs.length) : 0 < (br rs i k).natAbs := by
  have := h.mono_tm hik hk
  unfold br; omega
/-- u/r ≤ o/s < x/t: then u/r < x/t. -/
theorem frac_lt (u r o s x t : Nat) (hs : 0 < s) (hr : 0 < r) (h1 : u * s ≤ o * r) (h2 : o * t < x * s) : u * t < x * r := by
  have h3 : u * s * t ≤ o * r * t := Nat.mul_le_mul_right t h1
  have h4 : o * t * r < x * s * r := Nat.mul_lt_mul_of_pos_right h2 hr
  have e1 : u * s * t = s * (u * t) := by rw [Nat.mul_comm u s, Nat.mul_assoc]
  have e2 : o * r * t = o * t * r := by rw [Nat.mul_assoc, Nat.mul_comm r t, Nat.mul_assoc]
  have e3 : x * s * r = s * (x * r) := by rw [Nat.mul_comm x s, Nat.mul_assoc]
  rw [e1, e2] at h3
  rw [e3] at h4
  exact Nat.lt_of_mul_lt_mul_left (Nat.lt_of_le_of_lt h3 h4)
section
variable {rs : List Rdg} {n i j k a b c : Nat} {off run : Int}
theorem GInv.start : GInv rs n 0 1 2 0 0 0 0 1 := Or.inl ⟨rfl, rfl, rfl, rfl, rfl, fun i' j' k' h1 h2 _ hb => by unfold Bef at hb; omega⟩
theorem GInv.weak {i2 j2 k2 : Nat} (h : GInv rs n i j k a b c off run) (hw : ∀ i' j' k', i' < j' → j' < k' → k' < n → (Bef i2 j2 k2 i' j' k' ↔ Bef i j k i' j' k')) : GInv rs n i2 j2 k2 a b c off run := by
  rcases h with ⟨h1, h2, h3, h4, h5, h6⟩ | ⟨h1, h2, h3, h4, h5, h6, h7, h8⟩
  · exact Or.inl ⟨h1, h2, h3, h4, h5, fun i' j' k' g1 g2 g3 g4 => h6 i' j' k' g1 g2 g3 ((hw _ _ _ g1 g2 g3).1 g4)⟩
  · exact Or.inr ⟨h1, h2, h3, h4, h5, h6, (hw _ _ _ h1 h2 h3).2 h7, fun i' j' k' g1 g2 g3 g4 => h8 i' j' k' g1 g2 g3 ((hw _ _ _ g1 g2 g3).1 g4)⟩
theorem GInv.nextJ (h : GInv rs n i j n a b c off run) : GInv rs n i (j + 1) (j + 2) a b c off run := h.weak fun i' j' k' h1 h2 h3 => by unfold Bef; omega
theorem GInv.nextI (h : GInv rs n i n (n + 1) a b c off run) : GInv rs n (i + 1) (i + 2) (i + 3) a b c off run := h.weak fun i' j' k' h1 h2 h3 => by unfold Bef; omega
theorem GInv.take (hv : Vld rs) (hn : rs.length = n) (h : GInv rs n i j k a b c off run) (h1 : i < j) (h2 : j < k) (h3 : k < n)
    (hb : off.natAbs * (br rs i k).natAbs < (bo rs i j k).natAbs * run.natAbs) : GInv rs n i j (k + 1) i j k (bo rs i j k) (br rs i k) := by
  subst hn
  have hne : bo rs i j k ≠ 0 := by intro h0; rw [h0] at hb; simp at hb
  have key : ∀ i' j' k', i' < j' → j' < k' → k' < rs.length → Bef i j k i' j' k' → (bo rs i' j' k').natAbs * (br rs i k).natAbs < (bo rs i j k).natAbs * (br rs i' k').natAbs := by
    intro i' j' k' g1 g2 g3 g4
    have p1 := hv.br_pos (show i' < k' by omega) g3
    rcases h with ⟨e1, e2, _, _, _, e6⟩ | ⟨e1, e2, e3, e4, e5, e6, e7, e8⟩
    · rw [e6 i' j' k' g1 g2 g3 g4, Int.natAbs_zero, Nat.zero_mul]
      exact Nat.mul_pos (by omega) p1
    · have p2 := hv.br_pos (show a < c by omega) e3
      rw [← e5] at p2
      exact frac_lt _ _ _ _ _ _ p2 p1 (e8 i' j' k' g1 g2 g3 g4).1 hb
  refine Or.inr ⟨h1, h2, h3, rfl, rfl, hne, by unfold Bef; omega, fun i' j' k' g1 g2 g3 g4 => ?_⟩
  by_cases he : Bef i j k i' j' k'
  · have := key i' j' k' g1 g2 g3 he
    exact ⟨Nat.le_of_lt this, fun _ => this⟩
  · have : i' = i ∧ j' = j ∧ k' = k := by unfold Bef at he g4; omega
    obtain ⟨rfl, rfl, rfl⟩ := this
    exact ⟨Nat.le_refl _, fun h => absurd h he⟩
theorem GInv.skip (h : GInv rs n i j k a b c off run) (hb : ¬ off.natAbs * (br rs i k).natAbs < (bo rs i j k).natAbs * run.natAbs) : GInv rs n i j (k + 1) a b c off run := by
  have hle := Nat.le_of_not_lt hb
  rcases h with ⟨e1, e2, e3, e4, e5, e6⟩ | ⟨e1, e2, e3, e4, e5, e6, e7, e8⟩
  · refine Or.inl ⟨e1, e2, e3, e4, e5, fun i' j' k' g1 g2 g3 g4 => ?_⟩
    by_cases he : Bef i j k i' j' k'
    · exact e6 i' j' k' g1 g2 g3 he
    · have : i' = i ∧ j' = j ∧ k' = k := by unfold Bef at he g4; omega
      obtain ⟨rfl, rfl, rfl⟩ := this
      subst e1 e2
      simp at hle
      omega
  · refine Or.inr ⟨e1, e2, e3, e4, e5, e6, by unfold Bef at *; omega, fun i' j' k' g1 g2 g3 g4 => ?_⟩
    by_cases he : Bef i j k i' j' k'
    · exact e8 i' j' k' g1 g2 g3 he
    · have : i' = i ∧ j' = j ∧ k' = k := by unfold Bef at he g4; omega
      obtain ⟨rfl, rfl, rfl⟩ := this
      exact ⟨hle, fun h => by unfold Bef at h e7; omega⟩
end
theorem cmpI_pos (x y : Int) : (0 < cmpI x y) ↔ y < x := by
  unfold cmpI
  split
  · constructor <;> omega
  · split <;> constructor <;> omega

theorem Ext.below {a w w' : World} (h : Ext a w) (hb : Below w.heap.size w w') : Ext a w' := bt h hb
theorem Ext.alloc {a w : World} (h : Ext a w) (o : Obj) : Ext a (w.alloc o) := Below.alloc h h.size o
theorem Ext.drew_ {a w : World} (h : Ext a w) : Ext a w.drew := below_drewN h 1
theorem Ext.set_ {a w : World} {p : Addr} (h : Ext a w) (hp : a.heap.size ≤ p.block) (v : Value) : Ext a (w.setCell p v) := Below.setCell h hp v
theorem Ext.cell {a w : World} (h : Ext a w) {p : Addr} {v : Value} (hv : a.cell? p = some v) : w.cell? p = some v := (Below.cell h (World.block_lt_of_cell? a _ hv)).trans hv

theorem Vld.bo_bd {rs : List Rdg} (h : Vld rs) {i j k : Nat} (hi : i < rs.length) (hj : j < rs.length) (hk : k < rs.length) : -8000000000000 ≤ bo rs i j k ∧ bo rs i j k ≤ 8000000000000 := by
  obtain ⟨a1, a2, a3, a4, _⟩ := h.2.2 i hi
  obtain ⟨b1, b2, b3, b4, _⟩ := h.2.2 j hj
  obtain ⟨c1, c2, c3, c4, _⟩ := h.2.2 k hk
  have m1 := mul_bd (ofs rs j - ofs rs i) (tm rs k - tm rs i) (by unfold ofs; omega) (by unfold ofs; omega) (by unfold tm; omega) (by unfold tm; omega)
  have m2 := mul_bd (ofs rs k - ofs rs i) (tm rs j - tm rs i) (by unfold ofs; omega) (by unfold ofs; omega) (by unfold tm; omega) (by unfold tm; omega)
  unfold bo
  omega
theorem Vld.br_bd {rs : List Rdg} (h : Vld rs) {i k : Nat} (hi : i < k) (hk : k < rs.length) : 0 < br rs i k ∧ br rs i k ≤ 2000000 := by
  obtain ⟨a1, a2, a3, a4, _⟩ := h.2.2 i (by omega)
  obtain ⟨c1, c2, c3, c4, _⟩ := h.2.2 k hk
  have := h.mono_tm hi hk
  unfold br tm at *
  omega
theorem GInv.bd {rs : List Rdg} {n i j k a b c : Nat} {off run : Int} (hv : Vld rs) (hn : rs.length = n) (h : GInv rs n i j k a b c off run) : (-8000000000000 ≤ off ∧ off ≤ 8000000000000) ∧ (0 < run ∧ run ≤ 2000000) := by
  rcases h with ⟨e1, e2, _⟩ | ⟨e1, e2, e3, e4, e5, _⟩
  · subst e1 e2; omega
  · subst e4 e5 hn; exact ⟨hv.bo_bd (by omega) (by omega) e3, hv.br_bd (by omega) e3⟩

/-- What greatest's run has in memory. -/
structure GS (w wr : World) (a b c : Nat) (off run : Int) : Prop where
  b0 : Blk wr w.heap.size T3 #[.int .i64 0, .int .i64 0, .int .i64 0]
  b1 : Blk wr (w.heap.size + 1) TBD #[.int .i64 0, .int .i64 0]
  b2 : Blk wr (w.heap.size + 1 + 1) T3 #[.int .i64 a, .int .i64 b, .int .i64 c]
  b3 : Blk wr (w.heap.size + 1 + 1 + 1) TBD #[.int .i64 off, .int .i64 run]
  bw : Below w.heap.size w wr
theorem GS.below {w wr wr' : World} {a b c : Nat} {off run : Int} (h : GS w wr a b c off run) (hb : Below wr.heap.size wr wr') : GS w wr' a b c off run :=
  ⟨h.b0.below hb, h.b1.below hb, h.b2.below hb, h.b3.below hb, bt h.bw hb⟩
theorem GS.put {w wr : World} {a b c : Nat} {off run : Int} (h : GS w wr a b c off run) (i j k : Nat) (x y : Int) :
    GS w (((((wr.setCell ⟨w.heap.size + 1 + 1, 0, none⟩ (.int .i64 i)).setCell ⟨w.heap.size + 1 + 1, 1, none⟩ (.int .i64 j)).setCell ⟨w.heap.size + 1 + 1, 2, none⟩ (.int .i64 k)).setCell ⟨w.heap.size + 1 + 1 + 1, 0, none⟩ (.int .i64 x)).setCell ⟨w.heap.size + 1 + 1 + 1, 1, none⟩ (.int .i64 y)).drew i j k x y := by
  refine ⟨?_, ?_, ?_, ?_, ?_⟩
  · exact Blk.drew (((((h.b0.far (by simp; omega) _).far (by simp; omega) _).far (by simp; omega) _).far (by simp; omega) _).far (by simp; omega) _)
  · exact Blk.drew (((((h.b1.far (by simp) _).far (by simp) _).far (by simp) _).far (by simp) _).far (by simp) _)
  · have s1 := ((h.b2.set_ 0 (.int .i64 i)).set_ 1 (.int .i64 j)).set_ 2 (.int .i64 k)
    have e : (((#[Value.int .i64 a, .int .i64 b, .int .i64 c].setIfInBounds 0 (.int .i64 i)).setIfInBounds 1 (.int .i64 j)).setIfInBounds 2 (.int .i64 k)) = #[.int .i64 i, .int .i64 j, .int .i64 k] := by simp
    rw [e] at s1
    exact Blk.drew ((s1.far (by simp) _).far (by simp) _)
  · have s1 := ((((h.b3.far (p := ⟨w.heap.size + 1 + 1, 0, none⟩) (by simp) (.int .i64 i)).far (p := ⟨w.heap.size + 1 + 1, 1, none⟩) (by simp) (.int .i64 j)).far (p := ⟨w.heap.size + 1 + 1, 2, none⟩) (by simp) (.int .i64 k)).set_ 0 (.int .i64 x)).set_ 1 (.int .i64 y)
    have e : ((#[Value.int .i64 off, .int .i64 run].setIfInBounds 0 (.int .i64 x)).setIfInBounds 1 (.int .i64 y)) = #[.int .i64 x, .int .i64 y] := by simp
    rw [e] at s1
    exact Blk.drew s1
  · exact (((((h.bw.setCell (by simp; omega) _).setCell (by simp; omega) _).setCell (by simp; omega) _).setCell (by simp; omega) _).setCell (by simp; omega) _).drew
/-- What greatest returns. -/
def Gr (rs : List Rdg) (a b c : Nat) (off run : Int) : Prop := GInv rs rs.length rs.length (rs.length + 1) (rs.length + 2) a b c off run
def GrV (rs : List Rdg) (v : Value) (_ : World) : Prop := ∃ (a b c : Nat) (off run : Int), v = .tuple #[.agg #[.int .i64 a, .int .i64 b, .int .i64 c], .agg #[.int .i64 off, .int .i64 run]] ∧ Gr rs a b c off run

set_option maxHeartbeats 3200000 in
theorem rgreatest_any (A : Option Addr) (n c : Nat) (rs : List Rdg) (w : World) (h : Rd w A n c rs) (hv : Vld rs) :
    Calls Try.prog 13 #[.slice A n c] w (Ret (GrV rs) w) := by
  have hn := h.le
  have hc := h.cap
  have hnn : n ≤ 4611686018427387904 := by have := hv.2.1; have := h.len; omega
  have hl := h.len
  have H := Lib.hid h
  have HV := Lib.hid hv
  have HL := Lib.hid hl
  clear h hv hl
  go_enter Try.func13, Try.ntmps13
  go_wp2
  go_loopw [13] (fun x wr => ∃ (i a b c : Nat) (off run : Int), x = .int .i64 i ∧ i ≤ n ∧ GInv rs n i (i + 1) (i + 2) a b c off run ∧ GS w wr a b c off run) (fun x _ => n - (intOf x).toNat)
  case atStart => exact ⟨0, 0, 0, 0, 0, 1, rfl, Nat.zero_le _, GInv.start, ⟨(((Blk.new_ _ _ rfl).alloc _).alloc _).alloc _, ((Blk.new_ _ _ (by simp)).alloc _).alloc _, (Blk.new_ _ _ (by simp)).alloc _, Blk.new_ _ _ (by simp), by go_grown⟩⟩
  case round =>
    obtain ⟨i, a, b, c', off, run, rfl, hi, hg, hs⟩ := hrel
    obtain ⟨wi, rfl⟩ : ∃ wo : World, wo = wr := ⟨_, rfl⟩
    have HG := Lib.hid hg
    have HS := Lib.hid hs
    clear hg hs
    by_cases hin : i < n
    · go_wp2
      go_loopw [7] (fun x wr => ∃ (j a b c : Nat) (off run : Int), x = .int .i64 j ∧ i + 1 ≤ j ∧ j ≤ n ∧ GInv rs n i j (j + 1) a b c off run ∧ GS w wr a b c off run) (fun x _ => n - (intOf x).toNat)
      case atStart => exact ⟨i + 1, a, b, c', off, run, by go_num, by omega, by omega, HG.out, HS.out⟩
      case round =>
        clear HG HS
        obtain ⟨j, a, b, c', off, run, rfl, hij, hj, hg, hs⟩ := hrel
        obtain ⟨wj, rfl⟩ : ∃ wo : World, wo = wr := ⟨_, rfl⟩
        have HG := Lib.hid hg
        have HS := Lib.hid hs
        clear hg hs
        by_cases hjn : j < n
        · go_wp2
          go_loopw [8] (fun x wr => ∃ (k a b c : Nat) (off run : Int), x = .int .i64 k ∧ j + 1 ≤ k ∧ k ≤ n ∧ GInv rs n i j k a b c off run ∧ GS w wr a b c off run) (fun x _ => n - (intOf x).toNat)
          case atStart => exact ⟨j + 1, a, b, c', off, run, by go_num, by omega, by omega, HG.out, HS.out⟩
          case round =>
            clear HG HS
            obtain ⟨k, a, b, c', off, run, rfl, hjk, hk, hg, hs⟩ := hrel
            obtain ⟨wk, rfl⟩ : ∃ wo : World, wo = wr := ⟨_, rfl⟩
            have HG := Lib.hid hg
            have HS := Lib.hid hs
            clear hg hs
            by_cases hkn : k < n
            · obtain ⟨t, o, rfl, hcell⟩ := (H.out.below HS.out.bw).at_ (by omega)
              obtain ⟨ci1, ci2⟩ := hcell i hin
              obtain ⟨cj1, cj2⟩ := hcell j hjn
              obtain ⟨ck1, ck2⟩ := hcell k hkn
              clear hcell
              have oi := (HV.out.2.2 i (by rw [HL.out]; exact hin))
              have oj := (HV.out.2.2 j (by rw [HL.out]; exact hjn))
              have ok := (HV.out.2.2 k (by rw [HL.out]; exact hkn))
              unfold okAt at oi oj ok
              obtain ⟨ti, eti⟩ : ∃ x, (rs.getD i (0, 0)).1 = x := ⟨_, rfl⟩
              obtain ⟨yi, eyi⟩ : ∃ x, (rs.getD i (0, 0)).2 = x := ⟨_, rfl⟩
              obtain ⟨tj, etj⟩ : ∃ x, (rs.getD j (0, 0)).1 = x := ⟨_, rfl⟩
              obtain ⟨yj, eyj⟩ : ∃ x, (rs.getD j (0, 0)).2 = x := ⟨_, rfl⟩
              obtain ⟨tk, etk⟩ : ∃ x, (rs.getD k (0, 0)).1 = x := ⟨_, rfl⟩
              obtain ⟨yk, eyk⟩ : ∃ x, (rs.getD k (0, 0)).2 = x := ⟨_, rfl⟩
              rw [eti, eyi] at oi
              rw [etj, eyj] at oj
              rw [etk, eyk] at ok
              rw [eti] at ci1
              rw [eyi] at ci2
              rw [etj] at cj1
              rw [eyj] at cj2
              rw [etk] at ck1
              rw [eyk] at ck2
              have HR : Hid (bo rs i j k = (yj - yi) * (tk - ti) - (yk - yi) * (tj - ti) ∧ br rs i k = tk - ti) := by
                show _ ∧ _
                unfold bo br tm ofs
                rw [eti, eyi, etj, eyj, etk, eyk]
                exact ⟨rfl, rfl⟩
              have OI := Lib.hid (show -1000000 ≤ ti ∧ ti ≤ 1000000 ∧ -1000000 ≤ yi ∧ yi ≤ 1000000 from ⟨oi.1, oi.2.1, oi.2.2.1, oi.2.2.2.1⟩)
              have OJ := Lib.hid (show -1000000 ≤ tj ∧ tj ≤ 1000000 ∧ -1000000 ≤ yj ∧ yj ≤ 1000000 from ⟨oj.1, oj.2.1, oj.2.2.1, oj.2.2.2.1⟩)
              have OK := Lib.hid (show -1000000 ≤ tk ∧ tk ≤ 1000000 ∧ -1000000 ≤ yk ∧ yk ≤ 1000000 from ⟨ok.1, ok.2.1, ok.2.2.1, ok.2.2.2.1⟩)
              clear eti eyi etj eyj etk eyk oi oj ok
              have xb := HV.out.bo_bd (i := i) (j := j) (k := k) (by rw [HL.out]; exact hin) (by rw [HL.out]; exact hjn) (by rw [HL.out]; exact hkn)
              have yb := HV.out.br_bd (i := i) (k := k) (by omega) (by rw [HL.out]; exact hkn)
              rw [HR.out.1] at xb
              rw [HR.out.2] at yb
              have XB := Lib.hid xb
              have YB := Lib.hid (show 0 ≤ tk - ti ∧ tk - ti ≤ 2000000 by omega)
              clear xb yb
              go_wp2
              have hst : Ext wk wk.drew := Ext.drew wk
              have c7 := fun w' (hh : Ext wk w') => (HS.out.b3.below hh).cells
              simp only [cellsAre, Nat.zero_add, Nat.reduceAdd, and_true] at c7
              obtain ⟨bd1, bd2⟩ := HG.out.bd HV.out HL.out
              have BD1 := Lib.hid bd1
              have BD2 := Lib.hid (show 0 ≤ run ∧ run ≤ 2000000 by omega)
              clear bd1 bd2
              have c1 := fun w' (hh : Ext wk w') => hh.cell ci1
              have c2 := fun w' (hh : Ext wk w') => hh.cell ci2
              have c3 := fun w' (hh : Ext wk w') => hh.cell cj1
              have c4 := fun w' (hh : Ext wk w') => hh.cell cj2
              have c5 := fun w' (hh : Ext wk w') => hh.cell ck1
              have c6 := fun w' (hh : Ext wk w') => hh.cell ck2
              clear ci1 ci2 cj1 cj2 ck1 ck2
              go_region_held3 (fun w' => Ext wk w') (first | assumption | exact Ext.below (by assumption) (by assumption) | exact Ext.alloc (by assumption) _ | exact Ext.set_ (Ext.set_ (by assumption) (Nat.le_refl _) _) (Nat.le_refl _) _)
                ((go_at_call 35; refine (rbent_any _ _ _ _ _ _ _ OI.out OJ.out OK.out).mono ?_; rintro e w1 ⟨v1, rfl, rfl, hb1⟩; have hh1 : Ext wk w1 := Ext.below (by assumption) hb1; first | (have nb : Blk w1 wk.heap.size TBD #[.int .i64 0, .int .i64 0] := Blk.below (Blk.drew (Blk.new_ TBD #[.int .i64 0, .int .i64 0] rfl)) hb1; have nc := nb.cells; have nf := nb.free; simp only [cellsAre, Nat.zero_add, Nat.reduceAdd, and_true] at nc; have tok := hb1) | skip))
              · have HX : Hid (Blk _ (w1.heap.size) TBD #[.int .i64 ((yj - yi) * (tk - ti) - (yk - yi) * (tj - ti)), .int .i64 (tk - ti)]) := Blk.new_ _ _ rfl
                have hlt := HX.out.lt
                go_wp2_with (go_at_call 36; refine (rcompare_any _ _ _ _ _ XB.out YB.out BD1.out BD2.out).mono ?_; rintro e w2 ⟨v2, rfl, rfl, hb2⟩)
                · rename_i hpos
                  have E2 : Ext wk w2 := Ext.below (by assumption) hb2
                  have HS2 := Lib.hid (HS.out.below E2)
                  have hpos := (cmpI_pos _ _).1 hpos
                  have HG2 := Lib.hid (HG.out.take HV.out HL.out (by omega) (by omega) hkn (by rw [HR.out.1, HR.out.2]; exact_mod_cast hpos))
                  have kX := (HX.out.below hb2).cells
                  have k2 := HS2.out.b2.cells
                  have k3 := HS2.out.b3.cells
                  have f2 := HS2.out.b2.free
                  have f3 := HS2.out.b3.free
                  simp only [cellsAre, Nat.zero_add, Nat.reduceAdd, and_true] at kX k2 k3
                  have lt3 := HS.out.b3.lt
                  have ltw : wk.heap.size ≤ (w1.heap.size) := by have := Below.size hh1; omega
                  have n1 : w.heap.size + 1 + 1 ≠ (w1.heap.size) := by omega
                  have n2 : (w1.heap.size) ≠ w.heap.size + 1 + 1 := by omega
                  have n3 : w.heap.size + 1 + 1 + 1 ≠ (w1.heap.size) := by omega
                  have n4 : (w1.heap.size) ≠ w.heap.size + 1 + 1 + 1 := by omega
                  clear lt3 ltw
                  clear hpos E2 hb2 hb1 hh1 c1 c2 c3 c4 c5 c6 c7 hst HX hlt HG HS
                  go_region
                  go_wp2
                  go_roundw
                  case rel => exact ⟨k + 1, i, j, k, (yj - yi) * (tk - ti) - (yk - yi) * (tj - ti), tk - ti, by go_num, by omega, by omega, by rw [← HR.out.1, ← HR.out.2]; exact HG2.out, HS2.out.put i j k _ _⟩
                  case measure => first | (simp [intOf]; done) | (simp [intOf]; omega)
                · rename_i hpos
                  have E2 : Ext wk w2 := Ext.below (by assumption) hb2
                  go_roundw
                  case rel => exact ⟨k + 1, a, b, c', off, run, by go_num, by omega, by omega, HG.out.skip (by rw [HR.out.1, HR.out.2]; intro h; have h2 := (cmpI_pos _ _).2 (Int.ofNat_lt.2 h); simp only [Int.natCast_mul] at h2; exact absurd h2 (Int.not_lt.2 hpos)), HS.out.below E2⟩
                  case measure => first | (simp [intOf]; done) | (simp [intOf]; omega)
              · have HX : Hid (Blk _ (wk.heap.size) TBD #[.int .i64 ((yj - yi) * (tk - ti) - (yk - yi) * (tj - ti)), .int .i64 (tk - ti)]) := (nb.set_ 0 _).set_ 1 _
                have hlt := HX.out.lt
                go_wp2_with (go_at_call 36; refine (rcompare_any _ _ _ _ _ XB.out YB.out BD1.out BD2.out).mono ?_; rintro e w2 ⟨v2, rfl, rfl, hb2⟩)
                · rename_i hpos
                  have E2 : Ext wk w2 := Ext.below (by assumption) hb2
                  have HS2 := Lib.hid (HS.out.below E2)
                  have hpos := (cmpI_pos _ _).1 hpos
                  have HG2 := Lib.hid (HG.out.take HV.out HL.out (by omega) (by omega) hkn (by rw [HR.out.1, HR.out.2]; exact_mod_cast hpos))
                  have kX := (HX.out.below hb2).cells
                  have k2 := HS2.out.b2.cells
                  have k3 := HS2.out.b3.cells
                  have f2 := HS2.out.b2.free
                  have f3 := HS2.out.b3.free
                  simp only [cellsAre, Nat.zero_add, Nat.reduceAdd, and_true] at kX k2 k3
                  have lt3 := HS.out.b3.lt
                  have ltw : wk.heap.size ≤ (wk.heap.size) := by have := Below.size hh1; omega
                  have n1 : w.heap.size + 1 + 1 ≠ (wk.heap.size) := by omega
                  have n2 : (wk.heap.size) ≠ w.heap.size + 1 + 1 := by omega
                  have n3 : w.heap.size + 1 + 1 + 1 ≠ (wk.heap.size) := by omega
                  have n4 : (wk.heap.size) ≠ w.heap.size + 1 + 1 + 1 := by omega
                  clear lt3 ltw
                  clear hpos E2 hb2 hb1 hh1 c1 c2 c3 c4 c5 c6 c7 hst HX hlt HG HS
                  go_region
                  go_wp2
                  go_roundw
                  case rel => exact ⟨k + 1, i, j, k, (yj - yi) * (tk - ti) - (yk - yi) * (tj - ti), tk - ti, by go_num, by omega, by omega, by rw [← HR.out.1, ← HR.out.2]; exact HG2.out, HS2.out.put i j k _ _⟩
                  case measure => first | (simp [intOf]; done) | (simp [intOf]; omega)
                · rename_i hpos
                  have E2 : Ext wk w2 := Ext.below (by assumption) hb2
                  go_roundw
                  case rel => exact ⟨k + 1, a, b, c', off, run, by go_num, by omega, by omega, HG.out.skip (by rw [HR.out.1, HR.out.2]; intro h; have h2 := (cmpI_pos _ _).2 (Int.ofNat_lt.2 h); simp only [Int.natCast_mul] at h2; exact absurd h2 (Int.not_lt.2 hpos)), HS.out.below E2⟩
                  case measure => first | (simp [intOf]; done) | (simp [intOf]; omega)
            · have : k = n := by omega
              subst this
              go_wp2
              go_roundw
              case rel => exact ⟨j + 1, a, b, c', off, run, by go_num, by omega, by omega, HG.out.nextJ, HS.out⟩
              case measure => first | (simp [intOf]; done) | (simp [intOf]; omega)
        · have : j = n := by omega
          subst this
          go_wp2
          go_roundw
          case rel => exact ⟨i + 1, a, b, c', off, run, by go_num, by omega, HG.out.nextI, HS.out⟩
          case measure => first | (simp [intOf]; done) | (simp [intOf]; omega)
    · have : i = n := by omega
      subst this
      have k2 := HS.out.b2.cells
      have k3 := HS.out.b3.cells
      have k0 := HS.out.b0.cells
      have k1 := HS.out.b1.cells
      have f0 := HS.out.b0.free
      have f1 := HS.out.b1.free
      simp only [cellsAre, Nat.zero_add, Nat.reduceAdd, and_true] at k0 k1 k2 k3
      have hbf := fun (n : Nat) x0 x1 x2 y0 y1 => (((((HS.out.bw.setCell (p := ⟨w.heap.size, 0, none⟩) (Nat.le_refl _) x0).setCell (p := ⟨w.heap.size, 1, none⟩) (Nat.le_refl _) x1).setCell (p := ⟨w.heap.size, 2, none⟩) (Nat.le_refl _) x2).setCell (p := ⟨w.heap.size + 1, 0, none⟩) (by simp) y0).setCell (p := ⟨w.heap.size + 1, 1, none⟩) (by simp) y1).drew
      have HB := Lib.hid hbf
      clear hbf
      go_wp2
      go_region
      go_wp2
      (try simp only [Exit.inBlock, Exit.then])
      refine bodyPost_ret (v := .tuple #[.agg #[.int .i64 a, .int .i64 b, .int .i64 c'], .agg #[.int .i64 off, .int .i64 run]]) (by simp [results, Try.results13, go_sem, k0, k1]) rfl ?_
      exact ⟨_, rfl, ⟨a, b, c', off, run, rfl, by unfold Gr; rw [HL.out]; exact HG.out⟩, HB.out 0 _ _ _ _ _⟩
end Go.Proofs.Tb
