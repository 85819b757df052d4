/- Contracts: math/bits Add32 and Sub32 at carries 0 and 1; wide.size at canonical sizes. -/
import Derived.Test.YtcbffkkcldnegaaWideB
set_option linter.unusedVariables false
set_option linter.unusedSimpArgs false
namespace Go.Proofs.Tb
open Go.RowKit
attribute [local go_sem] cell_set_same

theorem B32_eq : B32 = 4294967296 := rfl
set_option maxHeartbeats 800000 in
theorem add32_any (x y c : Nat) (w : World) (hx : x < B32) (hy : y < B32) (hc : c ≤ 1) :
    Calls Try.prog 132 #[U32 x, U32 y, U32 c] w fun e w' => e = .returned (.tuple #[U32 ((x + y + c) % B32), U32 ((x + y + c) / B32)]) ∧ w = w' := by
  rw [B32_eq] at hx hy
  have e1 : Ending.returned (.tuple #[Value.int .u32 (((x : Int) + y + c) % 4294967296), .int .u32 (((x : Int) + y + c) / 4294967296)]) = .returned (.tuple #[U32 ((x + y + c) % B32), U32 ((x + y + c) / B32)]) := by
    simp only [U32, B32_eq]
    have h1 : ((x : Int) + y + c) % 4294967296 = ((x + y + c) % 4294967296 : Nat) := by omega
    have h2 : ((x : Int) + y + c) / 4294967296 = ((x + y + c) / 4294967296 : Nat) := by omega
    rw [h1, h2]
  have E := Lib.hid e1
  clear e1
  unfold U32 at *
  go_enter Try.func132, Try.ntmps132
  go_wp2
  go_returns
  exact ⟨E.out, rfl⟩

/-- s and t are the sum's digit and carry. -/
def AddRes (x y c s t : Nat) : Prop := t * B32 + s = x + y + c ∧ s < B32 ∧ t ≤ 1
theorem add32_res (x y c : Nat) (w : World) (hx : x < B32) (hy : y < B32) (hc : c ≤ 1) :
    Calls Try.prog 132 #[U32 x, U32 y, U32 c] w fun e w' => ∃ s t : Nat, e = .returned (.tuple #[.int .u32 (s : Int), .int .u32 (t : Int)]) ∧ AddRes x y c s t ∧ w = w' :=
  (add32_any x y c w hx hy hc).mono fun e w' ⟨he, hw⟩ => ⟨_, _, he, ⟨by rw [Nat.mul_comm]; exact Nat.div_add_mod _ _, Nat.mod_lt _ (by unfold B32; omega), by have : (x + y + c) / B32 < 2 := Nat.div_lt_of_lt_mul (by omega); omega⟩, hw⟩
/-- The borrow of x - y - c. -/
def bor (x y c : Nat) : Nat := if x < y + c then 1 else 0
theorem bor_le (x y c : Nat) : bor x y c ≤ 1 := by unfold bor; split <;> omega
theorem testBit31 (n : Nat) (h : n < 4294967296) : n.testBit 31 = decide (2147483648 ≤ n) := by
  rw [Nat.testBit_eq_decide_div_mod_eq, show (2 : Nat) ^ 31 = 2147483648 by decide]
  by_cases h1 : 2147483648 ≤ n
  · have : n / 2147483648 = 1 := by omega
    simp [this, h1]
  · have : n / 2147483648 = 0 := by omega
    simp [this, h1]
theorem div31 (n : Nat) (h : n < 4294967296) : n / 2147483648 = (n.testBit 31).toNat := by
  rw [testBit31 n h]
  by_cases h1 : 2147483648 ≤ n
  · simp [h1]; omega
  · simp [h1]; omega
theorem lt32_and (a b : Nat) (h : b < 4294967296) : a &&& b < 4294967296 := Nat.lt_of_le_of_lt Nat.and_le_right h
theorem lt32_or (a b : Nat) (h : a < 4294967296) (h' : b < 4294967296) : a ||| b < 4294967296 := Nat.or_lt_two_pow (n := 32) h h'
theorem lt32_xor (a b : Nat) (h : a < 4294967296) (h' : b < 4294967296) : a ^^^ b < 4294967296 := Nat.xor_lt_two_pow (n := 32) h h'
theorem sub_nat (x y c d : Nat) (hx : x < 4294967296) (hy : y < 4294967296) (hc : c ≤ 1) (hd : d = (x + 4294967296 - (y + c)) % 4294967296) :
    ((4294967295 ^^^ x) &&& y ||| (4294967295 ^^^ (x ^^^ y)) &&& d) / 2147483648 = bor x y c := by
  have hdl : d < 4294967296 := by omega
  have hl1 := lt32_and (4294967295 ^^^ x) y hy
  have hl2 := lt32_and (4294967295 ^^^ (x ^^^ y)) d hdl
  rw [div31 _ (lt32_or _ _ hl1 hl2)]
  simp only [Nat.testBit_or, Nat.testBit_and, Nat.testBit_xor]
  rw [testBit31 x hx, testBit31 y hy, testBit31 d hdl, testBit31 4294967295 (by omega)]
  unfold bor
  by_cases h1 : 2147483648 ≤ x <;> by_cases h2 : 2147483648 ≤ y <;> by_cases h3 : 2147483648 ≤ d <;> by_cases h4 : x < y + c <;> simp [h1, h2, h3, h4] <;> omega
set_option maxHeartbeats 800000 in
theorem sub32_any (x y c : Nat) (w : World) (hx : x < B32) (hy : y < B32) (hc : c ≤ 1) :
    Calls Try.prog 133 #[U32 x, U32 y, U32 c] w fun e w' => e = .returned (.tuple #[U32 ((x + B32 - (y + c)) % B32), U32 (bor x y c)]) ∧ w = w' := by
  rw [B32_eq] at hx hy
  have hs : IntKind.u32.signed = false := rfl
  have e1 : Ending.returned (.tuple #[Value.int .u32 ((((x : Int) - y) % 4294967296 - c) % 4294967296), .int .u32 (bits .or .u32 (bits .and .u32 (bits .xor .u32 IntKind.u32.max x) y) (bits .and .u32 (bits .xor .u32 IntKind.u32.max (bits .xor .u32 x y)) (((x : Int) - y - c) % 4294967296)) / 2147483648)]) = .returned (.tuple #[U32 ((x + B32 - (y + c)) % B32), U32 (bor x y c)]) := by
    simp only [U32, B32_eq]
    have hm : IntKind.u32.max = ((4294967295 : Nat) : Int) := by decide
    have h1 : ((x : Int) - y - c) % 4294967296 = ((x + 4294967296 - (y + c)) % 4294967296 : Nat) := by omega
    have h0 : (((x : Int) - y) % 4294967296 - c) % 4294967296 = ((x + 4294967296 - (y + c)) % 4294967296 : Nat) := by omega
    rw [h0, h1, hm]
    obtain ⟨d, hd⟩ : ∃ d, d = (x + 4294967296 - (y + c)) % 4294967296 := ⟨_, rfl⟩
    have hdl : d < 4294967296 := by omega
    rw [← hd]
    have k1 : 4294967295 ^^^ x < 4294967296 := lt32_xor _ _ (by omega) hx
    have k2 : x ^^^ y < 4294967296 := lt32_xor _ _ hx hy
    have k3 : 4294967295 ^^^ (x ^^^ y) < 4294967296 := lt32_xor _ _ (by omega) k2
    rw [u32_xor_nat _ _ (by omega) hx, u32_and_nat _ _ k1 hy, u32_xor_nat _ _ hx hy, u32_xor_nat _ _ (by omega) k2, u32_and_nat _ _ k3 hdl, u32_or_nat _ _ (lt32_and _ _ hy) (lt32_and _ _ hdl)]
    have h2 := sub_nat x y c d hx hy hc hd
    rw [← h2]
    simp
  have E := Lib.hid e1
  clear e1
  unfold U32 at *
  go_enter Try.func133, Try.ntmps133
  go_wp2
  go_returns
  exact ⟨E.out, rfl⟩

/-- s and t are the difference's digit and borrow. -/
def SubRes (x y c s t : Nat) : Prop := s = (x + B32 - (y + c)) % B32 ∧ t = bor x y c
theorem sub32_res (x y c : Nat) (w : World) (hx : x < B32) (hy : y < B32) (hc : c ≤ 1) :
    Calls Try.prog 133 #[U32 x, U32 y, U32 c] w fun e w' => ∃ s t : Nat, e = .returned (.tuple #[.int .u32 (s : Int), .int .u32 (t : Int)]) ∧ SubRes x y c s t ∧ w = w' :=
  (sub32_any x y c w hx hy hc).mono fun e w' ⟨he, hw⟩ => ⟨_, _, he, ⟨rfl, rfl⟩, hw⟩

set_option maxHeartbeats 800000 in
theorem wsize_any (A A' : Option Addr) (n c n' c' : Nat) (m m' : Nat) (w : World) (h : Sl TU w A n c (L m)) (h' : Sl TU w A' n' c' (L m')) :
    Calls Try.prog 125 #[.slice A n c, .slice A' n' c'] w (Ret (Sgn m m') w) := by
  by_cases hnn : n = n'
  · subst hnn
    have := wsize_eqlen A A' n c c' (digs B32 m) (digs B32 m') w h h' (digs_dg B32 two_B32 m) (digs_dg B32 two_B32 m')
    rw [val_digs B32 two_B32, val_digs B32 two_B32] at this
    exact this
  · have hl := h.len
    have hl' := h'.len
    have hc := h.cap
    have hc' := h'.cap
    have hle := h.le
    have hle' := h'.le
    simp only [L, List.length_map] at hl hl'
    have HL := Lib.hid hl
    have HL' := Lib.hid hl'
    clear h h' hl hl'
    have hne : ((n : Int) != (n' : Int)) = true := by rw [bne_iff_ne]; omega
    go_enter Try.func125, Try.ntmps125
    go_wp2
    go_returns
    have hl := HL.out
    have hl' := HL'.out
    refine ⟨_, rfl, ⟨_, rfl, ?_, ?_⟩, Below.refl _ _⟩
    · rcases Nat.lt_or_gt_of_ne hnn with hlt | hlt
      · have := lt_of_dl_lt B32 two_B32 m m' (by unfold dl; omega); omega
      · have := lt_of_dl_lt B32 two_B32 m' m (by unfold dl; omega); omega
    · rcases Nat.lt_or_gt_of_ne hnn with hlt | hlt
      · have := lt_of_dl_lt B32 two_B32 m m' (by unfold dl; omega); omega
      · have := lt_of_dl_lt B32 two_B32 m' m (by unfold dl; omega); omega
end Go.Proofs.Tb
