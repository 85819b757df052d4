/- Contracts of package gear: size, gcd. -/
import Derived.Test.YtcbffkkcldnegaaRateB
set_option linter.unusedVariables false
set_option linter.unusedSimpArgs false
namespace Go.Proofs.Tb
open Go.RowKit
attribute [local go_sem] cell_set_same

theorem ret_u64 {a b : Int} (h : a = b) : Ending.returned (.int .u64 a) = .returned (.int .u64 b) := by rw [h]
theorem gsize_any (n : Int) (w : World) (h : -9223372036854775808 ≤ n) (h' : n ≤ 9223372036854775807) :
    Calls Try.prog 119 #[.int .i64 n] w fun e w' => e = .returned (.int .u64 (n.natAbs : Int)) ∧ w' = w := by
  by_cases h0 : n < 0
  · have d0 : decide (n < 0) = true := by simpa using h0
    have e1 : IntKind.u64.wrap n = n + 18446744073709551616 := by unfold IntKind.wrap; simp [IntKind.bits, IntKind.signed, IntKind.min, IntKind.max]; omega
    have e2 : IntKind.u64.wrap (-(n + 18446744073709551616)) = (n.natAbs : Int) := by unfold IntKind.wrap; simp [IntKind.bits, IntKind.signed, IntKind.min, IntKind.max]; omega
    have e3 : IntKind.u64.wrap (-n) = (n.natAbs : Int) := by unfold IntKind.wrap; simp [IntKind.bits, IntKind.signed, IntKind.min, IntKind.max]; omega
    go_enter Try.func119, Try.ntmps119
    go_wp2
    go_returns
    exact ⟨ret_u64 (by first | rfl | omega | (unfold wrap64 at *; omega)), rfl⟩
  · have d0 : decide (n < 0) = false := by simpa using h0
    have e1 : IntKind.u64.wrap n = (n.natAbs : Int) := by unfold IntKind.wrap; simp [IntKind.bits, IntKind.signed, IntKind.min, IntKind.max]; omega
    go_enter Try.func119, Try.ntmps119
    go_wp2
    go_returns
    exact ⟨ret_u64 (by first | rfl | omega | (unfold wrap64 at *; omega)), rfl⟩

set_option maxHeartbeats 800000 in
theorem ggcd_any (a b : Nat) (w : World) (ha : a < 18446744073709551616) (hb : b < 18446744073709551616) :
    Calls Try.prog 120 #[.int .u64 (a : Int), .int .u64 (b : Int)] w fun e w' => e = .returned (.int .u64 (Nat.gcd a b : Nat)) ∧ ∃ m, w' = w.drewN m := by
  obtain ⟨g, hg⟩ : ∃ g, Nat.gcd a b = g := ⟨_, rfl⟩
  rw [hg]
  have HG := Lib.hid hg
  clear hg
  go_enter Try.func120, Try.ntmps120
  go_wp2
  go_loopw [0, 1] (fun x y wr => ∃ a' b' : Nat, x = .int .u64 a' ∧ y = .int .u64 b' ∧ Nat.gcd a' b' = g ∧ a' < 18446744073709551616 ∧ b' < 18446744073709551616 ∧ ∃ m, wr = w.drewN m) (fun _ y _ => (intOf y).toNat)
  case atStart => exact ⟨a, b, rfl, rfl, HG.out, ha, hb, 0, rfl⟩
  case round =>
    obtain ⟨a', b', rfl, rfl, hg', ha', hb', m, rfl⟩ := hrel
    have HG' := Lib.hid hg'
    clear hg'
    by_cases h0 : 0 < b'
    · have e1 : (a' : Int) % (b' : Int) = ((a' % b' : Nat) : Int) := by simp
      have hlt := Nat.mod_lt a' h0
      obtain ⟨r, hr⟩ : ∃ r, a' % b' = r := ⟨_, rfl⟩
      have HN := Lib.hid (show Nat.gcd b' r = g by rw [← hr, Nat.gcd_comm, ← Nat.gcd_rec, Nat.gcd_comm]; exact HG'.out)
      rw [hr] at e1 hlt
      have hb0 : (b' : Int) ≠ 0 := by omega
      have HE := Lib.hid e1
      clear hr
      go_wp2
      go_quiet (fail)
      go_wp2
      go_roundw
      case rel => exact ⟨b', r, rfl, by first | rfl | rw [HE.out], HN.out, by omega, by omega, _, by first | rfl | exact World.drewN_drewN _ _ _⟩
      case measure => simp [intOf]; omega
    · have : b' = 0 := by omega
      subst this
      go_wp2
      go_returns
      exact ⟨ret_u64 (by have := HG'.out; simp at this; omega), m, rfl⟩
end Go.Proofs.Tb
