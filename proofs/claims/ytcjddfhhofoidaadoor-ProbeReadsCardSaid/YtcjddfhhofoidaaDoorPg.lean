/- Contracts of math/bits.TrailingZeros over its table, and of probe.list: the numbers of a set. -/
import Derived.Test.YtcjddfhhofoidaaDoorPe
set_option linter.unusedVariables false
set_option linter.unusedSimpArgs false
namespace Go.Proofs.Tb
open Go.RowKit
attribute [local go_sem] cell_set_same

/-- The table of math/bits. -/
def dbt : List Nat := [0, 1, 56, 2, 57, 49, 28, 3, 61, 58, 42, 50, 38, 29, 17, 4, 62, 47, 59, 36, 45, 43, 51, 22, 53, 39, 33, 30, 24, 18, 12, 5, 63, 55, 48, 27, 60, 41, 37, 16, 46, 35, 44, 21, 52, 32, 23, 11, 54, 26, 40, 15, 34, 20, 31, 10, 25, 14, 19, 9, 13, 8, 7, 6]
def dbi (k : Nat) : Nat := 285870213051353865 * 2 ^ k % 18446744073709551616 / 288230376151711744
theorem dbt_ok : ∀ k, k < 64 → dbi k < 64 ∧ dbt.getD (dbi k) 0 = k := by decide +kernel
/-- The table as it lies in memory. -/
def Tab (w : World) : Prop := 1 < w.heap.size ∧ ∀ j, j < 64 → w.cell? ⟨1, j, none⟩ = some (.int .u8 (dbt.getD j 0 : Nat))
theorem Tab.below {w w' : World} (h : Tab w) (hb : Below w.heap.size w w') : Tab w' := ⟨Nat.lt_of_lt_of_le h.1 hb.size, fun j hj => (hb.cell (p := ⟨1, j, none⟩) h.1).trans (h.2 j hj)⟩
theorem u64_and (x y : Nat) (hx : x < 18446744073709551616) (hy : y < 18446744073709551616) : bits .and .u64 (x : Int) (y : Int) = ((x &&& y : Nat) : Int) := by
  have e : bits .and .u64 (x : Int) (y : Int) = IntKind.u64.wrap ((BitVec.ofInt 64 (x : Int) &&& BitVec.ofInt 64 (y : Int)).toNat : Int) := rfl
  have h : (BitVec.ofInt 64 (x : Int) &&& BitVec.ofInt 64 (y : Int)).toNat = x &&& y := by
    rw [BitVec.ofInt_natCast, BitVec.ofInt_natCast, BitVec.toNat_and, BitVec.toNat_ofNat, BitVec.toNat_ofNat, Nat.mod_eq_of_lt (by omega), Nat.mod_eq_of_lt (by omega)]
  have hle : x &&& y ≤ x := Nat.and_le_left
  rw [e, h]
  show ((x &&& y : Nat) : Int) % (2 : Int) ^ 64 = _
  omega
set_option maxHeartbeats 1600000 in
theorem rtz64_any (x k : Nat) (hx : x < 18446744073709551616) (hk : Low x k) (w : World) (ht : Tab w) :
    Calls Tryd.prog 91 #[.int .u64 (x : Int)] w (Ret (fun v _ => v = .int .i64 (k : Int)) w) := by
  have hx0 : x ≠ 0 := Nat.ne_of_gt hk.pos
  have hk64 : k < 64 := hk.lt (Nat.lt_of_lt_of_eq hx (by decide))
  obtain ⟨hi, hv⟩ := dbt_ok k hk64
  have hand : x &&& (18446744073709551616 - x) = 2 ^ k := hk.one (Nat.lt_of_lt_of_eq hx (by decide))
  have hpk : 2 ^ k < 18446744073709551616 := Nat.lt_of_lt_of_eq (Nat.pow_lt_pow_right (by omega) hk64) (by decide)
  have hcell := ht.2 (dbi k) hi
  rw [hv] at hcell
  unfold dbi at hcell hi
  obtain ⟨y, hy⟩ : ∃ y, 18446744073709551616 - x = y := ⟨_, rfl⟩
  rw [hy] at hand
  have wneg : IntKind.u64.wrap (-(x : Int)) = (y : Int) := by
    show (-(x : Int)) % (2 : Int) ^ 64 = _
    omega
  have wand : bits .and .u64 (x : Int) (y : Int) = ((2 ^ k : Nat) : Int) := by rw [u64_and x y hx (by omega), hand]
  obtain ⟨p, hp⟩ : ∃ p, 2 ^ k = p := ⟨_, rfl⟩
  rw [hp] at wand hcell hi hpk
  obtain ⟨r, hr⟩ : ∃ r, 285870213051353865 * p % 18446744073709551616 = r := ⟨_, rfl⟩
  rw [hr] at hcell hi
  have wmul : IntKind.u64.wrap ((p : Int) * 285870213051353865) = (r : Int) := by
    show ((p : Int) * 285870213051353865) % (2 : Int) ^ 64 = _
    omega
  have g0 : ((x : Int) == 0) = false := by rw [beq_eq_false_iff_ne]; omega
  have g0' : decide ((x : Int) = 0) = false := by simpa using hx0
  clear hx hk hand hp hr hv hy hx0 ht
  go_enter Tryd.func91, Tryd.ntmps91
  go_wp2
  go_returns
  exact ⟨_, rfl, rfl, Below.refl _ _⟩
set_option maxHeartbeats 1600000 in
theorem rtz_any (x k : Nat) (hx : x < 18446744073709551616) (hk : Low x k) (w : World) (ht : Tab w) :
    Calls Tryd.prog 79 #[.int .u64 (x : Int)] w (Ret (fun v _ => v = .int .i64 (k : Int)) w) := by
  have HC := Lib.hid (rtz64_any x k hx hk w ht)
  clear ht hk
  go_enter Tryd.func79, Tryd.ntmps79
  go_wp2_with fail
  refine HC.out.mono ?_
  rintro e w1 ⟨v1, rfl, rfl, hb1⟩
  go_wp2
  go_returns
  exact ⟨_, rfl, rfl, hb1⟩
set_option maxHeartbeats 3200000 in
theorem rlist_any (n s : Nat) (hn : n ≤ 60) (hs : s < 2 ^ n) (w : World) (ht : Tab w) :
    Calls Tryd.prog 62 #[.int .i64 (s : Int)] w (Ret (fun v w' => OwI w.heap.size w' v (mems n s)) w) := by
  have hs60 : s < 1152921504606846976 := Nat.lt_of_lt_of_le hs (Nat.le_trans (Nat.pow_le_pow_right (by omega) hn) (by decide))
  have HT := Lib.hid ht
  have HS := Lib.hid hs
  clear ht hs
  go_enter Tryd.func62, Tryd.ntmps62
  go_wp2_with fail
  go_loopw [0, 3] (fun sv ov wr => ∃ (s' : Nat) (out : List Int), sv = .int .i64 (s' : Int) ∧ s' ≤ s ∧ out ++ mems n s' = mems n s ∧ OwI w.heap.size wr ov out ∧ Below w.heap.size w wr) (fun sv _ _ => (intOf sv).toNat)
  case atStart => exact ⟨s, [], rfl, Nat.le_refl _, rfl, OwI.nil _ _, Below.refl _ _⟩
  case round =>
    obtain ⟨s', out, rfl, hle, heq, hown, hbw⟩ := hrel
    have HO := Lib.hid hown
    have HBW := Lib.hid hbw
    have HEQ := Lib.hid heq
    clear hown hbw heq
    by_cases h0 : s' = 0
    · subst h0
      have HF : Hid (out = mems n s) := by have := HEQ.out; rw [mems_zero, List.append_nil] at this; exact this
      go_wp2
      go_returns
      exact ⟨_, rfl, by rw [← HF.out]; exact HO.out, HBW.out⟩
    · obtain ⟨k, hk⟩ := low_ex s' h0
      have hlow := mems_low hk (Nat.lt_of_le_of_lt hle HS.out)
      have hlt := hk.rest_lt
      have hkn := hk.lt (Nat.lt_of_le_of_lt hle HS.out)
      have g0 : ((s' : Int) != 0) = true := by rw [bne_iff_ne]; omega
      have wu : IntKind.u64.wrap (s' : Int) = (s' : Int) := by
        show (s' : Int) % (2 : Int) ^ 64 = _
        omega
      have hlen : out.length ≤ 1000 := by
        have h1 := congrArg List.length HEQ.out
        rw [List.length_append] at h1
        have := mems_len n s
        omega
      have wsub : IntKind.i64.wrap ((s' : Int) - 1) = ((s' - 1 : Nat) : Int) := by rw [IntWalk.i64_in _ (by omega)]; omega
      have wand := i64_and s' (s' - 1) (by omega) (by omega)
      obtain ⟨r, hr⟩ : ∃ r, s' - 1 = r := ⟨_, rfl⟩
      rw [hr] at wsub wand hlow hlt
      obtain ⟨q, hq⟩ : ∃ q, s' &&& r = q := ⟨_, rfl⟩
      rw [hq] at wand hlow hlt
      have HLOW := Lib.hid hlow
      have HK := Lib.hid hk
      clear hlow hk hr hq
      go_wp2_with fail
      refine (rtz_any s' k (by omega) HK.out _ (HT.out.below HBW.out)).mono ?_
      rintro e w1 ⟨v1, rfl, rfl, hb1⟩
      have hsz : w.heap.size ≤ w1.heap.size := Nat.le_trans HBW.out.size hb1.size
      have HO1 := Lib.hid (HO.out.below hb1)
      have HB1 := Lib.hid (bt HBW.out hb1)
      clear hb1 HO HBW
      go_wp2_with (at_builtin; refine wp_appE TIS TIN _ 1 8 int_info Tryd.underlying37 rfl (by omega) (by omega) rfl _ _ rfl w.heap.size _ _ _ rfl (HO1.out.below ((Below.refl _ _).alloc (Nat.le_refl _) _)) ⟨w1.heap.size, 0, none⟩ 1 1 [.int .i64 (k : Int)] rfl rfl (cell_new w1 [.int .i64 (k : Int)] TIN) (int_one _) (by omega) (by omega) (by simp; omega) ?_; intro v3 w3 hown3 hb3 _)
      have HN : OwI w.heap.size w3 v3 (out ++ [(k : Int)]) := OwI.snoc hown3
      have HN2 := HB1.out.trans (((Below.refl w.heap.size w1).alloc hsz _).trans hb3)
      have HE2 : (out ++ [(k : Int)]) ++ mems n q = mems n s := by rw [List.append_assoc, ← HEQ.out, HLOW.out]; rfl
      clear hown3 hb3 HO1 HB1
      go_roundw
      case rel => exact ⟨q, _, rfl, by omega, HE2, HN, HN2⟩
      case measure => simp [intOf]; omega
end Go.Proofs.Tb
