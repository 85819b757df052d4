/- Contracts of package wide, first part: what the functions on sizes (lists of limbs) return, for all sizes that are small enough to be made. (With what follows it, in one text.) -/
import Derived.Test.YthcialpcefhnnaaProg
import Derived.Test.YthcialpcefhnnaaGround
set_option linter.unusedVariables false
set_option linter.unusedSimpArgs false
/- Contracts of package wide, first part: what the functions on sizes (lists of limbs) return, for all sizes that are small enough to be made. -/
namespace Go.Proofs.Tb
open Go.RowKit
attribute [local go_sem] cell_set_same

/-- The element type of sizes. -/
abbrev TU : TypeId := 102
/-- The base of the limbs. -/
def B32 : Nat := 4294967296
theorem two_B32 : 2 ≤ B32 := by unfold B32; omega
def U32 (x : Nat) : Value := .int .u32 (x : Int)
/-- The limbs of m, as values. -/
def L (m : Nat) : List Value := (digs B32 m).map U32
theorem map_getD (f : Nat → Value) (xs : List Nat) (j : Nat) (h : j < xs.length) : (xs.map f).getD j undef = f (xs.getD j 0) := by
  simp [List.getD, h]
theorem Sl.at_u32 {w : World} {A : Option Addr} {n c : Nat} {xs : List Nat} (h : Sl TU w A n c (xs.map U32)) (h0 : 0 < n) :
    ∃ b o, A = some ⟨b, o, none⟩ ∧ ∀ j, j < n → w.cell? ⟨b, o + j, none⟩ = some (.int .u32 ((xs.getD j 0 : Nat) : Int)) := by
  obtain ⟨b, o, hA, _, hc⟩ := h.at_ h0
  have hl := h.len
  refine ⟨b, o, hA, fun j hj => ?_⟩
  rw [hc j hj, map_getD _ _ _ (by simp at hl; omega)]
  rfl

theorem val_take_drop0 (B : Nat) (xs : List Nat) (m : Nat) (hm : 0 < m) (hl : m ≤ xs.length) (h : xs.getD (m - 1) 0 = 0) : val B (xs.take m) = val B (xs.take (m - 1)) := by
  obtain ⟨k, rfl⟩ : ∃ k, m = k + 1 := ⟨m - 1, by omega⟩
  rw [val_take_succ B xs k (by omega)]
  simp at h
  simp [h]
theorem last_take (xs : List Nat) (m d : Nat) (hm : 0 < m) (hl : m ≤ xs.length) (h : xs.getD (m - 1) 0 = d) (hd : d ≠ 0) : (xs.take m).getLast? ≠ some 0 := by
  rw [List.getLast?_eq_getElem?]
  have : (xs.take m).length = m := by simp; omega
  rw [this, List.getElem?_take]
  have h1 : m - 1 < xs.length := by omega
  simp [show m - 1 < m by omega, h1]
  simp [h1] at h
  omega

set_option maxHeartbeats 400000 in
theorem trim_fr (A : Option Addr) (n c : Nat) (xs : List Nat) (w : World) (h : Sl TU w A n c (xs.map U32)) (hx : Dg B32 xs) :
    Calls Try.prog 61 #[.slice A n c] w fun e w' => (∃ k, e = .returned (.slice A k c) ∧ Sl TU w A k c (L (val B32 xs))) ∧ w = w' := by
  have hn := h.le
  have hc := h.cap
  have hl := h.len
  rw [List.length_map] at hl
  have HL := Lib.hid hl
  have HH := Lib.hid h
  have HX := Lib.hid hx
  clear h hx hl
  go_enter Try.func61, Try.ntmps61
  go_wp2
  go_loop [0] (fun x => ∃ m : Nat, m ≤ n ∧ val B32 (xs.take m) = val B32 xs ∧ x = .slice A m c) (fun x => match x with | .slice _ m _ => m | _ => 0)
  case atStart => exact ⟨n, Nat.le_refl _, by rw [← HL.out, List.take_length], rfl⟩
  case round =>
    obtain ⟨m, hm, hv, rfl⟩ := hrel
    have HV := Lib.hid hv
    clear hv
    by_cases hm0 : 0 < m
    · obtain ⟨b, o, rfl, hcell⟩ := HH.out.at_u32 (by omega)
      have hcl := hcell (m - 1) (by omega)
      clear hcell
      obtain ⟨d, hd⟩ : ∃ d, xs.getD (m - 1) 0 = d := ⟨_, rfl⟩
      rw [hd] at hcl
      have HD := Lib.hid hd
      clear hd
      by_cases hd0 : d = 0
      · subst hd0
        go_wp2
        go_round
        case rel => exact ⟨m - 1, by omega, by rw [← val_take_drop0 _ _ _ hm0 (by rw [HL.out]; exact hm) HD.out]; exact HV.out, rfl⟩
        case measure => simp; omega
      · have hdb : ((d : Int) == 0) = false := by simp; omega
        go_wp2
        go_returns
        refine ⟨⟨_, rfl, ?_⟩, rfl⟩
        have e1 : digs B32 (val B32 xs) = xs.take m := by
          rw [← HV.out]
          exact digs_val B32 two_B32 _ (HX.out.take m) (last_take xs m d hm0 (by rw [HL.out]; exact hm) HD.out hd0)
        rw [L, e1, List.map_take]
        exact HH.out.take hm
    · have : m = 0 := by omega
      subst this
      go_wp2
      go_returns
      refine ⟨⟨_, rfl, ?_⟩, rfl⟩
      have e1 : val B32 xs = 0 := by rw [← HV.out]; rfl
      rw [e1]
      exact Sl.empty _ w A c hc
theorem trim_any (A : Option Addr) (n c : Nat) (xs : List Nat) (w : World) (h : Sl TU w A n c (xs.map U32)) (hx : Dg B32 xs) :
    Calls Try.prog 61 #[.slice A n c] w fun e w' => (∃ v, e = .returned v ∧ SL TU w v (L (val B32 xs))) ∧ w = w' :=
  (trim_fr A n c xs w h hx).mono fun _ _ ⟨⟨k, he, hs⟩, hw⟩ => ⟨⟨_, he, A, k, c, rfl, hs⟩, hw⟩
end Go.Proofs.Tb
/- Contracts of package wide, second part: comparing sizes. -/
namespace Go.Proofs.Tb
open Go.RowKit
attribute [local go_sem] cell_set_same

/-- What comparing two sizes returns: a number of the right sign. -/
def Sgn (m m' : Nat) (v : Value) (_ : World) : Prop := ∃ r : Int, v = .int .i64 r ∧ (r < 0 ↔ m < m') ∧ (0 < r ↔ m' < m)

theorem val_split (B : Nat) (xs : List Nat) (k : Nat) : val B xs = val B (xs.take k) + B ^ (xs.take k).length * val B (xs.drop k) := by
  rw [← val_append, List.take_append_drop]
theorem cmp_at (B : Nat) (xs ys : List Nat) (n k a b : Nat) (hx : xs.length = n) (hy : ys.length = n) (hdx : Dg B xs) (hk : 0 < k) (hkn : k ≤ n)
    (hd : val B (xs.drop k) = val B (ys.drop k)) (ha : xs.getD (k - 1) 0 = a) (hb : ys.getD (k - 1) 0 = b) (hlt : a < b) : val B xs < val B ys := by
  rw [val_split B xs (k - 1), val_split B ys (k - 1)]
  have e1 : (xs.take (k - 1)).length = k - 1 := by simp; omega
  have e2 : (ys.take (k - 1)).length = k - 1 := by simp; omega
  rw [e1, e2, val_drop B xs (k - 1) (by omega), val_drop B ys (k - 1) (by omega), ha, hb, show k - 1 + 1 = k by omega, hd]
  have h1 := val_lt B _ (hdx.take (k - 1))
  rw [e1] at h1
  have h2 : B ^ (k - 1) * (a + 1 + B * val B (ys.drop k)) ≤ B ^ (k - 1) * (b + B * val B (ys.drop k)) := Nat.mul_le_mul_left _ (by omega)
  have h3 : B ^ (k - 1) * (a + 1 + B * val B (ys.drop k)) = B ^ (k - 1) * (a + B * val B (ys.drop k)) + B ^ (k - 1) := by
    rw [show a + 1 + B * val B (ys.drop k) = (a + B * val B (ys.drop k)) + 1 by omega, Nat.mul_add, Nat.mul_one]
  omega
theorem drop_eq_step (B : Nat) (xs ys : List Nat) (n k a : Nat) (hx : xs.length = n) (hy : ys.length = n) (hk : 0 < k) (hkn : k ≤ n)
    (hd : val B (xs.drop k) = val B (ys.drop k)) (ha : xs.getD (k - 1) 0 = a) (hb : ys.getD (k - 1) 0 = a) : val B (xs.drop (k - 1)) = val B (ys.drop (k - 1)) := by
  rw [val_drop B xs (k - 1) (by omega), val_drop B ys (k - 1) (by omega), ha, hb, show k - 1 + 1 = k by omega, hd]

set_option maxHeartbeats 800000 in
theorem wsize_eqlen (A A' : Option Addr) (n c c' : Nat) (xs ys : List Nat) (w : World) (h : Sl TU w A n c (xs.map U32)) (h' : Sl TU w A' n c' (ys.map U32)) (hdx : Dg B32 xs) (hdy : Dg B32 ys) :
    Calls Try.prog 63 #[.slice A n c, .slice A' n c'] w (Ret (Sgn (val B32 xs) (val B32 ys)) w) := by
  have hn := h.le
  have hc := h.cap
  have hl := h.len
  have hl' := h'.len
  rw [List.length_map] at hl hl'
  have HL := Lib.hid hl
  have HL' := Lib.hid hl'
  have HH := Lib.hid h
  have HH' := Lib.hid h'
  have HX := Lib.hid hdx
  have HY := Lib.hid hdy
  clear h hdx hl h' hdy hl'
  have hne0 : ((n : Int) != (n : Int)) = false := by simp
  go_enter Try.func63, Try.ntmps63
  go_wp2
  go_loopw [5] (fun i wr => ∃ k nq : Nat, k ≤ n ∧ val B32 (xs.drop k) = val B32 (ys.drop k) ∧ i = .int .i64 ((k : Int) - 1) ∧ wr = w.drewN nq) (fun i _ => (intOf i + 1).toNat)
  case atStart => exact ⟨n, 0, Nat.le_refl _, by rw [← HL.out, List.drop_length, HL.out, ← HL'.out, List.drop_length], rfl, rfl⟩
  case round =>
    obtain ⟨k, nq, hk, hv, rfl, rfl⟩ := hrel
    have HV := Lib.hid hv
    clear hv
    by_cases hk0 : 0 < k
    · obtain ⟨b, o, rfl, hcell⟩ := HH.out.at_u32 (by omega)
      obtain ⟨b', o', rfl, hcell'⟩ := HH'.out.at_u32 (by omega)
      have hcl := hcell (k - 1) (by omega)
      have hcl' := hcell' (k - 1) (by omega)
      clear hcell hcell'
      obtain ⟨d, hd⟩ : ∃ d, xs.getD (k - 1) 0 = d := ⟨_, rfl⟩
      obtain ⟨d', hd'⟩ : ∃ d, ys.getD (k - 1) 0 = d := ⟨_, rfl⟩
      rw [hd] at hcl
      rw [hd'] at hcl'
      have HD := Lib.hid hd
      have HD' := Lib.hid hd'
      clear hd hd'
      have hi0 : (0 : Int) ≤ (k : Int) - 1 := by omega
      have hi1 : (k : Int) - 1 < (n : Int) := by omega
      by_cases hdd : d = d'
      · subst hdd
        go_wp2
        go_quiet (fail)
        go_wp2
        go_roundw
        case rel => exact ⟨k - 1, _, by omega, drop_eq_step B32 xs ys n k d HL.out HL'.out hk0 hk HV.out HD.out HD'.out, by go_num, rfl⟩
        case measure => simp [intOf]; omega
      · have hne : ((d : Int) != (d' : Int)) = true := by rw [bne_iff_ne]; omega
        go_wp2
        go_quiet (fail)
        go_wp2
        go_quiet (fail)
        rcases Nat.lt_or_gt_of_ne hdd with hlt | hlt
        · go_wp2
          go_returns
          exact ⟨_, rfl, ⟨-1, rfl, by have := cmp_at B32 xs ys n k d d' HL.out HL'.out HX.out hk0 hk HV.out HD.out HD'.out hlt; omega, by have := cmp_at B32 xs ys n k d d' HL.out HL'.out HX.out hk0 hk HV.out HD.out HD'.out hlt; omega⟩, below_drewN (below_drewN (below_drewN (Below.refl _ _) _) _) _⟩
        · have hnl : ¬ d < d' := by omega
          go_wp2
          go_returns
          exact ⟨_, rfl, ⟨1, rfl, by have := cmp_at B32 ys xs n k d' d HL'.out HL.out HY.out hk0 hk HV.out.symm HD'.out HD.out hlt; omega, by have := cmp_at B32 ys xs n k d' d HL'.out HL.out HY.out hk0 hk HV.out.symm HD'.out HD.out hlt; omega⟩, below_drewN (below_drewN (below_drewN (Below.refl _ _) _) _) _⟩
    · have : k = 0 := by omega
      subst this
      go_wp2
      go_returns
      have e1 : val B32 xs = val B32 ys := by simpa using HV.out
      exact ⟨_, rfl, ⟨0, rfl, by omega, by omega⟩, below_drewN (Below.refl _ _) _⟩
end Go.Proofs.Tb
/- Contracts: math/bits Add32 and Sub32 at carries 0 and 1; wide.size at canonical sizes. -/
namespace Go.Proofs.Tb
open Go.RowKit
attribute [local go_sem] cell_set_same

theorem B32_eq : B32 = 4294967296 := rfl
set_option maxHeartbeats 800000 in
theorem add32_any (x y c : Nat) (w : World) (hx : x < B32) (hy : y < B32) (hc : c ≤ 1) :
    Calls Try.prog 75 #[U32 x, U32 y, U32 c] w fun e w' => e = .returned (.tuple #[U32 ((x + y + c) % B32), U32 ((x + y + c) / B32)]) ∧ w = w' := by
  rw [B32_eq] at hx hy
  have e1 : Ending.returned (.tuple #[Value.int .u32 (((x : Int) + y + c) % 4294967296), .int .u32 (((x : Int) + y + c) / 4294967296)]) = .returned (.tuple #[U32 ((x + y + c) % B32), U32 ((x + y + c) / B32)]) := by
    simp only [U32, B32_eq]
    have h1 : ((x : Int) + y + c) % 4294967296 = ((x + y + c) % 4294967296 : Nat) := by omega
    have h2 : ((x : Int) + y + c) / 4294967296 = ((x + y + c) / 4294967296 : Nat) := by omega
    rw [h1, h2]
  have E := Lib.hid e1
  clear e1
  unfold U32 at *
  go_enter Try.func75, Try.ntmps75
  go_wp2
  go_returns
  exact ⟨E.out, rfl⟩

/-- s and t are the sum's digit and carry. -/
def AddRes (x y c s t : Nat) : Prop := t * B32 + s = x + y + c ∧ s < B32 ∧ t ≤ 1
theorem add32_res (x y c : Nat) (w : World) (hx : x < B32) (hy : y < B32) (hc : c ≤ 1) :
    Calls Try.prog 75 #[U32 x, U32 y, U32 c] w fun e w' => ∃ s t : Nat, e = .returned (.tuple #[.int .u32 (s : Int), .int .u32 (t : Int)]) ∧ AddRes x y c s t ∧ w = w' :=
  (add32_any x y c w hx hy hc).mono fun e w' ⟨he, hw⟩ => ⟨_, _, he, ⟨by rw [Nat.mul_comm]; exact Nat.div_add_mod _ _, Nat.mod_lt _ (by unfold B32; omega), by have : (x + y + c) / B32 < 2 := Nat.div_lt_of_lt_mul (by omega); omega⟩, hw⟩
/-- The borrow of x - y - c. -/
def bor (x y c : Nat) : Nat := if x < y + c then 1 else 0
theorem bor_le (x y c : Nat) : bor x y c ≤ 1 := by unfold bor; split <;> omega
theorem testBit31 (n : Nat) (h : n < 4294967296) : n.testBit 31 = decide (2147483648 ≤ n) := by
  rw [Nat.testBit_eq_decide_div_mod_eq, show (2 : Nat) ^ 31 = 2147483648 by decide]
  by_cases h1 : 2147483648 ≤ n
  · have : n / 2147483648 = 1 := by omega
    simp [this, h1]
  · have : n / 2147483648 = 0 := by omega
    simp [this, h1]
theorem div31 (n : Nat) (h : n < 4294967296) : n / 2147483648 = (n.testBit 31).toNat := by
  rw [testBit31 n h]
  by_cases h1 : 2147483648 ≤ n
  · simp [h1]; omega
  · simp [h1]; omega
theorem lt32_and (a b : Nat) (h : b < 4294967296) : a &&& b < 4294967296 := Nat.lt_of_le_of_lt Nat.and_le_right h
theorem lt32_or (a b : Nat) (h : a < 4294967296) (h' : b < 4294967296) : a ||| b < 4294967296 := Nat.or_lt_two_pow (n := 32) h h'
theorem lt32_xor (a b : Nat) (h : a < 4294967296) (h' : b < 4294967296) : a ^^^ b < 4294967296 := Nat.xor_lt_two_pow (n := 32) h h'
theorem sub_nat (x y c d : Nat) (hx : x < 4294967296) (hy : y < 4294967296) (hc : c ≤ 1) (hd : d = (x + 4294967296 - (y + c)) % 4294967296) :
    ((4294967295 ^^^ x) &&& y ||| (4294967295 ^^^ (x ^^^ y)) &&& d) / 2147483648 = bor x y c := by
  have hdl : d < 4294967296 := by omega
  have hl1 := lt32_and (4294967295 ^^^ x) y hy
  have hl2 := lt32_and (4294967295 ^^^ (x ^^^ y)) d hdl
  rw [div31 _ (lt32_or _ _ hl1 hl2)]
  simp only [Nat.testBit_or, Nat.testBit_and, Nat.testBit_xor]
  rw [testBit31 x hx, testBit31 y hy, testBit31 d hdl, testBit31 4294967295 (by omega)]
  unfold bor
  by_cases h1 : 2147483648 ≤ x <;> by_cases h2 : 2147483648 ≤ y <;> by_cases h3 : 2147483648 ≤ d <;> by_cases h4 : x < y + c <;> simp [h1, h2, h3, h4] <;> omega
set_option maxHeartbeats 800000 in
theorem sub32_any (x y c : Nat) (w : World) (hx : x < B32) (hy : y < B32) (hc : c ≤ 1) :
    Calls Try.prog 76 #[U32 x, U32 y, U32 c] w fun e w' => e = .returned (.tuple #[U32 ((x + B32 - (y + c)) % B32), U32 (bor x y c)]) ∧ w = w' := by
  rw [B32_eq] at hx hy
  have hs : IntKind.u32.signed = false := rfl
  have e1 : Ending.returned (.tuple #[Value.int .u32 ((((x : Int) - y) % 4294967296 - c) % 4294967296), .int .u32 (bits .or .u32 (bits .and .u32 (bits .xor .u32 IntKind.u32.max x) y) (bits .and .u32 (bits .xor .u32 IntKind.u32.max (bits .xor .u32 x y)) (((x : Int) - y - c) % 4294967296)) / 2147483648)]) = .returned (.tuple #[U32 ((x + B32 - (y + c)) % B32), U32 (bor x y c)]) := by
    simp only [U32, B32_eq]
    have hm : IntKind.u32.max = ((4294967295 : Nat) : Int) := by decide
    have h1 : ((x : Int) - y - c) % 4294967296 = ((x + 4294967296 - (y + c)) % 4294967296 : Nat) := by omega
    have h0 : (((x : Int) - y) % 4294967296 - c) % 4294967296 = ((x + 4294967296 - (y + c)) % 4294967296 : Nat) := by omega
    rw [h0, h1, hm]
    obtain ⟨d, hd⟩ : ∃ d, d = (x + 4294967296 - (y + c)) % 4294967296 := ⟨_, rfl⟩
    have hdl : d < 4294967296 := by omega
    rw [← hd]
    have k1 : 4294967295 ^^^ x < 4294967296 := lt32_xor _ _ (by omega) hx
    have k2 : x ^^^ y < 4294967296 := lt32_xor _ _ hx hy
    have k3 : 4294967295 ^^^ (x ^^^ y) < 4294967296 := lt32_xor _ _ (by omega) k2
    rw [u32_xor_nat _ _ (by omega) hx, u32_and_nat _ _ k1 hy, u32_xor_nat _ _ hx hy, u32_xor_nat _ _ (by omega) k2, u32_and_nat _ _ k3 hdl, u32_or_nat _ _ (lt32_and _ _ hy) (lt32_and _ _ hdl)]
    have h2 := sub_nat x y c d hx hy hc hd
    rw [← h2]
    simp
  have E := Lib.hid e1
  clear e1
  unfold U32 at *
  go_enter Try.func76, Try.ntmps76
  go_wp2
  go_returns
  exact ⟨E.out, rfl⟩

/-- s and t are the difference's digit and borrow. -/
def SubRes (x y c s t : Nat) : Prop := s = (x + B32 - (y + c)) % B32 ∧ t = bor x y c
theorem sub32_res (x y c : Nat) (w : World) (hx : x < B32) (hy : y < B32) (hc : c ≤ 1) :
    Calls Try.prog 76 #[U32 x, U32 y, U32 c] w fun e w' => ∃ s t : Nat, e = .returned (.tuple #[.int .u32 (s : Int), .int .u32 (t : Int)]) ∧ SubRes x y c s t ∧ w = w' :=
  (sub32_any x y c w hx hy hc).mono fun e w' ⟨he, hw⟩ => ⟨_, _, he, ⟨rfl, rfl⟩, hw⟩

set_option maxHeartbeats 800000 in
theorem wsize_any (A A' : Option Addr) (n c n' c' : Nat) (m m' : Nat) (w : World) (h : Sl TU w A n c (L m)) (h' : Sl TU w A' n' c' (L m')) :
    Calls Try.prog 63 #[.slice A n c, .slice A' n' c'] w (Ret (Sgn m m') w) := by
  by_cases hnn : n = n'
  · subst hnn
    have := wsize_eqlen A A' n c c' (digs B32 m) (digs B32 m') w h h' (digs_dg B32 two_B32 m) (digs_dg B32 two_B32 m')
    rw [val_digs B32 two_B32, val_digs B32 two_B32] at this
    exact this
  · have hl := h.len
    have hl' := h'.len
    have hc := h.cap
    have hc' := h'.cap
    have hle := h.le
    have hle' := h'.le
    simp only [L, List.length_map] at hl hl'
    have HL := Lib.hid hl
    have HL' := Lib.hid hl'
    clear h h' hl hl'
    have hne : ((n : Int) != (n' : Int)) = true := by rw [bne_iff_ne]; omega
    go_enter Try.func63, Try.ntmps63
    go_wp2
    go_returns
    have hl := HL.out
    have hl' := HL'.out
    refine ⟨_, rfl, ⟨_, rfl, ?_, ?_⟩, Below.refl _ _⟩
    · rcases Nat.lt_or_gt_of_ne hnn with hlt | hlt
      · have := lt_of_dl_lt B32 two_B32 m m' (by unfold dl; omega); omega
      · have := lt_of_dl_lt B32 two_B32 m' m (by unfold dl; omega); omega
    · rcases Nat.lt_or_gt_of_ne hnn with hlt | hlt
      · have := lt_of_dl_lt B32 two_B32 m m' (by unfold dl; omega); omega
      · have := lt_of_dl_lt B32 two_B32 m' m (by unfold dl; omega); omega
end Go.Proofs.Tb
/- Contracts of package wide: sums and differences of sizes. -/
namespace Go.Proofs.Tb
open Go.RowKit
attribute [local go_sem] cell_set_same

theorem u32_info : (Try.prog.info? 102).map (fun i => (i.zero, i.size, i.bytes)) = some (some (.int .u32 0), 1, 4) := by kernel_rfl
/-- v is a slice in a new block at g. -/
def Nw (g : Nat) (w : World) (v : Value) (xs : List Value) : Prop := ∃ n c, v = .slice (some ⟨g, 0, none⟩) n c ∧ Sl TU w (some ⟨g, 0, none⟩) n c xs
theorem Nw.sl {g : Nat} {w : World} {v : Value} {xs : List Value} (h : Nw g w v xs) : SL TU w v xs := by
  obtain ⟨n, c, hv, h⟩ := h
  exact ⟨_, n, c, hv, h⟩
/-- n zeros. -/
def zer (n : Nat) : Array Value := ((List.replicate n 0).map U32).toArray
theorem made_zer (n : Nat) : madeCells (Value.cells (.int .u32 0)) (n * 1) = zer n := by
  apply Array.ext'
  apply List.ext_getElem?
  intro j
  simp only [madeCells, zer, Nat.mul_one, Array.toList_map, Value.cells]
  by_cases hj : j < n
  · simp [hj, U32, Nat.mod_one]
  · simp [hj]
theorem make_u32 (n : Nat) (x : Int) (hx : x = n) (hn : n ≤ 1099511627776) (W : World) :
    (Instr.makeSlice 53 (.int .i64 x) (.int .i64 x)).run Try.prog W = .ok (.slice (some ⟨W.heap.size, 0, none⟩) n n) (W.alloc (.cells (zer n) 102)) := by
  subst hx
  obtain ⟨i, hi, hz, hs, hb⟩ := info_parts u32_info
  rw [run_make (P := Try.prog) W 53 102 i _ Try.underlying53 hi hz .i64 .i64 n n (by omega) (by omega) (by rw [hb]; omega) (by omega)]
  simp only [Int.toNat_natCast, hs, made_zer]
theorem Blk.sl {w : World} {g : Nat} {t : TypeId} {xs : List Value} {cs : Array Value} (h : Blk w g t cs) (e : cs = xs.toArray) (hl : xs.length ≤ 9223372036854775807) : Sl t w (some ⟨g, 0, none⟩) xs.length xs.length xs := by
  subst e
  refine ⟨rfl, Nat.le_refl _, hl, fun _ => ⟨g, 0, rfl, ⟨_, _, h⟩, fun j hj => ?_⟩⟩
  have h' : w.heap[g]? = some (.cells xs.toArray t (0, 0)) := h
  simp [World.cell?, h', List.getD, hj]
theorem val_take_succ' (B : Nat) (xs : List Nat) (k : Nat) : val B (xs.take (k + 1)) = val B (xs.take k) + B ^ k * xs.getD k 0 := by
  by_cases h : k < xs.length
  · exact val_take_succ B xs k h
  · rw [List.take_of_length_le (by omega), List.take_of_length_le (by omega)]
    simp [List.getD, Nat.le_of_not_lt h]
theorem val_set_take (B : Nat) (xs : List Nat) (k v : Nat) (h : k < xs.length) : val B ((xs.set k v).take (k + 1)) = val B (xs.take k) + B ^ k * v := by
  rw [val_take_succ B _ k (by simpa using h)]
  simp [List.take_set_of_le, List.getD, h]
theorem blk_cell {w : World} {g : Nat} {t : TypeId} {cs : List Nat} (h : Blk w g t (cs.map U32).toArray) {j : Nat} (hj : j < cs.length) : w.cell? ⟨g, j, none⟩ = some (.int .u32 ((cs.getD j 0 : Nat) : Int)) := by
  have h' : w.heap[g]? = some (.cells (cs.map U32).toArray t (0, 0)) := h
  simp [World.cell?, h', List.getD, hj, U32]
theorem blk_set {w : World} {g : Nat} {t : TypeId} {cs : List Nat} (h : Blk w g t (cs.map U32).toArray) (j v : Nat) : Blk (w.setCell ⟨g, j, none⟩ (U32 v)) g t ((cs.set j v).map U32).toArray := by
  have := h.set_ j (U32 v)
  rw [List.map_set]
  simpa using this

theorem plus_step (B k cy dx dy vx vy vc cc vc' : Nat) (h : vc + B ^ k * cy = vx + vy) (hs : cc * B + vc' = dx + dy + cy) : vc + B ^ k * vc' + B ^ (k + 1) * cc = vx + B ^ k * dx + (vy + B ^ k * dy) := by
  have h1 : B ^ k * (cc * B + vc') = B ^ k * (dx + dy + cy) := by rw [hs]
  rw [Nat.mul_add, Nat.mul_add, Nat.mul_add] at h1
  rw [Nat.pow_succ]
  have h2 : B ^ k * B * cc = B ^ k * (cc * B) := by rw [Nat.mul_assoc, Nat.mul_comm B cc]
  omega
theorem div_le1 (B x y c : Nat) (hx : x < B) (hy : y < B) (hc : c ≤ 1) : (x + y + c) / B ≤ 1 := by
  have : (x + y + c) / B < 2 := Nat.div_lt_of_lt_mul (by omega)
  omega

set_option maxHeartbeats 1600000 in
theorem plus_core (sw : Bool) (X Y : Option Addr) (nx cx ny cy : Nat) (xs ys : List Nat) (w : World) (h : Sl TU w X nx cx (xs.map U32)) (h' : Sl TU w Y ny cy (ys.map U32)) (hdx : Dg B32 xs) (hdy : Dg B32 ys)
    (hle : ny ≤ nx) (hsw : sw = true → ny < nx) (hbig : nx ≤ 1000000000000) :
    Calls Try.prog 62 (if sw then #[.slice Y ny cy, .slice X nx cx] else #[.slice X nx cx, .slice Y ny cy]) w (Ret (fun v w' => Nw w.heap.size w' v (L (val B32 xs + val B32 ys))) w) := by
  have hc := h.cap
  have hc' := h'.cap
  have hn := h.le
  have hn' := h'.le
  have hl := h.len
  have hl' := h'.len
  rw [List.length_map] at hl hl'
  have HL := Lib.hid hl
  have HL' := Lib.hid hl'
  have HH := Lib.hid h
  have HH' := Lib.hid h'
  have HX := Lib.hid hdx
  have HY := Lib.hid hdy
  clear h hdx hl h' hdy hl'
  have hmk := make_u32 (nx + 1) ((nx : Int) + 1) (by omega) (by omega)
  cases sw
  · have hnl : ¬ nx < ny := by omega
    clear hsw
    simp only [Bool.false_eq_true, if_false]
    go_enter Try.func62, Try.ntmps62
    go_wp2
    clear hmk
    go_loopw [6, 22] (fun cy i wr => ∃ (k c : Nat) (cs : List Nat), k ≤ nx ∧ c ≤ 1 ∧ i = .int .i64 k ∧ cy = .int .u32 c ∧ cs.length = nx + 1 ∧ Dg B32 cs ∧ val B32 (cs.take k) + B32 ^ k * c = val B32 (xs.take k) + val B32 (ys.take k) ∧ Blk wr w.heap.size 102 (cs.map U32).toArray ∧ Below w.heap.size w wr) (fun _ i _ => nx - (intOf i).toNat)
    case atStart => exact ⟨0, 0, List.replicate (nx + 1) 0, Nat.zero_le _, by omega, rfl, rfl, by simp, Dg.replicate (by unfold B32; omega) _, by simp [val], Blk.new_ _ _ rfl, (Below.refl _ _).alloc (Nat.le_refl _) _⟩
    case round =>
      obtain ⟨k, cr, cs, hk, hcr, rfl, rfl, hcl, hcd, hv, hblk, hbw⟩ := hrel
      have HV := Lib.hid hv
      have HCL := Lib.hid hcl
      have HCD := Lib.hid hcd
      have HB := Lib.hid hblk
      clear hv hcl hcd hblk
      by_cases hkn : k < nx
      · obtain ⟨b, o, rfl, hcell⟩ := HH.out.at_u32 (by omega)
        have hcx : wr.cell? ⟨b, o + k, none⟩ = some (.int .u32 ((xs.getD k 0 : Nat) : Int)) := by
          rw [hbw.cell (p := ⟨b, o + k, none⟩) (World.block_lt_of_cell? w _ (hcell k hkn))]
          exact hcell k hkn
        have hcg := blk_cell HB.out (j := k) (by rw [HCL.out]; omega)
        have hfr := HB.out.free k
        clear hcell
        have hd1 := HX.out.getD (by unfold B32; omega) k
        have hd2 := HY.out.getD (by unfold B32; omega) k
        obtain ⟨dx, hdx⟩ : ∃ d, xs.getD k 0 = d := ⟨_, rfl⟩
        obtain ⟨dy, hdy⟩ : ∃ d, ys.getD k 0 = d := ⟨_, rfl⟩
        rw [hdx] at hcx hd1
        rw [hdy] at hd2
        have HDX := Lib.hid hdx
        have HDY := Lib.hid hdy
        clear hdx hdy
        have hd1' := Lib.hid hd1
        have hd2' := Lib.hid hd2
        clear hd1 hd2
        by_cases hky : k < ny
        · obtain ⟨b', o', rfl, hcell'⟩ := HH'.out.at_u32 (by omega)
          have hcy : wr.cell? ⟨b', o' + k, none⟩ = some (.int .u32 ((ys.getD k 0 : Nat) : Int)) := by
            rw [hbw.cell (p := ⟨b', o' + k, none⟩) (World.block_lt_of_cell? w _ (hcell' k hky))]
            exact hcell' k hky
          rw [HDY.out] at hcy
          clear hcell'
          go_wp2_with (go_at_call 75; refine (add32_res dx dy cr _ hd1'.out hd2'.out hcr).mono ?_; rintro e w1 ⟨s, t, rfl, hst, rfl⟩)
          go_roundw
          case rel => exact ⟨k + 1, t, cs.set k s, by omega, hst.2.2, by go_num, rfl, by simp [HCL.out], HCD.out.set_ _ _ hst.2.1, by rw [val_set_take B32 _ _ _ (by rw [HCL.out]; omega), val_take_succ' B32 xs, val_take_succ' B32 ys, HDX.out, HDY.out]; exact plus_step B32 k cr dx dy _ _ _ _ _ HV.out hst.1, blk_set HB.out k _, hbw.setCell (Nat.le_refl _) _⟩
          case measure => simp [intOf]; omega
        · have hy0 : dy = 0 := by
            rw [← HDY.out, List.getD_eq_getElem?_getD, List.getElem?_eq_none (by rw [HL'.out]; omega)]; rfl
          have HY0 := Lib.hid hy0
          clear hy0
          go_wp2_with (go_at_call 75; refine (add32_res dx 0 cr _ hd1'.out (by unfold B32; omega) hcr).mono ?_; rintro e w1 ⟨s, t, rfl, hst, rfl⟩)
          rw [← HY0.out] at hst
          go_roundw
          case rel => exact ⟨k + 1, t, cs.set k s, by omega, hst.2.2, by go_num, rfl, by simp [HCL.out], HCD.out.set_ _ _ hst.2.1, by rw [val_set_take B32 _ _ _ (by rw [HCL.out]; omega), val_take_succ' B32 xs, val_take_succ' B32 ys, HDX.out, HDY.out]; exact plus_step B32 k cr dx dy _ _ _ _ _ HV.out hst.1, blk_set HB.out k _, hbw.setCell (Nat.le_refl _) _⟩
          case measure => simp [intOf]; omega
      · have : k = nx := by omega
        subst this
        have hcg := blk_cell HB.out (j := k) (by rw [HCL.out]; omega)
        have hfr := HB.out.free k
        have hset := blk_set HB.out k cr
        have HSET := Lib.hid hset
        have hsl := Blk.sl hset rfl (by simp [HCL.out]; omega)
        have hlen : ((cs.set k cr).map U32).length = k + 1 := by simp [HCL.out]
        rw [hlen] at hsl
        have HSL := Lib.hid hsl
        have HLEN := Lib.hid hlen
        clear hsl hset hlen
        have hbw2 : Below w.heap.size w (wr.setCell ⟨w.heap.size, k, none⟩ (U32 cr)) := hbw.setCell (Nat.le_refl _) _
        have hdset : Dg B32 (cs.set k cr) := HCD.out.set_ k cr (by unfold B32; omega)
        have hval : val B32 (cs.set k cr) = val B32 xs + val B32 ys := by
          have e1 := val_set_take B32 cs k cr (by rw [HCL.out]; omega)
          rw [List.take_of_length_le (by simp [HCL.out])] at e1
          rw [e1, HV.out, ← HL.out, List.take_length, HL.out, List.take_of_length_le (by rw [HL'.out]; omega)]
        have HVAL := Lib.hid hval
        have HDS := Lib.hid hdset
        have HBW2 := Lib.hid hbw2
        clear hval hdset hbw2
        go_wp2_with (go_at_call 61; refine (trim_fr _ _ _ _ _ HSL.out HDS.out).mono ?_; rintro e w1 ⟨⟨v1, rfl, h1⟩, rfl⟩)
        go_returns
        exact ⟨_, rfl, ⟨_, _, rfl, by rw [← HVAL.out]; exact h1⟩, HBW2.out⟩
  · have hlt := hsw rfl
    clear hsw
    simp only [if_true]
    go_enter Try.func62, Try.ntmps62
    go_wp2
    clear hmk
    go_loopw [6, 22] (fun cy i wr => ∃ (k c : Nat) (cs : List Nat), k ≤ nx ∧ c ≤ 1 ∧ i = .int .i64 k ∧ cy = .int .u32 c ∧ cs.length = nx + 1 ∧ Dg B32 cs ∧ val B32 (cs.take k) + B32 ^ k * c = val B32 (xs.take k) + val B32 (ys.take k) ∧ Blk wr w.heap.size 102 (cs.map U32).toArray ∧ Below w.heap.size w wr) (fun _ i _ => nx - (intOf i).toNat)
    case atStart => exact ⟨0, 0, List.replicate (nx + 1) 0, Nat.zero_le _, by omega, rfl, rfl, by simp, Dg.replicate (by unfold B32; omega) _, by simp [val], Blk.new_ _ _ rfl, (Below.refl _ _).alloc (Nat.le_refl _) _⟩
    case round =>
      obtain ⟨k, cr, cs, hk, hcr, rfl, rfl, hcl, hcd, hv, hblk, hbw⟩ := hrel
      have HV := Lib.hid hv
      have HCL := Lib.hid hcl
      have HCD := Lib.hid hcd
      have HB := Lib.hid hblk
      clear hv hcl hcd hblk
      by_cases hkn : k < nx
      · obtain ⟨b, o, rfl, hcell⟩ := HH.out.at_u32 (by omega)
        have hcx : wr.cell? ⟨b, o + k, none⟩ = some (.int .u32 ((xs.getD k 0 : Nat) : Int)) := by
          rw [hbw.cell (p := ⟨b, o + k, none⟩) (World.block_lt_of_cell? w _ (hcell k hkn))]
          exact hcell k hkn
        have hcg := blk_cell HB.out (j := k) (by rw [HCL.out]; omega)
        have hfr := HB.out.free k
        clear hcell
        have hd1 := HX.out.getD (by unfold B32; omega) k
        have hd2 := HY.out.getD (by unfold B32; omega) k
        obtain ⟨dx, hdx⟩ : ∃ d, xs.getD k 0 = d := ⟨_, rfl⟩
        obtain ⟨dy, hdy⟩ : ∃ d, ys.getD k 0 = d := ⟨_, rfl⟩
        rw [hdx] at hcx hd1
        rw [hdy] at hd2
        have HDX := Lib.hid hdx
        have HDY := Lib.hid hdy
        clear hdx hdy
        have hd1' := Lib.hid hd1
        have hd2' := Lib.hid hd2
        clear hd1 hd2
        by_cases hky : k < ny
        · obtain ⟨b', o', rfl, hcell'⟩ := HH'.out.at_u32 (by omega)
          have hcy : wr.cell? ⟨b', o' + k, none⟩ = some (.int .u32 ((ys.getD k 0 : Nat) : Int)) := by
            rw [hbw.cell (p := ⟨b', o' + k, none⟩) (World.block_lt_of_cell? w _ (hcell' k hky))]
            exact hcell' k hky
          rw [HDY.out] at hcy
          clear hcell'
          go_wp2_with (go_at_call 75; refine (add32_res dx dy cr _ hd1'.out hd2'.out hcr).mono ?_; rintro e w1 ⟨s, t, rfl, hst, rfl⟩)
          go_roundw
          case rel => exact ⟨k + 1, t, cs.set k s, by omega, hst.2.2, by go_num, rfl, by simp [HCL.out], HCD.out.set_ _ _ hst.2.1, by rw [val_set_take B32 _ _ _ (by rw [HCL.out]; omega), val_take_succ' B32 xs, val_take_succ' B32 ys, HDX.out, HDY.out]; exact plus_step B32 k cr dx dy _ _ _ _ _ HV.out hst.1, blk_set HB.out k _, hbw.setCell (Nat.le_refl _) _⟩
          case measure => simp [intOf]; omega
        · have hy0 : dy = 0 := by
            rw [← HDY.out, List.getD_eq_getElem?_getD, List.getElem?_eq_none (by rw [HL'.out]; omega)]; rfl
          have HY0 := Lib.hid hy0
          clear hy0
          go_wp2_with (go_at_call 75; refine (add32_res dx 0 cr _ hd1'.out (by unfold B32; omega) hcr).mono ?_; rintro e w1 ⟨s, t, rfl, hst, rfl⟩)
          rw [← HY0.out] at hst
          go_roundw
          case rel => exact ⟨k + 1, t, cs.set k s, by omega, hst.2.2, by go_num, rfl, by simp [HCL.out], HCD.out.set_ _ _ hst.2.1, by rw [val_set_take B32 _ _ _ (by rw [HCL.out]; omega), val_take_succ' B32 xs, val_take_succ' B32 ys, HDX.out, HDY.out]; exact plus_step B32 k cr dx dy _ _ _ _ _ HV.out hst.1, blk_set HB.out k _, hbw.setCell (Nat.le_refl _) _⟩
          case measure => simp [intOf]; omega
      · have : k = nx := by omega
        subst this
        have hcg := blk_cell HB.out (j := k) (by rw [HCL.out]; omega)
        have hfr := HB.out.free k
        have hset := blk_set HB.out k cr
        have HSET := Lib.hid hset
        have hsl := Blk.sl hset rfl (by simp [HCL.out]; omega)
        have hlen : ((cs.set k cr).map U32).length = k + 1 := by simp [HCL.out]
        rw [hlen] at hsl
        have HSL := Lib.hid hsl
        have HLEN := Lib.hid hlen
        clear hsl hset hlen
        have hbw2 : Below w.heap.size w (wr.setCell ⟨w.heap.size, k, none⟩ (U32 cr)) := hbw.setCell (Nat.le_refl _) _
        have hdset : Dg B32 (cs.set k cr) := HCD.out.set_ k cr (by unfold B32; omega)
        have hval : val B32 (cs.set k cr) = val B32 xs + val B32 ys := by
          have e1 := val_set_take B32 cs k cr (by rw [HCL.out]; omega)
          rw [List.take_of_length_le (by simp [HCL.out])] at e1
          rw [e1, HV.out, ← HL.out, List.take_length, HL.out, List.take_of_length_le (by rw [HL'.out]; omega)]
        have HVAL := Lib.hid hval
        have HDS := Lib.hid hdset
        have HBW2 := Lib.hid hbw2
        clear hval hdset hbw2
        go_wp2_with (go_at_call 61; refine (trim_fr _ _ _ _ _ HSL.out HDS.out).mono ?_; rintro e w1 ⟨⟨v1, rfl, h1⟩, rfl⟩)
        go_returns
        exact ⟨_, rfl, ⟨_, _, rfl, by rw [← HVAL.out]; exact h1⟩, HBW2.out⟩
theorem plus_fr (A A' : Option Addr) (n c n' c' : Nat) (m m' : Nat) (w : World) (h : Sl TU w A n c (L m)) (h' : Sl TU w A' n' c' (L m')) (hs : dl B32 m ≤ 1000000000000) (hs' : dl B32 m' ≤ 1000000000000) :
    Calls Try.prog 62 #[.slice A n c, .slice A' n' c'] w (Ret (fun v w' => Nw w.heap.size w' v (L (m + m'))) w) := by
  have hl := h.len
  have hl' := h'.len
  simp only [L, List.length_map] at hl hl'
  unfold dl at hs hs'
  have e1 := val_digs B32 two_B32 m
  have e2 := val_digs B32 two_B32 m'
  by_cases hle : n' ≤ n
  · have := plus_core false A A' n c n' c' (digs B32 m) (digs B32 m') w h h' (digs_dg B32 two_B32 m) (digs_dg B32 two_B32 m') hle (fun h => by cases h) (by omega)
    rw [e1, e2] at this
    exact this
  · have := plus_core true A' A n' c' n c (digs B32 m') (digs B32 m) w h' h (digs_dg B32 two_B32 m') (digs_dg B32 two_B32 m) (by omega) (fun _ => by omega) (by omega)
    rw [e1, e2, Nat.add_comm] at this
    exact this

theorem minus_step (B k br dx dy vx vy vc : Nat) (hdx : dx < B) (hdy : dy < B) (hbr : br ≤ 1) (h : vc + vy = vx + B ^ k * br) :
    vc + B ^ k * ((dx + B - (dy + br)) % B) + (vy + B ^ k * dy) = vx + B ^ k * dx + B ^ (k + 1) * bor dx dy br := by
  have hs : (dx + B - (dy + br)) % B + (dy + br) = dx + B * bor dx dy br := by
    unfold bor
    by_cases h1 : dx < dy + br
    · rw [if_pos h1, Nat.mod_eq_of_lt (by omega)]; omega
    · rw [if_neg h1]
      have : dx + B - (dy + br) = (dx - (dy + br)) + B := by omega
      rw [this, Nat.add_mod_right, Nat.mod_eq_of_lt (by omega)]; omega
  have h1 : B ^ k * ((dx + B - (dy + br)) % B + (dy + br)) = B ^ k * (dx + B * bor dx dy br) := by rw [hs]
  rw [Nat.mul_add, Nat.mul_add, Nat.mul_add, ← Nat.mul_assoc] at h1
  rw [Nat.pow_succ]
  omega

set_option maxHeartbeats 1600000 in
theorem minus_core (X Y : Option Addr) (nx cx ny cy : Nat) (xs ys : List Nat) (w : World) (h : Sl TU w X nx cx (xs.map U32)) (h' : Sl TU w Y ny cy (ys.map U32)) (hdx : Dg B32 xs) (hdy : Dg B32 ys)
    (hle : ny ≤ nx) (hv : val B32 ys ≤ val B32 xs) (hbig : nx ≤ 1000000000000) :
    Calls Try.prog 64 #[.slice X nx cx, .slice Y ny cy] w (Ret (fun v w' => Nw w.heap.size w' v (L (val B32 xs - val B32 ys))) w) := by
  have hc := h.cap
  have hc' := h'.cap
  have hn := h.le
  have hn' := h'.le
  have hl := h.len
  have hl' := h'.len
  rw [List.length_map] at hl hl'
  have HL := Lib.hid hl
  have HL' := Lib.hid hl'
  have HH := Lib.hid h
  have HH' := Lib.hid h'
  have HX := Lib.hid hdx
  have HY := Lib.hid hdy
  have HLE := Lib.hid hv
  clear h hdx hl h' hdy hl' hv
  have hmk := make_u32 nx (nx : Int) rfl (by omega)
  go_enter Try.func64, Try.ntmps64
  go_wp2
  clear hmk
  go_loopw [6, 14] (fun cy i wr => ∃ (k c : Nat) (cs : List Nat), k ≤ nx ∧ c ≤ 1 ∧ i = .int .i64 k ∧ cy = .int .u32 c ∧ cs.length = nx ∧ Dg B32 cs ∧ val B32 (cs.take k) + val B32 (ys.take k) = val B32 (xs.take k) + B32 ^ k * c ∧ Blk wr w.heap.size 102 (cs.map U32).toArray ∧ Below w.heap.size w wr) (fun _ i _ => nx - (intOf i).toNat)
  case atStart => exact ⟨0, 0, List.replicate nx 0, Nat.zero_le _, by omega, rfl, rfl, by simp, Dg.replicate (by unfold B32; omega) _, by simp [val], Blk.new_ _ _ rfl, (Below.refl _ _).alloc (Nat.le_refl _) _⟩
  case round =>
    obtain ⟨k, cr, cs, hk, hcr, rfl, rfl, hcl, hcd, hv, hblk, hbw⟩ := hrel
    have HV := Lib.hid hv
    have HCL := Lib.hid hcl
    have HCD := Lib.hid hcd
    have HB := Lib.hid hblk
    clear hv hcl hcd hblk
    by_cases hkn : k < nx
    · obtain ⟨b, o, rfl, hcell⟩ := HH.out.at_u32 (by omega)
      have hcx : wr.cell? ⟨b, o + k, none⟩ = some (.int .u32 ((xs.getD k 0 : Nat) : Int)) := by
        rw [hbw.cell (p := ⟨b, o + k, none⟩) (World.block_lt_of_cell? w _ (hcell k hkn))]
        exact hcell k hkn
      have hcg := blk_cell HB.out (j := k) (by rw [HCL.out]; omega)
      have hfr := HB.out.free k
      clear hcell
      have hd1 := HX.out.getD (by unfold B32; omega) k
      have hd2 := HY.out.getD (by unfold B32; omega) k
      obtain ⟨dx, hdx⟩ : ∃ d, xs.getD k 0 = d := ⟨_, rfl⟩
      obtain ⟨dy, hdy⟩ : ∃ d, ys.getD k 0 = d := ⟨_, rfl⟩
      rw [hdx] at hcx hd1
      rw [hdy] at hd2
      have HDX := Lib.hid hdx
      have HDY := Lib.hid hdy
      clear hdx hdy
      have HS := Lib.hid (minus_step B32 k cr dx dy _ _ _ hd1 hd2 hcr HV.out)
      have hd1' := Lib.hid hd1
      have hd2' := Lib.hid hd2
      clear hd1 hd2
      by_cases hky : k < ny
      · obtain ⟨b', o', rfl, hcell'⟩ := HH'.out.at_u32 (by omega)
        have hcy : wr.cell? ⟨b', o' + k, none⟩ = some (.int .u32 ((ys.getD k 0 : Nat) : Int)) := by
          rw [hbw.cell (p := ⟨b', o' + k, none⟩) (World.block_lt_of_cell? w _ (hcell' k hky))]
          exact hcell' k hky
        rw [HDY.out] at hcy
        clear hcell'
        go_wp2_with (go_at_call 76; refine (sub32_res dx dy cr _ hd1'.out hd2'.out hcr).mono ?_; rintro e w1 ⟨s, t, rfl, hst, rfl⟩)
        go_roundw
        case rel => exact ⟨k + 1, t, cs.set k s, by omega, by rw [hst.2]; exact bor_le _ _ _, by go_num, rfl, by simp [HCL.out], HCD.out.set_ _ _ (by rw [hst.1]; exact Nat.mod_lt _ (by unfold B32; omega)), by rw [val_set_take B32 _ _ _ (by rw [HCL.out]; omega), val_take_succ' B32 xs, val_take_succ' B32 ys, HDX.out, HDY.out, hst.1, hst.2]; exact HS.out, blk_set HB.out k _, hbw.setCell (Nat.le_refl _) _⟩
        case measure => simp [intOf]; omega
      · have hy0 : dy = 0 := by
          rw [← HDY.out, List.getD_eq_getElem?_getD, List.getElem?_eq_none (by rw [HL'.out]; omega)]; rfl
        have HY0 := Lib.hid hy0
        clear hy0
        go_wp2_with (go_at_call 76; refine (sub32_res dx 0 cr _ hd1'.out (by unfold B32; omega) hcr).mono ?_; rintro e w1 ⟨s, t, rfl, hst, rfl⟩)
        rw [← HY0.out] at hst
        go_roundw
        case rel => exact ⟨k + 1, t, cs.set k s, by omega, by rw [hst.2]; exact bor_le _ _ _, by go_num, rfl, by simp [HCL.out], HCD.out.set_ _ _ (by rw [hst.1]; exact Nat.mod_lt _ (by unfold B32; omega)), by rw [val_set_take B32 _ _ _ (by rw [HCL.out]; omega), val_take_succ' B32 xs, val_take_succ' B32 ys, HDX.out, HDY.out, hst.1, hst.2]; exact HS.out, blk_set HB.out k _, hbw.setCell (Nat.le_refl _) _⟩
        case measure => simp [intOf]; omega
    · have : k = nx := by omega
      subst this
      have hsl := Blk.sl HB.out rfl (by simp [HCL.out]; omega)
      have hlen : (cs.map U32).length = k := by simp [HCL.out]
      rw [hlen] at hsl
      have HSL := Lib.hid hsl
      clear hsl hlen
      have hval : val B32 cs = val B32 xs - val B32 ys := by
        have e0 := HV.out
        have t1 : cs.take k = cs := List.take_of_length_le (by have := HCL.out; omega)
        have t2 : xs.take k = xs := List.take_of_length_le (by have := HL.out; omega)
        have t3 : ys.take k = ys := List.take_of_length_le (by have := HL'.out; omega)
        rw [t1, t2, t3] at e0
        have h1 := val_lt B32 cs HCD.out
        rw [HCL.out] at h1
        have h2 := HLE.out
        rcases Nat.eq_zero_or_pos cr with h3 | h3
        · subst h3; omega
        · have : cr = 1 := by omega
          subst this; omega
      have HVAL := Lib.hid hval
      clear hval
      go_wp2_with (go_at_call 61; refine (trim_fr _ _ _ _ _ HSL.out HCD.out).mono ?_; rintro e w1 ⟨⟨v1, rfl, h1⟩, rfl⟩)
      go_returns
      exact ⟨_, rfl, ⟨_, _, rfl, by rw [← HVAL.out]; exact h1⟩, hbw⟩
theorem minus_fr (A A' : Option Addr) (n c n' c' : Nat) (m m' : Nat) (w : World) (h : Sl TU w A n c (L m)) (h' : Sl TU w A' n' c' (L m')) (hle : m' ≤ m) (hs : dl B32 m ≤ 1000000000000) :
    Calls Try.prog 64 #[.slice A n c, .slice A' n' c'] w (Ret (fun v w' => Nw w.heap.size w' v (L (m - m'))) w) := by
  have hl := h.len
  have hl' := h'.len
  simp only [L, List.length_map] at hl hl'
  have e1 := val_digs B32 two_B32 m
  have e2 := val_digs B32 two_B32 m'
  have e3 := dl_mono B32 two_B32 m' m hle
  unfold dl at hs e3
  have := minus_core A A' n c n' c' (digs B32 m) (digs B32 m') w h h' (digs_dg B32 two_B32 m) (digs_dg B32 two_B32 m') (by omega) (by rw [e1, e2]; exact hle) (by omega)
  rw [e1, e2] at this
  exact this
theorem plus_any (A A' : Option Addr) (n c n' c' : Nat) (m m' : Nat) (w : World) (h : Sl TU w A n c (L m)) (h' : Sl TU w A' n' c' (L m')) (hs : dl B32 m ≤ 1000000000000) (hs' : dl B32 m' ≤ 1000000000000) :
    Calls Try.prog 62 #[.slice A n c, .slice A' n' c'] w (Ret (fun v w' => SL TU w' v (L (m + m'))) w) :=
  (plus_fr A A' n c n' c' m m' w h h' hs hs').mono fun _ _ h => h.imp fun _ _ h => h.sl
theorem minus_any (A A' : Option Addr) (n c n' c' : Nat) (m m' : Nat) (w : World) (h : Sl TU w A n c (L m)) (h' : Sl TU w A' n' c' (L m')) (hle : m' ≤ m) (hs : dl B32 m ≤ 1000000000000) :
    Calls Try.prog 64 #[.slice A n c, .slice A' n' c'] w (Ret (fun v w' => SL TU w' v (L (m - m'))) w) :=
  (minus_fr A A' n c n' c' m m' w h h' hle hs).mono fun _ _ h => h.imp fun _ _ h => h.sl
end Go.Proofs.Tb
/- Contracts of package wide: whole numbers of any size: made, Neg, Sign, Add, Sub, Cmp. -/
namespace Go.Proofs.Tb
open Go.RowKit
attribute [local go_sem] cell_set_same

/-- The type wide.Int. -/
abbrev TI : TypeId := 55
/-- How many limbs z has. -/
def sz (z : Int) : Nat := dl B32 z.natAbs
/-- Is z below 0? -/
def ng (z : Int) : Bool := decide (z < 0)
/-- A wide.Int's value reads as z. -/
def WI (w : World) (v : Value) (z : Int) : Prop := ∃ A n c, v = .agg #[.bool (ng z), .slice A n c] ∧ Sl TU w A n c (L z.natAbs)
theorem WI.below {w w' : World} {v : Value} {z : Int} (h : WI w v z) (hb : Below w.heap.size w w') : WI w' v z := by
  obtain ⟨A, n, c, hv, h⟩ := h
  exact ⟨A, n, c, hv, h.below hb⟩
theorem Sl.pos_iff {w : World} {A : Option Addr} {n c m : Nat} (h : Sl TU w A n c (L m)) : 0 < n ↔ 0 < m := by
  have hl := h.len
  simp only [L, List.length_map] at hl
  have := dl_pos B32 m two_B32
  unfold dl at this
  rw [hl] at this
  exact this

set_option maxHeartbeats 400000 in
theorem made_any (b : Bool) (A : Option Addr) (n c m : Nat) (z : Int) (w : World) (h : Sl TU w A n c (L m)) (hm : m = z.natAbs) (hz : b = ng z ∨ z = 0) :
    Calls Try.prog 45 #[.bool b, .slice A n c] w (Ret (fun v w' => WI w' v z) w) := by
  have hp := h.pos_iff
  have hn := h.le
  have hc := h.cap
  have HH := Lib.hid h
  clear h
  by_cases h0 : 0 < n
  · have hz0 : b = ng z := by
      rcases hz with hz | hz
      · exact hz
      · subst hz; simp at hm; omega
    have HZ := Lib.hid hz0
    have HM := Lib.hid hm
    clear hz hz0 hp hm
    go_enter Try.func45, Try.ntmps45
    cases b
    all_goals
      go_wp2
      go_returns
      have hb : ∀ x, Below w.heap.size w (w.alloc (.cells #[.bool x, .slice A n c] 55)) := fun _ => (Below.refl _ _).alloc (Nat.le_refl _) _
      exact ⟨_, rfl, ⟨A, n, c, by rw [← HZ.out], by rw [← HM.out]; exact HH.out.below (hb _)⟩, hb _⟩
  · have hz0 : z = 0 := by omega
    have HM := Lib.hid hm
    have HZ := Lib.hid hz0
    clear hz hz0 hp hm
    go_enter Try.func45, Try.ntmps45
    cases b
    all_goals
      go_wp2
      go_returns
      have hb : ∀ x, Below w.heap.size w (w.alloc (.cells #[.bool x, .slice A n c] 55)) := fun _ => (Below.refl _ _).alloc (Nat.le_refl _) _
      exact ⟨_, rfl, ⟨A, n, c, by rw [HZ.out]; rfl, by rw [← HM.out]; exact HH.out.below (hb _)⟩, hb _⟩

set_option maxHeartbeats 400000 in
theorem wneg_any (v : Value) (z : Int) (w : World) (h : WI w v z) : Calls Try.prog 39 #[v] w (Ret (fun v w' => WI w' v (-z)) w) := by
  obtain ⟨A, n, c, rfl, h⟩ := h
  have HH := Lib.hid h
  clear h
  obtain ⟨b, hb⟩ : ∃ b, ng z = b := ⟨_, rfl⟩
  rw [hb]
  have HB := Lib.hid hb
  clear hb
  go_enter Try.func39, Try.ntmps39
  go_wp2_with fail
  have hbw : Below w.heap.size w ((w.alloc (.cells #[.bool b, .slice A n c] 55)).alloc (.cells #[.bool false, .slice none 0 0] 55)) := by go_grown
  refine (made_any _ A n c z.natAbs (-z) _ (HH.out.below hbw) (by omega) ?_).mono ?_
  · by_cases h0 : z = 0
    · right; omega
    · left; rw [← HB.out]; unfold ng; by_cases h1 : z < 0 <;> simp [h1] <;> omega
  · rintro e w1 ⟨v1, rfl, ⟨A1, n1, c1, rfl, h1⟩, hb1⟩
    have hst : Held (w.heap.size + 1) 2 TI w1 w1 := ((Blk.new_ 55 #[.bool false, .slice none 0 0] (by simp)).below hb1).heldS
    have hbw1 := bt hbw hb1
    have r1 := (rules (w.heap.size + 1) 2 TI w1).some
    have r2 := (rules (w.heap.size + 1) 2 TI w1).free
    have HB1 := Lib.hid hb1
    clear hb1
    go_wp2
    (try simp only [Exit.inBlock, Exit.then])
    refine bodyPost_ret (v := .agg #[.bool (ng (-z)), .slice A1 n1 c1]) (by simp [results, Try.results39, go_sem, *]) rfl ?_
    have hst2 := Held.set_ (Held.set_ hst 0 (.bool (ng (-z)))) 1 (.slice A1 n1 c1)
    exact ⟨_, rfl, ⟨A1, n1, c1, rfl, h1.held hst2 (by decide)⟩, hst2.below hbw1 (by omega)⟩

theorem ng_add_same {x y : Int} (h : ng x = ng y) : (x + y).natAbs = x.natAbs + y.natAbs ∧ (ng x = ng (x + y) ∨ x + y = 0) := by
  unfold ng at *
  by_cases hx : x < 0 <;> by_cases hy : y < 0 <;> simp [hx, hy] at h ⊢ <;> omega
theorem ng_add_ge {x y : Int} (h : ng x ≠ ng y) (hle : y.natAbs ≤ x.natAbs) : (x + y).natAbs = x.natAbs - y.natAbs ∧ (ng x = ng (x + y) ∨ x + y = 0) := by
  unfold ng at *
  by_cases hx : x < 0 <;> by_cases hy : y < 0 <;> simp [hx, hy] at h ⊢ <;> omega
theorem ng_add_lt {x y : Int} (h : ng x ≠ ng y) (hle : x.natAbs < y.natAbs) : (x + y).natAbs = y.natAbs - x.natAbs ∧ (ng y = ng (x + y) ∨ x + y = 0) := by
  unfold ng at *
  by_cases hx : x < 0 <;> by_cases hy : y < 0 <;> simp [hx, hy] at h ⊢ <;> omega

set_option maxHeartbeats 1600000 in
theorem wadd_any (v v' : Value) (x y : Int) (w : World) (h : WI w v x) (h' : WI w v' y) (hs : sz x ≤ 1000000000000) (hs' : sz y ≤ 1000000000000) :
    Calls Try.prog 41 #[v, v'] w (Ret (fun v w' => WI w' v (x + y)) w) := by
  obtain ⟨A, n, c, rfl, h⟩ := h
  obtain ⟨A', n', c', rfl, h'⟩ := h'
  have H := Lib.hid h
  have H' := Lib.hid h'
  have HS := Lib.hid hs
  have HS' := Lib.hid hs'
  unfold sz at HS HS'
  clear h h' hs hs'
  obtain ⟨s, hsx⟩ : ∃ s, ng x = s := ⟨_, rfl⟩
  obtain ⟨s', hsy⟩ : ∃ s, ng y = s := ⟨_, rfl⟩
  rw [hsx, hsy]
  by_cases hss : s = s'
  · subst hss
    have HN := Lib.hid (ng_add_same (hsx.trans hsy.symm))
    rw [hsx] at HN
    clear hsx hsy
    cases s
    · go_enter Try.func41, Try.ntmps41
      go_wp2
      refine wp_world (fun W0 => Blk W0 w.heap.size TI #[.bool false, .slice A n c] ∧ Blk W0 (w.heap.size + 1) TI #[.bool false, .slice A' n' c'] ∧ Blk W0 (w.heap.size + 1 + 1) TI #[.bool false, .slice none 0 0] ∧ Below w.heap.size w W0) (by exact ⟨((Blk.new_ _ _ rfl).alloc _).alloc _, (Blk.new_ _ _ (by simp)).alloc _, Blk.new_ _ _ (by simp), by go_grown⟩) ?_
      rintro W0 ⟨b0, b1, b2, hbw⟩
      have k0 := fun w' (hh : Held (w.heap.size + 1 + 1) 2 TI W0 w') => (b0.held hh (by omega)).cells
      have k1 := fun w' (hh : Held (w.heap.size + 1 + 1) 2 TI W0 w') => (b1.held hh (by omega)).cells
      have hst : Held (w.heap.size + 1 + 1) 2 TI W0 W0.drew := b2.heldS.drew
      simp only [cellsAre, Nat.zero_add, Nat.reduceAdd, and_true] at k0 k1
      have r1 := (rules (w.heap.size + 1 + 1) 2 TI W0).some
      have r2 := (rules (w.heap.size + 1 + 1) 2 TI W0).free
      clear b0 b1 b2
      go_region_held3 (fun w' => Held (w.heap.size + 1 + 1) 2 TI W0 w') (first | assumption | exact Held.trans_ (by assumption) (by assumption) | exact Held.set_ (Held.set_ (by assumption) _ _) _ _)
        (first | (go_at_call 62; refine (plus_any _ _ _ _ _ _ _ _ _ (H.out.below hbw.drew) (H'.out.below hbw.drew) HS.out HS'.out).mono ?_; rintro e w1 ⟨v1, rfl, ⟨A1, n1, c1, rfl, h1⟩, hb1⟩) | (go_at_call 45; refine (made_any _ _ _ _ _ (x + y) _ h1 HN.out.1.symm HN.out.2).mono ?_; rintro e w2 ⟨v2, rfl, ⟨A2, n2, c2, rfl, h2⟩, hb2⟩))
      have hh2 : Held (w.heap.size + 1 + 1) 2 TI W0 w2 := (hst.trans_ hb1).trans_ hb2
      go_wp2
      (try simp only [Exit.inBlock, Exit.then])
      refine bodyPost_ret (v := .agg #[.bool (ng (x + y)), .slice A2 n2 c2]) (by simp [results, Try.results41, go_sem, r1 _ hh2]) rfl ?_
      have hst2 := Held.set_ (Held.set_ hh2.here 0 (.bool (ng (x + y)))) 1 (.slice A2 n2 c2)
      exact ⟨_, rfl, ⟨A2, n2, c2, rfl, h2.held hst2 (by decide)⟩, (hh2.trans2 hst2).below hbw (by omega)⟩
    · go_enter Try.func41, Try.ntmps41
      go_wp2
      refine wp_world (fun W0 => Blk W0 w.heap.size TI #[.bool true, .slice A n c] ∧ Blk W0 (w.heap.size + 1) TI #[.bool true, .slice A' n' c'] ∧ Blk W0 (w.heap.size + 1 + 1) TI #[.bool false, .slice none 0 0] ∧ Below w.heap.size w W0) (by exact ⟨((Blk.new_ _ _ rfl).alloc _).alloc _, (Blk.new_ _ _ (by simp)).alloc _, Blk.new_ _ _ (by simp), by go_grown⟩) ?_
      rintro W0 ⟨b0, b1, b2, hbw⟩
      have k0 := fun w' (hh : Held (w.heap.size + 1 + 1) 2 TI W0 w') => (b0.held hh (by omega)).cells
      have k1 := fun w' (hh : Held (w.heap.size + 1 + 1) 2 TI W0 w') => (b1.held hh (by omega)).cells
      have hst : Held (w.heap.size + 1 + 1) 2 TI W0 W0.drew := b2.heldS.drew
      simp only [cellsAre, Nat.zero_add, Nat.reduceAdd, and_true] at k0 k1
      have r1 := (rules (w.heap.size + 1 + 1) 2 TI W0).some
      have r2 := (rules (w.heap.size + 1 + 1) 2 TI W0).free
      clear b0 b1 b2
      go_region_held3 (fun w' => Held (w.heap.size + 1 + 1) 2 TI W0 w') (first | assumption | exact Held.trans_ (by assumption) (by assumption) | exact Held.set_ (Held.set_ (by assumption) _ _) _ _)
        (first | (go_at_call 62; refine (plus_any _ _ _ _ _ _ _ _ _ (H.out.below hbw.drew) (H'.out.below hbw.drew) HS.out HS'.out).mono ?_; rintro e w1 ⟨v1, rfl, ⟨A1, n1, c1, rfl, h1⟩, hb1⟩) | (go_at_call 45; refine (made_any _ _ _ _ _ (x + y) _ h1 HN.out.1.symm HN.out.2).mono ?_; rintro e w2 ⟨v2, rfl, ⟨A2, n2, c2, rfl, h2⟩, hb2⟩))
      have hh2 : Held (w.heap.size + 1 + 1) 2 TI W0 w2 := (hst.trans_ hb1).trans_ hb2
      go_wp2
      (try simp only [Exit.inBlock, Exit.then])
      refine bodyPost_ret (v := .agg #[.bool (ng (x + y)), .slice A2 n2 c2]) (by simp [results, Try.results41, go_sem, r1 _ hh2]) rfl ?_
      have hst2 := Held.set_ (Held.set_ hh2.here 0 (.bool (ng (x + y)))) 1 (.slice A2 n2 c2)
      exact ⟨_, rfl, ⟨A2, n2, c2, rfl, h2.held hst2 (by decide)⟩, (hh2.trans2 hst2).below hbw (by omega)⟩
  · have hne : ng x ≠ ng y := by rw [hsx, hsy]; exact hss
    by_cases hle : y.natAbs ≤ x.natAbs
    · have HN := Lib.hid (ng_add_ge hne hle)
      rw [hsx] at HN
      have HLE := Lib.hid hle
      clear hsx hsy hne hle
      cases s <;> cases s' <;> first | exact absurd rfl hss | skip
      · clear hss
        go_enter Try.func41, Try.ntmps41
        go_wp2_with fail
        have hbx : Below w.heap.size w (((w.alloc (.cells #[.bool false, .slice A n c] TI)).alloc (.cells #[.bool true, .slice A' n' c'] TI)).alloc (.cells #[.bool false, .slice none 0 0] TI)) := by go_grown
        refine (wsize_any _ _ _ _ _ _ _ _ _ (H.out.below hbx) (H'.out.below hbx)).mono ?_
        rintro e w0 ⟨v0, rfl, ⟨r, rfl, hr1, hr2⟩, hb0⟩
        have hr0 : 0 ≤ r := by have := HLE.out; omega
        clear hr1 hr2
        have hbw := bt hbx hb0
        have b0 : Blk w0 w.heap.size TI #[.bool false, .slice A n c] := (((Blk.new_ _ _ rfl).alloc _).alloc _).below hb0
        have b1 : Blk w0 (w.heap.size + 1) TI #[.bool true, .slice A' n' c'] := ((Blk.new_ _ _ (by simp)).alloc _).below hb0
        have b2 : Blk w0 (w.heap.size + 1 + 1) TI #[.bool false, .slice none 0 0] := (Blk.new_ _ _ (by simp)).below hb0
        clear hb0 hbx
        obtain ⟨W0, rfl⟩ : ∃ W0, W0 = w0 := ⟨_, rfl⟩
        have d0 := b0.cells
        have d1 := b1.cells
        simp only [cellsAre, Nat.zero_add, Nat.reduceAdd, and_true] at d0 d1
        have k0 := fun w' (hh : Held (w.heap.size + 1 + 1) 2 TI W0 w') => (b0.held hh (by omega)).cells
        have k1 := fun w' (hh : Held (w.heap.size + 1 + 1) 2 TI W0 w') => (b1.held hh (by omega)).cells
        have hst : Held (w.heap.size + 1 + 1) 2 TI W0 W0.drew := b2.heldS.drew
        simp only [cellsAre, Nat.zero_add, Nat.reduceAdd, and_true] at k0 k1
        have r1 := (rules (w.heap.size + 1 + 1) 2 TI W0).some
        have r2 := (rules (w.heap.size + 1 + 1) 2 TI W0).free
        clear b0 b1 b2
        go_wp2
        go_region_held3 (fun w' => Held (w.heap.size + 1 + 1) 2 TI W0 w') (first | assumption | exact Held.trans_ (by assumption) (by assumption) | exact Held.set_ (Held.set_ (by assumption) _ _) _ _)
          (first | (go_at_call 64; refine (minus_any _ _ _ _ _ _ _ _ _ (H.out.below hbw.drew) (H'.out.below hbw.drew) HLE.out HS.out).mono ?_; rintro e w1 ⟨v1, rfl, ⟨A1, n1, c1, rfl, h1⟩, hb1⟩) | (go_at_call 45; refine (made_any _ _ _ _ _ (x + y) _ h1 HN.out.1.symm HN.out.2).mono ?_; rintro e w2 ⟨v2, rfl, ⟨A2, n2, c2, rfl, h2⟩, hb2⟩))
        have hh2 : Held (w.heap.size + 1 + 1) 2 TI W0 w2 := (hst.trans_ hb1).trans_ hb2
        go_wp2
        (try simp only [Exit.inBlock, Exit.then])
        refine bodyPost_ret (v := .agg #[.bool (ng (x + y)), .slice A2 n2 c2]) (by simp [results, Try.results41, go_sem, r1 _ hh2]) rfl ?_
        have hst2 := Held.set_ (Held.set_ hh2.here 0 (.bool (ng (x + y)))) 1 (.slice A2 n2 c2)
        exact ⟨_, rfl, ⟨A2, n2, c2, rfl, h2.held hst2 (by decide)⟩, (hh2.trans2 hst2).below hbw (by omega)⟩
      · clear hss
        go_enter Try.func41, Try.ntmps41
        go_wp2_with fail
        have hbx : Below w.heap.size w (((w.alloc (.cells #[.bool true, .slice A n c] TI)).alloc (.cells #[.bool false, .slice A' n' c'] TI)).alloc (.cells #[.bool false, .slice none 0 0] TI)) := by go_grown
        refine (wsize_any _ _ _ _ _ _ _ _ _ (H.out.below hbx) (H'.out.below hbx)).mono ?_
        rintro e w0 ⟨v0, rfl, ⟨r, rfl, hr1, hr2⟩, hb0⟩
        have hr0 : 0 ≤ r := by have := HLE.out; omega
        clear hr1 hr2
        have hbw := bt hbx hb0
        have b0 : Blk w0 w.heap.size TI #[.bool true, .slice A n c] := (((Blk.new_ _ _ rfl).alloc _).alloc _).below hb0
        have b1 : Blk w0 (w.heap.size + 1) TI #[.bool false, .slice A' n' c'] := ((Blk.new_ _ _ (by simp)).alloc _).below hb0
        have b2 : Blk w0 (w.heap.size + 1 + 1) TI #[.bool false, .slice none 0 0] := (Blk.new_ _ _ (by simp)).below hb0
        clear hb0 hbx
        obtain ⟨W0, rfl⟩ : ∃ W0, W0 = w0 := ⟨_, rfl⟩
        have d0 := b0.cells
        have d1 := b1.cells
        simp only [cellsAre, Nat.zero_add, Nat.reduceAdd, and_true] at d0 d1
        have k0 := fun w' (hh : Held (w.heap.size + 1 + 1) 2 TI W0 w') => (b0.held hh (by omega)).cells
        have k1 := fun w' (hh : Held (w.heap.size + 1 + 1) 2 TI W0 w') => (b1.held hh (by omega)).cells
        have hst : Held (w.heap.size + 1 + 1) 2 TI W0 W0.drew := b2.heldS.drew
        simp only [cellsAre, Nat.zero_add, Nat.reduceAdd, and_true] at k0 k1
        have r1 := (rules (w.heap.size + 1 + 1) 2 TI W0).some
        have r2 := (rules (w.heap.size + 1 + 1) 2 TI W0).free
        clear b0 b1 b2
        go_wp2
        go_region_held3 (fun w' => Held (w.heap.size + 1 + 1) 2 TI W0 w') (first | assumption | exact Held.trans_ (by assumption) (by assumption) | exact Held.set_ (Held.set_ (by assumption) _ _) _ _)
          (first | (go_at_call 64; refine (minus_any _ _ _ _ _ _ _ _ _ (H.out.below hbw.drew) (H'.out.below hbw.drew) HLE.out HS.out).mono ?_; rintro e w1 ⟨v1, rfl, ⟨A1, n1, c1, rfl, h1⟩, hb1⟩) | (go_at_call 45; refine (made_any _ _ _ _ _ (x + y) _ h1 HN.out.1.symm HN.out.2).mono ?_; rintro e w2 ⟨v2, rfl, ⟨A2, n2, c2, rfl, h2⟩, hb2⟩))
        have hh2 : Held (w.heap.size + 1 + 1) 2 TI W0 w2 := (hst.trans_ hb1).trans_ hb2
        go_wp2
        (try simp only [Exit.inBlock, Exit.then])
        refine bodyPost_ret (v := .agg #[.bool (ng (x + y)), .slice A2 n2 c2]) (by simp [results, Try.results41, go_sem, r1 _ hh2]) rfl ?_
        have hst2 := Held.set_ (Held.set_ hh2.here 0 (.bool (ng (x + y)))) 1 (.slice A2 n2 c2)
        exact ⟨_, rfl, ⟨A2, n2, c2, rfl, h2.held hst2 (by decide)⟩, (hh2.trans2 hst2).below hbw (by omega)⟩
    · have hlt : x.natAbs < y.natAbs := by omega
      have HN := Lib.hid (ng_add_lt hne hlt)
      rw [hsy] at HN
      have HLE := Lib.hid hlt
      clear hsx hsy hne hle hlt
      cases s <;> cases s' <;> first | exact absurd rfl hss | skip
      · clear hss
        go_enter Try.func41, Try.ntmps41
        go_wp2_with fail
        have hbx : Below w.heap.size w (((w.alloc (.cells #[.bool false, .slice A n c] TI)).alloc (.cells #[.bool true, .slice A' n' c'] TI)).alloc (.cells #[.bool false, .slice none 0 0] TI)) := by go_grown
        refine (wsize_any _ _ _ _ _ _ _ _ _ (H.out.below hbx) (H'.out.below hbx)).mono ?_
        rintro e w0 ⟨v0, rfl, ⟨r, rfl, hr1, hr2⟩, hb0⟩
        have hr0 : r < 0 := by have := HLE.out; omega
        clear hr1 hr2
        have hbw := bt hbx hb0
        have b0 : Blk w0 w.heap.size TI #[.bool false, .slice A n c] := (((Blk.new_ _ _ rfl).alloc _).alloc _).below hb0
        have b1 : Blk w0 (w.heap.size + 1) TI #[.bool true, .slice A' n' c'] := ((Blk.new_ _ _ (by simp)).alloc _).below hb0
        have b2 : Blk w0 (w.heap.size + 1 + 1) TI #[.bool false, .slice none 0 0] := (Blk.new_ _ _ (by simp)).below hb0
        clear hb0 hbx
        obtain ⟨W0, rfl⟩ : ∃ W0, W0 = w0 := ⟨_, rfl⟩
        have d0 := b0.cells
        have d1 := b1.cells
        simp only [cellsAre, Nat.zero_add, Nat.reduceAdd, and_true] at d0 d1
        have k0 := fun w' (hh : Held (w.heap.size + 1 + 1) 2 TI W0 w') => (b0.held hh (by omega)).cells
        have k1 := fun w' (hh : Held (w.heap.size + 1 + 1) 2 TI W0 w') => (b1.held hh (by omega)).cells
        have hst : Held (w.heap.size + 1 + 1) 2 TI W0 W0.drew := b2.heldS.drew
        simp only [cellsAre, Nat.zero_add, Nat.reduceAdd, and_true] at k0 k1
        have r1 := (rules (w.heap.size + 1 + 1) 2 TI W0).some
        have r2 := (rules (w.heap.size + 1 + 1) 2 TI W0).free
        clear b0 b1 b2
        go_wp2
        go_region_held3 (fun w' => Held (w.heap.size + 1 + 1) 2 TI W0 w') (first | assumption | exact Held.trans_ (by assumption) (by assumption) | exact Held.set_ (Held.set_ (by assumption) _ _) _ _)
          (first | (go_at_call 64; refine (minus_any _ _ _ _ _ _ _ _ _ (H'.out.below hbw.drew) (H.out.below hbw.drew) (Nat.le_of_lt HLE.out) HS'.out).mono ?_; rintro e w1 ⟨v1, rfl, ⟨A1, n1, c1, rfl, h1⟩, hb1⟩) | (go_at_call 45; refine (made_any _ _ _ _ _ (x + y) _ h1 HN.out.1.symm HN.out.2).mono ?_; rintro e w2 ⟨v2, rfl, ⟨A2, n2, c2, rfl, h2⟩, hb2⟩))
        have hh2 : Held (w.heap.size + 1 + 1) 2 TI W0 w2 := (hst.trans_ hb1).trans_ hb2
        go_wp2
        (try simp only [Exit.inBlock, Exit.then])
        refine bodyPost_ret (v := .agg #[.bool (ng (x + y)), .slice A2 n2 c2]) (by simp [results, Try.results41, go_sem, r1 _ hh2]) rfl ?_
        have hst2 := Held.set_ (Held.set_ hh2.here 0 (.bool (ng (x + y)))) 1 (.slice A2 n2 c2)
        exact ⟨_, rfl, ⟨A2, n2, c2, rfl, h2.held hst2 (by decide)⟩, (hh2.trans2 hst2).below hbw (by omega)⟩
      · clear hss
        go_enter Try.func41, Try.ntmps41
        go_wp2_with fail
        have hbx : Below w.heap.size w (((w.alloc (.cells #[.bool true, .slice A n c] TI)).alloc (.cells #[.bool false, .slice A' n' c'] TI)).alloc (.cells #[.bool false, .slice none 0 0] TI)) := by go_grown
        refine (wsize_any _ _ _ _ _ _ _ _ _ (H.out.below hbx) (H'.out.below hbx)).mono ?_
        rintro e w0 ⟨v0, rfl, ⟨r, rfl, hr1, hr2⟩, hb0⟩
        have hr0 : r < 0 := by have := HLE.out; omega
        clear hr1 hr2
        have hbw := bt hbx hb0
        have b0 : Blk w0 w.heap.size TI #[.bool true, .slice A n c] := (((Blk.new_ _ _ rfl).alloc _).alloc _).below hb0
        have b1 : Blk w0 (w.heap.size + 1) TI #[.bool false, .slice A' n' c'] := ((Blk.new_ _ _ (by simp)).alloc _).below hb0
        have b2 : Blk w0 (w.heap.size + 1 + 1) TI #[.bool false, .slice none 0 0] := (Blk.new_ _ _ (by simp)).below hb0
        clear hb0 hbx
        obtain ⟨W0, rfl⟩ : ∃ W0, W0 = w0 := ⟨_, rfl⟩
        have d0 := b0.cells
        have d1 := b1.cells
        simp only [cellsAre, Nat.zero_add, Nat.reduceAdd, and_true] at d0 d1
        have k0 := fun w' (hh : Held (w.heap.size + 1 + 1) 2 TI W0 w') => (b0.held hh (by omega)).cells
        have k1 := fun w' (hh : Held (w.heap.size + 1 + 1) 2 TI W0 w') => (b1.held hh (by omega)).cells
        have hst : Held (w.heap.size + 1 + 1) 2 TI W0 W0.drew := b2.heldS.drew
        simp only [cellsAre, Nat.zero_add, Nat.reduceAdd, and_true] at k0 k1
        have r1 := (rules (w.heap.size + 1 + 1) 2 TI W0).some
        have r2 := (rules (w.heap.size + 1 + 1) 2 TI W0).free
        clear b0 b1 b2
        go_wp2
        go_region_held3 (fun w' => Held (w.heap.size + 1 + 1) 2 TI W0 w') (first | assumption | exact Held.trans_ (by assumption) (by assumption) | exact Held.set_ (Held.set_ (by assumption) _ _) _ _)
          (first | (go_at_call 64; refine (minus_any _ _ _ _ _ _ _ _ _ (H'.out.below hbw.drew) (H.out.below hbw.drew) (Nat.le_of_lt HLE.out) HS'.out).mono ?_; rintro e w1 ⟨v1, rfl, ⟨A1, n1, c1, rfl, h1⟩, hb1⟩) | (go_at_call 45; refine (made_any _ _ _ _ _ (x + y) _ h1 HN.out.1.symm HN.out.2).mono ?_; rintro e w2 ⟨v2, rfl, ⟨A2, n2, c2, rfl, h2⟩, hb2⟩))
        have hh2 : Held (w.heap.size + 1 + 1) 2 TI W0 w2 := (hst.trans_ hb1).trans_ hb2
        go_wp2
        (try simp only [Exit.inBlock, Exit.then])
        refine bodyPost_ret (v := .agg #[.bool (ng (x + y)), .slice A2 n2 c2]) (by simp [results, Try.results41, go_sem, r1 _ hh2]) rfl ?_
        have hst2 := Held.set_ (Held.set_ hh2.here 0 (.bool (ng (x + y)))) 1 (.slice A2 n2 c2)
        exact ⟨_, rfl, ⟨A2, n2, c2, rfl, h2.held hst2 (by decide)⟩, (hh2.trans2 hst2).below hbw (by omega)⟩
end Go.Proofs.Tb
/- Contracts of package wide: Sign; Of; the product of two whole numbers. -/
namespace Go.Proofs.Tb
open Go.RowKit
attribute [local go_sem] cell_set_same

set_option maxHeartbeats 400000 in
theorem wsign_any (v : Value) (z : Int) (w : World) (h : WI w v z) : Calls Try.prog 65 #[v] w (Ret (fun v _ => v = .int .i64 z.sign) w) := by
  obtain ⟨A, n, c, rfl, h⟩ := h
  have hp := h.pos_iff
  have hn := h.le
  have hc := h.cap
  clear h
  by_cases h0 : z = 0
  · have hn0 : n = 0 := by omega
    subst hn0
    clear hp
    have HZ := Lib.hid h0
    clear h0
    go_enter Try.func65, Try.ntmps65
    go_wp2
    go_returns
    exact ⟨_, rfl, by rw [HZ.out]; rfl, by go_grown⟩
  · have hn0 : ((n : Int) == 0) = false := by rw [beq_eq_false_iff_ne]; omega
    clear hp
    obtain ⟨s, hs⟩ : ∃ s, ng z = s := ⟨_, rfl⟩
    rw [hs]
    have HS := Lib.hid hs
    have HZ := Lib.hid h0
    clear hs h0
    cases s
    · go_enter Try.func65, Try.ntmps65
      go_wp2
      go_returns
      exact ⟨_, rfl, by rw [Int.sign_eq_one_of_pos (by have := HZ.out; have := HS.out; unfold ng at this; simp at this; omega)]; rfl, by go_grown⟩
    · go_enter Try.func65, Try.ntmps65
      go_wp2
      go_returns
      exact ⟨_, rfl, by rw [Int.sign_eq_neg_one_of_neg (by have := HS.out; unfold ng at this; simpa using this)]; rfl, by go_grown⟩
theorem sz_add (x y : Int) : sz (x + y) ≤ sz x + sz y + 1 := by
  unfold sz
  have h1 := dl_add B32 two_B32 x.natAbs y.natAbs (dl B32 x.natAbs + dl B32 y.natAbs) (by omega) (by omega)
  have h2 := dl_mono B32 two_B32 (x + y).natAbs (x.natAbs + y.natAbs) (Int.natAbs_add_le x y)
  omega
theorem sz_add_max (x y : Int) (s : Nat) (h : sz x ≤ s) (h' : sz y ≤ s) : sz (x + y) ≤ s + 1 := by
  unfold sz at *
  have h1 := dl_add B32 two_B32 x.natAbs y.natAbs s h h'
  have h2 := dl_mono B32 two_B32 (x + y).natAbs (x.natAbs + y.natAbs) (Int.natAbs_add_le x y)
  omega
theorem sz_mul (x y : Int) : sz (x * y) ≤ sz x + sz y := by
  unfold sz
  rw [Int.natAbs_mul]
  exact dl_mul B32 two_B32 _ _
theorem sz_neg (x : Int) : sz (-x) = sz x := by unfold sz; rw [Int.natAbs_neg]
theorem sz_sub (x y : Int) : sz (x - y) ≤ sz x + sz y + 1 := by
  have := sz_add x (-y)
  rw [sz_neg] at this
  exact this
/-- An int of Go's has at most two limbs. -/
theorem sz_small (x : Int) (h : -9223372036854775808 ≤ x) (h' : x ≤ 9223372036854775807) : sz x ≤ 2 := by
  unfold sz
  refine dl_le B32 two_B32 2 _ ?_
  have : B32 ^ 2 = 18446744073709551616 := by decide
  rw [this]; omega
theorem val_set_in (B : Nat) (cs : List Nat) (k t v : Nat) (hk : k < t) (ht : t ≤ cs.length) : val B ((cs.set k v).take t) + B ^ k * cs.getD k 0 = val B (cs.take t) + B ^ k * v := by
  have h1 := val_split B (cs.take t) k
  have h2 := val_split B ((cs.set k v).take t) k
  have e1 : (List.take k (List.take t cs)).length = k := by simp; omega
  have e2 : (List.take k (List.take t (cs.set k v))).length = k := by simp; omega
  rw [e1] at h1
  rw [e2] at h2
  have d1 := val_drop B (cs.take t) k (by simp; omega)
  have d2 := val_drop B ((cs.set k v).take t) k (by simp; omega)
  have g1 : (cs.take t).getD k 0 = cs.getD k 0 := by simp [List.getD, hk]
  have g2 : ((cs.set k v).take t).getD k 0 = v := by
    have : k < cs.length := by omega
    simp [List.getD, hk, this]
  have g3 : List.take k (List.take t (cs.set k v)) = List.take k (List.take t cs) := by
    rw [List.take_take, List.take_take, Nat.min_eq_left (by omega), List.take_set_of_le (by omega)]
  have g4 : List.drop (k + 1) (List.take t (cs.set k v)) = List.drop (k + 1) (List.take t cs) := by
    rw [List.drop_take, List.drop_take, List.drop_set_of_lt (by omega)]
  rw [g1] at d1
  rw [g2, g4] at d2
  rw [g3] at h2
  rw [h1, h2, d1, d2, Nat.mul_add, Nat.mul_add]
  omega
theorem mul_step (B k x y d c d' c' V V' P i : Nat) (ys : List Nat) (j : Nat) (hk : k = i + j) (hy : ys.getD j 0 = y) (h : V + c * B ^ k = P + x * B ^ i * val B (ys.take j)) (hv : V' + B ^ k * d = V + B ^ k * d') (hs : c' * B + d' = x * y + d + c) :
    V' + c' * B ^ (k + 1) = P + x * B ^ i * val B (ys.take (j + 1)) := by
  rw [val_take_succ', hy, Nat.mul_add]
  have h1 : B ^ k * (c' * B + d') = B ^ k * (x * y + d + c) := by rw [hs]
  rw [Nat.mul_add, Nat.mul_add, Nat.mul_add] at h1
  have h2 : c' * B ^ (k + 1) = B ^ k * (c' * B) := by rw [Nat.pow_succ, ← Nat.mul_assoc, Nat.mul_comm (c' * B ^ k) B, Nat.mul_comm (B ^ k), Nat.mul_comm c' B, Nat.mul_assoc]
  have h3 : x * B ^ i * (B ^ j * y) = B ^ k * (x * y) := by
    rw [hk, Nat.pow_add]
    rw [Nat.mul_comm x, Nat.mul_assoc, ← Nat.mul_assoc x, Nat.mul_comm x, Nat.mul_assoc, Nat.mul_assoc]
  have h4 : c * B ^ k = B ^ k * c := Nat.mul_comm _ _
  rw [h2, h3]
  omega
theorem mul_le_sq (x y : Nat) (hx : x < B32) (hy : y < B32) : x * y ≤ 18446744065119617025 := by
  unfold B32 at *
  calc x * y ≤ 4294967295 * 4294967295 := Nat.mul_le_mul (by omega) (by omega)
    _ = 18446744065119617025 := by decide

/-- What the rounds of Mul need: the digits, and the product so far. -/
structure MulInv (W0 : World) (G nm : Nat) (wr : World) (cs : List Nat) : Prop where
  held : Held G nm TU W0 wr
  blk : Blk wr G TU (cs.map U32).toArray
  len : cs.length = nm
  dg : Dg B32 cs
theorem MulInv.set_ {W0 wr : World} {G nm : Nat} {cs : List Nat} (h : MulInv W0 G nm wr cs) (j v : Nat) (hv : v < B32) : MulInv W0 G nm (wr.setCell ⟨G, j, none⟩ (U32 v)) (cs.set j v) :=
  ⟨h.held.set_ j _, blk_set h.blk j v, by simpa using h.len, h.dg.set_ j v hv⟩

set_option maxHeartbeats 3200000 in
theorem wmul_any (v v' : Value) (x y : Int) (w : World) (h : WI w v x) (h' : WI w v' y) (hs : sz x + sz y ≤ 1000000000000) :
    Calls Try.prog 40 #[v, v'] w (Ret (fun v w' => WI w' v (x * y)) w) := by
  obtain ⟨A, n, c, rfl, h⟩ := h
  obtain ⟨A', n', c', rfl, h'⟩ := h'
  have hn := h.le
  have hn' := h'.le
  have hc := h.cap
  have hc' := h'.cap
  have hl := h.len
  have hl' := h'.len
  simp only [L, List.length_map] at hl hl'
  have hsum : n + n' ≤ 1000000000000 := by unfold sz dl at hs; omega
  obtain ⟨xs, hxs⟩ : ∃ xs, digs B32 x.natAbs = xs := ⟨_, rfl⟩
  obtain ⟨ys, hys⟩ : ∃ ys, digs B32 y.natAbs = ys := ⟨_, rfl⟩
  have hvx : val B32 xs = x.natAbs := by rw [← hxs]; exact val_digs B32 two_B32 _
  have hvy : val B32 ys = y.natAbs := by rw [← hys]; exact val_digs B32 two_B32 _
  have hdx : Dg B32 xs := by rw [← hxs]; exact digs_dg B32 two_B32 _
  have hdy : Dg B32 ys := by rw [← hys]; exact digs_dg B32 two_B32 _
  unfold L at h h'
  rw [hxs] at h hl
  rw [hys] at h' hl'
  have H := Lib.hid h
  have H' := Lib.hid h'
  have HL := Lib.hid hl
  have HL' := Lib.hid hl'
  have HVX := Lib.hid hvx
  have HVY := Lib.hid hvy
  have HDX := Lib.hid hdx
  have HDY := Lib.hid hdy
  clear h h' hl hl' hvx hvy hdx hdy hxs hys hs
  obtain ⟨s, hsx⟩ : ∃ s, ng x = s := ⟨_, rfl⟩
  obtain ⟨s', hsy⟩ : ∃ s, ng y = s := ⟨_, rfl⟩
  have HN : Hid ((s != s') = ng (x * y) ∨ x * y = 0) := by
    show (s != s') = ng (x * y) ∨ x * y = 0
    rw [← hsx, ← hsy]
    unfold ng
    by_cases hx0 : x = 0
    · right; rw [hx0, Int.zero_mul]
    by_cases hy0 : y = 0
    · right; rw [hy0, Int.mul_zero]
    left
    by_cases hx : x < 0 <;> by_cases hy : y < 0
    · have := Int.mul_pos_of_neg_of_neg hx hy
      simp [hx, hy]; omega
    · have := Int.mul_neg_of_neg_of_pos hx (show 0 < y by omega)
      simp [hx, hy, this]
    · have := Int.mul_neg_of_pos_of_neg (show 0 < x by omega) hy
      simp [hx, hy, this]
    · have := Int.mul_pos (show 0 < x by omega) (show 0 < y by omega)
      simp [hx, hy]; omega
  rw [hsx, hsy]
  clear hsx hsy
  have hmk := make_u32 (n + n') ((n : Int) + (n' : Int)) (by omega) (by omega)
  go_enter Try.func40, Try.ntmps40
  go_wp2
  refine wp_world (fun W0 => Blk W0 w.heap.size TI #[.bool s, .slice A n c] ∧ Blk W0 (w.heap.size + 1) TI #[.bool s', .slice A' n' c'] ∧ Blk W0 (w.heap.size + 1 + 1) TI #[.bool false, .slice none 0 0] ∧ Blk W0 (w.heap.size + 1 + 1 + 1) TU (zer (n + n')) ∧ Below w.heap.size w W0) (by exact ⟨(((Blk.new_ _ _ rfl).alloc _).alloc _).alloc _, ((Blk.new_ _ _ (by simp)).alloc _).alloc _, (Blk.new_ _ _ (by simp)).alloc _, Blk.new_ _ _ (by simp), by go_grown⟩) ?_
  rintro W0 ⟨b0, b1, b2, b3, hbw⟩
  clear hmk
  have k1 := fun w' (hh : Held (w.heap.size + 1 + 1 + 1) (n + n') TU W0 w') => (b1.held hh (by omega)).cells
  simp only [cellsAre, Nat.zero_add, Nat.reduceAdd, and_true] at k1
  have B0 := Lib.hid b0
  have B1 := Lib.hid b1
  have B2 := Lib.hid b2
  have K1 := Lib.hid k1
  have hst : Held (w.heap.size + 1 + 1 + 1) (n + n') TU W0 W0 := by have := b3.heldS; simpa [zer] using this
  have I0 : MulInv W0 (w.heap.size + 1 + 1 + 1) (n + n') W0 (List.replicate (n + n') 0) := ⟨hst, b3, by simp, Dg.replicate (by unfold B32; omega) _⟩
  have HI0 := Lib.hid I0
  clear b0 b1 b2 b3 k1 hst I0
  go_loopw [23] (fun i wr => ∃ (k : Nat) (cs : List Nat), k ≤ n ∧ i = .int .i64 k ∧ MulInv W0 (w.heap.size + 1 + 1 + 1) (n + n') wr cs ∧ val B32 (cs.take (k + n')) = val B32 (xs.take k) * val B32 ys) (fun i _ => n - (intOf i).toNat)
  case atStart => exact ⟨0, List.replicate (n + n') 0, Nat.zero_le _, rfl, HI0.out, by simp [val, val_zeros]⟩
  case round =>
    obtain ⟨i, cs, hi, rfl, hI, hv⟩ := hrel
    obtain ⟨wo, rfl⟩ : ∃ wo : World, wo = wr := ⟨_, rfl⟩
    have HI := Lib.hid hI
    have HV := Lib.hid hv
    clear hI hv
    obtain ⟨e10, e11⟩ := K1.out wo HI.out.held
    by_cases hin : i < n
    · obtain ⟨b, o, rfl, hcell⟩ := H.out.at_u32 (by omega)
      have hcx : wo.cell? ⟨b, o + i, none⟩ = some (.int .u32 ((xs.getD i 0 : Nat) : Int)) := by
        rw [(HI.out.held.below hbw (by omega)).cell (p := ⟨b, o + i, none⟩) (World.block_lt_of_cell? w _ (hcell i hin))]
        exact hcell i hin
      clear hcell
      have hd1 := HDX.out.getD (by unfold B32; omega) i
      obtain ⟨dx, hdx⟩ : ∃ d, xs.getD i 0 = d := ⟨_, rfl⟩
      rw [hdx] at hcx hd1
      have HDXI := Lib.hid hdx
      have HD1 := Lib.hid hd1
      clear hdx hd1
      go_wp2
      clear e10 e11 hcx
      go_loopw [8, 31] (fun cy jj wr => ∃ (j cr : Nat) (ds : List Nat), j ≤ n' ∧ cr < B32 ∧ jj = .int .i64 j ∧ cy = .int .u64 cr ∧ MulInv W0 (w.heap.size + 1 + 1 + 1) (n + n') wr ds ∧ val B32 (ds.take (i + n')) + cr * B32 ^ (i + j) = val B32 (cs.take (i + n')) + dx * B32 ^ i * val B32 (ys.take j)) (fun _ jj _ => n' - (intOf jj).toNat)
      case atStart => exact ⟨0, 0, cs, Nat.zero_le _, by unfold B32; omega, rfl, rfl, HI.out, by simp [val]⟩
      case round =>
        obtain ⟨j, cr, ds, hj, hcr, rfl, rfl, hJ, hvj⟩ := hrel
        obtain ⟨wi, rfl⟩ : ∃ wi : World, wi = wr := ⟨_, rfl⟩
        have HJ := Lib.hid hJ
        have HVJ := Lib.hid hvj
        have HCR := Lib.hid hcr
        unfold B32 at hcr
        clear hJ hvj
        obtain ⟨f10, f11⟩ := K1.out wi HJ.out.held
        by_cases hjn : j < n'
        · obtain ⟨b', o', rfl, hcell'⟩ := H'.out.at_u32 (by omega)
          have hcy : wi.cell? ⟨b', o' + j, none⟩ = some (.int .u32 ((ys.getD j 0 : Nat) : Int)) := by
            rw [(HJ.out.held.below hbw (by omega)).cell (p := ⟨b', o' + j, none⟩) (World.block_lt_of_cell? w _ (hcell' j hjn))]
            exact hcell' j hjn
          clear hcell'
          have hd2 := HDY.out.getD (by unfold B32; omega) j
          have hd3 := HJ.out.dg.getD (by unfold B32; omega) (i + j)
          have hcg := blk_cell HJ.out.blk (j := i + j) (by rw [HJ.out.len]; omega)
          have hfr := HJ.out.blk.free (i + j)
          obtain ⟨dy, hdy⟩ : ∃ d, ys.getD j 0 = d := ⟨_, rfl⟩
          obtain ⟨d, hd⟩ : ∃ d, ds.getD (i + j) 0 = d := ⟨_, rfl⟩
          rw [hdy] at hcy hd2
          rw [hd] at hcg hd3
          have HDYJ := Lib.hid hdy
          have HD := Lib.hid hd
          have HD2 := Lib.hid hd2
          have hq := mul_le_sq dx dy HD1.out hd2
          unfold B32 at hd3
          clear hdy hd hd2
          have hq1 : (dx : Int) * (dy : Int) ≤ 18446744065119617025 := by
            have : ((dx * dy : Nat) : Int) ≤ 18446744065119617025 := by omega
            simpa using this
          have hq0 : (0 : Int) ≤ (dx : Int) * (dy : Int) := by
            have : (0 : Int) ≤ ((dx * dy : Nat) : Int) := by omega
            simpa using this
          have e0 : (dx : Int) * (dy : Int) + (d : Int) + (cr : Int) = ((dx * dy + d + cr : Nat) : Int) := by simp
          obtain ⟨t, ht⟩ : ∃ t, dx * dy + d + cr = t := ⟨_, rfl⟩
          have e1 : ((dx : Int) * (dy : Int) + (d : Int) + (cr : Int)) % 4294967296 = ((t % B32 : Nat) : Int) := by rw [e0, ht, B32_eq]; omega
          have e2 : ((dx : Int) * (dy : Int) + (d : Int) + (cr : Int)) / 4294967296 = ((t / B32 : Nat) : Int) := by rw [e0, ht, B32_eq]; omega
          have hlt2 : t / B32 < B32 := by rw [B32_eq]; omega
          have HT := Lib.hid ht
          have E1 := Lib.hid e1
          have E2 := Lib.hid e2
          have HLT2 := Lib.hid hlt2
          clear e0 e1 e2 hq hlt2 ht
          have hd1 := HD1.out
          have hd2 := HD2.out
          rw [B32_eq] at hd1 hd2
          go_wp2
          rw [E1.out, E2.out]
          go_roundw
          case rel => exact ⟨j + 1, t / B32, ds.set (i + j) (t % B32), by omega, HLT2.out, by go_num, rfl, HJ.out.set_ _ _ (Nat.mod_lt _ (by unfold B32; omega)), by
            rw [← Nat.add_assoc]
            exact mul_step B32 (i + j) dx dy d cr _ _ _ _ _ i ys j rfl HDYJ.out HVJ.out (by have := val_set_in B32 ds (i + j) (i + n') (t % B32) (by omega) (by rw [HJ.out.len]; omega); rw [HD.out] at this; exact this) (by have := Nat.div_add_mod t B32; have h2 := HT.out; rw [Nat.mul_comm]; omega)⟩
          case measure => simp [intOf]; omega
        · have : j = n' := by omega
          subst this
          have hcg := blk_cell HJ.out.blk (j := i + j) (by rw [HJ.out.len]; omega)
          have hfr := HJ.out.blk.free (i + j)
          have e1 : (cr : Int) % 4294967296 = (cr : Int) := by omega
          have E1 := Lib.hid e1
          clear e1
          go_wp2
          go_roundw
          case rel =>
            refine ⟨i + 1, ds.set (i + j) cr, by omega, by go_num, HJ.out.set_ _ _ HCR.out, ?_⟩
            have h1 := HVJ.out
            rw [HV.out] at h1
            have h2 := val_set_take B32 ds (i + j) cr (by rw [HJ.out.len]; omega)
            rw [show i + 1 + j = i + j + 1 by omega, h2, val_take_succ', HDXI.out, Nat.add_mul]
            have h3 : val B32 (ys.take j) = val B32 ys := by rw [List.take_of_length_le (by have := HL'.out; omega)]
            rw [h3] at h1
            have h4 : B32 ^ (i + j) * cr = cr * B32 ^ (i + j) := Nat.mul_comm _ _
            have h5 : B32 ^ i * dx * val B32 ys = dx * B32 ^ i * val B32 ys := by rw [Nat.mul_comm (B32 ^ i)]
            omega
          case measure => simp [intOf]; omega
    · have : i = n := by omega
      subst this
      go_wp2
      have hbo := HI.out.held.below hbw (by omega)
      have b0 := B0.out.held HI.out.held (by omega)
      have b1 := B1.out.held HI.out.held (by omega)
      have b2 := B2.out.held HI.out.held (by omega)
      have k0 := fun w' (hh : Held (w.heap.size + 1 + 1) 2 TI wo w') => (b0.held hh (by omega)).cells
      have k1 := fun w' (hh : Held (w.heap.size + 1 + 1) 2 TI wo w') => (b1.held hh (by omega)).cells
      have hst : Held (w.heap.size + 1 + 1) 2 TI wo wo.drew := b2.heldS.drew
      simp only [cellsAre, Nat.zero_add, Nat.reduceAdd, and_true] at k0 k1
      have r1 := (rules (w.heap.size + 1 + 1) 2 TI wo).some
      have r2 := (rules (w.heap.size + 1 + 1) 2 TI wo).free
      have hsl := Blk.sl HI.out.blk rfl (by simp [HI.out.len]; omega)
      have hlen : (cs.map U32).length = i + n' := by simp [HI.out.len]
      rw [hlen] at hsl
      have hval : val B32 cs = (x * y).natAbs := by
        have e0 := HV.out
        rw [List.take_of_length_le (by have := HI.out.len; omega), List.take_of_length_le (by have := HL.out; omega), HVX.out, HVY.out, ← Int.natAbs_mul] at e0
        exact e0
      have HSL := Lib.hid hsl
      have HVAL := Lib.hid hval
      clear b0 b1 b2 e10 e11 hsl hval hlen
      go_region_held3 (fun w' => Held (w.heap.size + 1 + 1) 2 TI wo w') (first | assumption | exact Held.trans_ (by assumption) (by assumption) | exact Held.set_ (Held.set_ (by assumption) _ _) _ _)
        (first | (go_at_call 61; refine (trim_any _ _ _ cs _ (HSL.out.below (Below.refl _ _).drew) HI.out.dg).mono ?_; rintro e w1 ⟨⟨v1, rfl, ⟨A1, n1, c1, rfl, h1⟩⟩, rfl⟩; rw [HVAL.out] at h1) | (go_at_call 45; refine (made_any _ _ _ _ _ (x * y) _ h1 rfl HN.out).mono ?_; rintro e w2 ⟨v2, rfl, ⟨A2, n2, c2, rfl, h2⟩, hb2⟩))
      have hh2 : Held (w.heap.size + 1 + 1) 2 TI wo w2 := hst.trans_ hb2
      go_wp2
      (try simp only [Exit.inBlock, Exit.then])
      refine bodyPost_ret (v := .agg #[.bool (ng (x * y)), .slice A2 n2 c2]) (by simp [results, Try.results40, go_sem, r1 _ hh2]) rfl ?_
      have hst2 := Held.set_ (Held.set_ hh2.here 0 (.bool (ng (x * y)))) 1 (.slice A2 n2 c2)
      exact ⟨_, rfl, ⟨A2, n2, c2, rfl, h2.held hst2 (by decide)⟩, (hh2.trans2 hst2).below hbo (by omega)⟩
end Go.Proofs.Tb
