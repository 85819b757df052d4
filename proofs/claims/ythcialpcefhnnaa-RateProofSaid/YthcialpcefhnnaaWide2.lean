/- Contracts of package wide: Of, small. (With what follows it, in one text.) -/
import Derived.Test.YthcialpcefhnnaaWide1
set_option linter.unusedVariables false
set_option linter.unusedSimpArgs false
/- Contracts of package wide: Of, small. -/
namespace Go.Proofs.Tb
open Go.RowKit
attribute [local go_sem] cell_set_same

/-- A block of two limbs, as Of and divided make them. -/
theorem two_sl {W : World} {g : Nat} {a b : Int} {m : Nat} (h : Blk W g TU #[.int .u32 a, .int .u32 b]) (ha : a = ((m % B32 : Nat) : Int)) (hb : b = ((m / B32 : Nat) : Int)) :
    Sl TU W (some ⟨g, 0, none⟩) 2 2 ([m % B32, m / B32].map U32) := by
  subst ha hb
  exact Blk.sl (xs := [m % B32, m / B32].map U32) h (by simp [U32]) (by simp)
theorem two_dg (m : Nat) (hm : m < 18446744073709551616) : Dg B32 [m % B32, m / B32] ∧ val B32 [m % B32, m / B32] = m := by
  refine ⟨fun x hx => ?_, ?_⟩
  · simp only [List.mem_cons, List.not_mem_nil, or_false] at hx
    rw [B32_eq] at hx ⊢
    rcases hx with rfl | rfl <;> omega
  · simp only [val]
    rw [B32_eq]; omega

set_option maxHeartbeats 800000 in
theorem wof_any (n : Int) (w : World) (h : -9223372036854775808 ≤ n) (h' : n ≤ 9223372036854775807) :
    Calls Try.prog 38 #[.int .i64 n] w (Ret (fun v w' => WI w' v n) w) := by
  obtain ⟨m, hm⟩ : ∃ m, n.natAbs = m := ⟨_, rfl⟩
  have hm64 : m < 18446744073709551616 := by omega
  have HD := Lib.hid (two_dg m hm64)
  have HM := Lib.hid hm
  by_cases h0 : n < 0
  · have e1 : IntKind.u64.wrap (-IntKind.u64.wrap n) = (m : Int) := by simp only [IntKind.wrap_u64]; omega
    have E1 := Lib.hid e1
    clear e1 hm hm64
    go_enter Try.func38, Try.ntmps38
    go_wp2_with fail
    rw [E1.out]
    have hblk : Blk ((w.alloc (.cells #[.bool false, .slice none 0 0] TI)).alloc (.cells #[.int .u32 ((m : Int) % 4294967296), .int .u32 ((m : Int) / 4294967296 % 4294967296)] TU)) (w.heap.size + 1) TU #[.int .u32 ((m : Int) % 4294967296), .int .u32 ((m : Int) / 4294967296 % 4294967296)] := Blk.new_ _ _ (by simp)
    have hbw : Below w.heap.size w ((w.alloc (.cells #[.bool false, .slice none 0 0] TI)).alloc (.cells #[.int .u32 ((m : Int) % 4294967296), .int .u32 ((m : Int) / 4294967296 % 4294967296)] TU)) := by go_grown
    have hres : Blk ((w.alloc (.cells #[.bool false, .slice none 0 0] TI)).alloc (.cells #[.int .u32 ((m : Int) % 4294967296), .int .u32 ((m : Int) / 4294967296 % 4294967296)] TU)) w.heap.size TI #[.bool false, .slice none 0 0] := (Blk.new_ _ _ rfl).alloc _
    have hsl := two_sl (m := m) hblk (by rw [B32_eq]; have := HM.out; omega) (by rw [B32_eq]; have := HM.out; omega)
    refine (trim_any _ _ _ _ _ hsl HD.out.1).mono ?_
    rintro e w1 ⟨⟨v1, rfl, ⟨A1, n1, c1, rfl, h1⟩⟩, hw1⟩
    rw [HD.out.2] at h1
    rw [hw1] at h1 hbw hres
    have hst := hres.heldS
    clear hblk hsl hw1 hres
    have r1 := (rules w.heap.size 2 TI w1).some
    have r2 := (rules w.heap.size 2 TI w1).free
    have hst : Held w.heap.size 2 TI w1 w1 := hst
    go_wp2
    (try simp only [Exit.inBlock, Exit.then])
    refine bodyPost_ret (v := .agg #[.bool true, .slice A1 n1 c1]) (by simp [results, Try.results38, go_sem, r1 _ hst]) rfl ?_
    have hst2 := Held.set_ (Held.set_ hst 0 (.bool true)) 1 (.slice A1 n1 c1)
    refine ⟨_, rfl, ⟨A1, n1, c1, ?_, ?_⟩, hst2.below hbw (Nat.le_refl _)⟩
    · congr; unfold ng; simp; omega
    · rw [HM.out]; exact h1.held hst2 (by decide)
  · clear hm hm64
    go_enter Try.func38, Try.ntmps38
    go_wp2_with fail
    have hblk : Blk ((w.alloc (.cells #[.bool false, .slice none 0 0] TI)).alloc (.cells #[.int .u32 (n % 4294967296), .int .u32 (n / 4294967296)] TU)) (w.heap.size + 1) TU #[.int .u32 (n % 4294967296), .int .u32 (n / 4294967296)] := Blk.new_ _ _ (by simp)
    have hbw : Below w.heap.size w ((w.alloc (.cells #[.bool false, .slice none 0 0] TI)).alloc (.cells #[.int .u32 (n % 4294967296), .int .u32 (n / 4294967296)] TU)) := by go_grown
    have hres : Blk ((w.alloc (.cells #[.bool false, .slice none 0 0] TI)).alloc (.cells #[.int .u32 (n % 4294967296), .int .u32 (n / 4294967296)] TU)) w.heap.size TI #[.bool false, .slice none 0 0] := (Blk.new_ _ _ rfl).alloc _
    have hsl := two_sl (m := m) hblk (by rw [B32_eq]; have := HM.out; omega) (by rw [B32_eq]; have := HM.out; omega)
    refine (trim_any _ _ _ _ _ hsl HD.out.1).mono ?_
    rintro e w1 ⟨⟨v1, rfl, ⟨A1, n1, c1, rfl, h1⟩⟩, hw1⟩
    rw [HD.out.2] at h1
    rw [hw1] at h1 hbw hres
    have hst := hres.heldS
    clear hblk hsl hw1 hres
    have r1 := (rules w.heap.size 2 TI w1).some
    have r2 := (rules w.heap.size 2 TI w1).free
    have hst : Held w.heap.size 2 TI w1 w1 := hst
    go_wp2
    (try simp only [Exit.inBlock, Exit.then])
    refine bodyPost_ret (v := .agg #[.bool false, .slice A1 n1 c1]) (by simp [results, Try.results38, go_sem, r1 _ hst]) rfl ?_
    have hst2 := Held.set_ (Held.set_ hst 0 (.bool false)) 1 (.slice A1 n1 c1)
    refine ⟨_, rfl, ⟨A1, n1, c1, ?_, ?_⟩, hst2.below hbw (Nat.le_refl _)⟩
    · congr; unfold ng; simp; omega
    · rw [HM.out]; exact h1.held hst2 (by decide)

set_option maxHeartbeats 800000 in
theorem small_more (A : Option Addr) (n c : Nat) (w : World) (hn : 2 < n) (hc : n ≤ 9223372036854775807) :
    Calls Try.prog 66 #[.slice A n c] w (fun e w' => e = .returned (.tuple #[.int .u64 0, .bool false]) ∧ w = w') := by
  go_enter Try.func66, Try.ntmps66
  go_wp2
  go_returns
  exact ⟨rfl, rfl⟩
set_option maxHeartbeats 800000 in
theorem small0 (A : Option Addr) (c : Nat) (w : World) :
    Calls Try.prog 66 #[.slice A 0 c] w (fun e w' => e = .returned (.tuple #[.int .u64 0, .bool true]) ∧ w = w') := by
  go_enter Try.func66, Try.ntmps66
  go_wp2
  go_rounds 1
  go_returns
  exact ⟨rfl, rfl⟩
theorem or0_64 (x : Nat) (hx : x < 4294967296) : bits BinOp.or IntKind.u64 0 (x : Int) = (x : Int) := by
  have := u64_or_nat 0 x (by omega) (by omega)
  simpa using this
theorem or_64 (x y : Nat) (hx : x < 4294967296) (hy : y < 4294967296) : bits BinOp.or IntKind.u64 (x : Int) ((y : Int) * 4294967296) = ((x + 4294967296 * y : Nat) : Int) := by
  have e : ((y : Int) * 4294967296) = ((4294967296 * y : Nat) : Int) := by omega
  rw [e, u64_or_nat x (4294967296 * y) (by omega) (by omega)]
  have := Nat.two_pow_add_eq_or_of_lt (i := 32) (b := x) hx y
  rw [show (2 : Nat) ^ 32 = 4294967296 by decide] at this
  rw [Nat.or_comm, ← this, Nat.add_comm]
set_option maxHeartbeats 800000 in
theorem small1 (b o c x : Nat) (w : World) (hx : x < 4294967296) (h1 : w.cell? ⟨b, o, none⟩ = some (.int .u32 x)) :
    Calls Try.prog 66 #[.slice (some ⟨b, o, none⟩) 1 c] w (fun e w' => e = .returned (.tuple #[.int .u64 x, .bool true]) ∧ w = w') := by
  have E := Lib.hid (or0_64 x hx)
  go_enter Try.func66, Try.ntmps66
  go_wp2
  go_rounds 2
  rw [E.out]
  go_returns
  exact ⟨rfl, rfl⟩
set_option maxHeartbeats 800000 in
theorem small2 (b o c x y : Nat) (w : World) (hx : x < 4294967296) (hy : y < 4294967296) (h1 : w.cell? ⟨b, o, none⟩ = some (.int .u32 x)) (h2 : w.cell? ⟨b, o + 1, none⟩ = some (.int .u32 y)) :
    Calls Try.prog 66 #[.slice (some ⟨b, o, none⟩) 2 c] w (fun e w' => e = .returned (.tuple #[.int .u64 (x + 4294967296 * y : Nat), .bool true]) ∧ w = w') := by
  have E := Lib.hid (or0_64 x hx)
  have E2 := Lib.hid (or_64 x y hx hy)
  go_enter Try.func66, Try.ntmps66
  go_wp2
  go_rounds 3
  rw [E.out, E2.out]
  go_returns
  exact ⟨rfl, rfl⟩
/-- What small returns of a size m with n limbs. -/
theorem small_any (A : Option Addr) (n c m : Nat) (w : World) (h : Sl TU w A n c (L m)) :
    Calls Try.prog 66 #[.slice A n c] w (fun e w' => ∃ (k : Nat) (b : Bool), e = .returned (.tuple #[.int .u64 k, .bool b]) ∧ (b = true → k = m ∧ m < 18446744073709551616) ∧ (b = false → 18446744073709551616 ≤ m) ∧ w = w') := by
  have hl := h.len
  have hc := h.cap
  have hle := h.le
  simp only [L, List.length_map] at hl
  have hv := val_digs B32 two_B32 m
  have hd := digs_dg B32 two_B32 m
  by_cases h2 : 2 < n
  · refine (small_more A n c w h2 (by omega)).mono ?_
    rintro e w' ⟨he, hw⟩
    refine ⟨0, false, he, (fun h => by cases h), fun _ => ?_, hw⟩
    have := pow_le_of_dl B32 two_B32 m 2 (by unfold dl; omega)
    rw [show B32 ^ 2 = 18446744073709551616 by decide] at this
    exact this
  · obtain ⟨xs, hxs⟩ : ∃ xs, digs B32 m = xs := ⟨_, rfl⟩
    unfold L at h
    rw [hxs] at h hl hv hd
    match xs, hl with
    | [], hl =>
      simp at hl; subst hl
      simp [val] at hv
      refine (small0 A c w).mono ?_
      rintro e w' ⟨he, hw⟩
      exact ⟨0, true, he, fun _ => ⟨hv, by omega⟩, (fun h => by cases h), hw⟩
    | [x], hl =>
      simp at hl; subst hl
      simp [val] at hv
      obtain ⟨b, o, rfl, hcell⟩ := h.at_u32 (by omega)
      have hx := hd x (by simp)
      rw [B32_eq] at hx
      refine (small1 b o c x w hx (hcell 0 (by omega))).mono ?_
      rintro e w' ⟨he, hw⟩
      exact ⟨x, true, he, fun _ => ⟨hv, by omega⟩, (fun h => by cases h), hw⟩
    | [x, y], hl =>
      simp at hl; subst hl
      simp [val] at hv
      obtain ⟨b, o, rfl, hcell⟩ := h.at_u32 (by omega)
      have hx := hd x (by simp)
      have hy := hd y (by simp)
      rw [B32_eq] at hx hy hv
      refine (small2 b o c x y w hx hy (hcell 0 (by omega)) (hcell 1 (by omega))).mono ?_
      rintro e w' ⟨he, hw⟩
      exact ⟨_, true, he, fun _ => ⟨hv, by omega⟩, (fun h => by cases h), hw⟩
    | x :: y :: z :: t, hl => simp at hl; omega
end Go.Proofs.Tb
/- Contracts of package wide: division bit by bit. -/
namespace Go.Proofs.Tb
open Go.RowKit
attribute [local go_sem] cell_set_same

/-- The slice does not lie in block G. -/
def Off (G : Nat) (A : Option Addr) : Prop := ∀ a, A = some a → a.block ≠ G
theorem Sl.far {T : TypeId} {w : World} {A : Option Addr} {n c G : Nat} {xs : List Value} (h : Sl T w A n c xs) (ho : Off G A) (j : Nat) (u : Value) : Sl T (w.setCell ⟨G, j, none⟩ u) A n c xs := by
  refine ⟨h.len, h.le, h.cap, fun hn => ?_⟩
  obtain ⟨b, o, hA, ⟨cs, fr, hT⟩, hc⟩ := h.at_ hn
  have hb : b ≠ G := ho _ hA
  refine ⟨b, o, hA, ⟨cs, fr, (Below.heap_setCell _ _ _ _ hb).trans hT⟩, fun j' hj => ?_⟩
  rw [World.cell?_setCell_other w ⟨G, j, none⟩ ⟨b, o + j', none⟩ u (fun e => by injection e; omega)]
  exact hc j' hj

theorem MulInv.below_ {W0 wr w' : World} {G nm : Nat} {cs : List Nat} (h : MulInv W0 G nm wr cs) (hb : Below wr.heap.size wr w') : MulInv W0 G nm w' cs :=
  ⟨h.held.trans_ hb, h.blk.below hb, h.len, h.dg⟩
theorem bit_dig (B32s m i d : Nat) (xs : List Nat) (hB : B32s = 4294967296) (hx : Dg B32s xs) (hv : val B32s xs = m) (hd : xs.getD (i / 32) 0 = d) : d / 2 ^ (i % 32) % 2 = m / 2 ^ i % 2 := by
  subst hB
  have h1 := val_split 4294967296 xs (i / 32)
  by_cases hl : i / 32 < xs.length
  · have e1 : (xs.take (i / 32)).length = i / 32 := by simp; omega
    rw [e1, val_drop _ _ _ hl, hd, hv] at h1
    have h2 := val_lt 4294967296 _ (hx.take (i / 32))
    rw [e1] at h2
    have e2 : (4294967296 : Nat) ^ (i / 32) = 2 ^ (32 * (i / 32)) := by rw [Nat.pow_mul]
    have e3 : 2 ^ i = 2 ^ (32 * (i / 32)) * 2 ^ (i % 32) := by rw [← Nat.pow_add]; congr 1; omega
    rw [e3, ← Nat.div_div_eq_div_mul, ← e2, h1]
    rw [Nat.add_mul_div_left _ _ (Nat.pow_pos (by omega)), Nat.div_eq_of_lt h2, Nat.zero_add]
    obtain ⟨q, hq⟩ : ∃ q, val 4294967296 (xs.drop (i / 32 + 1)) = q := ⟨_, rfl⟩
    rw [hq]
    have e4 : (4294967296 : Nat) * q = 2 ^ (i % 32) * (2 * (2 ^ (31 - i % 32) * q)) := by
      have : (4294967296 : Nat) = 2 ^ (i % 32) * (2 * 2 ^ (31 - i % 32)) := by
        rw [← Nat.pow_succ', ← Nat.pow_add]
        have : i % 32 + (31 - i % 32).succ = 32 := by omega
        rw [this]
      rw [this]
      simp only [Nat.mul_assoc]
    rw [e4, Nat.add_mul_div_left _ _ (Nat.pow_pos (by omega))]
    omega
  · have hd0 : d = 0 := by rw [← hd]; simp [List.getD, Nat.le_of_not_lt hl]
    subst hd0
    have h2 := val_lt 4294967296 _ hx
    rw [hv] at h2
    have h3 : (4294967296 : Nat) ^ xs.length ≤ 2 ^ i := by
      rw [show (4294967296 : Nat) = 2 ^ 32 by decide, ← Nat.pow_mul]
      exact Nat.pow_le_pow_right (by omega) (by omega)
    have e : m / 2 ^ i = 0 := Nat.div_eq_of_lt (by omega)
    rw [e, Nat.zero_div]
theorem low_zero (m i d q : Nat) (xs : List Nat) (hx : Dg 4294967296 xs) (hl : i / 32 < xs.length) (hv : val 4294967296 xs = q * 2 ^ (i + 1)) (hd : xs.getD (i / 32) 0 = d) : d % 2 ^ (i % 32 + 1) = 0 := by
  have h1 := val_split 4294967296 xs (i / 32)
  have e1 : (xs.take (i / 32)).length = i / 32 := by simp; omega
  rw [e1, val_drop _ _ _ hl, hd, hv] at h1
  have h2 := val_lt 4294967296 _ (hx.take (i / 32))
  rw [e1] at h2
  have e2 : (4294967296 : Nat) ^ (i / 32) = 2 ^ (32 * (i / 32)) := by rw [Nat.pow_mul]
  have e3 : 2 ^ (i + 1) = 2 ^ (32 * (i / 32)) * 2 ^ (i % 32 + 1) := by rw [← Nat.pow_add]; congr 1; omega
  rw [e2] at h1 h2
  rw [e3] at h1
  obtain ⟨r, hr⟩ : ∃ r, val 4294967296 (xs.drop (i / 32 + 1)) = r := ⟨_, rfl⟩
  obtain ⟨lo, hlo⟩ : ∃ r, val 4294967296 (xs.take (i / 32)) = r := ⟨_, rfl⟩
  rw [hr, hlo] at h1
  rw [hlo] at h2
  have hp : 0 < 2 ^ (32 * (i / 32)) := Nat.pow_pos (by omega)
  have h3 : (q * (2 ^ (32 * (i / 32)) * 2 ^ (i % 32 + 1))) / 2 ^ (32 * (i / 32)) = d + 4294967296 * r := by
    rw [h1, Nat.add_mul_div_left _ _ hp, Nat.div_eq_of_lt h2, Nat.zero_add]
  have h4 : q * (2 ^ (32 * (i / 32)) * 2 ^ (i % 32 + 1)) = 2 ^ (32 * (i / 32)) * (q * 2 ^ (i % 32 + 1)) := by
    rw [← Nat.mul_assoc, Nat.mul_comm q, Nat.mul_assoc]
  rw [h4, Nat.mul_div_cancel_left _ hp] at h3
  have e4 : (4294967296 : Nat) = 2 ^ (i % 32 + 1) * 2 ^ (31 - i % 32) := by
    rw [← Nat.pow_add]
    have : i % 32 + 1 + (31 - i % 32) = 32 := by omega
    rw [this]
  rw [e4, Nat.mul_assoc] at h3
  have h5 : (d + 2 ^ (i % 32 + 1) * (2 ^ (31 - i % 32) * r)) % 2 ^ (i % 32 + 1) = 0 := by rw [← h3]; exact Nat.mul_mod_left _ _
  rwa [Nat.add_mul_mod_self_left] at h5
theorem or_bit (d s : Nat) (hd : d < 4294967296) (hs : s < 32) (h0 : d % 2 ^ (s + 1) = 0) : bits BinOp.or IntKind.u32 (d : Int) (2 ^ s % 4294967296) = ((d + 2 ^ s : Nat) : Int) ∧ d + 2 ^ s < 4294967296 := by
  have h1 : 2 ^ s < 4294967296 := by
    have : 2 ^ s < 2 ^ 32 := Nat.pow_lt_pow_right (by omega) hs
    simpa using this
  have e : ((2 : Int) ^ s % 4294967296) = ((2 ^ s : Nat) : Int) := by
    have : ((2 : Int) ^ s) = ((2 ^ s : Nat) : Int) := by simp
    rw [this]; omega
  have h2 := Nat.two_pow_add_eq_or_of_lt (i := s + 1) (b := 2 ^ s) (Nat.pow_lt_pow_right (by omega) (by omega)) (d / 2 ^ (s + 1))
  have h3 : 2 ^ (s + 1) * (d / 2 ^ (s + 1)) = d := by have := Nat.div_add_mod d (2 ^ (s + 1)); omega
  rw [h3] at h2
  refine ⟨by rw [e, u32_or_nat d _ hd h1, ← h2], ?_⟩
  rw [h2]
  exact lt32_or _ _ hd h1
theorem set_bit (i d q : Nat) (xs : List Nat) (hl : i / 32 < xs.length) (hv : val 4294967296 xs = q * 2 ^ (i + 1)) (hd : xs.getD (i / 32) 0 = d) : val 4294967296 (xs.set (i / 32) (d + 2 ^ (i % 32))) = (2 * q + 1) * 2 ^ i := by
  have h := val_set_in 4294967296 xs (i / 32) xs.length (d + 2 ^ (i % 32)) hl (Nat.le_refl _)
  rw [List.take_of_length_le (by simp), List.take_length, hd, hv, Nat.mul_add] at h
  have e2 : (4294967296 : Nat) ^ (i / 32) * 2 ^ (i % 32) = 2 ^ i := by
    rw [show (4294967296 : Nat) = 2 ^ 32 by decide, ← Nat.pow_mul, ← Nat.pow_add]; congr 1; omega
  rw [e2] at h
  have e3 : 2 ^ (i + 1) = 2 * 2 ^ i := by rw [Nat.pow_succ, Nat.mul_comm]
  rw [e3] at h
  rw [Nat.add_mul, Nat.one_mul, Nat.mul_comm 2 q, Nat.mul_assoc]
  omega
theorem bit_test (d s : Nat) (hd : d < 4294967296) : bits BinOp.and IntKind.u32 ((d : Int) / 2 ^ s) 1 = ((d / 2 ^ s % 2 : Nat) : Int) := by
  have e : (d : Int) / 2 ^ s = ((d / 2 ^ s : Nat) : Int) := by simp
  have h1 : d / 2 ^ s < 4294967296 := Nat.lt_of_le_of_lt (Nat.div_le_self _ _) hd
  rw [e]
  have := u32_and_nat (d / 2 ^ s) 1 h1 (by omega)
  rw [Nat.and_one_is_mod] at this
  exact this
theorem part_math (m b i bit : Nat) (hb : 0 < b) (hbit : m / 2 ^ i % 2 = bit) :
    (2 * (m / 2 ^ (i + 1) % b) + bit < b → m / 2 ^ i % b = 2 * (m / 2 ^ (i + 1) % b) + bit ∧ m / 2 ^ i / b = 2 * (m / 2 ^ (i + 1) / b)) ∧
    (b ≤ 2 * (m / 2 ^ (i + 1) % b) + bit → m / 2 ^ i % b = 2 * (m / 2 ^ (i + 1) % b) + bit - b ∧ m / 2 ^ i / b = 2 * (m / 2 ^ (i + 1) / b) + 1) := by
  have e1 : m / 2 ^ (i + 1) = m / 2 ^ i / 2 := by rw [Nat.pow_succ, Nat.div_div_eq_div_mul]
  rw [e1]
  obtain ⟨M, hM⟩ : ∃ M, m / 2 ^ i = M := ⟨_, rfl⟩
  rw [hM] at hbit ⊢
  obtain ⟨Q, hQ⟩ : ∃ Q, M / 2 / b = Q := ⟨_, rfl⟩
  obtain ⟨R, hR⟩ : ∃ R, M / 2 % b = R := ⟨_, rfl⟩
  rw [hQ, hR]
  have h1 := Nat.div_add_mod (M / 2) b
  rw [hQ, hR] at h1
  have hRb : R < b := by rw [← hR]; exact Nat.mod_lt _ hb
  have h2 : M = b * (2 * Q) + (2 * R + bit) := by
    have h3 : b * (2 * Q) = 2 * (b * Q) := by rw [← Nat.mul_assoc, Nat.mul_comm b 2, Nat.mul_assoc]
    omega
  constructor
  · intro h
    constructor
    · rw [h2, Nat.mul_add_mod, Nat.mod_eq_of_lt h]
    · rw [h2, Nat.mul_add_div hb, Nat.div_eq_of_lt h, Nat.add_zero]
  · intro h
    have h4 : M = b * (2 * Q + 1) + (2 * R + bit - b) := by rw [Nat.mul_add]; omega
    constructor
    · rw [h4, Nat.mul_add_mod, Nat.mod_eq_of_lt (by omega)]
    · rw [h4, Nat.mul_add_div hb, Nat.div_eq_of_lt (by omega), Nat.add_zero]
set_option maxHeartbeats 1600000 in
theorem part_core (X Y : Option Addr) (nx cx ny cy m b : Nat) (w : World) (h : Sl TU w X nx cx (L m)) (h' : Sl TU w Y ny cy (L b)) (hb : 0 < b) (hs : nx ≤ 100000000000) (hs' : dl B32 b ≤ 100000000000) :
    Calls Try.prog 67 #[.slice X nx cx, .slice Y ny cy] w (Ret (fun v w' => ∃ v1 v2, v = .tuple #[v1, v2] ∧ SL TU w' v1 (L (m / b)) ∧ SL TU w' v2 (L (m % b))) w) := by
  have hc := h.cap
  have hc' := h'.cap
  have hn := h.le
  have hn' := h'.le
  have hl := h.len
  simp only [L, List.length_map] at hl
  have hm := lt_pow_dl B32 two_B32 m
  unfold dl at hm
  rw [hl] at hm
  have HM := Lib.hid hm
  have HDB := Lib.hid hs'
  clear hs'
  have HH := Lib.hid h
  have HH' := Lib.hid h'
  clear h h' hl hm
  have hmk := make_u32 nx (nx : Int) rfl (by omega)
  go_enter Try.func67, Try.ntmps67
  go_wp2
  clear hmk
  refine wp_world (fun W0 => Blk W0 w.heap.size TU (zer nx) ∧ Below w.heap.size w W0) (by exact ⟨Blk.new_ _ _ rfl, by go_grown⟩) ?_
  rintro W0 ⟨b0, hbw⟩
  have hst : Held w.heap.size nx TU W0 W0 := by have := b0.heldS; simpa [zer] using this
  have I0 : MulInv W0 w.heap.size nx W0 (List.replicate nx 0) := ⟨hst, b0, by simp, Dg.replicate (by unfold B32; omega) _⟩
  have HI0 := Lib.hid I0
  clear b0 hst I0
  go_loopw [7, 8] (fun r i wr => ∃ (k : Nat) (qs : List Nat) (A1 : Option Addr) (n1 c1 : Nat), k ≤ 32 * nx ∧ i = .int .i64 ((k : Int) - 1) ∧ r = .slice A1 n1 c1 ∧ Off w.heap.size A1 ∧ Sl TU wr A1 n1 c1 (L (m / 2 ^ k % b)) ∧ MulInv W0 w.heap.size nx wr qs ∧ val B32 qs = m / 2 ^ k / b * 2 ^ k) (fun _ i _ => (intOf i + 1).toNat)
  case atStart =>
    have e0 : m / 2 ^ (32 * nx) = 0 := by
      have := HM.out
      rw [show B32 = 2 ^ 32 by decide, ← Nat.pow_mul] at this
      exact Nat.div_eq_of_lt this
    refine ⟨32 * nx, List.replicate nx 0, none, 0, 0, Nat.le_refl _, by go_num, rfl, (fun a h => by injection h), ?_, HI0.out, ?_⟩
    · rw [e0, Nat.zero_mod]; exact Sl.nil _ _
    · rw [e0]; simp [val_zeros]
  case round =>
    obtain ⟨k, qs, A1, n1, c1, hk, rfl, rfl, hoff, hr, hI, hv⟩ := hrel
    have HR := Lib.hid hr
    have HI := Lib.hid hI
    have HV := Lib.hid hv
    have HO := Lib.hid hoff
    clear hr hI hv hoff
    by_cases hk0 : 0 < k
    · obtain ⟨i, rfl⟩ : ∃ i, k = i + 1 := ⟨k - 1, by omega⟩
      have ei : ((i + 1 : Nat) : Int) - 1 = (i : Int) := by omega
      rw [ei]
      clear ei
      have hbwr := HI.out.held.below hbw (Nat.le_refl _)
      go_wp2_with fail
      have hdr : dl B32 (m / 2 ^ (i + 1) % b) ≤ 1000000000000 := by have h1 := Nat.mod_lt (m / 2 ^ (i + 1)) hb; have h2 := dl_mono B32 two_B32 (m / 2 ^ (i + 1) % b) b (by omega); have := HDB.out; omega
      refine (plus_fr _ _ _ _ _ _ _ _ _ HR.out HR.out hdr hdr).mono ?_
      rintro e w1 ⟨v1, rfl, ⟨n2, c2, rfl, h2⟩, hb1⟩
      obtain ⟨bx, ox, rfl, hcell⟩ := HH.out.at_u32 (by omega)
      have hcx : w1.cell? ⟨bx, ox + i / 32, none⟩ = some (.int .u32 (((digs B32 m).getD (i / 32) 0 : Nat) : Int)) := by
        rw [(bt hbwr hb1).cell (p := ⟨bx, ox + i / 32, none⟩) (World.block_lt_of_cell? w _ (hcell (i / 32) (by omega)))]
        exact hcell (i / 32) (by omega)
      clear hcell
      obtain ⟨d, hd⟩ : ∃ d, (digs B32 m).getD (i / 32) 0 = d := ⟨_, rfl⟩
      have hdl := (digs_dg B32 two_B32 m).getD (by unfold B32; omega) (i / 32)
      rw [hd] at hcx hdl
      rw [B32_eq] at hdl
      have hbt := bit_test d (i % 32) hdl
      have hbm := bit_dig B32 m i d _ B32_eq (digs_dg B32 two_B32 m) (val_digs B32 two_B32 m) hd
      have HB1 := Lib.hid hb1
      have HRB := Lib.hid (Nat.mod_lt (m / 2 ^ (i + 1)) hb)
      rcases Nat.mod_two_eq_zero_or_one (m / 2 ^ i) with hbit | hbit
      · have hct : (bits BinOp.and IntKind.u32 ((d : Int) / 2 ^ (i % 32)) 1 == 1) = false := by rw [hbt, hbm, hbit]; rfl
        have HPM := Lib.hid (part_math m b i 0 hb hbit)
        clear hbt hbm hd hb1 hbit
        have hbw1 := bt hbwr HB1.out
        have HBW1 := Lib.hid hbw1
        clear hbw1
        have hoff2 : Off w.heap.size (some ⟨wr.heap.size, 0, none⟩) := fun a ha => by injection ha with ha; subst ha; have := HI.out.held.lt; simp <;> omega
        have HO2 := Lib.hid hoff2
        clear hoff2
        rw [← Nat.two_mul] at h2
        go_wp2_with fail
        refine (wsize_any _ _ _ _ _ _ _ _ _ h2 (HH'.out.below HBW1.out)).mono ?_
        rintro e w4 ⟨v4, rfl, ⟨r, rfl, hr1, hr2⟩, hb4⟩
        by_cases hge : b ≤ 2 * (m / 2 ^ (i + 1) % b) + 0
        · have hr0 : 0 ≤ r := by omega
          clear hr1 hr2
          have HB4 := Lib.hid hb4
          clear hb4
          go_wp2_with fail
          refine (minus_fr _ _ _ _ _ _ _ _ _ (h2.below HB4.out) ((HH'.out.below HBW1.out).below HB4.out) hge ?_).mono ?_
          · have := HRB.out; have h5 := dl_add B32 two_B32 (m / 2 ^ (i + 1) % b) (m / 2 ^ (i + 1) % b + 1) (dl B32 b) (dl_mono _ two_B32 _ _ (by omega)) (dl_mono _ two_B32 _ _ (by omega)); have h6 := dl_mono B32 two_B32 (2 * (m / 2 ^ (i + 1) % b) + 0) (m / 2 ^ (i + 1) % b + (m / 2 ^ (i + 1) % b + 1)) (by omega); have h7 := dl_mono B32 two_B32 (2 * (m / 2 ^ (i + 1) % b)) (m / 2 ^ (i + 1) % b + (m / 2 ^ (i + 1) % b + 1)) (by omega); have := HDB.out; omega
          rintro e w3 ⟨v3, rfl, ⟨n3, c3, rfl, h3⟩, hb3⟩
          have hI3 : MulInv W0 w.heap.size nx w3 qs := HI.out.below_ (bt (bt HB1.out HB4.out) hb3)
          have hcq := blk_cell hI3.blk (j := i / 32) (by rw [hI3.len]; omega)
          have hfq := hI3.blk.free (i / 32)
          have hdq := hI3.dg.getD (by unfold B32; omega) (i / 32)
          rw [B32_eq] at hdq
          obtain ⟨dq, hdq'⟩ : ∃ d, qs.getD (i / 32) 0 = d := ⟨_, rfl⟩
          rw [hdq'] at hcq hdq
          have hor := or_bit dq (i % 32) hdq (by omega) (low_zero m i dq _ qs (by have := hI3.dg; rwa [B32_eq] at this) (by rw [hI3.len]; omega) (by have := HV.out; rwa [B32_eq] at this) hdq')
          have hset := set_bit i dq _ qs (by rw [hI3.len]; omega) (by have := HV.out; rwa [B32_eq] at this) hdq'
          have HI3 := Lib.hid hI3
          have HOR := Lib.hid hor
          have HSET := Lib.hid hset
          have HPM2 := Lib.hid (HPM.out.2 hge)
          have hoff3 : Off w.heap.size (some ⟨w4.heap.size, 0, none⟩) := fun a ha => by injection ha with ha; subst ha; have := HI.out.held.lt; have := HB1.out.size; have := HB4.out.size; simp <;> omega
          have HO3 := Lib.hid hoff3
          clear hdq' hI3 hge hor hset hoff3
          go_wp2
          go_region
          all_goals go_wp2
          rw [HOR.out.1]
          refine ⟨⟨i, qs.set (i / 32) (dq + 2 ^ (i % 32)), _, n3, c3, by omega, by go_num, rfl, HO3.out, ?_, ?_, ?_⟩, by first | (simp [intOf]; done) | (simp [intOf]; omega)⟩
          · rw [HPM2.out.1]; exact (h3.far HO3.out _ _).below (Below.refl _ _).drew
          · exact (HI3.out.set_ _ _ (by rw [B32_eq]; exact HOR.out.2)).below_ (Below.refl _ _).drew
          · rw [HPM2.out.2, B32_eq]; exact HSET.out
        · have hr0 : r < 0 := by omega
          clear hr1 hr2
          have HPM2 := Lib.hid (HPM.out.1 (by omega))
          have hI4 := HI.out.below_ (bt HB1.out hb4)
          have h4 := h2.below hb4
          have HI4 := Lib.hid hI4
          have H4 := Lib.hid h4
          clear hb4 hge hI4 h4 h2
          go_wp2
          go_roundw
          case rel =>
            refine ⟨i, qs, _, n2, c2, by omega, by go_num, rfl, HO2.out, ?_, HI4.out, ?_⟩
            · rw [HPM2.out.1]; exact H4.out
            · rw [HPM2.out.2, HV.out, Nat.pow_succ, Nat.mul_comm (2 ^ i) 2, ← Nat.mul_assoc, Nat.mul_comm _ 2]
          case measure => first | (simp [intOf]; done) | (simp [intOf]; omega)
      · have hct : (bits BinOp.and IntKind.u32 ((d : Int) / 2 ^ (i % 32)) 1 == 1) = true := by rw [hbt, hbm, hbit]; rfl
        have HPM := Lib.hid (part_math m b i 1 hb hbit)
        clear hbt hbm hd hb1 hbit
        go_wp2_with fail
        have hba : Below w1.heap.size w1 (w1.alloc (.cells #[.int .u32 1] TU)) := by go_grown
        have hone : Sl TU (w1.alloc (.cells #[.int .u32 1] TU)) (some ⟨w1.heap.size, 0, none⟩) 1 1 (L 1) := Blk.sl (xs := L 1) (Blk.new_ _ _ rfl) (by rfl) (by decide)
        refine (plus_fr _ _ _ _ _ _ _ _ _ (h2.below hba) hone ?_ (by decide)).mono ?_
        · have := HRB.out; have h5 := dl_add B32 two_B32 (m / 2 ^ (i + 1) % b) (m / 2 ^ (i + 1) % b) (dl B32 b) (dl_mono _ two_B32 _ _ (by omega)) (dl_mono _ two_B32 _ _ (by omega)); have := HDB.out; omega
        rintro e w2 ⟨v2, rfl, ⟨n2, c2, rfl, h2⟩, hb2⟩
        have HBC := Lib.hid (bt HB1.out (bt hba hb2))
        have hoff2 : Off w.heap.size (some ⟨(w1.alloc (.cells #[.int .u32 1] TU)).heap.size, 0, none⟩) := fun a ha => by injection ha with ha; subst ha; have := HI.out.held.lt; have := HB1.out.size; simp <;> omega
        have HO2 := Lib.hid hoff2
        rw [← Nat.two_mul] at h2
        have HBW1 := Lib.hid (bt hbwr HBC.out)
        clear hoff2 hba hone hb2 hcx
        simp only [World.size_alloc] at HO2 h2
        go_wp2_with fail
        refine (wsize_any _ _ _ _ _ _ _ _ _ h2 (HH'.out.below HBW1.out)).mono ?_
        rintro e w4 ⟨v4, rfl, ⟨r, rfl, hr1, hr2⟩, hb4⟩
        by_cases hge : b ≤ 2 * (m / 2 ^ (i + 1) % b) + 1
        · have hr0 : 0 ≤ r := by omega
          clear hr1 hr2
          have HB4 := Lib.hid hb4
          clear hb4
          go_wp2_with fail
          refine (minus_fr _ _ _ _ _ _ _ _ _ (h2.below HB4.out) ((HH'.out.below HBW1.out).below HB4.out) hge ?_).mono ?_
          · have := HRB.out; have h5 := dl_add B32 two_B32 (m / 2 ^ (i + 1) % b) (m / 2 ^ (i + 1) % b + 1) (dl B32 b) (dl_mono _ two_B32 _ _ (by omega)) (dl_mono _ two_B32 _ _ (by omega)); have h6 := dl_mono B32 two_B32 (2 * (m / 2 ^ (i + 1) % b) + 1) (m / 2 ^ (i + 1) % b + (m / 2 ^ (i + 1) % b + 1)) (by omega); have h7 := dl_mono B32 two_B32 (2 * (m / 2 ^ (i + 1) % b)) (m / 2 ^ (i + 1) % b + (m / 2 ^ (i + 1) % b + 1)) (by omega); have := HDB.out; omega
          rintro e w3 ⟨v3, rfl, ⟨n3, c3, rfl, h3⟩, hb3⟩
          have hI3 : MulInv W0 w.heap.size nx w3 qs := HI.out.below_ (bt (bt HBC.out HB4.out) hb3)
          have hcq := blk_cell hI3.blk (j := i / 32) (by rw [hI3.len]; omega)
          have hfq := hI3.blk.free (i / 32)
          have hdq := hI3.dg.getD (by unfold B32; omega) (i / 32)
          rw [B32_eq] at hdq
          obtain ⟨dq, hdq'⟩ : ∃ d, qs.getD (i / 32) 0 = d := ⟨_, rfl⟩
          rw [hdq'] at hcq hdq
          have hor := or_bit dq (i % 32) hdq (by omega) (low_zero m i dq _ qs (by have := hI3.dg; rwa [B32_eq] at this) (by rw [hI3.len]; omega) (by have := HV.out; rwa [B32_eq] at this) hdq')
          have hset := set_bit i dq _ qs (by rw [hI3.len]; omega) (by have := HV.out; rwa [B32_eq] at this) hdq'
          have HI3 := Lib.hid hI3
          have HOR := Lib.hid hor
          have HSET := Lib.hid hset
          have HPM2 := Lib.hid (HPM.out.2 hge)
          have hoff3 : Off w.heap.size (some ⟨w4.heap.size, 0, none⟩) := fun a ha => by injection ha with ha; subst ha; have := HI.out.held.lt; have := HBC.out.size; have := HB4.out.size; simp <;> omega
          have HO3 := Lib.hid hoff3
          clear hdq' hI3 hge hor hset hoff3
          go_wp2
          go_region
          all_goals go_wp2
          rw [HOR.out.1]
          refine ⟨⟨i, qs.set (i / 32) (dq + 2 ^ (i % 32)), _, n3, c3, by omega, by go_num, rfl, HO3.out, ?_, ?_, ?_⟩, by first | (simp [intOf]; done) | (simp [intOf]; omega)⟩
          · rw [HPM2.out.1]; exact (h3.far HO3.out _ _).below (Below.refl _ _).drew
          · exact (HI3.out.set_ _ _ (by rw [B32_eq]; exact HOR.out.2)).below_ (Below.refl _ _).drew
          · rw [HPM2.out.2, B32_eq]; exact HSET.out
        · have hr0 : r < 0 := by omega
          clear hr1 hr2
          have HPM2 := Lib.hid (HPM.out.1 (by omega))
          have hI4 := HI.out.below_ (bt HBC.out hb4)
          have h4 := h2.below hb4
          have HI4 := Lib.hid hI4
          have H4 := Lib.hid h4
          clear hb4 hge hI4 h4 h2
          go_wp2
          go_roundw
          case rel =>
            refine ⟨i, qs, _, n2, c2, by omega, by go_num, rfl, HO2.out, ?_, HI4.out, ?_⟩
            · rw [HPM2.out.1]; exact H4.out
            · rw [HPM2.out.2, HV.out, Nat.pow_succ, Nat.mul_comm (2 ^ i) 2, ← Nat.mul_assoc, Nat.mul_comm _ 2]
          case measure => first | (simp [intOf]; done) | (simp [intOf]; omega)
    · have : k = 0 := by omega
      subst this
      have hsl := Blk.sl HI.out.blk rfl (by simp [HI.out.len]; omega)
      have hlen : (qs.map U32).length = nx := by simp [HI.out.len]
      rw [hlen] at hsl
      have hv0 : val B32 qs = m / b := by have := HV.out; simpa using this
      have HSL := Lib.hid hsl
      have HV0 := Lib.hid hv0
      clear hsl hlen hv0
      go_wp2_with (go_at_call 61; refine (trim_any _ _ _ _ _ HSL.out HI.out.dg).mono ?_; rintro e w1 ⟨⟨v1, rfl, h1⟩, rfl⟩)
      go_returns
      refine ⟨_, rfl, ⟨_, _, rfl, by rw [← HV0.out]; exact h1, ?_⟩, HI.out.held.below hbw (Nat.le_refl _)⟩
      have := HR.out
      rw [Nat.pow_zero, Nat.div_one] at this
      exact this.toSL
end Go.Proofs.Tb
/- Contracts of package wide: division, the greatest common divisor, small values. -/
namespace Go.Proofs.Tb
open Go.RowKit
attribute [local go_sem] cell_set_same

/-- Quotient and rest. -/
def QR (m b : Nat) (v : Value) (w : World) : Prop := ∃ v1 v2, v = .tuple #[v1, v2] ∧ SL TU w v1 (L (m / b)) ∧ SL TU w v2 (L (m % b))

set_option maxHeartbeats 1600000 in
theorem divided_any (A A' : Option Addr) (n c n' c' m b : Nat) (w : World) (h : Sl TU w A n c (L m)) (h' : Sl TU w A' n' c' (L b)) (hb : 0 < b) (hs : dl B32 m ≤ 100000000000) (hs' : dl B32 b ≤ 100000000000) :
    Calls Try.prog 44 #[.slice A n c, .slice A' n' c'] w (Ret (QR m b) w) := by
  have hl := h.len
  simp only [L, List.length_map] at hl
  have hnn : n ≤ 100000000000 := by unfold dl at hs; omega
  have H := Lib.hid h
  have H' := Lib.hid h'
  clear h h' hl
  go_enter Try.func44, Try.ntmps44
  go_wp2_with fail
  refine (small_any _ _ _ _ _ H.out).mono ?_
  rintro e w1 ⟨k, p, rfl, hk1, hk2, rfl⟩
  have HK1 := Lib.hid hk1
  have HK2 := Lib.hid hk2
  clear hk1 hk2
  go_wp2_with fail
  refine (small_any _ _ _ _ _ H'.out).mono ?_
  rintro e w1 ⟨k', p', rfl, hk1', hk2', rfl⟩
  have HK1' := Lib.hid hk1'
  have HK2' := Lib.hid hk2'
  clear hk1' hk2'
  by_cases hpp : p = true ∧ p' = true
  · obtain ⟨rfl, rfl⟩ := hpp
    obtain ⟨e1, hm⟩ := HK1.out rfl
    obtain ⟨e2, hm'⟩ := HK1'.out rfl
    subst e1 e2
    have hk1 : (1 : Int) ≤ (k' : Int) := by omega
    have hne : ((k' : Int) == 0) = false := by rw [beq_eq_false_iff_ne]; omega
    have hq : k / k' < 18446744073709551616 := Nat.lt_of_le_of_lt (Nat.div_le_self _ _) hm
    have hr : k % k' < 18446744073709551616 := Nat.lt_of_le_of_lt (Nat.mod_le _ _) hm
    obtain ⟨q, hqe⟩ : ∃ q, k / k' = q := ⟨_, rfl⟩
    obtain ⟨r, hre⟩ : ∃ r, k % k' = r := ⟨_, rfl⟩
    rw [hqe] at hq
    rw [hre] at hr
    have e1 : IntKind.u64.wrap ((k : Int) / (k' : Int)) = (q : Int) := by
      have : ((k : Int) / (k' : Int)) = ((k / k' : Nat) : Int) := by simp
      rw [this, hqe, IntKind.wrap_u64]; omega
    have e2 : ((k : Int) % (k' : Int)) = (r : Int) := by
      have : ((k : Int) % (k' : Int)) = ((k % k' : Nat) : Int) := by simp
      rw [this, hre]
    have HQ := Lib.hid (two_dg _ hq)
    have HR := Lib.hid (two_dg _ hr)
    have HQ1 := Lib.hid hq
    have HR1 := Lib.hid hr
    have E1 := Lib.hid e1
    have E2 := Lib.hid e2
    have EQ := Lib.hid hqe
    have ER := Lib.hid hre
    clear hq hr hm hm' HK1 HK2 HK1' HK2' e1 e2 hqe hre
    go_wp2
    go_quiet (fail)
    go_wp2_with fail
    rw [E1.out, E2.out]
    rename_i nq K1 hK1 K2 hK2
    have hb0 : Blk ((w.drewN nq).alloc (.cells #[.int .u32 ((q : Int) % 4294967296), .int .u32 ((q : Int) / 4294967296 % 4294967296)] TU)) w.heap.size TU #[.int .u32 ((q : Int) % 4294967296), .int .u32 ((q : Int) / 4294967296 % 4294967296)] := Blk.new_ _ _ rfl
    have hsl := two_sl (m := q) hb0 (by rw [B32_eq]; omega) (by rw [B32_eq]; have := HQ1.out; omega)
    have hbw : Below w.heap.size w ((w.drewN nq).alloc (.cells #[.int .u32 ((q : Int) % 4294967296), .int .u32 ((q : Int) / 4294967296 % 4294967296)] TU)) := (below_drewN (Below.refl _ _) _).alloc (Nat.le_refl _) _
    refine (trim_any _ _ _ _ _ hsl HQ.out.1).mono ?_
    rintro e w1 ⟨⟨v1, rfl, h1⟩, hw1⟩
    rw [HQ.out.2] at h1
    rw [hw1] at h1 hbw
    clear hb0 hsl hw1
    go_wp2_with fail
    have hb0 : Blk (w1.alloc (.cells #[.int .u32 ((r : Int) % 4294967296), .int .u32 ((r : Int) / 4294967296 % 4294967296)] TU)) w1.heap.size TU #[.int .u32 ((r : Int) % 4294967296), .int .u32 ((r : Int) / 4294967296 % 4294967296)] := Blk.new_ _ _ rfl
    have hsl := two_sl (m := r) hb0 (by rw [B32_eq]; omega) (by rw [B32_eq]; have := HR1.out; omega)
    have hbw2 : Below w1.heap.size w1 (w1.alloc (.cells #[.int .u32 ((r : Int) % 4294967296), .int .u32 ((r : Int) / 4294967296 % 4294967296)] TU)) := (Below.refl _ _).alloc (Nat.le_refl _) _
    refine (trim_any _ _ _ _ _ hsl HR.out.1).mono ?_
    rintro e w2 ⟨⟨v2, rfl, h2⟩, hw2⟩
    rw [HR.out.2] at h2
    rw [hw2] at h2 hbw2
    clear hb0 hsl hw2
    go_wp2
    go_returns
    exact ⟨_, rfl, ⟨_, _, rfl, by rw [EQ.out]; exact h1.below hbw2, by rw [ER.out]; exact h2⟩, bt hbw hbw2⟩
  · have hp : p = false ∨ p = true ∧ p' = false := by
      cases p <;> cases p' <;> simp at hpp ⊢
    clear hpp HK1 HK2 HK1' HK2'
    rcases hp with rfl | ⟨rfl, rfl⟩
    all_goals
      go_wp2_with fail
      refine (part_core _ _ _ _ _ _ _ _ _ H.out H'.out hb hnn hs').mono ?_
      rintro e w1 ⟨v1, rfl, ⟨v2, v3, rfl, h1, h2⟩, hb1⟩
      go_wp2
      go_returns
      exact ⟨_, rfl, ⟨_, _, rfl, h1, h2⟩, hb1⟩

set_option maxHeartbeats 800000 in
theorem common_any (A A' : Option Addr) (n c n' c' m b : Nat) (w : World) (h : Sl TU w A n c (L m)) (h' : Sl TU w A' n' c' (L b)) (hs : dl B32 m ≤ 100000000000) (hs' : dl B32 b ≤ 100000000000) :
    Calls Try.prog 43 #[.slice A n c, .slice A' n' c'] w (Ret (fun v w' => SL TU w' v (L (Nat.gcd m b))) w) := by
  have H := Lib.hid h
  have H' := Lib.hid h'
  have HS := Lib.hid hs
  have HS' := Lib.hid hs'
  clear h h' hs hs'
  go_enter Try.func43, Try.ntmps43
  go_wp2
  go_loopg [0, 1] b (fun b' x y wr => ∃ (A n c A' n' c' m' : _), x = .slice A n c ∧ y = .slice A' n' c' ∧ Sl TU wr A n c (L m') ∧ Sl TU wr A' n' c' (L b') ∧ Nat.gcd m' b' = Nat.gcd m b ∧ dl B32 m' ≤ 100000000000 ∧ dl B32 b' ≤ 100000000000 ∧ Below w.heap.size w wr)
  case atStart => exact ⟨A, n, c, A', n', c', m, rfl, rfl, H.out, H'.out, rfl, HS.out, HS'.out, Below.refl _ _⟩
  case round =>
    obtain ⟨A1, n1, c1, A2, n2, c2, m', rfl, rfl, h1, h2, hg, hs1, hs2, hbw⟩ := hrel
    have hp := h2.pos_iff
    have hc2 := h2.cap
    have hle2 := h2.le
    have H1 := Lib.hid h1
    have H2 := Lib.hid h2
    have HG := Lib.hid hg
    have HS1 := Lib.hid hs1
    have HS2 := Lib.hid hs2
    clear h1 h2 hg hs1 hs2
    by_cases h0 : 0 < n2
    · have hb0 : 0 < gk := hp.1 h0
      clear hp
      go_wp2_with fail
      refine (divided_any _ _ _ _ _ _ _ _ _ H1.out H2.out hb0 HS1.out HS2.out).mono ?_
      rintro e w1 ⟨v1, rfl, ⟨v2, v3, rfl, ⟨A3, n3, c3, rfl, h3⟩, ⟨A4, n4, c4, rfl, h4⟩⟩, hb1⟩
      have HB1 := Lib.hid hb1
      clear hb1
      go_wp2
      go_roundg (m' % gk)
      case measure => exact Nat.mod_lt _ hb0
      case rel => exact ⟨A2, n2, c2, A4, n4, c4, gk, rfl, rfl, H2.out.below HB1.out, h4, by rw [← HG.out, Nat.gcd_comm m' gk, Nat.gcd_comm gk (m' % gk)]; exact (Nat.gcd_rec gk m').symm, HS2.out, by have := dl_mono B32 two_B32 (m' % gk) gk (Nat.le_of_lt (Nat.mod_lt _ hb0)); have := HS2.out; omega, bt hbw HB1.out⟩
    · have hg0 : gk = 0 := by omega
      have HG0 := Lib.hid hg0
      clear hp hg0
      go_wp2
      go_returns
      have e0 := HG.out
      rw [HG0.out, Nat.gcd_zero_right] at e0
      exact ⟨_, rfl, by rw [← e0]; exact H1.out.toSL, hbw⟩

theorem wsmall_lim (m : Nat) : (m : Int) > 4611686018427387904 ↔ 4611686018427387904 < m := by omega
/-- What Small returns: the value where it is small enough. -/
def Sm (z : Int) (v : Value) (_ : World) : Prop := ∃ n b, v = .tuple #[.int .i64 n, .bool b] ∧ (z.natAbs ≤ 4611686018427387904 → n = z ∧ b = true) ∧ (4611686018427387904 < z.natAbs → n = 0 ∧ b = false)
set_option maxHeartbeats 1600000 in
theorem wSmall_any (v : Value) (z : Int) (w : World) (h : WI w v z) : Calls Try.prog 46 #[v] w (Ret (Sm z) w) := by
  obtain ⟨A, n, c, rfl, h⟩ := h
  obtain ⟨s, hs⟩ : ∃ s, ng z = s := ⟨_, rfl⟩
  rw [hs]
  have HS := Lib.hid hs
  have H := Lib.hid h
  clear h hs
  go_enter Try.func46, Try.ntmps46
  go_wp2_with fail
  have hbw : Below w.heap.size w (w.alloc (.cells #[.bool s, .slice A n c] TI)) := by go_grown
  refine (small_any _ _ _ _ _ (H.out.below hbw)).mono ?_
  rintro e w1 ⟨k, p, rfl, hk1, hk2, hw1⟩
  have hb0 : Blk (w.alloc (.cells #[.bool s, .slice A n c] TI)) w.heap.size TI #[.bool s, .slice A n c] := Blk.new_ _ _ rfl
  rw [hw1] at hb0 hbw
  have k0 := hb0.cells
  simp only [cellsAre, Nat.zero_add, Nat.reduceAdd, and_true] at k0
  clear hb0 hw1
  have HK1 := Lib.hid hk1
  have HK2 := Lib.hid hk2
  clear hk1 hk2
  cases p
  · have hbig := HK2.out rfl
    clear HK1 HK2
    go_wp2
    go_returns
    exact ⟨_, rfl, ⟨_, _, rfl, fun h => by omega, fun _ => ⟨rfl, rfl⟩⟩, hbw⟩
  · obtain ⟨hkz, hlt⟩ := HK1.out rfl
    have HKZ := Lib.hid hkz
    clear HK1 HK2 hkz hlt
    by_cases hlim : 4611686018427387904 < k
    · go_wp2
      go_returns
      exact ⟨_, rfl, ⟨_, _, rfl, fun h => by have := HKZ.out; omega, fun _ => ⟨rfl, rfl⟩⟩, hbw⟩
    · cases s
      · go_wp2
        go_returns
        refine ⟨_, rfl, ⟨_, _, rfl, fun _ => ⟨?_, rfl⟩, fun h => by have := HKZ.out; omega⟩, hbw⟩
        have := HKZ.out
        have := HS.out
        unfold ng at this
        simp at this
        omega
      · go_wp2
        go_returns
        refine ⟨_, rfl, ⟨_, _, rfl, fun _ => ⟨?_, rfl⟩, fun h => by have := HKZ.out; omega⟩, hbw⟩
        have := HKZ.out
        have := HS.out
        unfold ng at this
        simp at this
        omega
end Go.Proofs.Tb
/- Contracts of package wide: fractions: Ratio. -/
namespace Go.Proofs.Tb
open Go.RowKit
attribute [local go_sem] cell_set_same
attribute [local go_sem ↓] Go.wp_at_zero Go.wp_at_succ

/-- The type wide.Rat. -/
abbrev TR : TypeId := 57
/-- A wide.Rat's value reads as p/q. -/
def WQ (w : World) (v : Value) (p q : Int) : Prop := ∃ A n c A' n' c', v = .agg #[.bool (ng p), .slice A n c, .bool (ng q), .slice A' n' c'] ∧ Sl TU w A n c (L p.natAbs) ∧ Sl TU w A' n' c' (L q.natAbs) ∧ 0 < q
theorem WQ.below {w w' : World} {v : Value} {p q : Int} (h : WQ w v p q) (hb : Below w.heap.size w w') : WQ w' v p q := by
  obtain ⟨A, n, c, A', n', c', hv, h1, h2, hq⟩ := h
  exact ⟨A, n, c, A', n', c', hv, h1.below hb, h2.below hb, hq⟩
/-- What Ratio makes of a numerator and a denominator. -/
def rn (n d : Int) : Int := if d < 0 then -n else n
def rd (d : Int) : Int := (d.natAbs : Int)
theorem sz_rn (n d : Int) : sz (rn n d) = sz n := by unfold rn; split; exact sz_neg n; rfl
theorem sz_rd (d : Int) : sz (rd d) = sz d := by unfold rd sz; simp
theorem rd_pos {d : Int} (h : d ≠ 0) : 0 < rd d := by unfold rd; omega

set_option maxHeartbeats 1600000 in
theorem wratio_any (v v' : Value) (x y : Int) (w : World) (h : WI w v x) (h' : WI w v' y) (hy : y ≠ 0) :
    Calls Try.prog 37 #[v, v'] w (Ret (fun v w' => WQ w' v (rn x y) (rd y)) w) := by
  obtain ⟨A, n, c, rfl, h⟩ := h
  obtain ⟨A', n', c', rfl, h'⟩ := h'
  have H := Lib.hid h
  have H' := Lib.hid h'
  clear h h'
  obtain ⟨s, hsx⟩ : ∃ s, ng x = s := ⟨_, rfl⟩
  by_cases hy0 : y < 0
  · have hs : ng y = true := by unfold ng; simpa using hy0
    have HN := Lib.hid (show rn x y = -x by unfold rn; rw [if_pos hy0])
    have HD := Lib.hid (show rd y = -y by unfold rd; omega)
    have HSX := Lib.hid hsx
    have HY := Lib.hid hs
    rw [hsx, hs]
    clear hs hy hy0 hsx
    go_enter Try.func37, Try.ntmps37
    go_wp2
    refine wp_world (fun W0 => Blk W0 w.heap.size TI #[.bool s, .slice A n c] ∧ Blk W0 (w.heap.size + 1) TI #[.bool true, .slice A' n' c'] ∧ Blk W0 (w.heap.size + 1 + 1) TR #[.bool false, .slice none 0 0, .bool false, .slice none 0 0] ∧ Below w.heap.size w W0) (by exact ⟨((Blk.new_ _ _ rfl).alloc _).alloc _, (Blk.new_ _ _ (by simp)).alloc _, Blk.new_ _ _ (by simp), by go_grown⟩) ?_
    rintro W0 ⟨b0, b1, b2, hbw⟩
    have k0 := fun w' (hh : Ext W0 w') => (b0.below hh).cells
    have k1 := fun w' (hh : Ext W0 w') => (b1.below hh).cells
    have k2 := fun w' (hh : Ext W0 w') => (b2.below hh).cells
    have f0 := fun w' (hh : Ext W0 w') => (b0.below hh).free
    have f1 := fun w' (hh : Ext W0 w') => (b1.below hh).free
    have f2 := fun w' (hh : Ext W0 w') => (b2.below hh).free
    simp only [cellsAre, Nat.zero_add, Nat.reduceAdd, and_true] at k0 k1 k2
    have B0 := Lib.hid b0
    have B1 := Lib.hid b1
    have B2 := Lib.hid b2
    have hh0 : Ext W0 W0 := Ext.refl _
    clear b0 b1 b2
    go_region_with (first | (go_at_call 39; have tk := hh1; refine (wneg_any _ y _ ⟨_, _, _, (by rw [HY.out]), (H'.out.below hbw.drew).below hb1⟩).mono ?_; rintro e w2 ⟨v2, rfl, ⟨A2, n2, c2, rfl, h2⟩, hb2⟩; have hh2 : Ext W0 w2 := bt hh1 hb2) | (go_at_call 39; refine (wneg_any _ x _ ⟨_, _, _, (by rw [HSX.out]), H.out.below hbw.drew⟩).mono ?_; rintro e w1 ⟨v1, rfl, ⟨A1, n1, c1, rfl, h1⟩, hb1⟩; have hh1 : Ext W0 w1 := bt (Ext.drew W0) hb1))
    all_goals
      go_wp2
      have kk0 := k0 w2 hh2
      have kk1 := k1 w2 hh2
      have kk2 := k2 w2 hh2
      clear k0 k1 k2 f0 f1 f2
      (try simp only [Exit.inBlock, Exit.then])
      refine bodyPost_ret (v := .agg #[.bool (ng (-x)), .slice A1 n1 c1, .bool (ng (-y)), .slice A2 n2 c2]) (by simp [results, Try.results37, go_sem, kk0, kk1, kk2]) rfl ?_
      have hM : HeldM [(w.heap.size, 2, TI), (w.heap.size + 1, 2, TI), (w.heap.size + 1 + 1, 4, TR)] w2 w2 := by
        refine ⟨rfl, rfl, rfl, Nat.le_refl _, fun _ _ _ => rfl, ?_, ?_⟩
        all_goals
          intro r hr
          simp only [List.mem_cons, List.not_mem_nil, or_false] at hr
          rcases hr with rfl | rfl | rfl
          · exact ⟨_, B0.out.below hh2, rfl⟩
          · exact ⟨_, B1.out.below hh2, rfl⟩
          · exact ⟨_, B2.out.below hh2, rfl⟩
      have m0 : ∃ r, r ∈ [(w.heap.size, 2, TI), (w.heap.size + 1, 2, TI), (w.heap.size + 1 + 1, 4, TR)] ∧ r.1 = w.heap.size := ⟨_, .head _, rfl⟩
      have m1 : ∃ r, r ∈ [(w.heap.size, 2, TI), (w.heap.size + 1, 2, TI), (w.heap.size + 1 + 1, 4, TR)] ∧ r.1 = w.heap.size + 1 := ⟨_, .tail _ (.head _), rfl⟩
      have m2 : ∃ r, r ∈ [(w.heap.size, 2, TI), (w.heap.size + 1, 2, TI), (w.heap.size + 1 + 1, 4, TR)] ∧ r.1 = w.heap.size + 1 + 1 := ⟨_, .tail _ (.tail _ (.head _)), rfl⟩
      have hF := ((((((((hM.set_ m0 0 (.bool (ng (-x)))).set_ m0 1 (.slice A1 n1 c1)).set_ m1 0 (.bool (ng (-y)))).set_ m1 1 (.slice A2 n2 c2)).set_ m2 0 (.bool (ng (-x)))).set_ m2 1 (.slice A1 n1 c1)).set_ m2 2 (.bool (ng (-y)))).set_ m2 3 (.slice A2 n2 c2))
      have hne : ∀ r, r ∈ [(w.heap.size, 2, TI), (w.heap.size + 1, 2, TI), (w.heap.size + 1 + 1, 4, TR)] → TU ≠ r.2.2 := by
        intro r hr
        simp only [List.mem_cons, List.not_mem_nil, or_false] at hr
        rcases hr with rfl | rfl | rfl <;> first | exact (by decide : TU ≠ TI) | exact (by decide : TU ≠ TR)
      refine ⟨_, rfl, ⟨A1, n1, c1, A2, n2, c2, ?_, ?_, ?_, ?_⟩, hF.below (bt hbw hh2) ?_⟩
      · rw [HN.out, HD.out]
      · rw [HN.out]; exact (h1.below hb2).heldM hF hne
      · rw [HD.out]; exact h2.heldM hF hne
      · have := HY.out; unfold ng at this; simp at this; have := HD.out; omega
      · intro r hr
        simp only [List.mem_cons, List.not_mem_nil, or_false] at hr
        rcases hr with rfl | rfl | rfl <;> simp <;> omega
  · have hs : ng y = false := by unfold ng; simpa using hy0
    have HN := Lib.hid (show rn x y = x by unfold rn; rw [if_neg hy0])
    have HD := Lib.hid (show rd y = y by unfold rd; omega)
    have HY := Lib.hid hs
    have HYP := Lib.hid (show 0 < y by omega)
    have HSX := Lib.hid hsx
    rw [hsx, hs]
    clear hs hy hy0 hsx
    go_enter Try.func37, Try.ntmps37
    go_wp2
    go_returns
    have hb : Below w.heap.size w (((w.alloc (.cells #[.bool s, .slice A n c] TI)).alloc (.cells #[.bool false, .slice A' n' c'] TI)).alloc (.cells #[.bool s, .slice A n c, .bool false, .slice A' n' c'] TR)) := by go_grown
    exact ⟨_, rfl, ⟨A, n, c, A', n', c', by rw [HN.out, HD.out, HSX.out, HY.out], by rw [HN.out]; exact H.out.below hb, by rw [HD.out]; exact H'.out.below hb, by rw [HD.out]; exact HYP.out⟩, hb⟩
end Go.Proofs.Tb
/- Contracts of package wide: the straight-line functions on whole numbers and fractions (printed by a program of ours). -/
namespace Go.Proofs.Tb
open Go.RowKit
attribute [local go_sem] cell_set_same
abbrev TF : TypeId := 25

set_option maxHeartbeats 800000 in
theorem wqmul_any (a b : Value) (ap aq : Int) (bp bq : Int) (w : World) (ha : WQ w a ap aq) (hb : WQ w b bp bq) (hs : sz ap + sz aq + sz bp + sz bq ≤ 100000000000) :
    Calls Try.prog 19 #[a, b] w (Ret (fun v w' => WQ w' v (ap * bp) (aq * bq)) w) := by
  obtain ⟨aA0, an0, ac0, aA1, an1, ac1, rfl, ah0, ah1, apos0⟩ := ha
  obtain ⟨bA0, bn0, bc0, bA1, bn1, bc1, rfl, bh0, bh1, bpos0⟩ := hb
  have aH0 := Lib.hid ah0
  clear ah0
  have aH1 := Lib.hid ah1
  clear ah1
  have aP0 := Lib.hid apos0
  clear apos0
  have bH0 := Lib.hid bh0
  clear bh0
  have bH1 := Lib.hid bh1
  clear bh1
  have bP0 := Lib.hid bpos0
  clear bpos0
  go_enter Try.func19, Try.ntmps19
  go_wp2
  refine wp_world (fun W0 => Blk W0 (w.heap.size) TR #[.bool (ng ap), .slice aA0 an0 ac0, .bool (ng aq), .slice aA1 an1 ac1] ∧ Blk W0 (w.heap.size + 1) TR #[.bool (ng bp), .slice bA0 bn0 bc0, .bool (ng bq), .slice bA1 bn1 bc1] ∧ Blk W0 (w.heap.size + 1 + 1) TR #[.bool false, .slice none 0 0, .bool false, .slice none 0 0] ∧ Below w.heap.size w W0) (by exact ⟨((Blk.new_ _ _ rfl).alloc _).alloc _, (Blk.new_ _ _ (by simp)).alloc _, Blk.new_ _ _ (by simp), by go_grown⟩) ?_
  rintro W0 ⟨b0, b1, b2, hbw⟩
  have k0 := fun w' (hh : Held (w.heap.size + 1 + 1) 4 TR W0 w') => (b0.held hh (by omega)).cells
  have k1 := fun w' (hh : Held (w.heap.size + 1 + 1) 4 TR W0 w') => (b1.held hh (by omega)).cells
  have hst : Held (w.heap.size + 1 + 1) 4 TR W0 W0.drew := b2.heldS.drew
  have r1 := (rules (w.heap.size + 1 + 1) 4 TR W0).some
  have r2 := (rules (w.heap.size + 1 + 1) 4 TR W0).free
  simp only [cellsAre, Nat.zero_add, Nat.reduceAdd, and_true] at k0 k1
  clear b0 b1 b2
  have bw0 : Below w.heap.size w W0.drew := hbw.drew
  go_region_held3 (fun w' => Held (w.heap.size + 1 + 1) 4 TR W0 w') (first | assumption | exact Held.trans_ (by assumption) (by assumption) | exact Held.set_ (Held.set_ (Held.set_ (Held.set_ ((by assumption)) _ _) _ _) _ _) _ _)
    (first | (go_at_call 40; have tk := hb1; refine (wmul_any _ _ (aq) (bq) _ ⟨_, _, _, rfl, (aH1.out.below bw1)⟩ ⟨_, _, _, rfl, (bH1.out.below bw1)⟩ (by have z0 := sz_mul (ap) (bp); omega)).mono ?_; rintro e w2 ⟨v2, rfl, ⟨A2_0, n2_0, c2_0, rfl, hx2_0⟩, hb2⟩; have hh2 : Held (w.heap.size + 1 + 1) 4 TR W0 w2 := hh1.trans_ hb2; have bw2 := bt bw1 hb2) | (go_at_call 40; refine (wmul_any _ _ (ap) (bp) _ ⟨_, _, _, rfl, (aH0.out.below bw0)⟩ ⟨_, _, _, rfl, (bH0.out.below bw0)⟩ (by omega)).mono ?_; rintro e w1 ⟨v1, rfl, ⟨A1_0, n1_0, c1_0, rfl, hx1_0⟩, hb1⟩; have hh1 : Held (w.heap.size + 1 + 1) 4 TR W0 w1 := hst.trans_ hb1; have bw1 := bt bw0 hb1))
  go_wp2
  (try simp only [Exit.inBlock, Exit.then])
  refine bodyPost_ret (v := .agg #[.bool (ng (ap * bp)), .slice A1_0 n1_0 c1_0, .bool (ng (aq * bq)), .slice A2_0 n2_0 c2_0]) (by simp [results, Try.results19, go_sem, r1 _ hh2]) rfl ?_
  have hst2 := Held.set_ (Held.set_ (Held.set_ (Held.set_ (hh2.here) 0 (.bool (ng (ap * bp)))) 1 (.slice A1_0 n1_0 c1_0)) 2 (.bool (ng (aq * bq)))) 3 (.slice A2_0 n2_0 c2_0)
  exact ⟨_, rfl, ⟨_, _, _, _, _, _, rfl, ((hx1_0.below hb2)).held hst2 (by decide), (hx2_0).held hst2 (by decide), Int.mul_pos aP0.out bP0.out⟩, (hh2.trans2 hst2).below hbw (by omega)⟩

set_option maxHeartbeats 800000 in
theorem wqadd_any (a b : Value) (ap aq : Int) (bp bq : Int) (w : World) (ha : WQ w a ap aq) (hb : WQ w b bp bq) (hs : sz ap + sz aq + sz bp + sz bq ≤ 100000000000) :
    Calls Try.prog 20 #[a, b] w (Ret (fun v w' => WQ w' v (ap * bq + bp * aq) (aq * bq)) w) := by
  obtain ⟨aA0, an0, ac0, aA1, an1, ac1, rfl, ah0, ah1, apos0⟩ := ha
  obtain ⟨bA0, bn0, bc0, bA1, bn1, bc1, rfl, bh0, bh1, bpos0⟩ := hb
  have aH0 := Lib.hid ah0
  clear ah0
  have aH1 := Lib.hid ah1
  clear ah1
  have aP0 := Lib.hid apos0
  clear apos0
  have bH0 := Lib.hid bh0
  clear bh0
  have bH1 := Lib.hid bh1
  clear bh1
  have bP0 := Lib.hid bpos0
  clear bpos0
  go_enter Try.func20, Try.ntmps20
  go_wp2
  refine wp_world (fun W0 => Blk W0 (w.heap.size) TR #[.bool (ng ap), .slice aA0 an0 ac0, .bool (ng aq), .slice aA1 an1 ac1] ∧ Blk W0 (w.heap.size + 1) TR #[.bool (ng bp), .slice bA0 bn0 bc0, .bool (ng bq), .slice bA1 bn1 bc1] ∧ Blk W0 (w.heap.size + 1 + 1) TR #[.bool false, .slice none 0 0, .bool false, .slice none 0 0] ∧ Below w.heap.size w W0) (by exact ⟨((Blk.new_ _ _ rfl).alloc _).alloc _, (Blk.new_ _ _ (by simp)).alloc _, Blk.new_ _ _ (by simp), by go_grown⟩) ?_
  rintro W0 ⟨b0, b1, b2, hbw⟩
  have k0 := fun w' (hh : Held (w.heap.size + 1 + 1) 4 TR W0 w') => (b0.held hh (by omega)).cells
  have k1 := fun w' (hh : Held (w.heap.size + 1 + 1) 4 TR W0 w') => (b1.held hh (by omega)).cells
  have hst : Held (w.heap.size + 1 + 1) 4 TR W0 W0.drew := b2.heldS.drew
  have r1 := (rules (w.heap.size + 1 + 1) 4 TR W0).some
  have r2 := (rules (w.heap.size + 1 + 1) 4 TR W0).free
  simp only [cellsAre, Nat.zero_add, Nat.reduceAdd, and_true] at k0 k1
  clear b0 b1 b2
  have bw0 : Below w.heap.size w W0.drew := hbw.drew
  go_region_held3 (fun w' => Held (w.heap.size + 1 + 1) 4 TR W0 w') (first | assumption | exact Held.trans_ (by assumption) (by assumption) | exact Held.set_ (Held.set_ (Held.set_ (Held.set_ ((by assumption)) _ _) _ _) _ _) _ _)
    (first | (go_at_call 40; have tk := hb3; refine (wmul_any _ _ (aq) (bq) _ ⟨_, _, _, rfl, (aH1.out.below bw3)⟩ ⟨_, _, _, rfl, (bH1.out.below bw3)⟩ (by have z0 := sz_mul (ap) (bq); have z1 := sz_mul (bp) (aq); have z2 := sz_add (ap * bq) (bp * aq); omega)).mono ?_; rintro e w4 ⟨v4, rfl, ⟨A4_0, n4_0, c4_0, rfl, hx4_0⟩, hb4⟩; have hh4 : Held (w.heap.size + 1 + 1) 4 TR W0 w4 := hh3.trans_ hb4; have bw4 := bt bw3 hb4) | (go_at_call 41; have tk := hb2; refine (wadd_any _ _ (ap * bq) (bp * aq) _ ⟨_, _, _, rfl, (hx1_0.below hb2)⟩ ⟨_, _, _, rfl, hx2_0⟩ (by have z0 := sz_mul (ap) (bq); have z1 := sz_mul (bp) (aq); omega) (by have z0 := sz_mul (ap) (bq); have z1 := sz_mul (bp) (aq); omega)).mono ?_; rintro e w3 ⟨v3, rfl, ⟨A3_0, n3_0, c3_0, rfl, hx3_0⟩, hb3⟩; have hh3 : Held (w.heap.size + 1 + 1) 4 TR W0 w3 := hh2.trans_ hb3; have bw3 := bt bw2 hb3) | (go_at_call 40; have tk := hb1; refine (wmul_any _ _ (bp) (aq) _ ⟨_, _, _, rfl, (bH0.out.below bw1)⟩ ⟨_, _, _, rfl, (aH1.out.below bw1)⟩ (by have z0 := sz_mul (ap) (bq); omega)).mono ?_; rintro e w2 ⟨v2, rfl, ⟨A2_0, n2_0, c2_0, rfl, hx2_0⟩, hb2⟩; have hh2 : Held (w.heap.size + 1 + 1) 4 TR W0 w2 := hh1.trans_ hb2; have bw2 := bt bw1 hb2) | (go_at_call 40; refine (wmul_any _ _ (ap) (bq) _ ⟨_, _, _, rfl, (aH0.out.below bw0)⟩ ⟨_, _, _, rfl, (bH1.out.below bw0)⟩ (by omega)).mono ?_; rintro e w1 ⟨v1, rfl, ⟨A1_0, n1_0, c1_0, rfl, hx1_0⟩, hb1⟩; have hh1 : Held (w.heap.size + 1 + 1) 4 TR W0 w1 := hst.trans_ hb1; have bw1 := bt bw0 hb1))
  go_wp2
  (try simp only [Exit.inBlock, Exit.then])
  refine bodyPost_ret (v := .agg #[.bool (ng ((ap * bq) + (bp * aq))), .slice A3_0 n3_0 c3_0, .bool (ng (aq * bq)), .slice A4_0 n4_0 c4_0]) (by simp [results, Try.results20, go_sem, r1 _ hh4]) rfl ?_
  have hst2 := Held.set_ (Held.set_ (Held.set_ (Held.set_ (hh4.here) 0 (.bool (ng ((ap * bq) + (bp * aq))))) 1 (.slice A3_0 n3_0 c3_0)) 2 (.bool (ng (aq * bq)))) 3 (.slice A4_0 n4_0 c4_0)
  exact ⟨_, rfl, ⟨_, _, _, _, _, _, rfl, ((hx3_0.below hb4)).held hst2 (by decide), (hx4_0).held hst2 (by decide), Int.mul_pos aP0.out bP0.out⟩, (hh4.trans2 hst2).below hbw (by omega)⟩

set_option maxHeartbeats 800000 in
theorem wqsub_any (a b : Value) (ap aq : Int) (bp bq : Int) (w : World) (ha : WQ w a ap aq) (hb : WQ w b bp bq) (hs : sz ap + sz aq + sz bp + sz bq ≤ 100000000000) :
    Calls Try.prog 18 #[a, b] w (Ret (fun v w' => WQ w' v (ap * bq + -bp * aq) (aq * bq)) w) := by
  obtain ⟨aA0, an0, ac0, aA1, an1, ac1, rfl, ah0, ah1, apos0⟩ := ha
  obtain ⟨bA0, bn0, bc0, bA1, bn1, bc1, rfl, bh0, bh1, bpos0⟩ := hb
  have aH0 := Lib.hid ah0
  clear ah0
  have aH1 := Lib.hid ah1
  clear ah1
  have aP0 := Lib.hid apos0
  clear apos0
  have bH0 := Lib.hid bh0
  clear bh0
  have bH1 := Lib.hid bh1
  clear bh1
  have bP0 := Lib.hid bpos0
  clear bpos0
  go_enter Try.func18, Try.ntmps18
  go_wp2
  refine wp_world (fun W0 => Blk W0 (w.heap.size) TR #[.bool (ng ap), .slice aA0 an0 ac0, .bool (ng aq), .slice aA1 an1 ac1] ∧ Blk W0 (w.heap.size + 1) TR #[.bool (ng bp), .slice bA0 bn0 bc0, .bool (ng bq), .slice bA1 bn1 bc1] ∧ Blk W0 (w.heap.size + 1 + 1) TR #[.bool false, .slice none 0 0, .bool false, .slice none 0 0] ∧ Below w.heap.size w W0) (by exact ⟨((Blk.new_ _ _ rfl).alloc _).alloc _, (Blk.new_ _ _ (by simp)).alloc _, Blk.new_ _ _ (by simp), by go_grown⟩) ?_
  rintro W0 ⟨b0, b1, b2, hbw⟩
  have k0 := fun w' (hh : Held (w.heap.size + 1 + 1) 4 TR W0 w') => (b0.held hh (by omega)).cells
  have k1 := fun w' (hh : Held (w.heap.size + 1 + 1) 4 TR W0 w') => (b1.held hh (by omega)).cells
  have hst : Held (w.heap.size + 1 + 1) 4 TR W0 W0.drew := b2.heldS.drew
  have r1 := (rules (w.heap.size + 1 + 1) 4 TR W0).some
  have r2 := (rules (w.heap.size + 1 + 1) 4 TR W0).free
  simp only [cellsAre, Nat.zero_add, Nat.reduceAdd, and_true] at k0 k1
  clear b0 b1 b2
  have bw0 : Below w.heap.size w W0.drew := hbw.drew
  go_region_held3 (fun w' => Held (w.heap.size + 1 + 1) 4 TR W0 w') (first | assumption | exact Held.trans_ (by assumption) (by assumption) | exact Held.set_ (Held.set_ (Held.set_ (Held.set_ ((by assumption)) _ _) _ _) _ _) _ _)
    (first | (go_at_call 20; have tk := hb1; refine (wqadd_any _ _ (ap) (aq) (-bp) (bq) _ ⟨_, _, _, _, _, _, rfl, (aH0.out.below bw1), (aH1.out.below bw1), aP0.out⟩ ⟨_, _, _, _, _, _, rfl, hx1_0, (bH1.out.below bw1), bP0.out⟩ (by have z0 := sz_neg (bp); omega)).mono ?_; rintro e w2 ⟨v2, rfl, ⟨A2_0, n2_0, c2_0, A2_1, n2_1, c2_1, rfl, hx2_0, hx2_1, hp2_0⟩, hb2⟩; have hh2 : Held (w.heap.size + 1 + 1) 4 TR W0 w2 := hh1.trans_ hb2; have bw2 := bt bw1 hb2) | (go_at_call 39; refine (wneg_any _ (bp) _ ⟨_, _, _, rfl, (bH0.out.below bw0)⟩).mono ?_; rintro e w1 ⟨v1, rfl, ⟨A1_0, n1_0, c1_0, rfl, hx1_0⟩, hb1⟩; have hh1 : Held (w.heap.size + 1 + 1) 4 TR W0 w1 := hst.trans_ hb1; have bw1 := bt bw0 hb1))
  go_wp2
  (try simp only [Exit.inBlock, Exit.then])
  refine bodyPost_ret (v := .agg #[.bool (ng (ap * bq + (-bp) * aq)), .slice A2_0 n2_0 c2_0, .bool (ng (aq * bq)), .slice A2_1 n2_1 c2_1]) (by simp [results, Try.results18, go_sem, r1 _ hh2]) rfl ?_
  have hst2 := Held.set_ (Held.set_ (Held.set_ (Held.set_ (hh2.here) 0 (.bool (ng (ap * bq + (-bp) * aq)))) 1 (.slice A2_0 n2_0 c2_0)) 2 (.bool (ng (aq * bq)))) 3 (.slice A2_1 n2_1 c2_1)
  exact ⟨_, rfl, ⟨_, _, _, _, _, _, rfl, (hx2_0).held hst2 (by decide), (hx2_1).held hst2 (by decide), hp2_0⟩, (hh2.trans2 hst2).below hbw (by omega)⟩

set_option maxHeartbeats 800000 in
theorem wqdiv_any (a b : Value) (ap aq : Int) (bp bq : Int) (w : World) (ha : WQ w a ap aq) (hb : WQ w b bp bq) (hbp : bp ≠ 0) (hs : sz ap + sz aq + sz bp + sz bq ≤ 100000000000) :
    Calls Try.prog 51 #[a, b] w (Ret (fun v w' => WQ w' v (rn (ap * bq) (aq * bp)) (rd (aq * bp))) w) := by
  have HBP_ := Lib.hid hbp
  clear hbp
  obtain ⟨aA0, an0, ac0, aA1, an1, ac1, rfl, ah0, ah1, apos0⟩ := ha
  obtain ⟨bA0, bn0, bc0, bA1, bn1, bc1, rfl, bh0, bh1, bpos0⟩ := hb
  have aH0 := Lib.hid ah0
  clear ah0
  have aH1 := Lib.hid ah1
  clear ah1
  have aP0 := Lib.hid apos0
  clear apos0
  have bH0 := Lib.hid bh0
  clear bh0
  have bH1 := Lib.hid bh1
  clear bh1
  have bP0 := Lib.hid bpos0
  clear bpos0
  go_enter Try.func51, Try.ntmps51
  go_wp2
  refine wp_world (fun W0 => Blk W0 (w.heap.size) TR #[.bool (ng ap), .slice aA0 an0 ac0, .bool (ng aq), .slice aA1 an1 ac1] ∧ Blk W0 (w.heap.size + 1) TR #[.bool (ng bp), .slice bA0 bn0 bc0, .bool (ng bq), .slice bA1 bn1 bc1] ∧ Blk W0 (w.heap.size + 1 + 1) TR #[.bool false, .slice none 0 0, .bool false, .slice none 0 0] ∧ Below w.heap.size w W0) (by exact ⟨((Blk.new_ _ _ rfl).alloc _).alloc _, (Blk.new_ _ _ (by simp)).alloc _, Blk.new_ _ _ (by simp), by go_grown⟩) ?_
  rintro W0 ⟨b0, b1, b2, hbw⟩
  have k0 := fun w' (hh : Held (w.heap.size + 1 + 1) 4 TR W0 w') => (b0.held hh (by omega)).cells
  have k1 := fun w' (hh : Held (w.heap.size + 1 + 1) 4 TR W0 w') => (b1.held hh (by omega)).cells
  have hst : Held (w.heap.size + 1 + 1) 4 TR W0 W0.drew := b2.heldS.drew
  have r1 := (rules (w.heap.size + 1 + 1) 4 TR W0).some
  have r2 := (rules (w.heap.size + 1 + 1) 4 TR W0).free
  simp only [cellsAre, Nat.zero_add, Nat.reduceAdd, and_true] at k0 k1
  clear b0 b1 b2
  have bw0 : Below w.heap.size w W0.drew := hbw.drew
  go_region_held3 (fun w' => Held (w.heap.size + 1 + 1) 4 TR W0 w') (first | assumption | exact Held.trans_ (by assumption) (by assumption) | exact Held.set_ (Held.set_ (Held.set_ (Held.set_ ((by assumption)) _ _) _ _) _ _) _ _)
    (first | (go_at_call 37; have tk := hb2; refine (wratio_any _ _ (ap * bq) (aq * bp) _ ⟨_, _, _, rfl, (hx1_0.below hb2)⟩ ⟨_, _, _, rfl, hx2_0⟩ (Int.mul_ne_zero (Int.ne_of_gt aP0.out) HBP_.out)).mono ?_; rintro e w3 ⟨v3, rfl, ⟨A3_0, n3_0, c3_0, A3_1, n3_1, c3_1, rfl, hx3_0, hx3_1, hp3_0⟩, hb3⟩; have hh3 : Held (w.heap.size + 1 + 1) 4 TR W0 w3 := hh2.trans_ hb3; have bw3 := bt bw2 hb3) | (go_at_call 40; have tk := hb1; refine (wmul_any _ _ (aq) (bp) _ ⟨_, _, _, rfl, (aH1.out.below bw1)⟩ ⟨_, _, _, rfl, (bH0.out.below bw1)⟩ (by have z0 := sz_mul (ap) (bq); omega)).mono ?_; rintro e w2 ⟨v2, rfl, ⟨A2_0, n2_0, c2_0, rfl, hx2_0⟩, hb2⟩; have hh2 : Held (w.heap.size + 1 + 1) 4 TR W0 w2 := hh1.trans_ hb2; have bw2 := bt bw1 hb2) | (go_at_call 40; refine (wmul_any _ _ (ap) (bq) _ ⟨_, _, _, rfl, (aH0.out.below bw0)⟩ ⟨_, _, _, rfl, (bH1.out.below bw0)⟩ (by omega)).mono ?_; rintro e w1 ⟨v1, rfl, ⟨A1_0, n1_0, c1_0, rfl, hx1_0⟩, hb1⟩; have hh1 : Held (w.heap.size + 1 + 1) 4 TR W0 w1 := hst.trans_ hb1; have bw1 := bt bw0 hb1))
  go_wp2
  (try simp only [Exit.inBlock, Exit.then])
  refine bodyPost_ret (v := .agg #[.bool (ng (rn (ap * bq) (aq * bp))), .slice A3_0 n3_0 c3_0, .bool (ng (rd (aq * bp))), .slice A3_1 n3_1 c3_1]) (by simp [results, Try.results51, go_sem, r1 _ hh3]) rfl ?_
  have hst2 := Held.set_ (Held.set_ (Held.set_ (Held.set_ (hh3.here) 0 (.bool (ng (rn (ap * bq) (aq * bp))))) 1 (.slice A3_0 n3_0 c3_0)) 2 (.bool (ng (rd (aq * bp))))) 3 (.slice A3_1 n3_1 c3_1)
  exact ⟨_, rfl, ⟨_, _, _, _, _, _, rfl, (hx3_0).held hst2 (by decide), (hx3_1).held hst2 (by decide), hp3_0⟩, (hh3.trans2 hst2).below hbw (by omega)⟩

set_option maxHeartbeats 800000 in
theorem wwhole_any (n : Int) (w : World)  (h1 : -9223372036854775808 ≤ n) (h2 : n ≤ 9223372036854775807) :
    Calls Try.prog 17 #[.int .i64 n] w (Ret (fun v w' => WQ w' v (n) (1)) w) := by
  go_enter Try.func17, Try.ntmps17
  go_wp2_with fail
  obtain ⟨W0, hW0⟩ : ∃ W0, W0 = (w).alloc (.cells #[.bool false, .slice none 0 0, .bool false, .slice none 0 0] TR) := ⟨_, rfl⟩
  have b0 : Blk W0 (w.heap.size) TR #[.bool false, .slice none 0 0, .bool false, .slice none 0 0] := by rw [hW0]; exact Blk.new_ _ _ rfl
  have hbw : Below w.heap.size w W0 := by rw [hW0]; go_grown
  rw [← hW0]
  clear hW0
  have hst : Held (w.heap.size) 4 TR W0 W0 := b0.heldS
  have r1 := (rules (w.heap.size) 4 TR W0).some
  have r2 := (rules (w.heap.size) 4 TR W0).free
  clear b0
  have bw0 : Below w.heap.size w W0 := hbw
  refine (wof_any (n) _ (by omega) (by omega)).mono ?_; rintro e w1 ⟨v1, rfl, ⟨A1_0, n1_0, c1_0, rfl, hx1_0⟩, hb1⟩; have hh1 : Held (w.heap.size) 4 TR W0 w1 := hst.trans_ hb1; have bw1 := bt bw0 hb1
  go_wp2_with (first | (go_at_call 38; have tk := hb1; refine (wof_any (1) _ (by omega) (by omega)).mono ?_; rintro e w2 ⟨v2, rfl, ⟨A2_0, n2_0, c2_0, rfl, hx2_0⟩, hb2⟩; have hh2 : Held (w.heap.size) 4 TR W0 w2 := hh1.trans_ hb2; have bw2 := bt bw1 hb2))
  (try simp only [Exit.inBlock, Exit.then])
  refine bodyPost_ret (v := .agg #[.bool (ng (n)), .slice A1_0 n1_0 c1_0, .bool (ng (1)), .slice A2_0 n2_0 c2_0]) (by simp [results, Try.results17, go_sem, r1 _ hh2]) rfl ?_
  have hst2 := Held.set_ (Held.set_ (Held.set_ (Held.set_ (hh2.here) 0 (.bool (ng (n)))) 1 (.slice A1_0 n1_0 c1_0)) 2 (.bool (ng (1)))) 3 (.slice A2_0 n2_0 c2_0)
  exact ⟨_, rfl, ⟨_, _, _, _, _, _, rfl, ((hx1_0.below hb2)).held hst2 (by decide), (hx2_0).held hst2 (by decide), (by decide)⟩, (hh2.trans2 hst2).below hbw (by omega)⟩

end Go.Proofs.Tb
/- Contracts of package wide: Sign and Abs of a fraction; Frac. -/
namespace Go.Proofs.Tb
open Go.RowKit
attribute [local go_sem] cell_set_same

set_option maxHeartbeats 800000 in
theorem wqsign_any (a : Value) (p q : Int) (w : World) (h : WQ w a p q) : Calls Try.prog 42 #[a] w (Ret (fun v _ => v = .int .i64 p.sign) w) := by
  obtain ⟨A, n, c, A', n', c', rfl, h, h', hq⟩ := h
  have H := Lib.hid h
  clear h h' hq
  go_enter Try.func42, Try.ntmps42
  go_wp2_with fail
  have hbw : Below w.heap.size w (w.alloc (.cells #[.bool (ng p), .slice A n c, .bool (ng q), .slice A' n' c'] TR)) := by go_grown
  refine (wsign_any _ p _ ⟨_, _, _, rfl, H.out.below hbw⟩).mono ?_
  rintro e w1 ⟨v1, rfl, rfl, hb1⟩
  have HB := Lib.hid (bt hbw hb1)
  clear hb1
  go_wp2
  go_returns
  exact ⟨_, rfl, rfl, HB.out⟩

set_option maxHeartbeats 1600000 in
theorem wqabs_any (a : Value) (p q : Int) (w : World) (h : WQ w a p q) : Calls Try.prog 22 #[a] w (Ret (fun v w' => WQ w' v (p.natAbs : Int) q) w) := by
  obtain ⟨A, n, c, A', n', c', rfl, h, h', hq⟩ := h
  have H := Lib.hid h
  have H' := Lib.hid h'
  have HQ := Lib.hid hq
  clear h h' hq
  go_enter Try.func22, Try.ntmps22
  go_wp2_with fail
  obtain ⟨W0, hW0⟩ : ∃ W0, W0 = (w.alloc (.cells #[.bool (ng p), .slice A n c, .bool (ng q), .slice A' n' c'] TR)).alloc (.cells #[.bool false, .slice none 0 0, .bool false, .slice none 0 0] TR) := ⟨_, rfl⟩
  have b0 : Blk W0 w.heap.size TR #[.bool (ng p), .slice A n c, .bool (ng q), .slice A' n' c'] := by rw [hW0]; exact (Blk.new_ _ _ rfl).alloc _
  have b1 : Blk W0 (w.heap.size + 1) TR #[.bool false, .slice none 0 0, .bool false, .slice none 0 0] := by rw [hW0]; exact Blk.new_ _ _ (by simp)
  have hbw : Below w.heap.size w W0 := by rw [hW0]; go_grown
  rw [← hW0]
  clear hW0
  refine (wqsign_any _ p q _ ⟨_, _, _, _, _, _, rfl, H.out.below hbw, H'.out.below hbw, HQ.out⟩).mono ?_
  rintro e w1 ⟨v1, rfl, rfl, hb1⟩
  have k0 := fun w' (hh : Held (w.heap.size + 1) 4 TR w1 w') => ((b0.below hb1).held hh (by omega)).cells
  have hst0 : Held (w.heap.size + 1) 4 TR w1 w1 := (b1.below hb1).heldS
  have hst := hst0.drew
  have r1 := (rules (w.heap.size + 1) 4 TR w1).some
  have r2 := (rules (w.heap.size + 1) 4 TR w1).free
  simp only [cellsAre, Nat.zero_add, Nat.reduceAdd, and_true] at k0
  have hbw1 := bt hbw hb1
  have HB1 := Lib.hid hb1
  clear b0 b1 hb1
  by_cases hp : p < 0
  · have hs : p.sign < 0 := by rw [Int.sign_eq_neg_one_of_neg hp]; omega
    have HN := Lib.hid (show -p = (p.natAbs : Int) by omega)
    go_wp2
    go_region_held3 (fun w' => Held (w.heap.size + 1) 4 TR w1 w') (first | assumption | exact Held.trans_ (by assumption) (by assumption) | exact Held.set_ (Held.set_ (Held.set_ (Held.set_ (by assumption) _ _) _ _) _ _) _ _)
      (first | (go_at_call 39; refine (wneg_any _ p _ ⟨_, _, _, rfl, H.out.below hbw1.drew⟩).mono ?_; rintro e w2 ⟨v2, rfl, ⟨A2, n2, c2, rfl, h2⟩, hb2⟩))
    have hh2 : Held (w.heap.size + 1) 4 TR w1 w2 := hst.trans_ hb2
    go_wp2
    (try simp only [Exit.inBlock, Exit.then])
    refine bodyPost_ret (v := .agg #[.bool (ng (-p)), .slice A2 n2 c2, .bool (ng q), .slice A' n' c']) (by simp [results, Try.results22, go_sem, r1 _ hh2]) rfl ?_
    have hst2 := Held.set_ (Held.set_ (Held.set_ (Held.set_ hh2.here 0 (.bool (ng (-p)))) 1 (.slice A2 n2 c2)) 2 (.bool (ng q))) 3 (.slice A' n' c')
    exact ⟨_, rfl, ⟨A2, n2, c2, A', n', c', by rw [HN.out], by rw [← HN.out]; exact h2.held hst2 (by decide), ((H'.out.below hbw1.drew).below hb2).held hst2 (by decide), HQ.out⟩, (hh2.trans2 hst2).below hbw1 (by omega)⟩
  · have hs : ¬ p.sign < 0 := by
      rcases Int.lt_or_eq_of_le (show 0 ≤ p by omega) with h | h
      · rw [Int.sign_eq_one_of_pos h]; omega
      · subst h; simp
    have HN := Lib.hid (show p = (p.natAbs : Int) by omega)
    go_wp2
    (try simp only [Exit.inBlock, Exit.then])
    refine bodyPost_ret (v := .agg #[.bool (ng p), .slice A n c, .bool (ng q), .slice A' n' c']) (by simp [results, Try.results22, go_sem, r1 _ hst0, k0 _ hst0]) rfl ?_
    have hst2 := Held.set_ (Held.set_ (Held.set_ (Held.set_ hst0 0 (.bool (ng p))) 1 (.slice A n c)) 2 (.bool (ng q))) 3 (.slice A' n' c')
    exact ⟨_, rfl, ⟨A, n, c, A', n', c', by rw [← HN.out], by rw [← HN.out]; exact (H.out.below hbw1).held hst2 (by decide), (H'.out.below hbw1).held hst2 (by decide), HQ.out⟩, hst2.below hbw1 (by omega)⟩

/-- The greatest absolute numerator or denominator. -/
def Lim (z : Int) : Prop := z.natAbs ≤ 4611686018427387904
/-- p/q in lowest terms. -/
def lown (p q : Int) : Int := p / (Int.gcd p q : Int)
def lowd (p q : Int) : Int := q / (Int.gcd p q : Int)
/-- What Frac returns. -/
def FracR (p q : Int) (v : Value) (_ : World) : Prop :=
  (Lim (lown p q) ∧ Lim (lowd p q) → v = .tuple #[.agg #[.int .i64 (lown p q), .int .i64 (lowd p q)], .int .i64 0]) ∧
  (¬ (Lim (lown p q) ∧ Lim (lowd p q)) → v = .tuple #[.agg #[.int .i64 0, .int .i64 0], .int .i64 5])
theorem gcd_pos (p q : Int) (hq : 0 < q) : 0 < Nat.gcd p.natAbs q.natAbs := Nat.gcd_pos_of_pos_right _ (by omega)
theorem lown_abs (p q : Int) : (lown p q).natAbs = p.natAbs / Nat.gcd p.natAbs q.natAbs := by
  unfold lown Int.gcd
  rw [Int.natAbs_ediv_of_dvd]
  · simp
  · exact Int.ofNat_dvd_left.2 (Nat.gcd_dvd_left _ _)
theorem lowd_abs (p q : Int) : (lowd p q).natAbs = q.natAbs / Nat.gcd p.natAbs q.natAbs := by
  unfold lowd Int.gcd
  rw [Int.natAbs_ediv_of_dvd]
  · simp
  · exact Int.ofNat_dvd_left.2 (Nat.gcd_dvd_right _ _)
theorem lowd_pos (p q : Int) (hq : 0 < q) : 0 < lowd p q := by
  have h := lowd_abs p q
  have h1 : 0 < q.natAbs / Nat.gcd p.natAbs q.natAbs := Nat.div_pos (Nat.le_of_dvd (by omega) (Nat.gcd_dvd_right _ _)) (gcd_pos p q hq)
  have h2 : 0 ≤ lowd p q := Int.ediv_nonneg (by omega) (by omega)
  omega
theorem lown_ng (p q : Int) (hq : 0 < q) : ng p = ng (lown p q) ∨ lown p q = 0 := by
  by_cases h0 : lown p q = 0
  · exact .inr h0
  · left
    have hg : (0 : Int) < (Int.gcd p q : Int) := by have := gcd_pos p q hq; unfold Int.gcd; omega
    unfold ng
    by_cases hp : p < 0
    · have : lown p q < 0 := Int.ediv_neg_of_neg_of_pos hp hg
      simp [hp, this]
    · have : ¬ lown p q < 0 := by have := Int.ediv_nonneg (show 0 ≤ p by omega) (Int.le_of_lt hg); unfold lown; omega
      simp [hp, this]

set_option maxHeartbeats 3200000 in
theorem wfrac_any (a : Value) (p q : Int) (w : World) (h : WQ w a p q) (hs : sz p ≤ 100000000000) (hs' : sz q ≤ 100000000000) : Calls Try.prog 23 #[a] w (Ret (FracR p q) w) := by
  obtain ⟨A, n, c, A', n', c', rfl, h, h', hq⟩ := h
  have H := Lib.hid h
  have H' := Lib.hid h'
  have HQ := Lib.hid hq
  have HS := Lib.hid hs
  have HS' := Lib.hid hs'
  have HG := Lib.hid (gcd_pos p q hq)
  clear h h' hq hs hs'
  obtain ⟨s, hsp⟩ : ∃ s, ng p = s := ⟨_, rfl⟩
  obtain ⟨s', hsq⟩ : ∃ s, ng q = s := ⟨_, rfl⟩
  have HN : Hid (s = ng (lown p q) ∨ lown p q = 0) := by rw [← hsp]; exact lown_ng p q HQ.out
  have HD : Hid (false = ng (lowd p q) ∨ lowd p q = 0) := Or.inl (by have := lowd_pos p q HQ.out; unfold ng; simp; omega)
  rw [hsp, hsq]
  clear hsp hsq
  obtain ⟨g, hg⟩ : ∃ g, Nat.gcd p.natAbs q.natAbs = g := ⟨_, rfl⟩
  have HG1 := Lib.hid hg
  have HGS : Hid (dl B32 g ≤ 100000000000) := by
    have h1 := dl_mono B32 two_B32 g q.natAbs (by rw [← hg]; exact Nat.le_of_dvd (by have := HQ.out; omega) (Nat.gcd_dvd_right _ _))
    have := HS'.out
    unfold sz at this
    show dl B32 g ≤ 100000000000
    omega
  have HLN : Hid (p.natAbs / g = (lown p q).natAbs) := by rw [← hg]; exact (lown_abs p q).symm
  have HLD : Hid (q.natAbs / g = (lowd p q).natAbs) := by rw [← hg]; exact (lowd_abs p q).symm
  rw [hg] at HG
  clear hg
  go_enter Try.func23, Try.ntmps23
  go_wp2_with fail
  obtain ⟨W0, hW0⟩ : ∃ W0, W0 = (w.alloc (.cells #[.bool s, .slice A n c, .bool s', .slice A' n' c'] TR)).alloc (.cells #[.int .i64 0, .int .i64 0] TF) := ⟨_, rfl⟩
  have b0 : Blk W0 w.heap.size TR #[.bool s, .slice A n c, .bool s', .slice A' n' c'] := by rw [hW0]; exact (Blk.new_ _ _ rfl).alloc _
  have b1 : Blk W0 (w.heap.size + 1) TF #[.int .i64 0, .int .i64 0] := by rw [hW0]; exact Blk.new_ _ _ (by simp)
  have hbw : Below w.heap.size w W0 := by rw [hW0]; go_grown
  rw [← hW0]
  clear hW0
  have k0 := fun w' (hh : Ext W0 w') => (b0.below hh).cells
  have k1 := fun w' (hh : Ext W0 w') => (b1.below hh).cells
  have k2 := fun w' (hh : Ext W0 w') => (b1.below hh).free
  simp only [cellsAre, Nat.zero_add, Nat.reduceAdd, and_true] at k0 k1
  clear b0 b1
  have ew0 : Ext W0 W0 := Ext.refl _
  refine (common_any _ _ _ _ _ _ p.natAbs q.natAbs _ (H.out.below hbw) (H'.out.below hbw) HS.out HS'.out).mono ?_
  rintro e w1 ⟨v1, rfl, ⟨A1, n1, c1, rfl, h1⟩, hb1⟩
  have ew1 : Ext W0 w1 := bt ew0 hb1
  rw [HG1.out] at h1
  go_wp2_with fail
  refine (divided_any _ _ _ _ _ _ p.natAbs g _ ((H.out.below hbw).below hb1) h1 HG.out HS.out HGS.out).mono ?_
  rintro e w2 ⟨v2, rfl, ⟨x2, y2, rfl, ⟨A2, n2, c2, rfl, h2⟩, ⟨B2, m2, d2, rfl, h2'⟩⟩, hb2⟩
  have ew2 : Ext W0 w2 := bt ew1 hb2
  rw [HLN.out] at h2
  clear h2'
  go_wp2_with fail
  refine (divided_any _ _ _ _ _ _ q.natAbs g _ (((H'.out.below hbw).below hb1).below hb2) (h1.below hb2) HG.out HS'.out HGS.out).mono ?_
  rintro e w3 ⟨v3, rfl, ⟨x3, y3, rfl, ⟨A3, n3, c3, rfl, h3⟩, ⟨B3, m3, d3, rfl, h3'⟩⟩, hb3⟩
  have ew3 : Ext W0 w3 := bt ew2 hb3
  rw [HLD.out] at h3
  clear h3'
  go_wp2_with fail
  refine (made_any _ _ _ _ _ (lown p q) _ (h2.below hb3) rfl HN.out).mono ?_
  rintro e w4 ⟨v4, rfl, ⟨A4, n4, c4, rfl, h4⟩, hb4⟩
  have ew4 : Ext W0 w4 := bt ew3 hb4
  go_wp2_with fail
  refine (wSmall_any _ (lown p q) _ ⟨_, _, _, rfl, h4⟩).mono ?_
  rintro e w5 ⟨v5, rfl, ⟨u, o, rfl, hu1, hu2⟩, hb5⟩
  have ew5 : Ext W0 w5 := bt ew4 hb5
  have HU1 := Lib.hid hu1
  have HU2 := Lib.hid hu2
  clear hu1 hu2
  go_wp2_with fail
  refine (made_any _ _ _ _ _ (lowd p q) _ ((h3.below hb4).below hb5) rfl HD.out).mono ?_
  rintro e w6 ⟨v6, rfl, ⟨A6, n6, c6, rfl, h6⟩, hb6⟩
  have ew6 : Ext W0 w6 := bt ew5 hb6
  go_wp2_with fail
  refine (wSmall_any _ (lowd p q) _ ⟨_, _, _, rfl, h6⟩).mono ?_
  rintro e w7 ⟨v7, rfl, ⟨u', o', rfl, hu1', hu2'⟩, hb7⟩
  have ew7 : Ext W0 w7 := bt ew6 hb7
  have HU1' := Lib.hid hu1'
  have HU2' := Lib.hid hu2'
  have HBW := Lib.hid (bt hbw ew7)
  clear hu1' hu2' hb1 hb2 hb3 hb4 hb5 hb6 hb7 h1 h2 h3 h4 h6 ew0 ew1 ew2 ew3 ew4 ew5 ew6 hbw
  have kk1 := k1 w7 ew7
  have kk2 := k2 w7 ew7
  clear k0 k1 k2
  have hbf : ∀ x y, Below w.heap.size w ((w7.setCell ⟨w.heap.size + 1, 0, none⟩ x).setCell ⟨w.heap.size + 1, 1, none⟩ y) := fun x y => (HBW.out.setCell (by simp) _).setCell (by simp) _
  have HBF := Lib.hid hbf
  clear hbf
  by_cases hl1 : Lim (lown p q)
  · obtain ⟨e1, e2⟩ := HU1.out hl1
    subst e1 e2
    by_cases hl2 : Lim (lowd p q)
    · obtain ⟨e1, e2⟩ := HU1'.out hl2
      subst e1 e2
      go_wp2
      (try simp only [Exit.inBlock, Exit.then])
      refine bodyPost_ret (v := .tuple #[.agg #[.int .i64 (lown p q), .int .i64 (lowd p q)], .int .i64 0]) (by simp [results, Try.results23, go_sem, kk1]) rfl ?_
      exact ⟨_, rfl, ⟨fun _ => rfl, fun h => absurd ⟨hl1, hl2⟩ h⟩, HBF.out _ _⟩
    · obtain ⟨e1, e2⟩ := HU2'.out (by unfold Lim at hl2; omega)
      subst e1 e2
      go_wp2
      (try simp only [Exit.inBlock, Exit.then])
      refine bodyPost_ret (v := .tuple #[.agg #[.int .i64 0, .int .i64 0], .int .i64 5]) (by simp [results, Try.results23, go_sem, kk1]) rfl ?_
      exact ⟨_, rfl, ⟨fun h => absurd h.2 hl2, fun _ => rfl⟩, HBF.out _ _⟩
  · obtain ⟨e1, e2⟩ := HU2.out (by unfold Lim at hl1; omega)
    subst e1 e2
    go_wp2
    (try simp only [Exit.inBlock, Exit.then])
    refine bodyPost_ret (v := .tuple #[.agg #[.int .i64 0, .int .i64 0], .int .i64 5]) (by simp [results, Try.results23, go_sem, kk1]) rfl ?_
    exact ⟨_, rfl, ⟨fun h => absurd h.1 hl1, fun _ => rfl⟩, HBF.out _ _⟩
end Go.Proofs.Tb
