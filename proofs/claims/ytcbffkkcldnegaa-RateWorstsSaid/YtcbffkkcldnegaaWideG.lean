/- Contracts of package wide: Of, small. -/
import Derived.Test.YtcbffkkcldnegaaWideF
set_option linter.unusedVariables false
set_option linter.unusedSimpArgs false
namespace Go.Proofs.Tb
open Go.RowKit
attribute [local go_sem] cell_set_same

/-- A block of two limbs, as Of and divided make them. -/
theorem two_sl {W : World} {g : Nat} {a b : Int} {m : Nat} (h : Blk W g TU #[.int .u32 a, .int .u32 b]) (ha : a = ((m % B32 : Nat) : Int)) (hb : b = ((m / B32 : Nat) : Int)) :
    Sl TU W (some ⟨g, 0, none⟩) 2 2 ([m % B32, m / B32].map U32) := by
  subst ha hb
  exact Blk.sl (xs := [m % B32, m / B32].map U32) h (by simp [U32]) (by simp)
theorem two_dg (m : Nat) (hm : m < 18446744073709551616) : Dg B32 [m % B32, m / B32] ∧ val B32 [m % B32, m / B32] = m := by
  refine ⟨fun x hx => ?_, ?_⟩
  · simp only [List.mem_cons, List.not_mem_nil, or_false] at hx
    rw [B32_eq] at hx ⊢
    rcases hx with rfl | rfl <;> omega
  · simp only [val]
    rw [B32_eq]; omega

set_option maxHeartbeats 800000 in
theorem wof_any (n : Int) (w : World) (h : -9223372036854775808 ≤ n) (h' : n ≤ 9223372036854775807) :
    Calls Try.prog 58 #[.int .i64 n] w (Ret (fun v w' => WI w' v n) w) := by
  obtain ⟨m, hm⟩ : ∃ m, n.natAbs = m := ⟨_, rfl⟩
  have hm64 : m < 18446744073709551616 := by omega
  have HD := Lib.hid (two_dg m hm64)
  have HM := Lib.hid hm
  by_cases h0 : n < 0
  · have e1 : IntKind.u64.wrap (-IntKind.u64.wrap n) = (m : Int) := by simp only [IntKind.wrap_u64]; omega
    have E1 := Lib.hid e1
    clear e1 hm hm64
    go_enter Try.func58, Try.ntmps58
    go_wp2_with fail
    rw [E1.out]
    have hblk : Blk ((w.alloc (.cells #[.bool false, .slice none 0 0] TI)).alloc (.cells #[.int .u32 ((m : Int) % 4294967296), .int .u32 ((m : Int) / 4294967296 % 4294967296)] TU)) (w.heap.size + 1) TU #[.int .u32 ((m : Int) % 4294967296), .int .u32 ((m : Int) / 4294967296 % 4294967296)] := Blk.new_ _ _ (by simp)
    have hbw : Below w.heap.size w ((w.alloc (.cells #[.bool false, .slice none 0 0] TI)).alloc (.cells #[.int .u32 ((m : Int) % 4294967296), .int .u32 ((m : Int) / 4294967296 % 4294967296)] TU)) := by go_grown
    have hres : Blk ((w.alloc (.cells #[.bool false, .slice none 0 0] TI)).alloc (.cells #[.int .u32 ((m : Int) % 4294967296), .int .u32 ((m : Int) / 4294967296 % 4294967296)] TU)) w.heap.size TI #[.bool false, .slice none 0 0] := (Blk.new_ _ _ rfl).alloc _
    have hsl := two_sl (m := m) hblk (by rw [B32_eq]; have := HM.out; omega) (by rw [B32_eq]; have := HM.out; omega)
    refine (trim_any _ _ _ _ _ hsl HD.out.1).mono ?_
    rintro e w1 ⟨⟨v1, rfl, ⟨A1, n1, c1, rfl, h1⟩⟩, hw1⟩
    rw [HD.out.2] at h1
    rw [hw1] at h1 hbw hres
    have hst := hres.heldS
    clear hblk hsl hw1 hres
    have r1 := (rules w.heap.size 2 TI w1).some
    have r2 := (rules w.heap.size 2 TI w1).free
    have hst : Held w.heap.size 2 TI w1 w1 := hst
    go_wp2
    (try simp only [Exit.inBlock, Exit.then])
    refine bodyPost_ret (v := .agg #[.bool true, .slice A1 n1 c1]) (by simp [results, Try.results58, go_sem, r1 _ hst]) rfl ?_
    have hst2 := Held.set_ (Held.set_ hst 0 (.bool true)) 1 (.slice A1 n1 c1)
    refine ⟨_, rfl, ⟨A1, n1, c1, ?_, ?_⟩, hst2.below hbw (Nat.le_refl _)⟩
    · congr; unfold ng; simp; omega
    · rw [HM.out]; exact h1.held hst2 (by decide)
  · clear hm hm64
    go_enter Try.func58, Try.ntmps58
    go_wp2_with fail
    have hblk : Blk ((w.alloc (.cells #[.bool false, .slice none 0 0] TI)).alloc (.cells #[.int .u32 (n % 4294967296), .int .u32 (n / 4294967296)] TU)) (w.heap.size + 1) TU #[.int .u32 (n % 4294967296), .int .u32 (n / 4294967296)] := Blk.new_ _ _ (by simp)
    have hbw : Below w.heap.size w ((w.alloc (.cells #[.bool false, .slice none 0 0] TI)).alloc (.cells #[.int .u32 (n % 4294967296), .int .u32 (n / 4294967296)] TU)) := by go_grown
    have hres : Blk ((w.alloc (.cells #[.bool false, .slice none 0 0] TI)).alloc (.cells #[.int .u32 (n % 4294967296), .int .u32 (n / 4294967296)] TU)) w.heap.size TI #[.bool false, .slice none 0 0] := (Blk.new_ _ _ rfl).alloc _
    have hsl := two_sl (m := m) hblk (by rw [B32_eq]; have := HM.out; omega) (by rw [B32_eq]; have := HM.out; omega)
    refine (trim_any _ _ _ _ _ hsl HD.out.1).mono ?_
    rintro e w1 ⟨⟨v1, rfl, ⟨A1, n1, c1, rfl, h1⟩⟩, hw1⟩
    rw [HD.out.2] at h1
    rw [hw1] at h1 hbw hres
    have hst := hres.heldS
    clear hblk hsl hw1 hres
    have r1 := (rules w.heap.size 2 TI w1).some
    have r2 := (rules w.heap.size 2 TI w1).free
    have hst : Held w.heap.size 2 TI w1 w1 := hst
    go_wp2
    (try simp only [Exit.inBlock, Exit.then])
    refine bodyPost_ret (v := .agg #[.bool false, .slice A1 n1 c1]) (by simp [results, Try.results58, go_sem, r1 _ hst]) rfl ?_
    have hst2 := Held.set_ (Held.set_ hst 0 (.bool false)) 1 (.slice A1 n1 c1)
    refine ⟨_, rfl, ⟨A1, n1, c1, ?_, ?_⟩, hst2.below hbw (Nat.le_refl _)⟩
    · congr; unfold ng; simp; omega
    · rw [HM.out]; exact h1.held hst2 (by decide)

set_option maxHeartbeats 800000 in
theorem small_more (A : Option Addr) (n c : Nat) (w : World) (hn : 2 < n) (hc : n ≤ 9223372036854775807) :
    Calls Try.prog 128 #[.slice A n c] w (fun e w' => e = .returned (.tuple #[.int .u64 0, .bool false]) ∧ w = w') := by
  go_enter Try.func128, Try.ntmps128
  go_wp2
  go_returns
  exact ⟨rfl, rfl⟩
set_option maxHeartbeats 800000 in
theorem small0 (A : Option Addr) (c : Nat) (w : World) :
    Calls Try.prog 128 #[.slice A 0 c] w (fun e w' => e = .returned (.tuple #[.int .u64 0, .bool true]) ∧ w = w') := by
  go_enter Try.func128, Try.ntmps128
  go_wp2
  go_rounds 1
  go_returns
  exact ⟨rfl, rfl⟩
theorem or0_64 (x : Nat) (hx : x < 4294967296) : bits BinOp.or IntKind.u64 0 (x : Int) = (x : Int) := by
  have := u64_or_nat 0 x (by omega) (by omega)
  simpa using this
theorem or_64 (x y : Nat) (hx : x < 4294967296) (hy : y < 4294967296) : bits BinOp.or IntKind.u64 (x : Int) ((y : Int) * 4294967296) = ((x + 4294967296 * y : Nat) : Int) := by
  have e : ((y : Int) * 4294967296) = ((4294967296 * y : Nat) : Int) := by omega
  rw [e, u64_or_nat x (4294967296 * y) (by omega) (by omega)]
  have := Nat.two_pow_add_eq_or_of_lt (i := 32) (b := x) hx y
  rw [show (2 : Nat) ^ 32 = 4294967296 by decide] at this
  rw [Nat.or_comm, ← this, Nat.add_comm]
set_option maxHeartbeats 800000 in
theorem small1 (b o c x : Nat) (w : World) (hx : x < 4294967296) (h1 : w.cell? ⟨b, o, none⟩ = some (.int .u32 x)) :
    Calls Try.prog 128 #[.slice (some ⟨b, o, none⟩) 1 c] w (fun e w' => e = .returned (.tuple #[.int .u64 x, .bool true]) ∧ w = w') := by
  have E := Lib.hid (or0_64 x hx)
  go_enter Try.func128, Try.ntmps128
  go_wp2
  go_rounds 2
  rw [E.out]
  go_returns
  exact ⟨rfl, rfl⟩
set_option maxHeartbeats 800000 in
theorem small2 (b o c x y : Nat) (w : World) (hx : x < 4294967296) (hy : y < 4294967296) (h1 : w.cell? ⟨b, o, none⟩ = some (.int .u32 x)) (h2 : w.cell? ⟨b, o + 1, none⟩ = some (.int .u32 y)) :
    Calls Try.prog 128 #[.slice (some ⟨b, o, none⟩) 2 c] w (fun e w' => e = .returned (.tuple #[.int .u64 (x + 4294967296 * y : Nat), .bool true]) ∧ w = w') := by
  have E := Lib.hid (or0_64 x hx)
  have E2 := Lib.hid (or_64 x y hx hy)
  go_enter Try.func128, Try.ntmps128
  go_wp2
  go_rounds 3
  rw [E.out, E2.out]
  go_returns
  exact ⟨rfl, rfl⟩
/-- What small returns of a size m with n limbs. -/
theorem small_any (A : Option Addr) (n c m : Nat) (w : World) (h : Sl TU w A n c (L m)) :
    Calls Try.prog 128 #[.slice A n c] w (fun e w' => ∃ (k : Nat) (b : Bool), e = .returned (.tuple #[.int .u64 k, .bool b]) ∧ (b = true → k = m ∧ m < 18446744073709551616) ∧ (b = false → 18446744073709551616 ≤ m) ∧ w = w') := by
  have hl := h.len
  have hc := h.cap
  have hle := h.le
  simp only [L, List.length_map] at hl
  have hv := val_digs B32 two_B32 m
  have hd := digs_dg B32 two_B32 m
  by_cases h2 : 2 < n
  · refine (small_more A n c w h2 (by omega)).mono ?_
    rintro e w' ⟨he, hw⟩
    refine ⟨0, false, he, (fun h => by cases h), fun _ => ?_, hw⟩
    have := pow_le_of_dl B32 two_B32 m 2 (by unfold dl; omega)
    rw [show B32 ^ 2 = 18446744073709551616 by decide] at this
    exact this
  · obtain ⟨xs, hxs⟩ : ∃ xs, digs B32 m = xs := ⟨_, rfl⟩
    unfold L at h
    rw [hxs] at h hl hv hd
    match xs, hl with
    | [], hl =>
      simp at hl; subst hl
      simp [val] at hv
      refine (small0 A c w).mono ?_
      rintro e w' ⟨he, hw⟩
      exact ⟨0, true, he, fun _ => ⟨hv, by omega⟩, (fun h => by cases h), hw⟩
    | [x], hl =>
      simp at hl; subst hl
      simp [val] at hv
      obtain ⟨b, o, rfl, hcell⟩ := h.at_u32 (by omega)
      have hx := hd x (by simp)
      rw [B32_eq] at hx
      refine (small1 b o c x w hx (hcell 0 (by omega))).mono ?_
      rintro e w' ⟨he, hw⟩
      exact ⟨x, true, he, fun _ => ⟨hv, by omega⟩, (fun h => by cases h), hw⟩
    | [x, y], hl =>
      simp at hl; subst hl
      simp [val] at hv
      obtain ⟨b, o, rfl, hcell⟩ := h.at_u32 (by omega)
      have hx := hd x (by simp)
      have hy := hd y (by simp)
      rw [B32_eq] at hx hy hv
      refine (small2 b o c x y w hx hy (hcell 0 (by omega)) (hcell 1 (by omega))).mono ?_
      rintro e w' ⟨he, hw⟩
      exact ⟨_, true, he, fun _ => ⟨hv, by omega⟩, (fun h => by cases h), hw⟩
    | x :: y :: z :: t, hl => simp at hl; omega
end Go.Proofs.Tb
