/- Contracts of package wide: division, the greatest common divisor, small values. -/
import Derived.Test.YtcbffkkcldnegaaWideH
set_option linter.unusedVariables false
set_option linter.unusedSimpArgs false
namespace Go.Proofs.Tb
open Go.RowKit
attribute [local go_sem] cell_set_same

/-- Quotient and rest. -/
def QR (m b : Nat) (v : Value) (w : World) : Prop := ∃ v1 v2, v = .tuple #[v1, v2] ∧ SL TU w v1 (L (m / b)) ∧ SL TU w v2 (L (m % b))

set_option maxHeartbeats 1600000 in
theorem divided_any (A A' : Option Addr) (n c n' c' m b : Nat) (w : World) (h : Sl TU w A n c (L m)) (h' : Sl TU w A' n' c' (L b)) (hb : 0 < b) (hs : dl B32 m ≤ 100000000000) (hs' : dl B32 b ≤ 100000000000) :
    Calls Try.prog 114 #[.slice A n c, .slice A' n' c'] w (Ret (QR m b) w) := by
  have hl := h.len
  simp only [L, List.length_map] at hl
  have hnn : n ≤ 100000000000 := by unfold dl at hs; omega
  have H := Lib.hid h
  have H' := Lib.hid h'
  clear h h' hl
  go_enter Try.func114, Try.ntmps114
  go_wp2_with fail
  refine (small_any _ _ _ _ _ H.out).mono ?_
  rintro e w1 ⟨k, p, rfl, hk1, hk2, rfl⟩
  have HK1 := Lib.hid hk1
  have HK2 := Lib.hid hk2
  clear hk1 hk2
  go_wp2_with fail
  refine (small_any _ _ _ _ _ H'.out).mono ?_
  rintro e w1 ⟨k', p', rfl, hk1', hk2', rfl⟩
  have HK1' := Lib.hid hk1'
  have HK2' := Lib.hid hk2'
  clear hk1' hk2'
  by_cases hpp : p = true ∧ p' = true
  · obtain ⟨rfl, rfl⟩ := hpp
    obtain ⟨e1, hm⟩ := HK1.out rfl
    obtain ⟨e2, hm'⟩ := HK1'.out rfl
    subst e1 e2
    have hk1 : (1 : Int) ≤ (k' : Int) := by omega
    have hne : ((k' : Int) == 0) = false := by rw [beq_eq_false_iff_ne]; omega
    have hq : k / k' < 18446744073709551616 := Nat.lt_of_le_of_lt (Nat.div_le_self _ _) hm
    have hr : k % k' < 18446744073709551616 := Nat.lt_of_le_of_lt (Nat.mod_le _ _) hm
    obtain ⟨q, hqe⟩ : ∃ q, k / k' = q := ⟨_, rfl⟩
    obtain ⟨r, hre⟩ : ∃ r, k % k' = r := ⟨_, rfl⟩
    rw [hqe] at hq
    rw [hre] at hr
    have e1 : IntKind.u64.wrap ((k : Int) / (k' : Int)) = (q : Int) := by
      have : ((k : Int) / (k' : Int)) = ((k / k' : Nat) : Int) := by simp
      rw [this, hqe, IntKind.wrap_u64]; omega
    have e2 : ((k : Int) % (k' : Int)) = (r : Int) := by
      have : ((k : Int) % (k' : Int)) = ((k % k' : Nat) : Int) := by simp
      rw [this, hre]
    have HQ := Lib.hid (two_dg _ hq)
    have HR := Lib.hid (two_dg _ hr)
    have HQ1 := Lib.hid hq
    have HR1 := Lib.hid hr
    have E1 := Lib.hid e1
    have E2 := Lib.hid e2
    have EQ := Lib.hid hqe
    have ER := Lib.hid hre
    clear hq hr hm hm' HK1 HK2 HK1' HK2' e1 e2 hqe hre
    go_wp2
    go_quiet (fail)
    go_wp2_with fail
    rw [E1.out, E2.out]
    rename_i nq K1 hK1 K2 hK2
    have hb0 : Blk ((w.drewN nq).alloc (.cells #[.int .u32 ((q : Int) % 4294967296), .int .u32 ((q : Int) / 4294967296 % 4294967296)] TU)) w.heap.size TU #[.int .u32 ((q : Int) % 4294967296), .int .u32 ((q : Int) / 4294967296 % 4294967296)] := Blk.new_ _ _ rfl
    have hsl := two_sl (m := q) hb0 (by rw [B32_eq]; omega) (by rw [B32_eq]; have := HQ1.out; omega)
    have hbw : Below w.heap.size w ((w.drewN nq).alloc (.cells #[.int .u32 ((q : Int) % 4294967296), .int .u32 ((q : Int) / 4294967296 % 4294967296)] TU)) := (below_drewN (Below.refl _ _) _).alloc (Nat.le_refl _) _
    refine (trim_any _ _ _ _ _ hsl HQ.out.1).mono ?_
    rintro e w1 ⟨⟨v1, rfl, h1⟩, hw1⟩
    rw [HQ.out.2] at h1
    rw [hw1] at h1 hbw
    clear hb0 hsl hw1
    go_wp2_with fail
    have hb0 : Blk (w1.alloc (.cells #[.int .u32 ((r : Int) % 4294967296), .int .u32 ((r : Int) / 4294967296 % 4294967296)] TU)) w1.heap.size TU #[.int .u32 ((r : Int) % 4294967296), .int .u32 ((r : Int) / 4294967296 % 4294967296)] := Blk.new_ _ _ rfl
    have hsl := two_sl (m := r) hb0 (by rw [B32_eq]; omega) (by rw [B32_eq]; have := HR1.out; omega)
    have hbw2 : Below w1.heap.size w1 (w1.alloc (.cells #[.int .u32 ((r : Int) % 4294967296), .int .u32 ((r : Int) / 4294967296 % 4294967296)] TU)) := (Below.refl _ _).alloc (Nat.le_refl _) _
    refine (trim_any _ _ _ _ _ hsl HR.out.1).mono ?_
    rintro e w2 ⟨⟨v2, rfl, h2⟩, hw2⟩
    rw [HR.out.2] at h2
    rw [hw2] at h2 hbw2
    clear hb0 hsl hw2
    go_wp2
    go_returns
    exact ⟨_, rfl, ⟨_, _, rfl, by rw [EQ.out]; exact h1.below hbw2, by rw [ER.out]; exact h2⟩, bt hbw hbw2⟩
  · have hp : p = false ∨ p = true ∧ p' = false := by
      cases p <;> cases p' <;> simp at hpp ⊢
    clear hpp HK1 HK2 HK1' HK2'
    rcases hp with rfl | ⟨rfl, rfl⟩
    all_goals
      go_wp2_with fail
      refine (part_core _ _ _ _ _ _ _ _ _ H.out H'.out hb hnn hs').mono ?_
      rintro e w1 ⟨v1, rfl, ⟨v2, v3, rfl, h1, h2⟩, hb1⟩
      go_wp2
      go_returns
      exact ⟨_, rfl, ⟨_, _, rfl, h1, h2⟩, hb1⟩

set_option maxHeartbeats 800000 in
theorem common_any (A A' : Option Addr) (n c n' c' m b : Nat) (w : World) (h : Sl TU w A n c (L m)) (h' : Sl TU w A' n' c' (L b)) (hs : dl B32 m ≤ 100000000000) (hs' : dl B32 b ≤ 100000000000) :
    Calls Try.prog 113 #[.slice A n c, .slice A' n' c'] w (Ret (fun v w' => SL TU w' v (L (Nat.gcd m b))) w) := by
  have H := Lib.hid h
  have H' := Lib.hid h'
  have HS := Lib.hid hs
  have HS' := Lib.hid hs'
  clear h h' hs hs'
  go_enter Try.func113, Try.ntmps113
  go_wp2
  go_loopg [0, 1] b (fun b' x y wr => ∃ (A n c A' n' c' m' : _), x = .slice A n c ∧ y = .slice A' n' c' ∧ Sl TU wr A n c (L m') ∧ Sl TU wr A' n' c' (L b') ∧ Nat.gcd m' b' = Nat.gcd m b ∧ dl B32 m' ≤ 100000000000 ∧ dl B32 b' ≤ 100000000000 ∧ Below w.heap.size w wr)
  case atStart => exact ⟨A, n, c, A', n', c', m, rfl, rfl, H.out, H'.out, rfl, HS.out, HS'.out, Below.refl _ _⟩
  case round =>
    obtain ⟨A1, n1, c1, A2, n2, c2, m', rfl, rfl, h1, h2, hg, hs1, hs2, hbw⟩ := hrel
    have hp := h2.pos_iff
    have hc2 := h2.cap
    have hle2 := h2.le
    have H1 := Lib.hid h1
    have H2 := Lib.hid h2
    have HG := Lib.hid hg
    have HS1 := Lib.hid hs1
    have HS2 := Lib.hid hs2
    clear h1 h2 hg hs1 hs2
    by_cases h0 : 0 < n2
    · have hb0 : 0 < gk := hp.1 h0
      clear hp
      go_wp2_with fail
      refine (divided_any _ _ _ _ _ _ _ _ _ H1.out H2.out hb0 HS1.out HS2.out).mono ?_
      rintro e w1 ⟨v1, rfl, ⟨v2, v3, rfl, ⟨A3, n3, c3, rfl, h3⟩, ⟨A4, n4, c4, rfl, h4⟩⟩, hb1⟩
      have HB1 := Lib.hid hb1
      clear hb1
      go_wp2
      go_roundg (m' % gk)
      case measure => exact Nat.mod_lt _ hb0
      case rel => exact ⟨A2, n2, c2, A4, n4, c4, gk, rfl, rfl, H2.out.below HB1.out, h4, by rw [← HG.out, Nat.gcd_comm m' gk, Nat.gcd_comm gk (m' % gk)]; exact (Nat.gcd_rec gk m').symm, HS2.out, by have := dl_mono B32 two_B32 (m' % gk) gk (Nat.le_of_lt (Nat.mod_lt _ hb0)); have := HS2.out; omega, bt hbw HB1.out⟩
    · have hg0 : gk = 0 := by omega
      have HG0 := Lib.hid hg0
      clear hp hg0
      go_wp2
      go_returns
      have e0 := HG.out
      rw [HG0.out, Nat.gcd_zero_right] at e0
      exact ⟨_, rfl, by rw [← e0]; exact H1.out.toSL, hbw⟩

theorem wsmall_lim (m : Nat) : (m : Int) > 4611686018427387904 ↔ 4611686018427387904 < m := by omega
/-- What Small returns: the value where it is small enough. -/
def Sm (z : Int) (v : Value) (_ : World) : Prop := ∃ n b, v = .tuple #[.int .i64 n, .bool b] ∧ (z.natAbs ≤ 4611686018427387904 → n = z ∧ b = true) ∧ (4611686018427387904 < z.natAbs → n = 0 ∧ b = false)
set_option maxHeartbeats 1600000 in
theorem wSmall_any (v : Value) (z : Int) (w : World) (h : WI w v z) : Calls Try.prog 116 #[v] w (Ret (Sm z) w) := by
  obtain ⟨A, n, c, rfl, h⟩ := h
  obtain ⟨s, hs⟩ : ∃ s, ng z = s := ⟨_, rfl⟩
  rw [hs]
  have HS := Lib.hid hs
  have H := Lib.hid h
  clear h hs
  go_enter Try.func116, Try.ntmps116
  go_wp2_with fail
  have hbw : Below w.heap.size w (w.alloc (.cells #[.bool s, .slice A n c] TI)) := by go_grown
  refine (small_any _ _ _ _ _ (H.out.below hbw)).mono ?_
  rintro e w1 ⟨k, p, rfl, hk1, hk2, hw1⟩
  have hb0 : Blk (w.alloc (.cells #[.bool s, .slice A n c] TI)) w.heap.size TI #[.bool s, .slice A n c] := Blk.new_ _ _ rfl
  rw [hw1] at hb0 hbw
  have k0 := hb0.cells
  simp only [cellsAre, Nat.zero_add, Nat.reduceAdd, and_true] at k0
  clear hb0 hw1
  have HK1 := Lib.hid hk1
  have HK2 := Lib.hid hk2
  clear hk1 hk2
  cases p
  · have hbig := HK2.out rfl
    clear HK1 HK2
    go_wp2
    go_returns
    exact ⟨_, rfl, ⟨_, _, rfl, fun h => by omega, fun _ => ⟨rfl, rfl⟩⟩, hbw⟩
  · obtain ⟨hkz, hlt⟩ := HK1.out rfl
    have HKZ := Lib.hid hkz
    clear HK1 HK2 hkz hlt
    by_cases hlim : 4611686018427387904 < k
    · go_wp2
      go_returns
      exact ⟨_, rfl, ⟨_, _, rfl, fun h => by have := HKZ.out; omega, fun _ => ⟨rfl, rfl⟩⟩, hbw⟩
    · cases s
      · go_wp2
        go_returns
        refine ⟨_, rfl, ⟨_, _, rfl, fun _ => ⟨?_, rfl⟩, fun h => by have := HKZ.out; omega⟩, hbw⟩
        have := HKZ.out
        have := HS.out
        unfold ng at this
        simp at this
        omega
      · go_wp2
        go_returns
        refine ⟨_, rfl, ⟨_, _, rfl, fun _ => ⟨?_, rfl⟩, fun h => by have := HKZ.out; omega⟩, hbw⟩
        have := HKZ.out
        have := HS.out
        unfold ng at this
        simp at this
        omega
end Go.Proofs.Tb
