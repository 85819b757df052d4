/- The reference's fractions as rational numbers, with a bound of their sizes: contracts by value. -/
import Derived.Test.YtcbffkkcldnegaaRefN
set_option linter.unusedVariables false
set_option linter.unusedSimpArgs false
namespace Go.Proofs.Tb
open Go.RowKit

/-- v reads as the rational number x, with at most s digits above and below. -/
def ZX (w : World) (v : Value) (x : Rat) (s : Nat) : Prop := ∃ p q, ZQ w v p q ∧ qv p q = x ∧ s10 p ≤ s ∧ s10 q ≤ s
theorem ZX.form {w : World} {v : Value} {x : Rat} {s : Nat} (h : ZX w v x s) : ∃ b A n c b' A' n' c', v = .agg #[.bool b, .slice A n c, .bool b', .slice A' n' c'] := by
  obtain ⟨p, q, ⟨A, n, c, A', n', c', rfl, _⟩, _⟩ := h
  exact ⟨_, _, _, _, _, _, _, _, rfl⟩
theorem ZX.below {w w' : World} {v : Value} {x : Rat} {s : Nat} (h : ZX w v x s) (hb : Below w.heap.size w w') : ZX w' v x s := by
  obtain ⟨p, q, hq, h1, h2⟩ := h
  exact ⟨p, q, hq.below hb, h1, h2⟩
theorem ZQ.held {w w' : World} {v : Value} {p q : Int} {R k : Nat} {T : TypeId} (h : ZQ w v p q) (hh : Held R k T w w') (hT : TN ≠ T) : ZQ w' v p q := by
  obtain ⟨A, n, c, A', n', c', hv, h1, h2, hq⟩ := h
  exact ⟨A, n, c, A', n', c', hv, h1.held hh hT, h2.held hh hT, hq⟩
theorem ZX.held {w w' : World} {v : Value} {x : Rat} {s : Nat} {R k : Nat} {T : TypeId} (h : ZX w v x s) (hh : Held R k T w w') (hT : TN ≠ T) : ZX w' v x s := by
  obtain ⟨p, q, hq, h1, h2⟩ := h
  exact ⟨p, q, hq.held hh hT, h1, h2⟩
theorem ZX.le {w : World} {v : Value} {x : Rat} {s t : Nat} (h : ZX w v x s) (hst : s ≤ t) : ZX w v x t := by
  obtain ⟨p, q, hq, h1, h2, h3⟩ := h
  exact ⟨p, q, hq, h1, by omega, by omega⟩
theorem ZR.zx {w : World} {v : Value} {x : Rat} {s : Nat} (h : ZR w v x s) : ZX w v x s := ⟨_, _, h.1, qv_self x, h.2.1, h.2.2⟩
theorem ZX.eq {w : World} {v : Value} {x y : Rat} {s : Nat} (h : ZX w v x s) (e : x = y) : ZX w v y s := e ▸ h
theorem s10_addm (x y : Int) (s : Nat) (h : s10 x ≤ s) (h' : s10 y ≤ s) : s10 (x + y) ≤ s + 1 := by
  unfold s10 at *
  have h1 := dl_add BT two_BT x.natAbs y.natAbs s h h'
  have h2 := dl_mono BT two_BT (x + y).natAbs (x.natAbs + y.natAbs) (Int.natAbs_add_le x y)
  omega
theorem ZQ.q0 {w : World} {v : Value} {p q : Int} (h : ZQ w v p q) : 0 < q := by
  obtain ⟨_, _, _, _, _, _, _, _, _, hq⟩ := h
  exact hq

section
variable {w : World} {a b : Value} {x y : Rat} {s t : Nat}
theorem xmul_any (ha : ZX w a x s) (hb : ZX w b y t) (hs : s + t ≤ 50000000000) : Calls Try.prog 23 #[a, b] w (Ret (fun v w' => ZX w' v (x * y) (s + t)) w) := by
  obtain ⟨p, q, h1, rfl, h3, h4⟩ := ha
  obtain ⟨r, u, k1, rfl, k3, k4⟩ := hb
  refine (zqmul_any a b p q r u w h1 k1 (by omega)).mono ?_
  rintro e w' ⟨v, he, hv, hb⟩
  exact ⟨v, he, ⟨_, _, hv, qv_mul _ _ _ _, by have := s10_mul p r; omega, by have := s10_mul q u; omega⟩, hb⟩
theorem xadd_any (ha : ZX w a x s) (hb : ZX w b y t) (hs : s + t ≤ 50000000000) : Calls Try.prog 22 #[a, b] w (Ret (fun v w' => ZX w' v (x + y) (s + t + 1)) w) := by
  obtain ⟨p, q, h1, rfl, h3, h4⟩ := ha
  obtain ⟨r, u, k1, rfl, k3, k4⟩ := hb
  refine (zqadd_any a b p q r u w h1 k1 (by omega)).mono ?_
  rintro e w' ⟨v, he, hv, hb⟩
  have q1 := h1.q0
  have q2 := k1.q0
  exact ⟨v, he, ⟨_, _, hv, qv_add (by omega) (by omega), s10_addm _ _ _ (by have := s10_mul p u; omega) (by have := s10_mul r q; omega), by have := s10_mul q u; omega⟩, hb⟩
theorem xsub_any (ha : ZX w a x s) (hb : ZX w b y t) (hs : s + t ≤ 50000000000) : Calls Try.prog 67 #[a, b] w (Ret (fun v w' => ZX w' v (x - y) (s + t + 1)) w) := by
  obtain ⟨p, q, h1, rfl, h3, h4⟩ := ha
  obtain ⟨r, u, k1, rfl, k3, k4⟩ := hb
  refine (zqsub_any a b p q r u w h1 k1 (by omega)).mono ?_
  rintro e w' ⟨v, he, hv, hb⟩
  have q1 := h1.q0
  have q2 := k1.q0
  exact ⟨v, he, ⟨_, _, hv, qv_sub (by omega) (by omega), s10_addm _ _ _ (by have := s10_mul p u; omega) (by rw [s10_neg]; have := s10_mul r q; omega), by have := s10_mul q u; omega⟩, hb⟩
theorem xdiv_any (ha : ZX w a x s) (hb : ZX w b y t) (hy : y ≠ 0) (hs : s + t ≤ 50000000000) : Calls Try.prog 81 #[a, b] w (Ret (fun v w' => ZX w' v (x / y) (s + t)) w) := by
  obtain ⟨p, q, h1, rfl, h3, h4⟩ := ha
  obtain ⟨r, u, k1, rfl, k3, k4⟩ := hb
  have q1 := h1.q0
  have q2 := k1.q0
  have hr : r ≠ 0 := fun h => hy ((qv_zero (by omega)).2 h)
  refine (zqdiv_any a b p q r u w h1 k1 hr (by omega)).mono ?_
  rintro e w' ⟨v, he, hv, hb⟩
  exact ⟨v, he, ⟨_, _, hv, by rw [qv_rn (Int.mul_ne_zero (by omega) hr), qv_quo], by rw [s10_rn]; have := s10_mul p u; omega, by rw [s10_rd]; have := s10_mul q r; omega⟩, hb⟩
theorem xabs_any (ha : ZX w a x s) : Calls Try.prog 83 #[a] w (Ret (fun v w' => ZX w' v (rab x) s) w) := by
  obtain ⟨p, q, h1, rfl, h3, h4⟩ := ha
  refine (zqabs_any a p q w h1).mono ?_
  rintro e w' ⟨v, he, hv, hb⟩
  exact ⟨v, he, ⟨_, _, hv, qv_abs h1.q0, by rw [s10_abs]; exact h3, h4⟩, hb⟩
theorem xcmp_any (ha : ZX w a x s) (hb : ZX w b y t) (hs : s + t ≤ 50000000000) : Calls Try.prog 25 #[a, b] w (Ret (fun v _ => v = .int .i64 (cmpR x y)) w) := by
  obtain ⟨p, q, h1, rfl, h3, h4⟩ := ha
  obtain ⟨r, u, k1, rfl, k3, k4⟩ := hb
  rw [← sign_cmp h1.q0 k1.q0]
  exact zqcmp_any a b p q r u w h1 k1 (by omega)
theorem xlowest_any (ha : ZX w a x s) (hs : s ≤ 100000000000) : Calls Try.prog 24 #[a] w (Ret (fun v w' => ZR w' v x s) w) := by
  obtain ⟨p, q, h1, rfl, h3, h4⟩ := ha
  refine (zlowest_any a p q w h1 (by omega) (by omega)).mono ?_
  rintro e w' ⟨v, he, hv, hb⟩
  exact ⟨v, he, hv.r h1.q0 h3 h4, hb⟩
theorem xfrac_any (ha : ZX w a x s) (hs : s ≤ 100000000000) : Calls Try.prog 31 #[a] w (Ret (fun v _ => FracQ x v) w) := by
  obtain ⟨p, q, h1, rfl, h3, h4⟩ := ha
  refine (zfrac_any a p q w h1 (by omega) (by omega)).mono ?_
  rintro e w' ⟨v, he, hv, hb⟩
  exact ⟨v, he, hv.q h1.q0, hb⟩
end
theorem xwhole_any (n : Int) (w : World) (h1 : -9223372036854775808 ≤ n) (h2 : n ≤ 9223372036854775807) : Calls Try.prog 19 #[.int .i64 n] w (Ret (fun v w' => ZX w' v (n : Rat) 5) w) := by
  refine (zwhole_any n w h1 h2).mono ?_
  rintro e w' ⟨v, he, hv, hb⟩
  exact ⟨v, he, ⟨_, _, hv, qv_one n, s10_small n h1 h2, s10_small 1 (by omega) (by omega)⟩, hb⟩
theorem xwh_any (n : Int) (w : World) (h1 : -9223372036854775808 ≤ n) (h2 : n ≤ 9223372036854775807) : Calls Try.prog 68 #[.int .i64 n] w (Ret (fun v w' => ZX w' v (n : Rat) 5) w) := by
  refine (zwh_any n w h1 h2).mono ?_
  rintro e w' ⟨v, he, hv, hb⟩
  exact ⟨v, he, ⟨_, _, hv, qv_one n, s10_small n h1 h2, s10_small 1 (by omega) (by omega)⟩, hb⟩
theorem xof_any (n d : Int) (w : World) (h1 : -9223372036854775808 ≤ n) (h2 : n ≤ 9223372036854775807) (h3 : 0 < d) (h4 : d ≤ 9223372036854775807) :
    Calls Try.prog 39 #[.agg #[.int .i64 n, .int .i64 d]] w (Ret (fun v w' => ZX w' v (qv n d) 5) w) := by
  refine (zof_any n d w h1 h2 h3 h4).mono ?_
  rintro e w' ⟨v, he, hv, hb⟩
  exact ⟨v, he, ⟨_, _, hv, rfl, s10_small n h1 h2, s10_small d (by omega) (by omega)⟩, hb⟩
end Go.Proofs.Tb
