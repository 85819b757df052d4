/- Contracts of the reference for rates: in, Valid. (With what follows it, in one text.) -/
import Derived.Test.YthcialpcefhnnaaRate1
import Derived.Test.YthcialpcefhnnaaRate3
import Derived.Test.YthcialpcefhnnaaRef2
import Derived.Test.YthcialpcefhnnaaLaw1
import Derived.Test.YthcialpcefhnnaaRateE
import Derived.Deep.DeepCutAuto
set_option linter.unusedVariables false
set_option linter.unusedSimpArgs false
/- Contracts of the reference for rates: in, Valid. -/
namespace Go.Proofs.Tb
open Go.RowKit
attribute [local go_sem] cell_set_same

def inB (v l h : Int) : Bool := decide (l ≤ v) && decide (v ≤ h)
theorem inB_t {v l h : Int} (h1 : l ≤ v) (h2 : v ≤ h) : inB v l h = true := by unfold inB; simp [h1, h2]
theorem inB_f {v l h : Int} (h1 : ¬ (l ≤ v ∧ v ≤ h)) : inB v l h = false := by unfold inB; simp; omega
theorem ret_bool {a b : Bool} (h : a = b) : Ending.returned (.bool a) = .returned (.bool b) := by rw [h]
theorem zin_any (v l h : Int) (w : World) : Calls Try.prog 28 #[.int .i64 v, .int .i64 l, .int .i64 h] w fun e w' => e = .returned (.bool (inB v l h)) ∧ w' = w := by
  by_cases h1 : l ≤ v
  · by_cases h2 : v ≤ h
    · have d2 : decide (v ≤ h) = true := by simpa using h2
      have HE := Lib.hid (inB_t h1 h2)
      go_enter Try.func28, Try.ntmps28
      go_wp2
      go_returns
      exact ⟨ret_bool HE.out.symm, rfl⟩
    · have d2 : decide (v ≤ h) = false := by simpa using h2
      have HE := Lib.hid (inB_f (v := v) (l := l) (h := h) (by omega))
      go_enter Try.func28, Try.ntmps28
      go_wp2
      go_returns
      exact ⟨ret_bool HE.out.symm, rfl⟩
  · have d1 : decide (l ≤ v) = false := by simpa using h1
    have HE := Lib.hid (inB_f (v := v) (l := l) (h := h) (by omega))
    go_enter Try.func28, Try.ntmps28
    go_wp2
    go_returns
    exact ⟨ret_bool HE.out.symm, rfl⟩

end Go.Proofs.Tb
/- Contracts of the reference for rates: whole, Slope. -/
namespace Go.Proofs.Tb
open Go.RowKit
attribute [local go_sem] cell_set_same

/-- v is the fraction x, in lowest terms, of size at most s. -/
def ZR (w : World) (v : Value) (x : Rat) (s : Nat) : Prop := ZQ w v x.num (x.den : Int) ∧ s10 x.num ≤ s ∧ s10 (x.den : Int) ≤ s
theorem s10_lown {p q : Int} (hq : 0 < q) : s10 (lown p q) ≤ s10 p := by
  rw [lown_q hq, qv_num hq]
  unfold s10
  refine dl_mono BT two_BT _ _ ?_
  rw [Int.natAbs_ediv_of_dvd (Int.gcd_dvd_left _ _)]
  exact Nat.div_le_self _ _
theorem s10_lowd {p q : Int} (hq : 0 < q) : s10 (lowd p q) ≤ s10 q := by
  rw [lowd_q hq, qv_den hq]
  unfold s10
  refine dl_mono BT two_BT _ _ ?_
  rw [Int.natAbs_ediv_of_dvd (Int.gcd_dvd_right _ _)]
  exact Nat.div_le_self _ _
theorem ZQ.r {w : World} {v : Value} {p q : Int} {s : Nat} (hq : 0 < q) (h : ZQ w v (lown p q) (lowd p q)) (h1 : s10 p ≤ s) (h2 : s10 q ≤ s) : ZR w v (qv p q) s :=
  ⟨by rw [← lown_q hq, ← lowd_q hq]; exact h, by rw [← lown_q hq]; exact Nat.le_trans (s10_lown hq) h1, by rw [← lowd_q hq]; exact Nat.le_trans (s10_lowd hq) h2⟩

set_option maxHeartbeats 800000 in
theorem zwh_any (n : Int) (w : World)  (h1 : -9223372036854775808 ≤ n) (h2 : n ≤ 9223372036854775807) :
    Calls Try.prog 33 #[.int .i64 n] w (Ret (fun v w' => ZQ w' v n 1) w) := by
  go_enter Try.func33, Try.ntmps33
  go_wp2_with fail
  obtain ⟨W0, hW0⟩ : ∃ W0, W0 = (w).alloc (.cells #[.bool false, .slice none 0 0, .bool false, .slice none 0 0] TQ) := ⟨_, rfl⟩
  have b0 : Blk W0 (w.heap.size) TQ #[.bool false, .slice none 0 0, .bool false, .slice none 0 0] := by rw [hW0]; exact Blk.new_ _ _ rfl
  have hbw : Below w.heap.size w W0 := by rw [hW0]; go_grown
  rw [← hW0]
  clear hW0
  have hst : Held (w.heap.size) 4 TQ W0 W0 := b0.heldS
  have r1 := (rules (w.heap.size) 4 TQ W0).some
  have r2 := (rules (w.heap.size) 4 TQ W0).free
  clear b0
  have bw0 : Below w.heap.size w W0 := hbw
  refine (zwhole_any n _ (by omega) (by omega)).mono ?_; rintro e w1 ⟨v1, rfl, ⟨A1_0, n1_0, c1_0, A1_1, n1_1, c1_1, rfl, hx1_0, hx1_1, hp1⟩, hb1⟩; have hh1 : Held (w.heap.size) 4 TQ W0 w1 := hst.trans_ hb1; have bw1 := bt bw0 hb1
  go_wp2_with fail
  (try simp only [Exit.inBlock, Exit.then])
  refine bodyPost_ret (v := .agg #[.bool (ng n), .slice A1_0 n1_0 c1_0, .bool (ng 1), .slice A1_1 n1_1 c1_1]) (by simp [results, Try.results33, go_sem, r1 _ hh1]) rfl ?_
  have hst2 := Held.set_ (Held.set_ (Held.set_ (Held.set_ (hh1.here) 0 (.bool (ng n))) 1 (.slice A1_0 n1_0 c1_0)) 2 (.bool (ng 1))) 3 (.slice A1_1 n1_1 c1_1)
  exact ⟨_, rfl, ⟨_, _, _, _, _, _, rfl, (hx1_0).held hst2 (by decide), (hx1_1).held hst2 (by decide), (by decide)⟩, (hh1.trans2 hst2).below hbw (by omega)⟩

/-- The slope from reading i to reading j. -/
def slQ (rs : List Rdg) (i j : Nat) : Rat := (yq rs j - yq rs i) / (tq rs j - tq rs i)
theorem slQ_qv {rs : List Rdg} {i j : Nat} (hne : tm rs j - tm rs i ≠ 0) : qv (ofs rs j - ofs rs i) (tm rs j - tm rs i) = slQ rs i j := by
  unfold slQ yq tq
  rw [qv_div, Rat.intCast_sub, Rat.intCast_sub]
theorem slQ_comm (rs : List Rdg) (i j : Nat) : slQ rs i j = slQ rs j i := by
  unfold slQ
  by_cases h : tq rs j - tq rs i = 0
  · have h2 : tq rs i - tq rs j = 0 := by grind
    rw [h, h2]
    grind
  · grind
theorem Vld.tm_bd {rs : List Rdg} (h : Vld rs) {i : Nat} (hi : i < rs.length) : -1000000 ≤ tm rs i ∧ tm rs i ≤ 1000000 ∧ -1000000 ≤ ofs rs i ∧ ofs rs i ≤ 1000000 := by
  have := h.2.2 i hi
  unfold okAt at this
  unfold tm ofs
  omega
theorem Vld.tm_ne {rs : List Rdg} (h : Vld rs) {i j : Nat} (hi : i < rs.length) (hj : j < rs.length) (hne : i ≠ j) : tm rs j - tm rs i ≠ 0 := by
  rcases Nat.lt_or_gt_of_ne hne with h1 | h1
  · have := h.mono_tm h1 hj; omega
  · have := h.mono_tm h1 hi; omega

end Go.Proofs.Tb
/- The reference's fractions as rational numbers, with a bound of their sizes: contracts by value. -/
namespace Go.Proofs.Tb
open Go.RowKit

/-- v reads as the rational number x, with at most s digits above and below. -/
def ZX (w : World) (v : Value) (x : Rat) (s : Nat) : Prop := ∃ p q, ZQ w v p q ∧ qv p q = x ∧ s10 p ≤ s ∧ s10 q ≤ s
theorem ZX.form {w : World} {v : Value} {x : Rat} {s : Nat} (h : ZX w v x s) : ∃ b A n c b' A' n' c', v = .agg #[.bool b, .slice A n c, .bool b', .slice A' n' c'] := by
  obtain ⟨p, q, ⟨A, n, c, A', n', c', rfl, _⟩, _⟩ := h
  exact ⟨_, _, _, _, _, _, _, _, rfl⟩
theorem ZX.below {w w' : World} {v : Value} {x : Rat} {s : Nat} (h : ZX w v x s) (hb : Below w.heap.size w w') : ZX w' v x s := by
  obtain ⟨p, q, hq, h1, h2⟩ := h
  exact ⟨p, q, hq.below hb, h1, h2⟩
theorem ZQ.held {w w' : World} {v : Value} {p q : Int} {R k : Nat} {T : TypeId} (h : ZQ w v p q) (hh : Held R k T w w') (hT : TN ≠ T) : ZQ w' v p q := by
  obtain ⟨A, n, c, A', n', c', hv, h1, h2, hq⟩ := h
  exact ⟨A, n, c, A', n', c', hv, h1.held hh hT, h2.held hh hT, hq⟩
theorem ZX.held {w w' : World} {v : Value} {x : Rat} {s : Nat} {R k : Nat} {T : TypeId} (h : ZX w v x s) (hh : Held R k T w w') (hT : TN ≠ T) : ZX w' v x s := by
  obtain ⟨p, q, hq, h1, h2⟩ := h
  exact ⟨p, q, hq.held hh hT, h1, h2⟩
theorem ZX.le {w : World} {v : Value} {x : Rat} {s t : Nat} (h : ZX w v x s) (hst : s ≤ t) : ZX w v x t := by
  obtain ⟨p, q, hq, h1, h2, h3⟩ := h
  exact ⟨p, q, hq, h1, by omega, by omega⟩
theorem ZR.zx {w : World} {v : Value} {x : Rat} {s : Nat} (h : ZR w v x s) : ZX w v x s := ⟨_, _, h.1, qv_self x, h.2.1, h.2.2⟩
theorem ZX.eq {w : World} {v : Value} {x y : Rat} {s : Nat} (h : ZX w v x s) (e : x = y) : ZX w v y s := e ▸ h
theorem s10_addm (x y : Int) (s : Nat) (h : s10 x ≤ s) (h' : s10 y ≤ s) : s10 (x + y) ≤ s + 1 := by
  unfold s10 at *
  have h1 := dl_add BT two_BT x.natAbs y.natAbs s h h'
  have h2 := dl_mono BT two_BT (x + y).natAbs (x.natAbs + y.natAbs) (Int.natAbs_add_le x y)
  omega
theorem ZQ.q0 {w : World} {v : Value} {p q : Int} (h : ZQ w v p q) : 0 < q := by
  obtain ⟨_, _, _, _, _, _, _, _, _, hq⟩ := h
  exact hq

section
variable {w : World} {a b : Value} {x y : Rat} {s t : Nat}
theorem xmul_any (ha : ZX w a x s) (hb : ZX w b y t) (hs : s + t ≤ 50000000000) : Calls Try.prog 54 #[a, b] w (Ret (fun v w' => ZX w' v (x * y) (s + t)) w) := by
  obtain ⟨p, q, h1, rfl, h3, h4⟩ := ha
  obtain ⟨r, u, k1, rfl, k3, k4⟩ := hb
  refine (zqmul_any a b p q r u w h1 k1 (by omega)).mono ?_
  rintro e w' ⟨v, he, hv, hb⟩
  exact ⟨v, he, ⟨_, _, hv, qv_mul _ _ _ _, by have := s10_mul p r; omega, by have := s10_mul q u; omega⟩, hb⟩
theorem xadd_any (ha : ZX w a x s) (hb : ZX w b y t) (hs : s + t ≤ 50000000000) : Calls Try.prog 32 #[a, b] w (Ret (fun v w' => ZX w' v (x + y) (s + t + 1)) w) := by
  obtain ⟨p, q, h1, rfl, h3, h4⟩ := ha
  obtain ⟨r, u, k1, rfl, k3, k4⟩ := hb
  refine (zqadd_any a b p q r u w h1 k1 (by omega)).mono ?_
  rintro e w' ⟨v, he, hv, hb⟩
  have q1 := h1.q0
  have q2 := k1.q0
  exact ⟨v, he, ⟨_, _, hv, qv_add (by omega) (by omega), s10_addm _ _ _ (by have := s10_mul p u; omega) (by have := s10_mul r q; omega), by have := s10_mul q u; omega⟩, hb⟩
theorem xsub_any (ha : ZX w a x s) (hb : ZX w b y t) (hs : s + t ≤ 50000000000) : Calls Try.prog 53 #[a, b] w (Ret (fun v w' => ZX w' v (x - y) (s + t + 1)) w) := by
  obtain ⟨p, q, h1, rfl, h3, h4⟩ := ha
  obtain ⟨r, u, k1, rfl, k3, k4⟩ := hb
  refine (zqsub_any a b p q r u w h1 k1 (by omega)).mono ?_
  rintro e w' ⟨v, he, hv, hb⟩
  have q1 := h1.q0
  have q2 := k1.q0
  exact ⟨v, he, ⟨_, _, hv, qv_sub (by omega) (by omega), s10_addm _ _ _ (by have := s10_mul p u; omega) (by rw [s10_neg]; have := s10_mul r q; omega), by have := s10_mul q u; omega⟩, hb⟩
theorem xabs_any (ha : ZX w a x s) : Calls Try.prog 31 #[a] w (Ret (fun v w' => ZX w' v (rab x) s) w) := by
  obtain ⟨p, q, h1, rfl, h3, h4⟩ := ha
  refine (zqabs_any a p q w h1).mono ?_
  rintro e w' ⟨v, he, hv, hb⟩
  exact ⟨v, he, ⟨_, _, hv, qv_abs h1.q0, by rw [s10_abs]; exact h3, h4⟩, hb⟩
theorem xcmp_any (ha : ZX w a x s) (hb : ZX w b y t) (hs : s + t ≤ 50000000000) : Calls Try.prog 30 #[a, b] w (Ret (fun v _ => v = .int .i64 (cmpR x y)) w) := by
  obtain ⟨p, q, h1, rfl, h3, h4⟩ := ha
  obtain ⟨r, u, k1, rfl, k3, k4⟩ := hb
  rw [← sign_cmp h1.q0 k1.q0]
  exact zqcmp_any a b p q r u w h1 k1 (by omega)
theorem xlowest_any (ha : ZX w a x s) (hs : s ≤ 100000000000) : Calls Try.prog 52 #[a] w (Ret (fun v w' => ZR w' v x s) w) := by
  obtain ⟨p, q, h1, rfl, h3, h4⟩ := ha
  refine (zlowest_any a p q w h1 (by omega) (by omega)).mono ?_
  rintro e w' ⟨v, he, hv, hb⟩
  exact ⟨v, he, hv.r h1.q0 h3 h4, hb⟩
end
theorem xwhole_any (n : Int) (w : World) (h1 : -9223372036854775808 ≤ n) (h2 : n ≤ 9223372036854775807) : Calls Try.prog 57 #[.int .i64 n] w (Ret (fun v w' => ZX w' v (n : Rat) 5) w) := by
  refine (zwhole_any n w h1 h2).mono ?_
  rintro e w' ⟨v, he, hv, hb⟩
  exact ⟨v, he, ⟨_, _, hv, qv_one n, s10_small n h1 h2, s10_small 1 (by omega) (by omega)⟩, hb⟩
theorem xwh_any (n : Int) (w : World) (h1 : -9223372036854775808 ≤ n) (h2 : n ≤ 9223372036854775807) : Calls Try.prog 33 #[.int .i64 n] w (Ret (fun v w' => ZX w' v (n : Rat) 5) w) := by
  refine (zwh_any n w h1 h2).mono ?_
  rintro e w' ⟨v, he, hv, hb⟩
  exact ⟨v, he, ⟨_, _, hv, qv_one n, s10_small n h1 h2, s10_small 1 (by omega) (by omega)⟩, hb⟩
theorem xof_any (n d : Int) (w : World) (h1 : -9223372036854775808 ≤ n) (h2 : n ≤ 9223372036854775807) (h3 : 0 < d) (h4 : d ≤ 9223372036854775807) :
    Calls Try.prog 11 #[.agg #[.int .i64 n, .int .i64 d]] w (Ret (fun v w' => ZX w' v (qv n d) 5) w) := by
  refine (zof_any n d w h1 h2 h3 h4).mono ?_
  rintro e w' ⟨v, he, hv, hb⟩
  exact ⟨v, he, ⟨_, _, hv, rfl, s10_small n h1 h2, s10_small d (by omega) (by omega)⟩, hb⟩
end Go.Proofs.Tb
/- Contracts of the reference for rates: Error, Of. -/
namespace Go.Proofs.Tb
open Go.RowKit
attribute [local go_sem] cell_set_same
abbrev TQL : TypeId := 42

/-- v reads as a line of the reference. -/
def ZL (w : World) (v : Value) (x y : Rat) (s : Nat) : Prop := ∃ b0 A0 n0 c0 b1 A1 n1 c1 b2 A2 n2 c2 b3 A3 n3 c3,
  v = .agg #[.bool b0, .slice A0 n0 c0, .bool b1, .slice A1 n1 c1, .bool b2, .slice A2 n2 c2, .bool b3, .slice A3 n3 c3] ∧
  ZX w (.agg #[.bool b0, .slice A0 n0 c0, .bool b1, .slice A1 n1 c1]) x s ∧ ZX w (.agg #[.bool b2, .slice A2 n2 c2, .bool b3, .slice A3 n3 c3]) y s
theorem ZL.below {w w' : World} {v : Value} {x y : Rat} {s : Nat} (h : ZL w v x y s) (hb : Below w.heap.size w w') : ZL w' v x y s := by
  obtain ⟨b0, A0, n0, c0, b1, A1, n1, c1, b2, A2, n2, c2, b3, A3, n3, c3, hv, h1, h2⟩ := h
  exact ⟨b0, A0, n0, c0, b1, A1, n1, c1, b2, A2, n2, c2, b3, A3, n3, c3, hv, h1.below hb, h2.below hb⟩
/-- The error of a line at a reading. -/
def erQ (x y : Rat) (t o : Int) : Rat := (o : Rat) - (x * (t : Rat) + y)

set_option maxHeartbeats 1600000 in
set_option maxRecDepth 100000 in
theorem zerror_any (l : Value) (x y : Rat) (s : Nat) (t o : Int) (w : World) (h : ZL w l x y s) (hs : s ≤ 10000000000) (h1 : rngI t) (h2 : rngI o) :
    Calls Try.prog 29 #[l, .agg #[.int .i64 t, .int .i64 o]] w (Ret (fun v w' => ZR w' v (erQ x y t o) (2 * s + 12)) w) := by
  obtain ⟨b0, A0, n0, c0, b1, A1, n1, c1, b2, A2, n2, c2, b3, A3, n3, c3, rfl, hl1, hl2⟩ := h
  have HX := Lib.hid hl1
  have HY := Lib.hid hl2
  have H1 := Lib.hid h1
  have H2 := Lib.hid h2
  clear hl1 hl2 h1 h2
  go_enter Try.func29, Try.ntmps29
  go_wp2
  refine wp_world (fun W0 => Blk W0 w.heap.size TQL #[.bool b0, .slice A0 n0 c0, .bool b1, .slice A1 n1 c1, .bool b2, .slice A2 n2 c2, .bool b3, .slice A3 n3 c3] ∧ Blk W0 (w.heap.size + 1) TRD #[.int .i64 t, .int .i64 o] ∧ Blk W0 (w.heap.size + 1 + 1) TQ #[.bool false, .slice none 0 0, .bool false, .slice none 0 0] ∧ Below w.heap.size w W0) (by exact ⟨((Blk.new_ _ _ rfl).alloc _).alloc _, (Blk.new_ _ _ (by simp)).alloc _, Blk.new_ _ _ (by simp), by go_grown⟩) ?_
  rintro W0 ⟨b0, b1, b2, hbw⟩
  have bw0 : Below w.heap.size w W0.drew := hbw.drew
  have k0 := fun w' (hh : Held (w.heap.size + 1 + 1) 4 TQ W0 w') => (b0.held hh (by omega)).cells
  have k1 := fun w' (hh : Held (w.heap.size + 1 + 1) 4 TQ W0 w') => (b1.held hh (by omega)).cells
  have hst : Held (w.heap.size + 1 + 1) 4 TQ W0 W0.drew := b2.heldS.drew
  simp only [cellsAre, Nat.zero_add, Nat.reduceAdd, and_true] at k0 k1
  have r1 := (rules (w.heap.size + 1 + 1) 4 TQ W0).some
  have r2 := (rules (w.heap.size + 1 + 1) 4 TQ W0).free
  clear b0 b1 b2
  go_region_held3 (fun w' => Held (w.heap.size + 1 + 1) 4 TQ W0 w') (first | assumption | exact Held.trans_ (by assumption) (by assumption) | exact Held.set_ (Held.set_ (Held.set_ (Held.set_ ((by assumption)) _ _) _ _) _ _) _ _)
    (first | (go_at_call 52; have tk := hb5; refine (xlowest_any hx5 (by omega)).mono ?_; rintro e w6 ⟨v6, rfl, hx6, hb6⟩; obtain ⟨d6, A6, n6, c6, d6', A6', n6', c6', rfl⟩ := hx6.zx.form; have hh6 : Held (w.heap.size + 1 + 1) 4 TQ W0 w6 := hh5.trans_ hb6; have bw6 := bt bw5 hb6) | (go_at_call 53; have tk := hb4; refine (xsub_any (((hx1.below hb2).below hb3).below hb4) hx4 (by omega)).mono ?_; rintro e w5 ⟨v5, rfl, hx5, hb5⟩; obtain ⟨d5, A5, n5, c5, d5', A5', n5', c5', rfl⟩ := hx5.form; have hh5 : Held (w.heap.size + 1 + 1) 4 TQ W0 w5 := hh4.trans_ hb5; have bw5 := bt bw4 hb5) | (go_at_call 32; have tk := hb3; refine (xadd_any hx3 (HY.out.below bw3) (by omega)).mono ?_; rintro e w4 ⟨v4, rfl, hx4, hb4⟩; obtain ⟨d4, A4, n4, c4, d4', A4', n4', c4', rfl⟩ := hx4.form; have hh4 : Held (w.heap.size + 1 + 1) 4 TQ W0 w4 := hh3.trans_ hb4; have bw4 := bt bw3 hb4) | (go_at_call 54; have tk := hb2; refine (xmul_any (HX.out.below bw2) hx2 (by omega)).mono ?_; rintro e w3 ⟨v3, rfl, hx3, hb3⟩; obtain ⟨d3, A3, n3, c3, d3', A3', n3', c3', rfl⟩ := hx3.form; have hh3 : Held (w.heap.size + 1 + 1) 4 TQ W0 w3 := hh2.trans_ hb3; have bw3 := bt bw2 hb3) | (go_at_call 33; have tk := hb1; refine (xwh_any t _ H1.out.1 H1.out.2).mono ?_; rintro e w2 ⟨v2, rfl, hx2, hb2⟩; obtain ⟨d2, A2, n2, c2, d2', A2', n2', c2', rfl⟩ := hx2.form; have hh2 : Held (w.heap.size + 1 + 1) 4 TQ W0 w2 := hh1.trans_ hb2; have bw2 := bt bw1 hb2) | (go_at_call 33; refine (xwh_any o _ H2.out.1 H2.out.2).mono ?_; rintro e w1 ⟨v1, rfl, hx1, hb1⟩; obtain ⟨d1, A1, n1, c1, d1', A1', n1', c1', rfl⟩ := hx1.form; have hh1 : Held (w.heap.size + 1 + 1) 4 TQ W0 w1 := hst.trans_ hb1; have bw1 := bt bw0 hb1))
  go_wp2
  (try simp only [Exit.inBlock, Exit.then])
  refine bodyPost_ret (v := .agg #[.bool d6, .slice A6 n6 c6, .bool d6', .slice A6' n6' c6']) (by simp [results, Try.results29, go_sem, r1 _ hh6]) rfl ?_
  have hst2 := Held.set_ (Held.set_ (Held.set_ (Held.set_ (hh6.here) 0 (.bool d6)) 1 (.slice A6 n6 c6)) 2 (.bool d6')) 3 (.slice A6' n6' c6')
  exact ⟨_, rfl, ⟨hx6.1.held hst2 (by decide), Nat.le_trans hx6.2.1 (by omega), Nat.le_trans hx6.2.2 (by omega)⟩, (hh6.trans2 hst2).below hbw (by omega)⟩

end Go.Proofs.Tb
/- Contract of the reference for rates: Of. -/
namespace Go.Proofs.Tb
open Go.RowKit
attribute [local go_sem] cell_set_same
set_option maxHeartbeats 1600000 in
set_option maxRecDepth 100000 in
theorem zlof_any (a b c d : Int) (w : World) (h1 : rngI a) (h2 : 0 < b ∧ b ≤ 9223372036854775807) (h3 : rngI c) (h4 : 0 < d ∧ d ≤ 9223372036854775807) :
    Calls Try.prog 10 #[.agg #[.int .i64 a, .int .i64 b, .int .i64 c, .int .i64 d]] w (Ret (fun v w' => ZL w' v (qv a b) (qv c d) 5) w) := by
  have H1 := Lib.hid h1
  have H2 := Lib.hid h2
  have H3 := Lib.hid h3
  have H4 := Lib.hid h4
  clear h1 h2 h3 h4
  go_enter Try.func10, Try.ntmps10
  go_wp2
  refine wp_world (fun W0 => Blk W0 w.heap.size TAL #[.int .i64 a, .int .i64 b, .int .i64 c, .int .i64 d] ∧ Blk W0 (w.heap.size + 1) TQL #[.bool false, .slice none 0 0, .bool false, .slice none 0 0, .bool false, .slice none 0 0, .bool false, .slice none 0 0] ∧ Below w.heap.size w W0) (by exact ⟨(Blk.new_ _ _ rfl).alloc _, Blk.new_ _ _ (by simp), by go_grown⟩) ?_
  rintro W0 ⟨b0, b1, hbw⟩
  have bw0 : Below w.heap.size w W0.drew := hbw.drew
  have k0 := fun w' (hh : Held (w.heap.size + 1) 8 TQL W0 w') => (b0.held hh (by omega)).cells
  have hst : Held (w.heap.size + 1) 8 TQL W0 W0.drew := b1.heldS.drew
  simp only [cellsAre, Nat.zero_add, Nat.reduceAdd, and_true] at k0
  have r1 := (rules (w.heap.size + 1) 8 TQL W0).some
  have r2 := (rules (w.heap.size + 1) 8 TQL W0).free
  clear b0 b1
  go_region_held3 (fun w' => Held (w.heap.size + 1) 8 TQL W0 w') (first | with_reducible assumption | ((repeat with_reducible refine Held.set_ ?_ _ _); with_reducible assumption) | exact Held.trans_ (by with_reducible assumption) (by with_reducible assumption))
    (first | (go_at_call 11; have tk := hb1; refine (xof_any c d _ H3.out.1 H3.out.2 H4.out.1 H4.out.2).mono ?_; rintro e w2 ⟨v2, rfl, hx2, hb2⟩; obtain ⟨d2, A2, n2, c2, d2', A2', n2', c2', rfl⟩ := hx2.form; have hh2 : Held (w.heap.size + 1) 8 TQL W0 w2 := hh1.trans_ hb2; have bw2 := bt bw1 hb2) | (go_at_call 11; refine (xof_any a b _ H1.out.1 H1.out.2 H2.out.1 H2.out.2).mono ?_; rintro e w1 ⟨v1, rfl, hx1, hb1⟩; obtain ⟨d1, A1, n1, c1, d1', A1', n1', c1', rfl⟩ := hx1.form; have hh1 : Held (w.heap.size + 1) 8 TQL W0 w1 := hst.trans_ hb1; have bw1 := bt bw0 hb1))
  go_wp2
  (try simp only [Exit.inBlock, Exit.then])
  refine bodyPost_ret (v := .agg #[.bool d1, .slice A1 n1 c1, .bool d1', .slice A1' n1' c1', .bool d2, .slice A2 n2 c2, .bool d2', .slice A2' n2' c2']) (by simp [results, Try.results10, go_sem, r1 _ hh2]) rfl ?_
  have hst2 := Held.set_ (Held.set_ (Held.set_ (Held.set_ (Held.set_ (Held.set_ (Held.set_ (Held.set_ (hh2.here) 0 (.bool d1)) 1 (.slice A1 n1 c1)) 2 (.bool d1')) 3 (.slice A1' n1' c1')) 4 (.bool d2)) 5 (.slice A2 n2 c2)) 6 (.bool d2')) 7 (.slice A2' n2' c2')
  exact ⟨_, rfl, ⟨_, _, _, _, _, _, _, _, _, _, _, _, _, _, _, _, rfl, (hx1.below hb2).held hst2 (by decide), hx2.held hst2 (by decide)⟩, (hh2.trans2 hst2).below hbw (by omega)⟩
end Go.Proofs.Tb
/- Contract of the reference for rates: Worst. -/
namespace Go.Proofs.Tb
open Go.RowKit
attribute [local go_sem] cell_set_same

/-- The greatest absolute error at the first k readings. -/
def wsT (rs : List Rdg) (x y : Rat) : Nat → Rat
  | 0 => 0
  | k + 1 => if wsT rs x y k < rab (erQ x y (tm rs k) (ofs rs k)) then rab (erQ x y (tm rs k) (ofs rs k)) else wsT rs x y k
theorem wsT_t {rs : List Rdg} {x y : Rat} {k : Nat} (h : wsT rs x y k < rab (erQ x y (tm rs k) (ofs rs k))) : rab (erQ x y (tm rs k) (ofs rs k)) = wsT rs x y (k + 1) := (if_pos h).symm
theorem wsT_f {rs : List Rdg} {x y : Rat} {k : Nat} (h : ¬ wsT rs x y k < rab (erQ x y (tm rs k) (ofs rs k))) : wsT rs x y k = wsT rs x y (k + 1) := (if_neg h).symm
theorem zcells {w : World} {g : Nat} {T : TypeId} {a b c d : Value} (h : Blk w g T #[a, b, c, d]) : w.cell? ⟨g, 0, none⟩ = some a ∧ w.cell? ⟨g, 1, none⟩ = some b ∧ w.cell? ⟨g, 2, none⟩ = some c ∧ w.cell? ⟨g, 3, none⟩ = some d := by
  have k := h.cells
  simp only [cellsAre, Nat.zero_add, Nat.reduceAdd, and_true] at k
  exact k
theorem heldPut {w : World} {g : Nat} {T : TypeId} {a b c d : Value} (h : Blk w g T #[a, b, c, d]) (x0 x1 x2 x3 : Value) :
    Held g 4 T w ((((w.setCell ⟨g, 0, none⟩ x0).setCell ⟨g, 1, none⟩ x1).setCell ⟨g, 2, none⟩ x2).setCell ⟨g, 3, none⟩ x3) :=
  Held.set_ (Held.set_ (Held.set_ (Held.set_ h.heldS 0 x0) 1 x1) 2 x2) 3 x3

end Go.Proofs.Tb
/- Contract of the reference for rates: Plain. -/
namespace Go.Proofs.Tb
open Go.RowKit
attribute [local go_sem] cell_set_same

end Go.Proofs.Tb
