/- Squares. -/
import Derived.Test.YthcialpcefhnnaaRate1
import Derived.Test.YthcialpcefhnnaaGround
import Derived.Deep.DeepCutAuto
set_option linter.unusedVariables false
set_option linter.unusedSimpArgs false
namespace Go.Proofs.Tb
open Go.RowKit
attribute [local go_sem] cell_set_same

/-- The sum of a number of each reading. -/
def sm (f : Rdg → Int) (rs : List Rdg) : Int := (rs.map f).sum
def g1 (x : Rdg) : Int := x.1
def g2 (x : Rdg) : Int := x.2
def g3 (x : Rdg) : Int := x.1 * x.1
def g4 (x : Rdg) : Int := x.1 * x.2
theorem sm_succ (f : Rdg → Int) (rs : List Rdg) (k : Nat) (h : k < rs.length) : sm f (rs.take (k + 1)) = sm f (rs.take k) + f (rs.getD k (0, 0)) := by
  unfold sm
  rw [List.take_succ_eq_append_getElem h, List.map_append, List.sum_append]
  have e : rs.getD k (0, 0) = rs[k] := by simp [List.getD, h]
  rw [e]
  simp only [List.map_cons, List.map_nil, List.sum_cons, List.sum_nil, Int.add_zero]
theorem sm_bd (f : Rdg → Int) (rs : List Rdg) (B : Int) (h : ∀ k, k < rs.length → -B ≤ f (rs.getD k (0, 0)) ∧ f (rs.getD k (0, 0)) ≤ B) : ∀ k, k ≤ rs.length → -(k * B) ≤ sm f (rs.take k) ∧ sm f (rs.take k) ≤ k * B := by
  intro k
  induction k with
  | zero => intro _; simp [sm]
  | succ k ih =>
    intro hk
    have h1 := ih (by omega)
    have h2 := h k (by omega)
    rw [sm_succ f rs k (by omega)]
    have e : ((k + 1 : Nat) : Int) * B = k * B + B := by rw [Int.natCast_add, Int.add_mul]; simp
    omega
/-- The determinant of the normal equations, and that it is above 0. -/
def dets (rs : List Rdg) : Int := rs.length * sm g3 rs - sm g1 rs * sm g1 rs
def dev (x : Int) (rs : List Rdg) : Int := (rs.map fun r => (x - r.1) * (x - r.1)).sum
theorem dev_eq (x : Int) (rs : List Rdg) : dev x rs = rs.length * (x * x) - 2 * x * sm g1 rs + sm g3 rs := by
  induction rs with
  | nil => simp [dev, sm]
  | cons r rs ih =>
    have e : dev x (r :: rs) = (x - r.1) * (x - r.1) + dev x rs := by simp [dev]
    have e1 : sm g1 (r :: rs) = r.1 + sm g1 rs := by simp [sm, g1]
    have e3 : sm g3 (r :: rs) = r.1 * r.1 + sm g3 rs := by simp [sm, g3]
    rw [e, ih, e1, e3, List.length_cons]
    push_cast
    grind
theorem dets_cons (r : Rdg) (rs : List Rdg) : dets (r :: rs) = dets rs + dev r.1 rs := by
  have e1 : sm g1 (r :: rs) = r.1 + sm g1 rs := by simp [sm, g1]
  have e3 : sm g3 (r :: rs) = r.1 * r.1 + sm g3 rs := by simp [sm, g3]
  unfold dets
  rw [dev_eq, e1, e3, List.length_cons]
  push_cast
  grind
theorem dev_nonneg (x : Int) (rs : List Rdg) : 0 ≤ dev x rs := by
  induction rs with
  | nil => simp [dev]
  | cons r rs ih =>
    have e : dev x (r :: rs) = (x - r.1) * (x - r.1) + dev x rs := by simp [dev]
    have : 0 ≤ (x - r.1) * (x - r.1) := by
      rcases Int.le_total 0 (x - r.1) with h | h
      · exact Int.mul_nonneg h h
      · exact Int.mul_nonneg_of_nonpos_of_nonpos h h
    omega
theorem dets_nonneg (rs : List Rdg) : 0 ≤ dets rs := by
  induction rs with
  | nil => simp [dets, sm]
  | cons r rs ih => rw [dets_cons]; have := dev_nonneg r.1 rs; omega
theorem dets_pos (r r' : Rdg) (rs : List Rdg) (h : r.1 ≠ r'.1) : 0 < dets (r :: r' :: rs) := by
  rw [dets_cons]
  have h1 := dets_nonneg (r' :: rs)
  have e : dev r.1 (r' :: rs) = (r.1 - r'.1) * (r.1 - r'.1) + dev r.1 rs := by simp [dev]
  have h2 := dev_nonneg r.1 rs
  have h3 : 0 < (r.1 - r'.1) * (r.1 - r'.1) := by
    rcases Int.lt_or_gt_of_ne h with h | h
    · exact Int.mul_pos_of_neg_of_neg (by omega) (by omega)
    · exact Int.mul_pos (by omega) (by omega)
  omega
theorem Vld.dets_pos {rs : List Rdg} (h : Vld rs) : 0 < dets rs := by
  match rs, h with
  | [], h => have := h.1; simp at this
  | [_], h => have := h.1; simp at this
  | r :: r' :: rs, h =>
    have h1 := (h.2.2 1 (by simp)).2.2.2.2 (by omega)
    simp at h1
    exact Go.Proofs.Tb.dets_pos r r' rs (by omega)
theorem mul_bd' (a b A B : Int) (h1 : -A ≤ a) (h2 : a ≤ A) (h3 : -B ≤ b) (h4 : b ≤ B) : -(A * B) ≤ a * b ∧ a * b ≤ A * B := by
  have hA : 0 ≤ A := by omega
  have hB : 0 ≤ B := by omega
  have ha : a.natAbs ≤ A.natAbs := by omega
  have hb : b.natAbs ≤ B.natAbs := by omega
  have h := Nat.mul_le_mul ha hb
  rw [← Int.natAbs_mul, ← Int.natAbs_mul] at h
  have := Int.mul_nonneg hA hB
  omega
/-- What the four sums are at most. -/
def SB (T Y TT TY : Int) : Prop := (-64000000 ≤ T ∧ T ≤ 64000000) ∧ (-64000000 ≤ Y ∧ Y ≤ 64000000) ∧ (-64000000000000 ≤ TT ∧ TT ≤ 64000000000000) ∧ (-64000000000000 ≤ TY ∧ TY ≤ 64000000000000)
theorem Vld.sb {rs : List Rdg} (h : Vld rs) (k : Nat) (hk : k ≤ rs.length) : SB (sm g1 (rs.take k)) (sm g2 (rs.take k)) (sm g3 (rs.take k)) (sm g4 (rs.take k)) := by
  have hl := h.2.1
  have hh := fun j (hj : j < rs.length) => h.2.2 j hj
  unfold okAt at hh
  have b1 := sm_bd g1 rs 1000000 (fun j hj => by unfold g1; have := hh j hj; omega) k hk
  have b2 := sm_bd g2 rs 1000000 (fun j hj => by unfold g2; have := hh j hj; omega) k hk
  have b3 := sm_bd g3 rs 1000000000000 (fun j hj => by unfold g3; have := hh j hj; exact mul_bd' _ _ 1000000 1000000 (by omega) (by omega) (by omega) (by omega)) k hk
  have b4 := sm_bd g4 rs 1000000000000 (fun j hj => by unfold g4; have := hh j hj; exact mul_bd' _ _ 1000000 1000000 (by omega) (by omega) (by omega) (by omega)) k hk
  unfold SB
  omega
/-- The numerator and the denominator of the slope. -/
def sqN (n : Nat) (T Y TY : Int) : Int := n * TY - T * Y
def sqD (n : Nat) (T TT : Int) : Int := n * TT - T * T
theorem sq_bd {n : Nat} {T Y TT TY : Int} (hn : n ≤ 64) (h : SB T Y TT TY) : (-9000000000000000 ≤ n * TY ∧ n * TY ≤ 9000000000000000) ∧ (-9000000000000000 ≤ T * Y ∧ T * Y ≤ 9000000000000000) ∧ (-9000000000000000 ≤ n * TT ∧ n * TT ≤ 9000000000000000) ∧ (-9000000000000000 ≤ T * T ∧ T * T ≤ 9000000000000000) := by
  obtain ⟨⟨a1, a2⟩, ⟨b1, b2⟩, ⟨c1, c2⟩, ⟨d1, d2⟩⟩ := h
  have h1 := mul_bd' (n : Int) TY 64 64000000000000 (by omega) (by omega) d1 d2
  have h2 := mul_bd' T Y 64000000 64000000 a1 a2 b1 b2
  have h3 := mul_bd' (n : Int) TT 64 64000000000000 (by omega) (by omega) c1 c2
  have h4 := mul_bd' T T 64000000 64000000 a1 a2 a1 a2
  omega
/-- What Squares returns. -/
def SquR (rs : List Rdg) (v : Value) (w : World) : Prop :=
  (¬ Vld rs → v = .tuple #[.agg #[.int .i64 0, .int .i64 0, .int .i64 0, .int .i64 0], .int .i64 1]) ∧
  (Vld rs → ∃ p q r s : Int, 0 < q ∧ 0 < s ∧ LineR p q r s v w ∧ qv p q = (sqN rs.length (sm g1 rs) (sm g2 rs) (sm g4 rs) : Rat) / (sqD rs.length (sm g1 rs) (sm g3 rs) : Rat) ∧
    qv r s = ((sm g2 rs : Rat) - qv p q * (sm g1 rs : Rat)) / (rs.length : Rat))

theorem WQ.heldA {W0 w : World} {R k : Nat} {v : Value} {p q : Int} (h : WQ W0 v p q) (hh : Held R k TAL W0 w) : WQ w v p q := by
  obtain ⟨A, n, c, A', n', c', hv, h1, h2, hq⟩ := h
  exact ⟨A, n, c, A', n', c', hv, h1.held hh (by decide), h2.held hh (by decide), hq⟩
theorem rn_p (n d : Int) (h : 0 < d) : rn n d = n := by unfold rn; rw [if_neg (by omega)]
theorem rd_p (d : Int) (h : 0 < d) : rd d = d := by unfold rd; omega
theorem LineR.exF (p q r s : Int) : ∃ l1 l2 l3 l4 ee : Int, (∀ v w', LineR p q r s v w' → v = .tuple #[.agg #[.int .i64 l1, .int .i64 l2, .int .i64 l3, .int .i64 l4], .int .i64 ee]) := by
  by_cases h : okFrac p q ∧ okFrac r s
  · exact ⟨_, _, _, _, _, fun v w' hl => hl.1 h⟩
  · exact ⟨_, _, _, _, _, fun v w' hl => hl.2 h⟩
theorem cast_ne {q : Int} (h : q ≠ 0) : (q : Rat) ≠ 0 := fun e => h (Rat.intCast_eq_zero_iff.1 e)
theorem sq_shift (Y p q T k : Int) (hq : q ≠ 0) (hk : k ≠ 0) : qv ((Y * (q * 1) + -(p * T) * 1) * 1) (1 * (q * 1) * k) = ((Y : Rat) - qv p q * (T : Rat)) / (k : Rat) := by
  have h1 := cast_ne hq
  have h2 := cast_ne hk
  rw [qv_div, qv_div]
  simp only [Rat.intCast_mul, Rat.intCast_add, Rat.intCast_neg, Rat.intCast_one, Int.mul_one, Int.one_mul]
  grind
theorem qv_rn {a b : Int} (hb : b ≠ 0) : qv (rn a b) (rd b) = qv a b := by
  unfold rn rd
  by_cases h : b < 0
  · rw [if_pos h, ← qv_negneg a b]; congr 1; omega
  · rw [if_neg h]; congr 1; omega
theorem sq_sizes (Y T p q k : Int) (h1 : sz Y ≤ 2) (h2 : sz T ≤ 2) (h3 : sz p ≤ 2) (h4 : sz q ≤ 2) (h5 : sz k ≤ 2) :
    sz p + sz q + sz T + sz 1 ≤ 100000000000 ∧ sz Y + sz 1 + sz (p * T) + sz (q * 1) ≤ 100000000000 ∧ sz (Y * (q * 1) + -(p * T) * 1) + sz (1 * (q * 1)) + sz k + sz 1 ≤ 100000000000 ∧
    sz p + sz q + sz (rn ((Y * (q * 1) + -(p * T) * 1) * 1) (1 * (q * 1) * k)) + sz (rd (1 * (q * 1) * k)) ≤ 100000000000 := by
  have e1 : sz 1 ≤ 2 := sz_small 1 (by omega) (by omega)
  have e2 := sz_mul p T
  have e3 := sz_mul q 1
  have e4 := sz_mul Y (q * 1)
  have e5 := sz_mul (-(p * T)) 1
  rw [sz_neg] at e5
  have e6 := sz_add (Y * (q * 1)) (-(p * T) * 1)
  have e7 := sz_mul 1 (q * 1)
  have e8 := sz_mul (Y * (q * 1) + -(p * T) * 1) 1
  have e9 := sz_mul (1 * (q * 1)) k
  rw [sz_rn, sz_rd]
  omega

set_option maxHeartbeats 3200000 in
set_option maxRecDepth 100000 in
theorem rsquares_any (A : Option Addr) (n c : Nat) (rs : List Rdg) (w : World) (h : Rd w A n c rs) :
    Calls Try.prog 27 #[.slice A n c] w (Ret (SquR rs) w) := by
  have hn := h.le
  have hc := h.cap
  have hl := h.len
  have H := Lib.hid h
  have HL := Lib.hid hl
  clear h hl
  go_enter Try.func27, Try.ntmps27
  go_wp2_with fail
  have hbx : Below w.heap.size w (w.alloc (.cells #[.int .i64 0, .int .i64 0, .int .i64 0, .int .i64 0] TAL)) := by go_grown
  have bl0 : Blk (w.alloc (.cells #[.int .i64 0, .int .i64 0, .int .i64 0, .int .i64 0] TAL)) w.heap.size TAL #[.int .i64 0, .int .i64 0, .int .i64 0, .int .i64 0] := Blk.new_ _ _ rfl
  refine (rvalid_any _ _ _ rs _ (H.out.below hbx)).mono ?_
  rintro e w1 ⟨v1, rfl, rfl, hb1⟩
  have B0 := Lib.hid (bl0.below hb1)
  have HW1 := Lib.hid (bt hbx hb1)
  clear bl0 hbx hb1
  by_cases hv : Vld rs
  · rw [vld_true hv]
    have HV := Lib.hid hv
    have hn64 : n ≤ 64 := by have := hv.2.1; have := HL.out; omega
    clear hv
    go_wp2
    go_loopw [5, 6, 7, 8, 20] (fun t y tt ty i wr => ∃ k : Nat, k ≤ n ∧ i = .int .i64 k ∧ t = .int .i64 (sm g1 (rs.take k)) ∧ y = .int .i64 (sm g2 (rs.take k)) ∧ tt = .int .i64 (sm g3 (rs.take k)) ∧ ty = .int .i64 (sm g4 (rs.take k)) ∧ Below w1.heap.size w1 wr) (fun _ _ _ _ i _ => n - (intOf i).toNat)
    case atStart => exact ⟨0, Nat.zero_le _, rfl, rfl, rfl, rfl, rfl, Below.refl _ _⟩
    case round =>
      obtain ⟨k, hk, rfl, rfl, rfl, rfl, rfl, hbw⟩ := hrel
      have hsb := HV.out.sb k (by rw [HL.out]; exact hk)
      by_cases hkn : k < n
      · have hsb' := HV.out.sb (k + 1) (by rw [HL.out]; omega)
        obtain ⟨t, o, rfl, hcell⟩ := ((H.out.below HW1.out).below hbw).at_ (by omega)
        obtain ⟨ck1, ck2⟩ := hcell k hkn
        have ok := HV.out.2.2 k (by rw [HL.out]; exact hkn)
        unfold okAt at ok
        have s1 := sm_succ g1 rs k (by rw [HL.out]; exact hkn)
        have s2 := sm_succ g2 rs k (by rw [HL.out]; exact hkn)
        have s3 := sm_succ g3 rs k (by rw [HL.out]; exact hkn)
        have s4 := sm_succ g4 rs k (by rw [HL.out]; exact hkn)
        unfold g1 at s1
        unfold g2 at s2
        unfold g3 at s3
        unfold g4 at s4
        rw [show (fun x : Rdg => x.1) = g1 from rfl] at s1
        rw [show (fun x : Rdg => x.2) = g2 from rfl] at s2
        rw [show (fun x : Rdg => x.1 * x.1) = g3 from rfl] at s3
        rw [show (fun x : Rdg => x.1 * x.2) = g4 from rfl] at s4
        obtain ⟨a, ha⟩ : ∃ x, (rs.getD k (0, 0)).1 = x := ⟨_, rfl⟩
        obtain ⟨b, hb⟩ : ∃ x, (rs.getD k (0, 0)).2 = x := ⟨_, rfl⟩
        rw [ha] at ck1 s1 s3 s4 ok
        rw [hb] at ck2 s2 s4 ok
        obtain ⟨T, hT⟩ : ∃ x, sm g1 (rs.take k) = x := ⟨_, rfl⟩
        obtain ⟨Y, hY⟩ : ∃ x, sm g2 (rs.take k) = x := ⟨_, rfl⟩
        obtain ⟨TT, hTT⟩ : ∃ x, sm g3 (rs.take k) = x := ⟨_, rfl⟩
        obtain ⟨TY, hTY⟩ : ∃ x, sm g4 (rs.take k) = x := ⟨_, rfl⟩
        rw [hT] at s1 hsb
        rw [hY] at s2 hsb
        rw [hTT] at s3 hsb
        rw [hTY] at s4 hsb
        rw [hT, hY, hTT, hTY]
        rw [s1, s2, s3, s4] at hsb'
        obtain ⟨⟨x1, x2⟩, ⟨y1, y2⟩, ⟨z1, z2⟩, ⟨u1, u2⟩⟩ := hsb
        obtain ⟨⟨x1', x2'⟩, ⟨y1', y2'⟩, ⟨z1', z2'⟩, ⟨u1', u2'⟩⟩ := hsb'
        obtain ⟨o1, o2, o3, o4, _⟩ := ok
        have m1 := mul_bd' a a 1000000 1000000 o1 o2 o1 o2
        have m2 := mul_bd' a b 1000000 1000000 o1 o2 o3 o4
        obtain ⟨m11, m12⟩ := m1
        obtain ⟨m21, m22⟩ := m2
        have S1 := Lib.hid s1
        have S2 := Lib.hid s2
        have S3 := Lib.hid s3
        have S4 := Lib.hid s4
        clear s1 s2 s3 s4 hT hY hTT hTY ha hb hcell
        go_wp2
        go_roundw
        case rel => exact ⟨k + 1, by omega, by go_num, by rw [S1.out], by rw [S2.out], by rw [S3.out], by rw [S4.out], hbw.alloc hbw.size _⟩
        case measure => simp [intOf]; omega
      · have : k = n := by omega
        subst this
        have ht : rs.take k = rs := List.take_of_length_le (by rw [HL.out]; omega)
        rw [ht] at hsb ⊢
        have hD := HV.out.dets_pos
        unfold dets at hD
        rw [HL.out] at hD
        have HRES : Hid (∀ v w', (∃ p q r s : Int, 0 < q ∧ 0 < s ∧ LineR p q r s v w' ∧ qv p q = (sqN k (sm g1 rs) (sm g2 rs) (sm g4 rs) : Rat) / (sqD k (sm g1 rs) (sm g3 rs) : Rat) ∧ qv r s = ((sm g2 rs : Rat) - qv p q * (sm g1 rs : Rat)) / (k : Rat)) → SquR rs v w') := by
          intro v w' h
          refine ⟨fun hn => absurd HV.out hn, fun _ => ?_⟩
          rw [HL.out]; exact h
        obtain ⟨T, hT⟩ : ∃ x, sm g1 rs = x := ⟨_, rfl⟩
        obtain ⟨Y, hY⟩ : ∃ x, sm g2 rs = x := ⟨_, rfl⟩
        obtain ⟨TT, hTT⟩ : ∃ x, sm g3 rs = x := ⟨_, rfl⟩
        obtain ⟨TY, hTY⟩ : ∃ x, sm g4 rs = x := ⟨_, rfl⟩
        rw [hT, hY, hTT, hTY] at hsb HRES ⊢
        rw [hT, hTT] at hD
        clear hT hY hTT hTY ht hkn hk
        obtain ⟨⟨e1, e2⟩, ⟨e3, e4⟩, ⟨e5, e6⟩, ⟨e7, e8⟩⟩ := sq_bd hn64 hsb
        have q1 : (1 : Int) ≤ (k : Int) := by have := HV.out.1; have := HL.out; omega
        have BT1 := Lib.hid hsb
        obtain ⟨⟨x1, x2⟩, ⟨y1, y2⟩, _, _⟩ := hsb
        have C0 := Lib.hid (B0.out.below hbw)
        have HW := Lib.hid (bt HW1.out hbw)
        clear hbw HW1 B0
        obtain ⟨N1, hN1⟩ : ∃ N : Int, (k : Int) * TY - T * Y = N := ⟨_, rfl⟩
        obtain ⟨D1, hD1⟩ : ∃ N : Int, (k : Int) * TT - T * T = N := ⟨_, rfl⟩
        have HN1 := Lib.hid hN1
        have HD1 := Lib.hid hD1
        rw [hD1] at hD
        have bN : -9223372036854775808 ≤ N1 ∧ N1 ≤ 9223372036854775807 := by omega
        have bD : -9223372036854775808 ≤ D1 ∧ D1 ≤ 9223372036854775807 := by omega
        have BN := Lib.hid bN
        have BD := Lib.hid bD
        have HDP := Lib.hid hD
        clear hN1 hD1 bN bD hD
        have hof1 := fun W : World => wof_any N1 W BN.out.1 BN.out.2
        have hof2 := fun W : World => wof_any D1 W BD.out.1 BD.out.2
        rw [← HN1.out] at hof1
        rw [← HD1.out] at hof2
        go_wp2_with fail
        refine (hof1 _).mono ?_
        rintro e w2 ⟨v2, rfl, hx2, hb2⟩
        go_wp2_with fail
        refine (hof2 _).mono ?_
        rintro e w3 ⟨v3, rfl, hx3, hb3⟩
        clear hof1 hof2
        go_wp2_with fail
        rw [HN1.out] at hx2
        rw [HD1.out] at hx3
        have hra := wratio_any v2 v3 N1 D1 _ (hx2.below hb3) hx3 (by have := HDP.out; omega)
        rw [rn_p _ _ HDP.out, rd_p _ HDP.out] at hra
        refine hra.mono ?_
        rintro e w4 ⟨v4, rfl, ⟨A4, n4, c4, A4', n4', c4', rfl, h4, h4', hq4⟩, hb4⟩
        have HB := Lib.hid (bt hb2 (bt hb3 hb4))
        have SZ := Lib.hid (sq_sizes Y T N1 D1 (k : Int) (sz_small _ (by omega) (by omega)) (sz_small _ (by omega) (by omega)) (sz_small _ BN.out.1 BN.out.2) (sz_small _ BD.out.1 BD.out.2) (sz_small _ (by omega) (by omega)))
        obtain ⟨l1, l2, l3, l4, ee, hline⟩ := LineR.exF N1 D1 (rn ((Y * (D1 * 1) + -(N1 * T) * 1) * 1) (1 * (D1 * 1) * (k : Int))) (rd (1 * (D1 * 1) * (k : Int)))
        have HLINE := Lib.hid hline
        have hk0 : (k : Int) ≠ 0 := by omega
        have HK0 := Lib.hid hk0
        clear hra hx2 hx3 hb2 hb3 hb4 hline hk0 e1 e2 e3 e4 e5 e6 e7 e8
        go_upto_region 13 with fail
        refine wp_world (fun W5 => Blk W5 w4.heap.size TR #[.bool (ng N1), .slice A4 n4 c4, .bool (ng D1), .slice A4' n4' c4'] ∧ Below w4.heap.size w4 W5) (by exact ⟨Blk.new_ _ _ rfl, by go_grown⟩) ?_
        rintro W5 ⟨b11, hb5⟩
        have D0 := Lib.hid (C0.out.below (bt HB.out hb5))
        have HW5 := Lib.hid (bt HW.out (bt HB.out hb5))
        have HS := Lib.hid (show WQ W5 _ N1 D1 from ⟨_, _, _, _, _, _, rfl, h4.below hb5, h4'.below hb5, hq4⟩)
        have hne : w4.heap.size ≠ w.heap.size := by have := C0.out.lt; have := HB.out.size; omega
        have c11 := fun w' (hh : Held w.heap.size 4 TAL W5 w') => (b11.held hh hne).cells
        have r1 := (rules w.heap.size 4 TAL W5).some
        have r2 := (rules w.heap.size 4 TAL W5).free
        have hst : Held w.heap.size 4 TAL W5 W5.drew := D0.out.heldS.drew
        simp only [cellsAre, Nat.zero_add, Nat.reduceAdd, and_true] at c11
        clear b11 hb5 h4 h4' hq4 hne
        go_region_held3 (fun w' => Held w.heap.size 4 TAL W5 w') (first | assumption | exact Held.trans_ (by assumption) (by assumption) | exact Held.set_ (Held.set_ (Held.set_ (Held.set_ (by assumption) _ _) _ _) _ _) _ _)
          (first | (go_at_call 16; have tk := hb6; refine (rline_any _ u6 N1 D1 (rn ((Y * (D1 * 1) + -(N1 * T) * 1) * 1) (1 * (D1 * 1) * (k : Int))) (rd (1 * (D1 * 1) * (k : Int))) _ (HS.out.heldA hh6) hx6 SZ.out.2.2.2).mono ?_; rintro e x7 ⟨u7, rfl, hl7, hb7⟩; have hh7 : Held w.heap.size 4 TAL W5 x7 := hh6.trans_ hb7; have hv7 := HLINE.out _ _ hl7; subst hv7) | (go_at_call 51; have tk := hb5; refine (wqdiv_any u4 u5 _ _ (k : Int) 1 _ (hx4.below hb5) hx5 HK0.out SZ.out.2.2.1).mono ?_; rintro e x6 ⟨u6, rfl, hx6, hb6⟩; have hh6 : Held w.heap.size 4 TAL W5 x6 := hh5.trans_ hb6) | (go_at_call 17; have tk := hb4; refine (wwhole_any (k : Int) _ (by omega) (by omega)).mono ?_; rintro e x5 ⟨u5, rfl, hx5, hb5⟩; have hh5 : Held w.heap.size 4 TAL W5 x5 := hh4.trans_ hb5) | (go_at_call 18; have tk := hb3; refine (wqsub_any u1 u3 Y 1 (N1 * T) (D1 * 1) _ ((hx1.below hb2).below hb3) hx3 SZ.out.2.1).mono ?_; rintro e x4 ⟨u4, rfl, hx4, hb4⟩; have hh4 : Held w.heap.size 4 TAL W5 x4 := hh3.trans_ hb4) | (go_at_call 19; have tk := hb2; refine (wqmul_any _ u2 N1 D1 T 1 _ (HS.out.heldA hh2) hx2 SZ.out.1).mono ?_; rintro e x3 ⟨u3, rfl, hx3, hb3⟩; have hh3 : Held w.heap.size 4 TAL W5 x3 := hh2.trans_ hb3) | (go_at_call 17; have tk := hb1; refine (wwhole_any T _ (by omega) (by omega)).mono ?_; rintro e x2 ⟨u2, rfl, hx2, hb2⟩; have hh2 : Held w.heap.size 4 TAL W5 x2 := hh1.trans_ hb2) | (go_at_call 17; have tk := hst; refine (wwhole_any Y _ (by omega) (by omega)).mono ?_; rintro e x1 ⟨u1, rfl, hx1, hb1⟩; have hh1 : Held w.heap.size 4 TAL W5 x1 := hst.trans_ hb1))
        go_wp2
        (try simp only [Exit.inBlock, Exit.then])
        refine bodyPost_ret (v := .tuple #[.agg #[.int .i64 l1, .int .i64 l2, .int .i64 l3, .int .i64 l4], .int .i64 ee]) (by simp [results, Try.results27, go_sem, r1 _ hh7]) rfl ?_
        have hF := Held.set_ (Held.set_ (Held.set_ (Held.set_ (hh7.here) 0 (.int .i64 l1)) 1 (.int .i64 l2)) 2 (.int .i64 l3)) 3 (.int .i64 l4)
        refine ⟨_, rfl, HRES.out _ _ ⟨N1, D1, _, _, HDP.out, rd_pos ?_, hl7, ?_, ?_⟩, (hh7.trans2 hF).below HW5.out (Nat.le_refl _)⟩
        · exact Int.mul_ne_zero (by rw [Int.one_mul, Int.mul_one]; have := HDP.out; omega) HK0.out
        · rw [qv_div]; unfold sqN sqD; rw [HN1.out, HD1.out]
        · rw [qv_rn (Int.mul_ne_zero (by rw [Int.one_mul, Int.mul_one]; have := HDP.out; omega) HK0.out), sq_shift _ _ _ _ _ (by have := HDP.out; omega) HK0.out]; rfl
  · rw [vld_false hv]
    have HV := Lib.hid hv
    have k0 := B0.out.cells
    have f0 := B0.out.free
    simp only [cellsAre, Nat.zero_add, Nat.reduceAdd, and_true] at k0
    clear hv
    go_wp2
    (try simp only [Exit.inBlock, Exit.then])
    refine bodyPost_ret (v := .tuple #[.agg #[.int .i64 0, .int .i64 0, .int .i64 0, .int .i64 0], .int .i64 1]) (by simp [results, Try.results27, go_sem, k0]) rfl ?_
    exact ⟨_, rfl, ⟨fun _ => rfl, fun h => absurd h HV.out⟩, ((((HW1.out.setCell (Nat.le_refl _) _).setCell (Nat.le_refl _) _).setCell (Nat.le_refl _) _).setCell (Nat.le_refl _) _)⟩
end Go.Proofs.Tb
