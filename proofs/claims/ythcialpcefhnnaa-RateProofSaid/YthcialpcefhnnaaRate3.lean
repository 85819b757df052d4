/- What Least and Squares return, said with rational numbers: the best line, the line of least squares. (With what follows it, in one text.) -/
import Derived.Test.YthcialpcefhnnaaRateE
import Derived.Test.YthcialpcefhnnaaRateF
import Derived.Test.YthcialpcefhnnaaGround
set_option linter.unusedVariables false
set_option linter.unusedSimpArgs false
/- What Least and Squares return, said with rational numbers: the best line, the line of least squares. -/
namespace Go.Proofs.Tb
open Go.RowKit

/-- Does a rational number fit a Frac? -/
def fitQ (x : Rat) : Prop := Lim x.num ∧ Lim (x.den : Int)
/-- The cells of a Frac. -/
def fc (x : Rat) : List Value := [.int .i64 x.num, .int .i64 (x.den : Int)]
theorem lown_q {p q : Int} (hq : 0 < q) : lown p q = (qv p q).num := (qv_num hq).symm
theorem lowd_q {p q : Int} (hq : 0 < q) : lowd p q = ((qv p q).den : Int) := (qv_den hq).symm
theorem okFrac_q {p q : Int} (hq : 0 < q) : okFrac p q ↔ fitQ (qv p q) := by unfold okFrac fitQ; rw [lown_q hq, lowd_q hq]
/-- What Frac of x is. -/
def FracQ (x : Rat) (v : Value) : Prop :=
  (fitQ x → v = .tuple #[.agg #[.int .i64 x.num, .int .i64 (x.den : Int)], .int .i64 0]) ∧ (¬ fitQ x → v = .tuple #[.agg #[.int .i64 0, .int .i64 0], .int .i64 5])
theorem FracR.q {p q : Int} {v : Value} {w : World} (hq : 0 < q) (h : FracR p q v w) : FracQ (qv p q) v := by
  unfold FracR at h
  unfold FracQ
  rw [← okFrac_q hq, ← lown_q hq, ← lowd_q hq]
  exact h
def LineQ (a b : Rat) (v : Value) : Prop :=
  (fitQ a ∧ fitQ b → v = .tuple #[.agg #[.int .i64 a.num, .int .i64 (a.den : Int), .int .i64 b.num, .int .i64 (b.den : Int)], .int .i64 0]) ∧
  (¬ (fitQ a ∧ fitQ b) → v = .tuple #[.agg #[.int .i64 0, .int .i64 0, .int .i64 0, .int .i64 0], .int .i64 5])
theorem LineR.q {p q r s : Int} {v : Value} {w : World} (hq : 0 < q) (hs : 0 < s) (h : LineR p q r s v w) : LineQ (qv p q) (qv r s) v := by
  unfold LineR at h
  unfold LineQ
  rw [← okFrac_q hq, ← okFrac_q hs, ← lown_q hq, ← lowd_q hq, ← lown_q hs, ← lowd_q hs]
  exact h
/-- Times and offsets as rational numbers. -/
def tq (rs : List Rdg) (i : Nat) : Rat := (tm rs i : Rat)
def yq (rs : List Rdg) (i : Nat) : Rat := (ofs rs i : Rat)
theorem Vld.tq_mono {rs : List Rdg} (h : Vld rs) : ∀ i j, i < j → j < rs.length → tq rs i < tq rs j := fun i j hij hj => Rat.intCast_lt_intCast.2 (h.mono_tm hij hj)
theorem bd3_bo (rs : List Rdg) (i j k : Nat) : bd3 (tq rs) (yq rs) i j k = (bo rs i j k : Rat) := by
  unfold bd3 tq yq bo
  simp only [Rat.intCast_mul, Rat.intCast_sub]
  grind
/-- What Least returns of valid readings. -/
def LeastQ (rs : List Rdg) (v : Value) : Prop := ∃ s h E : Rat, IsLeast rs.length (tq rs) (yq rs) s h E ∧
  (fitQ s ∧ fitQ h ∧ fitQ E → v = .tuple #[.agg #[.int .i64 s.num, .int .i64 (s.den : Int), .int .i64 h.num, .int .i64 (h.den : Int)], .agg #[.int .i64 E.num, .int .i64 (E.den : Int)], .int .i64 0]) ∧
  (¬ (fitQ s ∧ fitQ h ∧ fitQ E) → v = .tuple #[.agg #[.int .i64 0, .int .i64 0, .int .i64 0, .int .i64 0], .agg #[.int .i64 0, .int .i64 0], .int .i64 5])
theorem natAbs_cast_le (x : Int) : -((x.natAbs : Int) : Rat) ≤ (x : Rat) ∧ (x : Rat) ≤ ((x.natAbs : Int) : Rat) := by
  constructor
  · rw [← Rat.intCast_neg, Rat.intCast_le_intCast]; omega
  · rw [Rat.intCast_le_intCast]; omega
theorem rab_cast (x : Int) : rab (x : Rat) = ((x.natAbs : Int) : Rat) := by
  rw [← qv_one, ← qv_one, qv_abs (by omega)]
theorem shift_eq (y t p q off run : Int) (hq : q ≠ 0) (hr : run ≠ 0) : qv (shN y t p q off run) (shD q run) = (y : Rat) - qv p q * (t : Rat) + qv off (2 * run) := by
  have h1 := cast_ne hq
  have h2 := cast_ne hr
  rw [qv_div, qv_div, qv_div]
  unfold shN shD
  simp only [Rat.intCast_mul, Rat.intCast_add, Rat.intCast_neg, Rat.intCast_one, Int.mul_one, Int.one_mul]
  have h3 : ((2 : Int) : Rat) = 2 := rfl
  rw [h3]
  grind
theorem bend_step {X run R b off : Rat} (h9 : X * run ≤ off * b) (h10 : R * (2 * run) = off) (hr : 0 < run) : X ≤ 2 * R * b := by
  have e : 2 * R * b * run = off * b := by rw [← h10]; grind
  have : X * run ≤ 2 * R * b * run := by rw [e]; exact h9
  exact Rat.le_of_mul_le_mul_right this hr
theorem LeastV.q {rs : List Rdg} {v : Value} (hv : Vld rs) (h : LeastV rs v) : LeastQ rs v := by
  obtain ⟨a, b, c, off, run, p, q, r, s, hg, hp, hq, hr, hs, hok, hbad⟩ := h
  have hbd := hg.bd hv rfl
  have hrun := hbd.2.1
  have hlen := hv.1
  have hmono := hv.tq_mono
  have hall : ∀ i' j' k', i' < j' → j' < k' → k' < rs.length → Bef rs.length (rs.length + 1) (rs.length + 2) i' j' k' := fun i' j' k' h1 h2 h3 => by unfold Bef; omega
  have hq0 : 0 < q := by
    rw [hq]
    have : fiN a off < laN rs.length c off ∧ laN rs.length c off < rs.length := by
      unfold Gr GInv at hg
      unfold fiN laN
      by_cases ho : off = 0
      · rw [if_pos ho, if_pos ho]; omega
      · rw [if_neg ho, if_neg ho]
        rcases hg with ⟨h4, _⟩ | ⟨h4, h5, h6, _⟩
        · exact absurd h4 ho
        · omega
    have := hv.mono_tm this.1 this.2
    omega
  have hs0 : 0 < s := by rw [hs]; unfold shD; rw [Int.one_mul, Int.mul_one]; exact Int.mul_pos hq0 (by omega)
  have hE : qv (off.natAbs : Int) (2 * run) = rab (qv off (2 * run)) := qv_abs (by omega)
  refine ⟨qv p q, qv r s, qv (off.natAbs : Int) (2 * run), ?_, ?_, ?_⟩
  · have hsl : qv p q * (q : Rat) = (p : Rat) := by rw [qv_div]; exact Rat.div_mul_cancel (cast_ne (by omega))
    have hsh : qv r s = (ofs rs (fiN a off) : Rat) - qv p q * (tm rs (fiN a off) : Rat) + qv off (2 * run) := by rw [hr, hs]; exact shift_eq _ _ _ _ _ _ (by omega) (by omega)
    have hG : qv off (2 * run) * (2 * (run : Rat)) = (off : Rat) := by
      rw [qv_div]
      have e : ((2 * run : Int) : Rat) = 2 * (run : Rat) := by rw [Rat.intCast_mul]; rfl
      rw [e]
      exact Rat.div_mul_cancel (by rw [← e]; exact cast_ne (by omega))
    have hpq : (p : Rat) = (ofs rs (laN rs.length c off) : Rat) - (ofs rs (fiN a off) : Rat) := by rw [hp, Rat.intCast_sub]
    have hqq : (q : Rat) = (tm rs (laN rs.length c off) : Rat) - (tm rs (fiN a off) : Rat) := by rw [hq, Rat.intCast_sub]
    rw [hE]
    generalize qv p q = S at *
    generalize qv r s = H at *
    generalize qv off (2 * run) = g at *
    unfold Gr GInv at hg
    rcases hg with ⟨e1, e2, e3, e4, e5, e6⟩ | ⟨e1, e2, e3, e4, e5, e6, e7, e8⟩
    · subst e1 e2
      have hg0 : g = 0 := by
        have h2 : g * (2 * ((1 : Int) : Rat)) = 0 := hG
        rcases Rat.mul_eq_zero.1 h2 with h | h
        · exact h
        · exfalso
          have e : ((1 : Int) : Rat) = 1 := rfl
          rw [e] at h
          grind
      rw [hg0] at hsh ⊢
      have hf : fiN a 0 = 0 := if_pos rfl
      have hl : laN rs.length c 0 = rs.length - 1 := if_pos rfl
      rw [hf] at hsh hpq hqq
      rw [hl] at hpq hqq
      have hr0 : rab 0 = 0 := by unfold rab; grind
      rw [hr0]
      refine IsLeast.of_flat hmono hlen ?_ ?_ ?_
      · unfold er yq tq; grind
      · unfold er yq tq; grind
      · intro i j k h1 h2 h3
        rw [bd3_bo, e6 i j k h1 h2 h3 (hall i j k h1 h2 h3)]; rfl
    · have hf : fiN a off = a := if_neg e6
      have hl : laN rs.length c off = c := if_neg e6
      rw [hf] at hsh hpq hqq
      rw [hl] at hpq hqq
      have hrr : (run : Rat) = (tm rs c : Rat) - (tm rs a : Rat) := by rw [e5]; unfold br; rw [Rat.intCast_sub]
      have hoo : (off : Rat) = ((ofs rs b : Rat) - (ofs rs a : Rat)) * ((tm rs c : Rat) - (tm rs a : Rat)) - ((ofs rs c : Rat) - (ofs rs a : Rat)) * ((tm rs b : Rat) - (tm rs a : Rat)) := by
        rw [e4]; unfold bo; simp only [Rat.intCast_sub, Rat.intCast_mul]
      have hrp : (0 : Rat) < (run : Rat) := cast_pos hrun
      refine IsLeast.of_max hmono a b c e1 e2 e3 g ?_ ?_ ?_ ?_ ?_
      · intro h0
        rw [h0, Rat.zero_mul] at hG
        exact e6 (Rat.intCast_eq_zero_iff.1 hG.symm)
      · unfold er yq tq; grind
      · have key : (er (tq rs) (yq rs) S H b - g) * (run : Rat) = 0 := by unfold er yq tq; grind
        rcases Rat.mul_eq_zero.1 key with h | h
        · grind
        · grind
      · unfold er yq tq; grind
      · intro i j k h1 h2 h3
        have h8 := (e8 i j k h1 h2 h3 (hall i j k h1 h2 h3)).1
        rw [bd3_bo]
        have hbr : tq rs k - tq rs i = (br rs i k : Rat) := by unfold tq br; rw [Rat.intCast_sub]
        rw [hbr]
        have hbp : 0 < br rs i k := (hv.br_bd (show i < k by omega) h3).1
        have h9 : (((bo rs i j k).natAbs : Int) : Rat) * (run : Rat) ≤ ((off.natAbs : Int) : Rat) * (br rs i k : Rat) := by
          rw [← Rat.intCast_mul, ← Rat.intCast_mul, Rat.intCast_le_intCast]
          have e : ((bo rs i j k).natAbs : Int) * run = (((bo rs i j k).natAbs * run.natAbs : Nat) : Int) := by rw [Int.natCast_mul]; congr 1; omega
          have e' : (off.natAbs : Int) * br rs i k = ((off.natAbs * (br rs i k).natAbs : Nat) : Int) := by rw [Int.natCast_mul]; congr 1; omega
          rw [e, e']
          exact_mod_cast h8
        have h10 : rab g * (2 * (run : Rat)) = ((off.natAbs : Int) : Rat) := by
          rw [← rab_cast, ← hG]
          unfold rab
          by_cases hg0 : g < 0
          · have : g * (2 * (run : Rat)) < 0 := (Rat.mul_neg_iff_of_pos_right (by grind)).2 hg0
            rw [if_pos hg0, if_pos this]; grind
          · have h0 : 0 ≤ g * (2 * (run : Rat)) := Rat.mul_nonneg (by grind) (by grind)
            rw [if_neg hg0, if_neg (by grind)]
        have h11 := natAbs_cast_le (bo rs i j k)
        generalize ((bo rs i j k).natAbs : Int) = X at *
        have h12 : (X : Rat) ≤ 2 * rab g * (br rs i k : Rat) := by
          exact bend_step h9 h10 hrp
        obtain ⟨h13, h14⟩ := h11
        exact ⟨Rat.le_trans (Rat.neg_le_neg h12) h13, Rat.le_trans h14 h12⟩
  · intro hf
    rw [← okFrac_q hq0, ← okFrac_q hs0, ← okFrac_q (by omega)] at hf
    have := hok hf
    rw [← lown_q hq0, ← lowd_q hq0, ← lown_q hs0, ← lowd_q hs0, ← lown_q (by omega), ← lowd_q (by omega)]
    exact this
  · intro hf
    rw [← okFrac_q hq0, ← okFrac_q hs0, ← okFrac_q (by omega)] at hf
    exact hbad hf
/-- What Least returns where the best line is known. -/
theorem LeastQ.det {rs : List Rdg} {v : Value} {s h E : Rat} (hv : Vld rs) (hl : LeastQ rs v) (hi : IsLeast rs.length (tq rs) (yq rs) s h E) :
    (fitQ s ∧ fitQ h ∧ fitQ E → v = .tuple #[.agg #[.int .i64 s.num, .int .i64 (s.den : Int), .int .i64 h.num, .int .i64 (h.den : Int)], .agg #[.int .i64 E.num, .int .i64 (E.den : Int)], .int .i64 0]) ∧
    (¬ (fitQ s ∧ fitQ h ∧ fitQ E) → v = .tuple #[.agg #[.int .i64 0, .int .i64 0, .int .i64 0, .int .i64 0], .agg #[.int .i64 0, .int .i64 0], .int .i64 5]) := by
  obtain ⟨s', h', E', hi', h1, h2⟩ := hl
  obtain ⟨rfl, rfl, rfl⟩ := hi.uniq hv.tq_mono hv.1 hi'
  exact ⟨h1, h2⟩
end Go.Proofs.Tb
/- What Least returns of readings whose numbers are small: always a line. -/
namespace Go.Proofs.Tb
open Go.RowKit

/-- Readings whose numbers are small. -/
def SmallR (rs : List Rdg) : Prop := ∀ k, k < rs.length → (-2000 ≤ tm rs k ∧ tm rs k ≤ 2000) ∧ (-100000 ≤ ofs rs k ∧ ofs rs k ≤ 100000)
/-- Least returns a line and its error. -/
def LeastOk (rs : List Rdg) (v : Value) : Prop := ∃ s h E : Rat, IsLeast rs.length (tq rs) (yq rs) s h E ∧ fitQ s ∧ fitQ h ∧ fitQ E ∧
  v = .tuple #[.agg #[.int .i64 s.num, .int .i64 (s.den : Int), .int .i64 h.num, .int .i64 (h.den : Int)], .agg #[.int .i64 E.num, .int .i64 (E.den : Int)], .int .i64 0]
theorem lim_lown {p q : Int} (hq : 0 < q) (h : p.natAbs ≤ 4611686018427387904) (h' : q ≤ 4611686018427387904) : okFrac p q := by
  constructor
  · unfold Lim; rw [lown_abs]; exact Nat.le_trans (Nat.div_le_self _ _) h
  · unfold Lim; rw [lowd_abs]; exact Nat.le_trans (Nat.div_le_self _ _) (by omega)
theorem LeastV.ok {rs : List Rdg} {v : Value} (hv : Vld rs) (hsm : SmallR rs) (h : LeastV rs v) : ∃ s h E : Rat, IsLeast rs.length (tq rs) (yq rs) s h E ∧ fitQ s ∧ fitQ h ∧ fitQ E := by
  have hl := h.q hv
  obtain ⟨a, b, c, off, run, p, q, r, s, hg, hp, hq, hr, hs, hok, hbad⟩ := h
  have hbd := hg.bd hv rfl
  have hlen := hv.1
  have hfl : fiN a off < laN rs.length c off ∧ laN rs.length c off < rs.length := by
    unfold Gr GInv at hg
    unfold fiN laN
    by_cases ho : off = 0
    · rw [if_pos ho, if_pos ho]; omega
    · rw [if_neg ho, if_neg ho]
      rcases hg with ⟨h4, _⟩ | ⟨h4, h5, h6, _⟩
      · exact absurd h4 ho
      · omega
  have hq0 := hv.mono_tm hfl.1 hfl.2
  obtain ⟨⟨t1, t2⟩, ⟨y1, y2⟩⟩ := hsm (fiN a off) (by omega)
  obtain ⟨⟨u1, u2⟩, ⟨z1, z2⟩⟩ := hsm (laN rs.length c off) (by omega)
  have hoff : (-2000000000 ≤ off ∧ off ≤ 2000000000) ∧ (0 < run ∧ run ≤ 4000) := by
    unfold Gr GInv at hg
    rcases hg with ⟨e1, e2, _⟩ | ⟨e1, e2, e3, e4, e5, _⟩
    · omega
    · obtain ⟨⟨a1, a2⟩, ⟨a3, a4⟩⟩ := hsm a (by omega)
      obtain ⟨⟨b1, b2⟩, ⟨b3, b4⟩⟩ := hsm b (by omega)
      obtain ⟨⟨c1, c2⟩, ⟨c3, c4⟩⟩ := hsm c e3
      have hm := hv.mono_tm (show a < c by omega) e3
      have m1 := mul_bd' (ofs rs b - ofs rs a) (tm rs c - tm rs a) 200000 4000 (by omega) (by omega) (by omega) (by omega)
      have m2 := mul_bd' (ofs rs c - ofs rs a) (tm rs b - tm rs a) 200000 4000 (by omega) (by omega) (by omega) (by omega)
      rw [e4, e5]
      unfold bo br
      omega
  obtain ⟨⟨o1, o2⟩, ⟨o3, o4⟩⟩ := hoff
  obtain ⟨s0, h0, E0, hi, hyes, hno⟩ := hl
  generalize ofs rs (fiN a off) = y at *
  generalize tm rs (fiN a off) = t at *
  generalize ofs rs (laN rs.length c off) = z at *
  generalize tm rs (laN rs.length c off) = u at *
  have k1 : okFrac p q := lim_lown (by omega) (by omega) (by omega)
  have hs' : s = q * (2 * run) := by rw [hs]; unfold shD; simp
  have hqr := mul_bd' q (2 * run) 4000 8000 (by omega) (by omega) (by omega) (by omega)
  have hsp : 0 < s := by rw [hs']; exact Int.mul_pos (by omega) (by omega)
  have k2 : okFrac r s := by
    refine lim_lown hsp ?_ (by omega)
    have hr' : r = (y * q + -(p * t)) * (2 * run) + off * q := by rw [hr]; unfold shN; simp
    have m1 := mul_bd' y q 100000 4000 (by omega) (by omega) (by omega) (by omega)
    have m2 := mul_bd' p t 200000 2000 (by omega) (by omega) (by omega) (by omega)
    have m3 := mul_bd' (y * q + -(p * t)) (2 * run) 800000000 8000 (by omega) (by omega) (by omega) (by omega)
    have m4 := mul_bd' off q 2000000000 4000 (by omega) (by omega) (by omega) (by omega)
    omega
  have k3 : okFrac (off.natAbs : Int) (2 * run) := lim_lown (by omega) (by omega) (by omega)
  have hv1 := hok ⟨k1, k2, k3⟩
  refine ⟨s0, h0, E0, hi, ?_⟩
  by_cases hf : fitQ s0 ∧ fitQ h0 ∧ fitQ E0
  · exact hf
  · have hv2 := hno hf
    rw [hv1] at hv2
    simp at hv2
theorem LeastR.ok {rs : List Rdg} {v : Value} {w : World} (hv : Vld rs) (hsm : SmallR rs) (h : LeastR rs v w) : LeastOk rs v := by
  obtain ⟨s, k, E, hi, f1, f2, f3⟩ := LeastV.ok hv hsm (h.2 hv)
  exact ⟨s, k, E, hi, f1, f2, f3, ((LeastV.q hv (h.2 hv)).det hv hi).1 ⟨f1, f2, f3⟩⟩
end Go.Proofs.Tb
/- The program's rational numbers by value, with a bound of their sizes. -/
namespace Go.Proofs.Tb
open Go.RowKit

/-- v reads as the rational number x, with at most s words above and below. -/
def WX (w : World) (v : Value) (x : Rat) (s : Nat) : Prop := ∃ p q, WQ w v p q ∧ qv p q = x ∧ sz p ≤ s ∧ sz q ≤ s
theorem WX.form {w : World} {v : Value} {x : Rat} {s : Nat} (h : WX w v x s) : ∃ b A n c b' A' n' c', v = .agg #[.bool b, .slice A n c, .bool b', .slice A' n' c'] := by
  obtain ⟨p, q, ⟨A, n, c, A', n', c', rfl, _⟩, _⟩ := h
  exact ⟨_, _, _, _, _, _, _, _, rfl⟩
theorem WX.below {w w' : World} {v : Value} {x : Rat} {s : Nat} (h : WX w v x s) (hb : Below w.heap.size w w') : WX w' v x s := by
  obtain ⟨p, q, hq, h1, h2⟩ := h
  exact ⟨p, q, hq.below hb, h1, h2⟩
theorem WQ.held {w w' : World} {v : Value} {p q : Int} {R k : Nat} {T : TypeId} (h : WQ w v p q) (hh : Held R k T w w') (hT : TU ≠ T) : WQ w' v p q := by
  obtain ⟨A, n, c, A', n', c', hv, h1, h2, hq⟩ := h
  exact ⟨A, n, c, A', n', c', hv, h1.held hh hT, h2.held hh hT, hq⟩
theorem WX.held {w w' : World} {v : Value} {x : Rat} {s : Nat} {R k : Nat} {T : TypeId} (h : WX w v x s) (hh : Held R k T w w') (hT : TU ≠ T) : WX w' v x s := by
  obtain ⟨p, q, hq, h1, h2⟩ := h
  exact ⟨p, q, hq.held hh hT, h1, h2⟩
theorem WX.le {w : World} {v : Value} {x : Rat} {s t : Nat} (h : WX w v x s) (hst : s ≤ t) : WX w v x t := by
  obtain ⟨p, q, hq, h1, h2, h3⟩ := h
  exact ⟨p, q, hq, h1, by omega, by omega⟩
theorem sz_abs (x : Int) : sz (x.natAbs : Int) = sz x := by unfold sz; rw [Int.natAbs_natCast]
theorem WQ.q0 {w : World} {v : Value} {p q : Int} (h : WQ w v p q) : 0 < q := by
  obtain ⟨_, _, _, _, _, _, _, _, _, hq⟩ := h
  exact hq

section
variable {w : World} {a b : Value} {x y : Rat} {s t : Nat}
theorem vmul_any (ha : WX w a x s) (hb : WX w b y t) (hs : s + t ≤ 50000000000) : Calls Try.prog 19 #[a, b] w (Ret (fun v w' => WX w' v (x * y) (s + t)) w) := by
  obtain ⟨p, q, h1, rfl, h3, h4⟩ := ha
  obtain ⟨r, u, k1, rfl, k3, k4⟩ := hb
  refine (wqmul_any a b p q r u w h1 k1 (by omega)).mono ?_
  rintro e w' ⟨v, he, hv, hb⟩
  exact ⟨v, he, ⟨_, _, hv, qv_mul _ _ _ _, by have := sz_mul p r; omega, by have := sz_mul q u; omega⟩, hb⟩
theorem vadd_any (ha : WX w a x s) (hb : WX w b y t) (hs : s + t ≤ 50000000000) : Calls Try.prog 20 #[a, b] w (Ret (fun v w' => WX w' v (x + y) (s + t + 1)) w) := by
  obtain ⟨p, q, h1, rfl, h3, h4⟩ := ha
  obtain ⟨r, u, k1, rfl, k3, k4⟩ := hb
  refine (wqadd_any a b p q r u w h1 k1 (by omega)).mono ?_
  rintro e w' ⟨v, he, hv, hb⟩
  have q1 := h1.q0
  have q2 := k1.q0
  exact ⟨v, he, ⟨_, _, hv, qv_add (by omega) (by omega), sz_add_max _ _ _ (by have := sz_mul p u; omega) (by have := sz_mul r q; omega), by have := sz_mul q u; omega⟩, hb⟩
theorem vsub_any (ha : WX w a x s) (hb : WX w b y t) (hs : s + t ≤ 50000000000) : Calls Try.prog 18 #[a, b] w (Ret (fun v w' => WX w' v (x - y) (s + t + 1)) w) := by
  obtain ⟨p, q, h1, rfl, h3, h4⟩ := ha
  obtain ⟨r, u, k1, rfl, k3, k4⟩ := hb
  refine (wqsub_any a b p q r u w h1 k1 (by omega)).mono ?_
  rintro e w' ⟨v, he, hv, hb⟩
  rw [Int.neg_mul] at hv
  have q1 := h1.q0
  have q2 := k1.q0
  exact ⟨v, he, ⟨_, _, hv, qv_sub (by omega) (by omega), sz_add_max _ _ _ (by have := sz_mul p u; omega) (by rw [sz_neg]; have := sz_mul r q; omega), by have := sz_mul q u; omega⟩, hb⟩
theorem vdiv_any (ha : WX w a x s) (hb : WX w b y t) (hy : y ≠ 0) (hs : s + t ≤ 50000000000) : Calls Try.prog 51 #[a, b] w (Ret (fun v w' => WX w' v (x / y) (s + t)) w) := by
  obtain ⟨p, q, h1, rfl, h3, h4⟩ := ha
  obtain ⟨r, u, k1, rfl, k3, k4⟩ := hb
  have q1 := h1.q0
  have q2 := k1.q0
  have hr : r ≠ 0 := fun h => hy ((qv_zero (by omega)).2 h)
  refine (wqdiv_any a b p q r u w h1 k1 hr (by omega)).mono ?_
  rintro e w' ⟨v, he, hv, hb⟩
  exact ⟨v, he, ⟨_, _, hv, by rw [qv_rn (Int.mul_ne_zero (by omega) hr), qv_quo], by rw [sz_rn]; have := sz_mul p u; omega, by rw [sz_rd]; have := sz_mul q r; omega⟩, hb⟩
theorem vabs_any (ha : WX w a x s) : Calls Try.prog 22 #[a] w (Ret (fun v w' => WX w' v (rab x) s) w) := by
  obtain ⟨p, q, h1, rfl, h3, h4⟩ := ha
  refine (wqabs_any a p q w h1).mono ?_
  rintro e w' ⟨v, he, hv, hb⟩
  exact ⟨v, he, ⟨_, _, hv, qv_abs h1.q0, by rw [sz_abs]; exact h3, h4⟩, hb⟩
theorem vfrac_any (ha : WX w a x s) (hs : s ≤ 100000000000) : Calls Try.prog 23 #[a] w (Ret (fun v _ => FracQ x v) w) := by
  obtain ⟨p, q, h1, rfl, h3, h4⟩ := ha
  refine (wfrac_any a p q w h1 (by omega) (by omega)).mono ?_
  rintro e w' ⟨v, he, hv, hb⟩
  exact ⟨v, he, hv.q h1.q0, hb⟩
end
theorem vwhole_any (n : Int) (w : World) (h1 : -9223372036854775808 ≤ n) (h2 : n ≤ 9223372036854775807) : Calls Try.prog 17 #[.int .i64 n] w (Ret (fun v w' => WX w' v (n : Rat) 2) w) := by
  refine (wwhole_any n w h1 h2).mono ?_
  rintro e w' ⟨v, he, hv, hb⟩
  exact ⟨v, he, ⟨_, _, hv, qv_one n, sz_small n h1 h2, sz_small 1 (by omega) (by omega)⟩, hb⟩
end Go.Proofs.Tb

