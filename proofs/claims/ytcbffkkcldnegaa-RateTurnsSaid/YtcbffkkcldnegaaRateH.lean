/- What Least returns of readings whose numbers are small: always a line. -/
import Derived.Test.YtcbffkkcldnegaaRateG
namespace Go.Proofs.Tb
open Go.RowKit

/-- Readings whose numbers are small. -/
def SmallR (rs : List Rdg) : Prop := ∀ k, k < rs.length → (-2000 ≤ tm rs k ∧ tm rs k ≤ 2000) ∧ (-100000 ≤ ofs rs k ∧ ofs rs k ≤ 100000)
/-- Least returns a line and its error. -/
def LeastOk (rs : List Rdg) (v : Value) : Prop := ∃ s h E : Rat, IsLeast rs.length (tq rs) (yq rs) s h E ∧ fitQ s ∧ fitQ h ∧ fitQ E ∧
  v = .tuple #[.agg #[.int .i64 s.num, .int .i64 (s.den : Int), .int .i64 h.num, .int .i64 (h.den : Int)], .agg #[.int .i64 E.num, .int .i64 (E.den : Int)], .int .i64 0]
theorem lim_lown {p q : Int} (hq : 0 < q) (h : p.natAbs ≤ 4611686018427387904) (h' : q ≤ 4611686018427387904) : okFrac p q := by
  constructor
  · unfold Lim; rw [lown_abs]; exact Nat.le_trans (Nat.div_le_self _ _) h
  · unfold Lim; rw [lowd_abs]; exact Nat.le_trans (Nat.div_le_self _ _) (by omega)
theorem LeastV.ok {rs : List Rdg} {v : Value} (hv : Vld rs) (hsm : SmallR rs) (h : LeastV rs v) : ∃ s h E : Rat, IsLeast rs.length (tq rs) (yq rs) s h E ∧ fitQ s ∧ fitQ h ∧ fitQ E := by
  have hl := h.q hv
  obtain ⟨a, b, c, off, run, p, q, r, s, hg, hp, hq, hr, hs, hok, hbad⟩ := h
  have hbd := hg.bd hv rfl
  have hlen := hv.1
  have hfl : fiN a off < laN rs.length c off ∧ laN rs.length c off < rs.length := by
    unfold Gr GInv at hg
    unfold fiN laN
    by_cases ho : off = 0
    · rw [if_pos ho, if_pos ho]; omega
    · rw [if_neg ho, if_neg ho]
      rcases hg with ⟨h4, _⟩ | ⟨h4, h5, h6, _⟩
      · exact absurd h4 ho
      · omega
  have hq0 := hv.mono_tm hfl.1 hfl.2
  obtain ⟨⟨t1, t2⟩, ⟨y1, y2⟩⟩ := hsm (fiN a off) (by omega)
  obtain ⟨⟨u1, u2⟩, ⟨z1, z2⟩⟩ := hsm (laN rs.length c off) (by omega)
  have hoff : (-2000000000 ≤ off ∧ off ≤ 2000000000) ∧ (0 < run ∧ run ≤ 4000) := by
    unfold Gr GInv at hg
    rcases hg with ⟨e1, e2, _⟩ | ⟨e1, e2, e3, e4, e5, _⟩
    · omega
    · obtain ⟨⟨a1, a2⟩, ⟨a3, a4⟩⟩ := hsm a (by omega)
      obtain ⟨⟨b1, b2⟩, ⟨b3, b4⟩⟩ := hsm b (by omega)
      obtain ⟨⟨c1, c2⟩, ⟨c3, c4⟩⟩ := hsm c e3
      have hm := hv.mono_tm (show a < c by omega) e3
      have m1 := mul_bd' (ofs rs b - ofs rs a) (tm rs c - tm rs a) 200000 4000 (by omega) (by omega) (by omega) (by omega)
      have m2 := mul_bd' (ofs rs c - ofs rs a) (tm rs b - tm rs a) 200000 4000 (by omega) (by omega) (by omega) (by omega)
      rw [e4, e5]
      unfold bo br
      omega
  obtain ⟨⟨o1, o2⟩, ⟨o3, o4⟩⟩ := hoff
  obtain ⟨s0, h0, E0, hi, hyes, hno⟩ := hl
  generalize ofs rs (fiN a off) = y at *
  generalize tm rs (fiN a off) = t at *
  generalize ofs rs (laN rs.length c off) = z at *
  generalize tm rs (laN rs.length c off) = u at *
  have k1 : okFrac p q := lim_lown (by omega) (by omega) (by omega)
  have hs' : s = q * (2 * run) := by rw [hs]; unfold shD; simp
  have hqr := mul_bd' q (2 * run) 4000 8000 (by omega) (by omega) (by omega) (by omega)
  have hsp : 0 < s := by rw [hs']; exact Int.mul_pos (by omega) (by omega)
  have k2 : okFrac r s := by
    refine lim_lown hsp ?_ (by omega)
    have hr' : r = (y * q + -(p * t)) * (2 * run) + off * q := by rw [hr]; unfold shN; simp
    have m1 := mul_bd' y q 100000 4000 (by omega) (by omega) (by omega) (by omega)
    have m2 := mul_bd' p t 200000 2000 (by omega) (by omega) (by omega) (by omega)
    have m3 := mul_bd' (y * q + -(p * t)) (2 * run) 800000000 8000 (by omega) (by omega) (by omega) (by omega)
    have m4 := mul_bd' off q 2000000000 4000 (by omega) (by omega) (by omega) (by omega)
    omega
  have k3 : okFrac (off.natAbs : Int) (2 * run) := lim_lown (by omega) (by omega) (by omega)
  have hv1 := hok ⟨k1, k2, k3⟩
  refine ⟨s0, h0, E0, hi, ?_⟩
  by_cases hf : fitQ s0 ∧ fitQ h0 ∧ fitQ E0
  · exact hf
  · have hv2 := hno hf
    rw [hv1] at hv2
    simp at hv2
theorem LeastR.ok {rs : List Rdg} {v : Value} {w : World} (hv : Vld rs) (hsm : SmallR rs) (h : LeastR rs v w) : LeastOk rs v := by
  obtain ⟨s, k, E, hi, f1, f2, f3⟩ := LeastV.ok hv hsm (h.2 hv)
  exact ⟨s, k, E, hi, f1, f2, f3, ((LeastV.q hv (h.2 hv)).det hv hi).1 ⟨f1, f2, f3⟩⟩
end Go.Proofs.Tb
