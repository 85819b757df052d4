/- The line of least squares: its errors add up to 0, also weighted with the times; no other line has a lesser sum of squares. No program stands here. -/
import Derived.Test.YtcbffkkcldnegaaRefT
import Derived.Test.YtcbffkkcldnegaaLaw2
set_option linter.unusedVariables false
set_option linter.unusedSimpArgs false
namespace Go.Proofs.Tb
open Go.RowKit

/-- The sum of the errors at the first k readings; the same, weighted with the times. -/
def esT (rs : List Rdg) (x y : Rat) : Nat → Rat
  | 0 => 0
  | k + 1 => esT rs x y k + erQ x y (tm rs k) (ofs rs k)
def ewT (rs : List Rdg) (x y : Rat) : Nat → Rat
  | 0 => 0
  | k + 1 => ewT rs x y k + erQ x y (tm rs k) (ofs rs k) * (tm rs k : Rat)
theorem sm_zero (f : Rdg → Int) (rs : List Rdg) : sm f (rs.take 0) = 0 := by simp [sm]
theorem esT_eq (rs : List Rdg) (x y : Rat) : ∀ k, k ≤ rs.length → esT rs x y k = (sm g2 (rs.take k) : Rat) - x * (sm g1 (rs.take k) : Rat) - (k : Rat) * y := by
  intro k
  induction k with
  | zero => intro _; rw [sm_zero, sm_zero]; simp [esT]; grind
  | succ k ih =>
    intro hk
    unfold esT
    rw [ih (by omega), sm_succ g2 rs k (by omega), sm_succ g1 rs k (by omega), Rat.intCast_add, Rat.intCast_add]
    unfold erQ g1 g2 tm ofs
    have : ((k + 1 : Nat) : Rat) = (k : Rat) + 1 := by simp
    rw [this]
    grind
theorem ewT_eq (rs : List Rdg) (x y : Rat) : ∀ k, k ≤ rs.length → ewT rs x y k = (sm g4 (rs.take k) : Rat) - x * (sm g3 (rs.take k) : Rat) - y * (sm g1 (rs.take k) : Rat) := by
  intro k
  induction k with
  | zero => intro _; rw [sm_zero, sm_zero, sm_zero]; simp [ewT]; grind
  | succ k ih =>
    intro hk
    unfold ewT
    rw [ih (by omega), sm_succ g4 rs k (by omega), sm_succ g3 rs k (by omega), sm_succ g1 rs k (by omega), Rat.intCast_add, Rat.intCast_add, Rat.intCast_add]
    unfold erQ g1 g3 g4 tm ofs
    rw [Rat.intCast_mul, Rat.intCast_mul]
    grind
/-- Another line's squares. -/
theorem sqT_ge (rs : List Rdg) (x y x' y' : Rat) : ∀ k, sqT rs x y k + 2 * ((x - x') * ewT rs x y k + (y - y') * esT rs x y k) ≤ sqT rs x' y' k := by
  intro k
  induction k with
  | zero => simp [sqT, ewT, esT]; grind
  | succ k ih =>
    unfold sqT ewT esT
    have e : erQ x' y' (tm rs k) (ofs rs k) = erQ x y (tm rs k) (ofs rs k) + ((x - x') * (tm rs k : Rat) + (y - y')) := by unfold erQ; grind
    rw [e]
    generalize erQ x y (tm rs k) (ofs rs k) = a at *
    generalize hd : (x - x') * (tm rs k : Rat) + (y - y') = d at *
    have h2 : 0 ≤ d * d := by
      rcases Rat.le_total (a := 0) (b := d) with h | h
      · exact Rat.mul_nonneg h h
      · have := Rat.mul_nonneg (a := -d) (b := -d) (by grind) (by grind); grind
    have e2 : (x - x') * (ewT rs x y k + a * (tm rs k : Rat)) + (y - y') * (esT rs x y k + a) = (x - x') * ewT rs x y k + (y - y') * esT rs x y k + a * d := by rw [← hd]; grind
    rw [e2]
    grind
/-- What Squares returns: the line whose errors add up to 0. -/
def SquOk (rs : List Rdg) (v : Value) : Prop := ∃ s h : Rat, esT rs s h rs.length = 0 ∧ ewT rs s h rs.length = 0 ∧ fitQ s ∧ fitQ h ∧
  v = .tuple #[.agg #[.int .i64 s.num, .int .i64 (s.den : Int), .int .i64 h.num, .int .i64 (h.den : Int)], .int .i64 0]
/-- Of any valid readings. -/
def SquQ (rs : List Rdg) (v : Value) : Prop := ∃ s h : Rat, esT rs s h rs.length = 0 ∧ ewT rs s h rs.length = 0 ∧ LineQ s h v ∧
  s = (sqN rs.length (sm g1 rs) (sm g2 rs) (sm g4 rs) : Rat) / (sqD rs.length (sm g1 rs) (sm g3 rs) : Rat) ∧ h = ((sm g2 rs : Rat) - s * (sm g1 rs : Rat)) / (rs.length : Rat)
theorem SquR.q {rs : List Rdg} {v : Value} {w : World} (hv : Vld rs) (h : SquR rs v w) : SquQ rs v := by
  obtain ⟨p, q, r, s, hq, hs, hl, e1, e2⟩ := h.2 hv
  have hl := hl.q hq hs
  have hD : (0 : Rat) < (sqD rs.length (sm g1 rs) (sm g3 rs) : Rat) := cast_pos hv.dets_pos
  have hn : (0 : Rat) < (rs.length : Rat) := by have := hv.1; exact Rat.natCast_pos.2 (by omega)
  have hDe : (sqD rs.length (sm g1 rs) (sm g3 rs) : Rat) = (rs.length : Rat) * (sm g3 rs : Rat) - (sm g1 rs : Rat) * (sm g1 rs : Rat) := by unfold sqD; simp only [Rat.intCast_sub, Rat.intCast_mul, Rat.intCast_natCast]
  have hNe : (sqN rs.length (sm g1 rs) (sm g2 rs) (sm g4 rs) : Rat) = (rs.length : Rat) * (sm g4 rs : Rat) - (sm g1 rs : Rat) * (sm g2 rs : Rat) := by unfold sqN; simp only [Rat.intCast_sub, Rat.intCast_mul, Rat.intCast_natCast]
  have hsl : qv p q * (sqD rs.length (sm g1 rs) (sm g3 rs) : Rat) = (sqN rs.length (sm g1 rs) (sm g2 rs) (sm g4 rs) : Rat) := by rw [e1]; exact Rat.div_mul_cancel (by grind)
  have hsh : qv r s * (rs.length : Rat) = (sm g2 rs : Rat) - qv p q * (sm g1 rs : Rat) := by rw [e2]; exact Rat.div_mul_cancel (by grind)
  rw [hDe, hNe] at hsl
  refine ⟨qv p q, qv r s, ?_, ?_, hl, e1, e2⟩
  · rw [esT_eq rs _ _ rs.length (Nat.le_refl _), List.take_length]
    grind
  · rw [ewT_eq rs _ _ rs.length (Nat.le_refl _), List.take_length]
    have : ((sm g4 rs : Rat) - qv p q * (sm g3 rs : Rat) - qv r s * (sm g1 rs : Rat)) * (rs.length : Rat) = 0 := by grind
    rcases Rat.mul_eq_zero.1 this with h | h
    · exact h
    · grind
theorem sm_all (f : Rdg → Int) (rs : List Rdg) (B : Int) (h : ∀ k, k < rs.length → -B ≤ f (rs.getD k (0, 0)) ∧ f (rs.getD k (0, 0)) ≤ B) (hB : 0 ≤ B) (h64 : rs.length ≤ 64) : -(64 * B) ≤ sm f rs ∧ sm f rs ≤ 64 * B := by
  have h1 := sm_bd f rs B h rs.length (Nat.le_refl _)
  rw [List.take_length] at h1
  have h2 : (rs.length : Int) * B ≤ 64 * B := Int.mul_le_mul_of_nonneg_right (by omega) hB
  omega
theorem SquR.ok {rs : List Rdg} {v : Value} {w : World} (hv : Vld rs) (hsm : SmallR rs) (h : SquR rs v w) : SquOk rs v := by
  obtain ⟨s, h, z1, z2, hl, e1, e2⟩ := h.q hv
  refine ⟨s, h, z1, z2, ?_⟩
  have hl64 := hv.2.1
  have b1 := sm_all g1 rs 2000 (fun k hk => (hsm k hk).1) (by omega) hl64
  have b2 := sm_all g2 rs 100000 (fun k hk => (hsm k hk).2) (by omega) hl64
  have b3 := sm_all g3 rs 4000000 (fun k hk => mul_bd' _ _ 2000 2000 (hsm k hk).1.1 (hsm k hk).1.2 (hsm k hk).1.1 (hsm k hk).1.2) (by omega) hl64
  have b4 := sm_all g4 rs 200000000 (fun k hk => mul_bd' _ _ 2000 100000 (hsm k hk).1.1 (hsm k hk).1.2 (hsm k hk).2.1 (hsm k hk).2.2) (by omega) hl64
  have hD : 0 < sqD rs.length (sm g1 rs) (sm g3 rs) := hv.dets_pos
  have hn : 0 < rs.length := by have := hv.1; omega
  unfold sqN sqD at *
  generalize sm g1 rs = T at *
  generalize sm g2 rs = Y at *
  generalize sm g3 rs = TT at *
  generalize sm g4 rs = TY at *
  generalize rs.length = n at *
  have m1 := mul_bd' (n : Int) TY 64 12800000000 (by omega) (by omega) (by omega) (by omega)
  have m2 := mul_bd' T Y 128000 6400000 (by omega) (by omega) (by omega) (by omega)
  have m3 := mul_bd' (n : Int) TT 64 256000000 (by omega) (by omega) (by omega) (by omega)
  have m4 := mul_bd' T T 128000 128000 (by omega) (by omega) (by omega) (by omega)
  obtain ⟨N, hN⟩ : ∃ N, (n : Int) * TY - T * Y = N := ⟨_, rfl⟩
  obtain ⟨D, hDD⟩ : ∃ N, (n : Int) * TT - T * T = N := ⟨_, rfl⟩
  rw [hN, hDD] at e1
  rw [hDD] at hD
  have bN : -2000000000000 ≤ N ∧ N ≤ 2000000000000 := by omega
  have bD : D ≤ 40000000000 := by omega
  have m5 := mul_bd' Y D 6400000 40000000000 (by omega) (by omega) (by omega) (by omega)
  have m6 := mul_bd' N T 2000000000000 128000 (by omega) (by omega) (by omega) (by omega)
  have m7 := mul_bd' (n : Int) D 64 40000000000 (by omega) (by omega) (by omega) (by omega)
  have p7 : 0 < (n : Int) * D := Int.mul_pos (by omega) hD
  have es : s = qv N D := by rw [e1, qv_div]
  have eh : h = qv (Y * D - N * T) ((n : Int) * D) := by
    rw [e2, e1, qv_div]
    have hDn : (D : Rat) ≠ 0 := cast_ne (by omega)
    have hnn : ((n : Int) : Rat) ≠ 0 := cast_ne (by omega)
    rw [Rat.intCast_natCast] at hnn
    simp only [Rat.intCast_mul, Rat.intCast_sub, Rat.intCast_natCast]
    grind
  have f1 : fitQ s := by rw [es]; exact (okFrac_q hD).1 (lim_lown hD (by omega) (by omega))
  have f2 : fitQ h := by rw [eh]; exact (okFrac_q p7).1 (lim_lown p7 (by omega) (by omega))
  exact ⟨f1, f2, hl.1 ⟨f1, f2⟩⟩
/-- The sum of squares of the line whose errors add up to 0 is the least. -/
theorem sq_least {rs : List Rdg} {x y : Rat} (h1 : esT rs x y rs.length = 0) (h2 : ewT rs x y rs.length = 0) (x' y' : Rat) : sqT rs x y rs.length ≤ sqT rs x' y' rs.length := by
  have := sqT_ge rs x y x' y' rs.length
  rw [h1, h2] at this
  grind
end Go.Proofs.Tb
