/- The first three readings that bend most are the first at which the best line's errors alternate. No program stands here. -/
import Derived.Test.YthcialpcefhnnaaRefX
set_option linter.unusedVariables false
set_option linter.unusedSimpArgs false
namespace Go.Proofs.Tb
open Go.RowKit

theorem alt_zero {rs : List Rdg} {x y : Rat} {i j k : Nat} : ¬ Alt rs x y 0 i j k := by
  intro h
  obtain ⟨h1, h2, h3, h4⟩ := h
  have h5 := rab_zero h1
  rw [h5] at h3 h4
  exact h4 (by grind)
/-- What is left of three readings whose errors alternate: their bend is the greatest. -/
theorem Gr.alt_not_bef {rs : List Rdg} {a b c : Nat} {off run : Int} {x y E : Rat} (hv : Vld rs) (hg : Gr rs a b c off run) (ho : off ≠ 0) (hi : IsLeast rs.length (tq rs) (yq rs) x y E) {i j k : Nat} (h1 : i < j) (h2 : j < k) (h3 : k < rs.length)
    (ha : Alt rs x y E i j k) : ¬ Bef a b c i j k := by
  intro hb
  obtain ⟨_, g, hg0, hE, ea, eb, ec⟩ := hg.least hv ho hi
  have hrun := (hg.bd hv rfl).2.1
  have hg' := hg
  unfold Gr GInv at hg
  rcases hg with ⟨e1, _⟩ | ⟨e1, e2, e3, e4, e5, e6, e7, e8⟩
  · exact ho e1
  have hs := (e8 i j k h1 h2 h3 (by unfold Bef; omega)).2 hb
  -- the bend of (a, b, c), in the errors
  have b1 : (off : Rat) = 2 * g * (run : Rat) := by
    have := bd3_bo rs a b c
    rw [← bd3_er (s := x) (h := y), ← e4] at this
    unfold bd3 at this
    rw [ea, eb, ec] at this
    have hr : (run : Rat) = tq rs c - tq rs a := by rw [e5]; unfold br tq; rw [Rat.intCast_sub]
    rw [← this, hr]; grind
  obtain ⟨f1, f2, f3, f4⟩ := ha
  have b2 : (bo rs i j k : Rat) = -(2 * erQ x y (tm rs i) (ofs rs i) * (br rs i k : Rat)) := by
    have := bd3_bo rs i j k
    rw [← bd3_er (s := x) (h := y)] at this
    unfold bd3 at this
    rw [er_erQ, er_erQ, er_erQ] at this
    have hr : (br rs i k : Rat) = tq rs k - tq rs i := by unfold br tq; rw [Rat.intCast_sub]
    rw [← this, hr]; grind
  have hbr := (hv.br_bd (show i < k by omega) h3).1
  -- the sizes
  have m1 : ((off.natAbs : Int) : Rat) = 2 * E * (run : Rat) := by
    rw [← rab_cast, b1, hE]
    have hr := cast_pos hrun
    unfold rab
    by_cases h0 : g < 0
    · have : 2 * g * (run : Rat) < 0 := (Rat.mul_neg_iff_of_pos_right hr).2 (by grind)
      rw [if_pos this, if_pos h0]; grind
    · have : 0 ≤ 2 * g * (run : Rat) := Rat.mul_nonneg (by grind) (by grind)
      rw [if_neg (by grind), if_neg h0]
  have m2 : (((bo rs i j k).natAbs : Int) : Rat) = 2 * E * (br rs i k : Rat) := by
    rw [← rab_cast, b2, rab_neg, ← f1]
    have hr := cast_pos hbr
    generalize erQ x y (tm rs i) (ofs rs i) = e
    unfold rab
    by_cases h0 : e < 0
    · have : 2 * e * (br rs i k : Rat) < 0 := (Rat.mul_neg_iff_of_pos_right hr).2 (by grind)
      rw [if_pos this, if_pos h0]; grind
    · have : 0 ≤ 2 * e * (br rs i k : Rat) := Rat.mul_nonneg (by grind) (by grind)
      rw [if_neg (by grind), if_neg h0]
  have key : (((bo rs i j k).natAbs : Int) : Rat) * (run : Rat) = ((off.natAbs : Int) : Rat) * (br rs i k : Rat) := by rw [m1, m2]; grind
  rw [← Rat.intCast_mul, ← Rat.intCast_mul, Rat.intCast_inj] at key
  have k1 : (((bo rs i j k).natAbs * run.natAbs : Nat) : Int) = ((off.natAbs * (br rs i k).natAbs : Nat) : Int) := by
    rw [Int.natCast_mul, Int.natCast_mul]
    have e1 : (run.natAbs : Int) = run := by omega
    have e2 : ((br rs i k).natAbs : Int) = br rs i k := by omega
    rw [e1, e2]; exact key
  have k2 : (bo rs i j k).natAbs * run.natAbs = off.natAbs * (br rs i k).natAbs := Int.ofNat.inj k1
  omega
theorem Gr.alt {rs : List Rdg} {a b c : Nat} {off run : Int} {x y E : Rat} (hv : Vld rs) (hg : Gr rs a b c off run) (ho : off ≠ 0) (hi : IsLeast rs.length (tq rs) (yq rs) x y E) : (a < b ∧ b < c ∧ c < rs.length) ∧ Alt rs x y E a b c := by
  obtain ⟨hl, g, hg0, hE, ea, eb, ec⟩ := hg.least hv ho hi
  rw [er_erQ] at ea eb ec
  refine ⟨hl, ?_, ?_, ?_, ?_⟩
  · rw [ea, rab_neg, hE]
  · rw [ea, ec]
  · rw [ea, eb]; grind
  · rw [ea, eb]; grind
/-- What the reference's Witnesses are. -/
theorem FirstAlt.eq {rs : List Rdg} {a b c : Nat} {off run : Int} {x y E : Rat} {ws : List Int} (hv : Vld rs) (hg : Gr rs a b c off run) (hi : IsLeast rs.length (tq rs) (yq rs) x y E) (hf : FirstAlt rs rs.length x y E ws) :
    (off = 0 → ws = []) ∧ (off ≠ 0 → ws = [(a : Int), (b : Int), (c : Int)]) := by
  constructor
  · intro h0
    subst h0
    have hE := hg.flat hv hi
    subst hE
    rcases hf with ⟨h, _⟩ | ⟨i, j, k, _, _, _, _, ha, _⟩
    · exact h
    · exact absurd ha alt_zero
  · intro h0
    obtain ⟨⟨l1, l2, l3⟩, hal⟩ := hg.alt hv h0 hi
    rcases hf with ⟨_, hn⟩ | ⟨i, j, k, h1, h2, h3, hw, ha, hb⟩
    · exact absurd hal (hn a b c l1 l2 l3)
    · have n1 := hg.alt_not_bef hv h0 hi h1 h2 h3 ha
      have n2 : ¬ Bef i j k a b c := fun h => hb a b c l1 l2 l3 h hal
      have : i = a ∧ j = b ∧ k = c := by unfold Bef at n1 n2; omega
      obtain ⟨rfl, rfl, rfl⟩ := this
      exact hw
end Go.Proofs.Tb
