/- The three readings that bend most are those at which the best line's errors alternate. No program stands here. -/
import Derived.Test.YthcialpcefhnnaaLawK
set_option linter.unusedVariables false
set_option linter.unusedSimpArgs false
namespace Go.Proofs.Tb
open Go.RowKit

theorem Gr.least {rs : List Rdg} {a b c : Nat} {off run : Int} {s h E : Rat} (hv : Vld rs) (hg : Gr rs a b c off run) (ho : off ≠ 0) (hi : IsLeast rs.length (tq rs) (yq rs) s h E) :
    (a < b ∧ b < c ∧ c < rs.length) ∧ ∃ g : Rat, g ≠ 0 ∧ E = rab g ∧ er (tq rs) (yq rs) s h a = -g ∧ er (tq rs) (yq rs) s h b = g ∧ er (tq rs) (yq rs) s h c = -g := by
  have hbd := hg.bd hv rfl
  have hrun := hbd.2.1
  have hmono := hv.tq_mono
  have hall : ∀ i' j' k', i' < j' → j' < k' → k' < rs.length → Bef rs.length (rs.length + 1) (rs.length + 2) i' j' k' := fun i' j' k' h1 h2 h3 => by unfold Bef; omega
  unfold Gr GInv at hg
  rcases hg with ⟨e1, _⟩ | ⟨e1, e2, e3, e4, e5, e6, e7, e8⟩
  · exact absurd e1 ho
  refine ⟨⟨e1, e2, e3⟩, ?_⟩
  have hrr : (run : Rat) = tq rs c - tq rs a := by rw [e5]; unfold br tq; rw [Rat.intCast_sub]
  have hoo : (off : Rat) = (yq rs b - yq rs a) * (tq rs c - tq rs a) - (yq rs c - yq rs a) * (tq rs b - tq rs a) := by
    rw [e4]; unfold bo tq yq; simp only [Rat.intCast_sub, Rat.intCast_mul]
  have hrp : (0 : Rat) < (run : Rat) := cast_pos hrun
  have hG : qv off (2 * run) * (2 * (run : Rat)) = (off : Rat) := by
    rw [qv_div]
    have e : ((2 * run : Int) : Rat) = 2 * (run : Rat) := by rw [Rat.intCast_mul]; rfl
    rw [e]
    exact Rat.div_mul_cancel (by rw [← e]; exact cast_ne (by omega))
  have hS : ∃ S : Rat, S * (run : Rat) = yq rs c - yq rs a := ⟨(yq rs c - yq rs a) / (run : Rat), Rat.div_mul_cancel (by grind)⟩
  obtain ⟨S, hS⟩ := hS
  generalize qv off (2 * run) = g at *
  have hg0 : g ≠ 0 := by
    intro h0
    rw [h0, Rat.zero_mul] at hG
    exact e6 (Rat.intCast_eq_zero_iff.1 hG.symm)
  obtain ⟨H, hH⟩ : ∃ H : Rat, H = yq rs a - S * tq rs a + g := ⟨_, rfl⟩
  have ea : er (tq rs) (yq rs) S H a = -g := by unfold er; grind
  have eb : er (tq rs) (yq rs) S H b = g := by
    have key : (er (tq rs) (yq rs) S H b - g) * (run : Rat) = 0 := by unfold er; grind
    rcases Rat.mul_eq_zero.1 key with h | h
    · grind
    · grind
  have ec : er (tq rs) (yq rs) S H c = -g := by unfold er; grind
  have hl : IsLeast rs.length (tq rs) (yq rs) S H (rab g) := by
    refine IsLeast.of_max hmono a b c e1 e2 e3 g hg0 ea eb ec ?_
    intro i j k h1 h2 h3
    have h8 := (e8 i j k h1 h2 h3 (hall i j k h1 h2 h3)).1
    rw [bd3_bo]
    have hbr : tq rs k - tq rs i = (br rs i k : Rat) := by unfold tq br; rw [Rat.intCast_sub]
    rw [hbr]
    have hbp : 0 < br rs i k := (hv.br_bd (show i < k by omega) h3).1
    have h9 : (((bo rs i j k).natAbs : Int) : Rat) * (run : Rat) ≤ ((off.natAbs : Int) : Rat) * (br rs i k : Rat) := by
      rw [← Rat.intCast_mul, ← Rat.intCast_mul, Rat.intCast_le_intCast]
      have e : ((bo rs i j k).natAbs : Int) * run = (((bo rs i j k).natAbs * run.natAbs : Nat) : Int) := by rw [Int.natCast_mul]; congr 1; omega
      have e' : (off.natAbs : Int) * br rs i k = ((off.natAbs * (br rs i k).natAbs : Nat) : Int) := by rw [Int.natCast_mul]; congr 1; omega
      rw [e, e']
      exact_mod_cast h8
    have h10 : rab g * (2 * (run : Rat)) = ((off.natAbs : Int) : Rat) := by
      rw [← rab_cast, ← hG]
      unfold rab
      by_cases hg1 : g < 0
      · have : g * (2 * (run : Rat)) < 0 := (Rat.mul_neg_iff_of_pos_right (by grind)).2 hg1
        rw [if_pos hg1, if_pos this]; grind
      · have h0 : 0 ≤ g * (2 * (run : Rat)) := Rat.mul_nonneg (by grind) (by grind)
        rw [if_neg hg1, if_neg (by grind)]
    have h11 := natAbs_cast_le (bo rs i j k)
    generalize ((bo rs i j k).natAbs : Int) = X at *
    have h12 : (X : Rat) ≤ 2 * rab g * (br rs i k : Rat) := bend_step h9 h10 hrp
    obtain ⟨h13, h14⟩ := h11
    exact ⟨Rat.le_trans (Rat.neg_le_neg h12) h13, Rat.le_trans h14 h12⟩
  obtain ⟨rfl, rfl, rfl⟩ := hi.uniq hmono hv.1 hl
  exact ⟨g, hg0, rfl, ea, eb, ec⟩
theorem Gr.flat {rs : List Rdg} {a b c : Nat} {run : Int} {s h E : Rat} (hv : Vld rs) (hg : Gr rs a b c 0 run) (hi : IsLeast rs.length (tq rs) (yq rs) s h E) : E = 0 := by
  have hall : ∀ i' j' k', i' < j' → j' < k' → k' < rs.length → Bef rs.length (rs.length + 1) (rs.length + 2) i' j' k' := fun i' j' k' h1 h2 h3 => by unfold Bef; omega
  have hlen := hv.1
  unfold Gr GInv at hg
  rcases hg with ⟨_, _, _, _, _, e6⟩ | ⟨_, _, _, _, _, e6, _⟩
  · have hr : tq rs 0 < tq rs (rs.length - 1) := hv.tq_mono 0 (rs.length - 1) (by omega) (by omega)
    obtain ⟨S, hS⟩ : ∃ S : Rat, S * (tq rs (rs.length - 1) - tq rs 0) = yq rs (rs.length - 1) - yq rs 0 := ⟨(yq rs (rs.length - 1) - yq rs 0) / (tq rs (rs.length - 1) - tq rs 0), Rat.div_mul_cancel (by grind)⟩
    have hl : IsLeast rs.length (tq rs) (yq rs) S (yq rs 0 - S * tq rs 0) 0 := by
      refine IsLeast.of_flat hv.tq_mono hlen ?_ ?_ ?_
      · unfold er; grind
      · unfold er; grind
      · intro i j k h1 h2 h3
        rw [bd3_bo, e6 i j k h1 h2 h3 (hall i j k h1 h2 h3)]; rfl
    exact (hi.uniq hv.tq_mono hlen hl).2.2
  · exact absurd rfl e6
/-- Three readings out of some. -/
def sub3 (rs : List Rdg) (a b c : Nat) : List Rdg := [rs.getD a (0, 0), rs.getD b (0, 0), rs.getD c (0, 0)]
theorem Vld.sub3 {rs : List Rdg} (hv : Vld rs) {a b c : Nat} (h1 : a < b) (h2 : b < c) (h3 : c < rs.length) : Vld (sub3 rs a b c) := by
  have oa := hv.2.2 a (by omega)
  have ob := hv.2.2 b (by omega)
  have oc := hv.2.2 c h3
  have m1 := hv.mono_tm h1 (by omega)
  have m2 := hv.mono_tm h2 h3
  unfold okAt at oa ob oc
  unfold tm at m1 m2
  have hl : (Go.Proofs.Tb.sub3 rs a b c).length = 3 := rfl
  refine ⟨by omega, by omega, fun k hk => ?_⟩
  have : k = 0 ∨ k = 1 ∨ k = 2 := by omega
  unfold okAt
  rcases this with rfl | rfl | rfl
  · exact ⟨oa.1, oa.2.1, oa.2.2.1, oa.2.2.2.1, fun h => absurd h (by omega)⟩
  · exact ⟨ob.1, ob.2.1, ob.2.2.1, ob.2.2.2.1, fun _ => m1⟩
  · exact ⟨oc.1, oc.2.1, oc.2.2.1, oc.2.2.2.1, fun _ => m2⟩
theorem SmallR.sub3 {rs : List Rdg} (hs : SmallR rs) {a b c : Nat} (h1 : a < b) (h2 : b < c) (h3 : c < rs.length) : SmallR (sub3 rs a b c) := by
  have oa := hs a (by omega)
  have ob := hs b (by omega)
  have oc := hs c h3
  intro k hk
  have hl : (Go.Proofs.Tb.sub3 rs a b c).length = 3 := rfl
  have : k = 0 ∨ k = 1 ∨ k = 2 := by omega
  rcases this with rfl | rfl | rfl
  · exact oa
  · exact ob
  · exact oc
theorem IsLeast.sub3 {rs : List Rdg} {s h E g : Rat} {a b c : Nat} (h1 : a < b) (h2 : b < c) (h3 : c < rs.length) (hi : IsLeast rs.length (tq rs) (yq rs) s h E) (hE : E = rab g)
    (ea : er (tq rs) (yq rs) s h a = -g) (eb : er (tq rs) (yq rs) s h b = g) (ec : er (tq rs) (yq rs) s h c = -g) : IsLeast (sub3 rs a b c).length (tq (sub3 rs a b c)) (yq (sub3 rs a b c)) s h E := by
  have la := hi.le a (by omega)
  have lb := hi.le b (by omega)
  have lc := hi.le c h3
  have e0 : er (tq (Go.Proofs.Tb.sub3 rs a b c)) (yq (Go.Proofs.Tb.sub3 rs a b c)) s h 0 = er (tq rs) (yq rs) s h a := rfl
  have e1 : er (tq (Go.Proofs.Tb.sub3 rs a b c)) (yq (Go.Proofs.Tb.sub3 rs a b c)) s h 1 = er (tq rs) (yq rs) s h b := rfl
  have e2 : er (tq (Go.Proofs.Tb.sub3 rs a b c)) (yq (Go.Proofs.Tb.sub3 rs a b c)) s h 2 = er (tq rs) (yq rs) s h c := rfl
  refine ⟨fun i hil => ?_, Or.inr ⟨0, 1, 2, by omega, by omega, by show 2 < 3; omega, ?_, ?_, ?_⟩⟩
  · have hl : (Go.Proofs.Tb.sub3 rs a b c).length = 3 := rfl
    have : i = 0 ∨ i = 1 ∨ i = 2 := by omega
    rcases this with rfl | rfl | rfl
    · exact la
    · exact lb
    · exact lc
  · rw [e1, e0, ea, eb]; grind
  · rw [e2, e0, ea, ec]
  · rw [e0, ea, hE]
    unfold rab
    split
    · exact Or.inl rfl
    · exact Or.inr rfl
theorem rab_zero {x : Rat} (h : rab x = 0) : x = 0 := by unfold rab at h; split at h <;> grind
end Go.Proofs.Tb
