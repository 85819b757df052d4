/- Plain laws on the median line: it fits, and what lies below and above it. No statement of the program stands here. -/
import Derived.Test.YtcbffkkcldnegaaGreatZmed
import Derived.Test.YtcbffkkcldnegaaGreatLaw2
set_option linter.unusedVariables false
set_option linter.unusedSimpArgs false
namespace Go.Proofs.Tb
open Go.RowKit

theorem med_mem {l : List Rat} (h : l ≠ []) : ∃ u v, u ∈ l ∧ v ∈ l ∧ med l = (u + v) / 2 := by
  have hl : 0 < l.length := List.length_pos_iff.2 h
  have hn := srt_len l
  have g : ∀ i, i < l.length → (srt l).getD i 0 ∈ l := fun i hi => by
    have : (srt l).getD i 0 = (srt l)[i]'(by omega) := by simp [List.getD, show i < (srt l).length by omega]
    rw [this]
    exact (srt_perm l).mem_iff.1 (List.getElem_mem _)
  exact ⟨_, _, g _ (by omega), g _ (by omega), rfl⟩
theorem prA_mem {α : Type} {f : Nat → Nat → α} {n : Nat} {x : α} (h : x ∈ prA f n) : ∃ i j, j < i ∧ i < n ∧ x = f j i := by
  unfold prA at h
  obtain ⟨i, hi, h⟩ := List.mem_flatMap.1 h
  obtain ⟨j, hj, rfl⟩ := List.mem_map.1 h
  exact ⟨i, j, List.mem_range.1 hj, List.mem_range.1 hi, rfl⟩
theorem mulN (a b A B : Int) (h1 : -A ≤ a) (h2 : a ≤ A) (h3 : -B ≤ b) (h4 : b ≤ B) : -(A * B) ≤ a * b ∧ a * b ≤ A * B := mul_bd' a b A B h1 h2 h3 h4
/-- A slope of small readings. -/
theorem slQ_small {rs : List Rdg} (hv : Vld rs) (hs : SmallR rs) {i j : Nat} (hj : j < i) (hi : i < rs.length) : ∃ p q : Int, slQ rs j i = qv p q ∧ -200000 ≤ p ∧ p ≤ 200000 ∧ 0 < q ∧ q ≤ 4000 := by
  have h1 := hs i hi
  have h2 := hs j (by omega)
  have h3 := hv.mono_tm hj hi
  exact ⟨_, _, (slQ_qv (by omega)).symm, by omega, by omega, by omega, by omega⟩
theorem half_sum {p q r s : Int} (hq : 0 < q) (hs : 0 < s) : (qv p q + qv r s) / 2 = qv (p * s + r * q) (q * s * 2) := by
  rw [← qv_add (by omega) (by omega)]
  have h2 : (2 : Rat) = qv 2 1 := by rw [qv_one]; rfl
  rw [h2, ← qv_quo, Int.mul_one]
/-- The median slope of small readings. -/
theorem medS_small {rs : List Rdg} (hv : Vld rs) (hs : SmallR rs) : ∃ p q : Int, medS rs = qv p q ∧ -1600000000 ≤ p ∧ p ≤ 1600000000 ∧ 0 < q ∧ q ≤ 32000000 := by
  have hne : prA (slQ rs) rs.length ≠ [] := fun h => by
    have := prA_pos (slQ rs) hv.1
    rw [h] at this
    simp at this
  obtain ⟨u, v, hu, hw, he⟩ := med_mem hne
  obtain ⟨i, j, h1, h2, rfl⟩ := prA_mem hu
  obtain ⟨i', j', h1', h2', rfl⟩ := prA_mem hw
  obtain ⟨p, q, e1, a1, a2, a3, a4⟩ := slQ_small hv hs h1 h2
  obtain ⟨r, s, e2, b1, b2, b3, b4⟩ := slQ_small hv hs h1' h2'
  have m1 := mulN p s 200000 4000 a1 a2 (by omega) b4
  have m2 := mulN r q 200000 4000 b1 b2 (by omega) a4
  have m3 := mulN q s 4000 4000 (by omega) a4 (by omega) b4
  have m4 : 0 < q * s := Int.mul_pos a3 b3
  refine ⟨p * s + r * q, q * s * 2, ?_, by omega, by omega, by omega, by omega⟩
  unfold medS
  rw [he, e1, e2, half_sum a3 b3]
theorem shL_mem {rs : List Rdg} {s : Rat} {n : Nat} {x : Rat} (h : x ∈ shL rs s n) : ∃ i, i < n ∧ x = yq rs i - s * tq rs i := by
  unfold shL at h
  obtain ⟨i, hi, rfl⟩ := List.mem_map.1 h
  exact ⟨i, List.mem_range.1 hi, rfl⟩
theorem shift_rep (y t p q : Int) (hq : 0 < q) : (y : Rat) - qv p q * (t : Rat) = qv (y * q + -(p * t)) q := by
  have h1 := cast_ne (show q ≠ 0 by omega)
  rw [qv_div, qv_div, Rat.intCast_add, Rat.intCast_neg, Rat.intCast_mul, Rat.intCast_mul]
  grind
theorem half_same {X Y q : Int} (hq : 0 < q) : (qv X q + qv Y q) / 2 = qv (X + Y) (q * 2) := by
  have h1 := cast_ne (show q ≠ 0 by omega)
  rw [qv_div, qv_div, qv_div, Rat.intCast_add, Rat.intCast_mul]
  have h3 : ((2 : Int) : Rat) = 2 := rfl
  rw [h3]
  grind
theorem med_fit {rs : List Rdg} (hv : Vld rs) (hs : SmallR rs) : fitQ (medS rs) ∧ fitQ (medH rs) := by
  obtain ⟨p, q, e, a1, a2, a3, a4⟩ := medS_small hv hs
  refine ⟨by rw [e]; exact (okFrac_q a3).1 (lim_lown a3 (by omega) (by omega)), ?_⟩
  have hne : shL rs (medS rs) rs.length ≠ [] := fun h => by
    have h1 : (shL rs (medS rs) rs.length).length = rs.length := by simp [shL]
    rw [h] at h1
    have := hv.1
    simp at h1
    omega
  obtain ⟨u, v, hu, hw, he⟩ := med_mem hne
  obtain ⟨i, h1, rfl⟩ := shL_mem hu
  obtain ⟨j, h2, rfl⟩ := shL_mem hw
  obtain ⟨⟨c1, c2⟩, c3, c4⟩ := hs i h1
  obtain ⟨⟨d1, d2⟩, d3, d4⟩ := hs j h2
  have r1 := shift_rep (ofs rs i) (tm rs i) p q a3
  have r2 := shift_rep (ofs rs j) (tm rs j) p q a3
  have m1 := mulN (ofs rs i) q 100000 32000000 (by omega) (by omega) (by omega) a4
  have m2 := mulN p (tm rs i) 1600000000 2000 (by omega) (by omega) (by omega) (by omega)
  have m3 := mulN (ofs rs j) q 100000 32000000 (by omega) (by omega) (by omega) a4
  have m4 := mulN p (tm rs j) 1600000000 2000 (by omega) (by omega) (by omega) (by omega)
  have e3 : medH rs = qv (ofs rs i * q + -(p * tm rs i) + (ofs rs j * q + -(p * tm rs j))) (q * 2) := by
    unfold medH
    rw [he]
    unfold yq tq
    rw [e, r1, r2]
    exact half_same a3
  rw [e3]
  exact (okFrac_q (by omega)).1 (lim_lown (by omega) (by omega) (by omega))
/-- How many of the first k lie below, and above. -/
def ctL (s : Rat) (l : List Rat) (k : Nat) : Nat := (l.take k).countP fun x => decide (x < s)
def ctG (s : Rat) (l : List Rat) (k : Nat) : Nat := (l.take k).countP fun x => decide (s < x)
theorem ct_succ (p : Rat → Bool) (l : List Rat) (k : Nat) (h : k < l.length) : (l.take (k + 1)).countP p = (l.take k).countP p + if p (l.getD k 0) then 1 else 0 := by
  rw [List.take_succ_eq_append_getElem h, List.countP_append]
  have e : l.getD k 0 = l[k] := by simp [List.getD, h]
  rw [e]
  simp [List.countP_cons]
theorem ctL_succ (s : Rat) (l : List Rat) (k : Nat) (h : k < l.length) : ctL s l (k + 1) = ctL s l k + if l.getD k 0 < s then 1 else 0 := by
  unfold ctL; rw [ct_succ _ _ _ h]; simp
theorem ctG_succ (s : Rat) (l : List Rat) (k : Nat) (h : k < l.length) : ctG s l (k + 1) = ctG s l k + if s < l.getD k 0 then 1 else 0 := by
  unfold ctG; rw [ct_succ _ _ _ h]; simp
theorem ctL_le (s : Rat) (l : List Rat) (k : Nat) : ctL s l k ≤ k := by
  unfold ctL; have := List.countP_le_length (p := fun x => decide (x < s)) (l := l.take k); rw [List.length_take] at this; omega
theorem ctG_le (s : Rat) (l : List Rat) (k : Nat) : ctG s l k ≤ k := by
  unfold ctG; have := List.countP_le_length (p := fun x => decide (s < x)) (l := l.take k); rw [List.length_take] at this; omega
theorem ctL_end (l : List Rat) : 2 * ctL (med l) l l.length ≤ l.length := by unfold ctL; rw [List.take_length]; exact med_lt l
theorem ctG_end (l : List Rat) : 2 * ctG (med l) l l.length ≤ l.length := by unfold ctG; rw [List.take_length]; exact med_gt l
theorem cmpR_l {x y : Rat} (h : x < y) : cmpR x y = -1 := by unfold cmpR; rw [if_pos h]
theorem cmpR_g {x y : Rat} (h : y < x) : cmpR x y = 1 := by unfold cmpR; rw [if_neg (by grind), if_pos h]
theorem cmpR_e {x y : Rat} (h1 : ¬ x < y) (h2 : ¬ y < x) : cmpR x y = 0 := by unfold cmpR; rw [if_neg h1, if_neg h2]
theorem fit_vf2 {x : Rat} (h : fitQ x) : VF x.num (x.den : Int) ∧ rngI x.num ∧ 0 < (x.den : Int) ∧ rngI (x.den : Int) := by
  obtain ⟨h1, h2⟩ := h
  have h3 := x.den_pos
  unfold Lim at h1 h2
  refine ⟨⟨⟨by omega, by omega, by omega, by omega⟩, ?_⟩, by unfold rngI; omega, by omega, by unfold rngI; omega⟩
  have := x.reduced
  unfold Nat.Coprime at this
  unfold Int.gcd
  rw [Int.natAbs_natCast]
  exact this
end Go.Proofs.Tb
