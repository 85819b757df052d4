/- Plain laws: a line added to all readings is added to the lines of least squares, of the median slope and of the least greatest error. No statement of the program stands here. -/
import Derived.Test.YtcbffkkcldnegaaGreatHlv
import Derived.Test.YtcbffkkcldnegaaGreatZsq
set_option linter.unusedVariables false
set_option linter.unusedSimpArgs false
namespace Go.Proofs.Tb
open Go.RowKit

/-- The readings with a line added. -/
def movR (b s : Int) (rs : List Rdg) : List Rdg := rs.map fun x => (x.1, x.2 + b * x.1 + s)
section
variable {b s : Int} {rs : List Rdg}
theorem movR_len : (movR b s rs).length = rs.length := by simp [movR]
theorem movR_take (k : Nat) (h : k < rs.length) : movR b s (rs.take (k + 1)) = movR b s (rs.take k) ++ [((rs.getD k (0, 0)).1, (rs.getD k (0, 0)).2 + b * (rs.getD k (0, 0)).1 + s)] := by
  have e : rs.getD k (0, 0) = rs[k] := by simp [List.getD, h]
  unfold movR
  rw [List.take_succ_eq_append_getElem h, List.map_append, e]
  rfl
theorem movR_get (k : Nat) (h : k < rs.length) : (movR b s rs).getD k (0, 0) = ((rs.getD k (0, 0)).1, (rs.getD k (0, 0)).2 + b * (rs.getD k (0, 0)).1 + s) := by
  unfold movR
  simp [List.getD, h]
theorem movR_tm (k : Nat) (h : k < rs.length) : tm (movR b s rs) k = tm rs k := by unfold tm; rw [movR_get k h]
theorem movR_ofs (k : Nat) (h : k < rs.length) : ofs (movR b s rs) k = ofs rs k + b * tm rs k + s := by unfold ofs tm; rw [movR_get k h]
theorem movR_s1 : sm g1 (movR b s rs) = sm g1 rs := by
  induction rs with
  | nil => rfl
  | cons x rs ih =>
    have e1 : sm g1 (movR b s (x :: rs)) = x.1 + sm g1 (movR b s rs) := by simp [movR, sm, g1]
    have e2 : sm g1 (x :: rs) = x.1 + sm g1 rs := by simp [sm, g1]
    rw [e1, e2, ih]
theorem movR_s3 : sm g3 (movR b s rs) = sm g3 rs := by
  induction rs with
  | nil => rfl
  | cons x rs ih =>
    have e1 : sm g3 (movR b s (x :: rs)) = x.1 * x.1 + sm g3 (movR b s rs) := by simp [movR, sm, g3]
    have e2 : sm g3 (x :: rs) = x.1 * x.1 + sm g3 rs := by simp [sm, g3]
    rw [e1, e2, ih]
theorem movR_s2 : sm g2 (movR b s rs) = sm g2 rs + b * sm g1 rs + rs.length * s := by
  induction rs with
  | nil => simp [movR, sm]
  | cons x rs ih =>
    have e1 : sm g2 (movR b s (x :: rs)) = (x.2 + b * x.1 + s) + sm g2 (movR b s rs) := by simp [movR, sm, g2]
    have e2 : sm g2 (x :: rs) = x.2 + sm g2 rs := by simp [sm, g2]
    have e3 : sm g1 (x :: rs) = x.1 + sm g1 rs := by simp [sm, g1]
    rw [e1, e2, e3, ih, List.length_cons]
    push_cast
    grind
theorem movR_s4 : sm g4 (movR b s rs) = sm g4 rs + b * sm g3 rs + s * sm g1 rs := by
  induction rs with
  | nil => simp [movR, sm]
  | cons x rs ih =>
    have e1 : sm g4 (movR b s (x :: rs)) = x.1 * (x.2 + b * x.1 + s) + sm g4 (movR b s rs) := by simp [movR, sm, g4]
    have e2 : sm g4 (x :: rs) = x.1 * x.2 + sm g4 rs := by simp [sm, g4]
    have e3 : sm g1 (x :: rs) = x.1 + sm g1 rs := by simp [sm, g1]
    have e4 : sm g3 (x :: rs) = x.1 * x.1 + sm g3 rs := by simp [sm, g3]
    rw [e1, e2, e3, e4, ih]
    grind
theorem sqS_mov (hv : Vld rs) : sqS (movR b s rs) = sqS rs + (b : Rat) := by
  have hD : sqD rs.length (sm g1 rs) (sm g3 rs) ≠ 0 := by have := hv.dets_pos; unfold dets at this; unfold sqD; omega
  have h1 := cast_ne hD
  have e1 : sqN rs.length (sm g1 rs) (sm g2 rs + b * sm g1 rs + rs.length * s) (sm g4 rs + b * sm g3 rs + s * sm g1 rs) = sqN rs.length (sm g1 rs) (sm g2 rs) (sm g4 rs) + b * sqD rs.length (sm g1 rs) (sm g3 rs) := by
    unfold sqN sqD; grind
  unfold sqS
  rw [movR_len, movR_s1, movR_s2, movR_s3, movR_s4, e1, Rat.intCast_add, Rat.intCast_mul]
  grind
theorem sqH_mov (hv : Vld rs) : sqH (movR b s rs) = sqH rs + (s : Rat) := by
  have hn : (rs.length : Rat) ≠ 0 := by
    have := cast_ne (show (rs.length : Int) ≠ 0 by have := hv.1; omega)
    rwa [Rat.intCast_natCast] at this
  unfold sqH
  rw [movR_len, movR_s1, movR_s2, sqS_mov hv, Rat.intCast_add, Rat.intCast_add, Rat.intCast_mul, Rat.intCast_mul, Rat.intCast_natCast]
  grind
theorem slQ_mov (hv : Vld rs) {i j : Nat} (hj : j < i) (hi : i < rs.length) : slQ (movR b s rs) j i = slQ rs j i + (b : Rat) := by
  have h3 := hv.mono_tm hj hi
  have h4 : (tm rs i - tm rs j : Int) ≠ 0 := by omega
  have h5 := cast_ne h4
  rw [Rat.intCast_sub] at h5
  unfold slQ yq tq
  rw [movR_tm i hi, movR_tm j (by omega), movR_ofs i hi, movR_ofs j (by omega)]
  simp only [Rat.intCast_add, Rat.intCast_mul]
  grind
theorem medS_mov (hv : Vld rs) : medS (movR b s rs) = medS rs + (b : Rat) := by
  have hne : prA (slQ rs) rs.length ≠ [] := fun h => by
    have := prA_pos (slQ rs) hv.1
    rw [h] at this
    simp at this
  have e : prA (slQ (movR b s rs)) rs.length = (prA (slQ rs) rs.length).map (· + (b : Rat)) := by
    unfold prA
    rw [List.map_flatMap]
    refine flatMap_same fun i hi => ?_
    rw [List.map_map]
    refine List.map_congr_left fun j hj => ?_
    exact slQ_mov hv (List.mem_range.1 hj) (List.mem_range.1 hi)
  unfold medS
  rw [movR_len, e, med_map_add _ _ hne]
theorem medH_mov (hv : Vld rs) : medH (movR b s rs) = medH rs + (s : Rat) := by
  have hne : shL rs (medS rs) rs.length ≠ [] := fun h => by
    have h1 : (shL rs (medS rs) rs.length).length = rs.length := by simp [shL]
    rw [h] at h1
    have := hv.1
    simp at h1
    omega
  have e : shL (movR b s rs) (medS rs + (b : Rat)) rs.length = (shL rs (medS rs) rs.length).map (· + (s : Rat)) := by
    unfold shL
    rw [List.map_map]
    refine List.map_congr_left fun i hi => ?_
    have hi' := List.mem_range.1 hi
    unfold yq tq
    rw [movR_tm i hi', movR_ofs i hi']
    simp only [Rat.intCast_add, Rat.intCast_mul, Function.comp]
    grind
  unfold medH
  rw [movR_len, medS_mov hv, e, med_map_add _ _ hne]
theorem least_mov {x h E : Rat} (k : IsLeast rs.length (tq rs) (yq rs) x h E) : IsLeast (movR b s rs).length (tq (movR b s rs)) (yq (movR b s rs)) (x + (b : Rat)) (h + (s : Rat)) E := by
  rw [movR_len]
  have e : ∀ i, i < rs.length → er (tq (movR b s rs)) (yq (movR b s rs)) (x + (b : Rat)) (h + (s : Rat)) i = er (tq rs) (yq rs) x h i := fun i hi => by
    unfold er yq tq
    rw [movR_tm i hi, movR_ofs i hi]
    simp only [Rat.intCast_add, Rat.intCast_mul]
    grind
  refine ⟨fun i hi => by rw [e i hi]; exact k.le i hi, ?_⟩
  rcases k.alt with h0 | ⟨a, b', c, hab, hbc, hcn, eb, ec, ea⟩
  · exact Or.inl h0
  · exact Or.inr ⟨a, b', c, hab, hbc, hcn, by rw [e a (by omega), e b' (by omega)]; exact eb, by rw [e a (by omega), e c hcn]; exact ec, by rw [e a (by omega)]; exact ea⟩
/-- Tame readings moved by a small line. -/
theorem Tame.mov (h : Tame 16 rs) (hb : -99 ≤ b ∧ b ≤ 99) (hs : -999 ≤ s ∧ s ≤ 999) : Vld (movR b s rs) ∧ SmallR (movR b s rs) ∧ (∀ k, k < rs.length → -50000 ≤ ofs rs k + b * tm rs k + s ∧ ofs rs k + b * tm rs k + s ≤ 50000 ∧ -50000 ≤ b * tm rs k ∧ b * tm rs k ≤ 50000 ∧ -50000 ≤ ofs rs k + b * tm rs k ∧ ofs rs k + b * tm rs k ≤ 50000) := by
  obtain ⟨h1, h2, h3⟩ := h
  have hl : rs.length ≤ 16 := by omega
  have hk : ∀ k, k < rs.length → (-39 ≤ tm rs k ∧ tm rs k ≤ 300) ∧ (-999 ≤ ofs rs k ∧ ofs rs k ≤ 999) ∧ (0 < k → tm rs (k - 1) < tm rs k) := fun k hk => by
    have := h3 k hk
    unfold TmAt at this
    unfold tm ofs
    omega
  have hm : ∀ k, k < rs.length → -29700 ≤ b * tm rs k ∧ b * tm rs k ≤ 29700 := fun k hk' => by
    have := hk k hk'
    have := mul_bd' b (tm rs k) 99 300 hb.1 hb.2 (by omega) (by omega)
    omega
  refine ⟨⟨by rw [movR_len]; omega, by rw [movR_len]; omega, fun k hk' => ?_⟩, fun k hk' => ?_, fun k hk' => ?_⟩
  · rw [movR_len] at hk'
    have a1 := hk k hk'
    have a2 := hm k hk'
    unfold okAt
    show -1000000 ≤ tm (movR b s rs) k ∧ tm (movR b s rs) k ≤ 1000000 ∧ -1000000 ≤ ofs (movR b s rs) k ∧ ofs (movR b s rs) k ≤ 1000000 ∧ (0 < k → tm (movR b s rs) (k - 1) < tm (movR b s rs) k)
    rw [movR_tm k hk', movR_ofs k hk']
    refine ⟨by omega, by omega, by omega, by omega, fun h0 => ?_⟩
    rw [movR_tm (k - 1) (by omega)]
    exact a1.2.2 h0
  · rw [movR_len] at hk'
    have a1 := hk k hk'
    have a2 := hm k hk'
    rw [movR_tm k hk', movR_ofs k hk']
    omega
  · have a1 := hk k hk'
    have a2 := hm k hk'
    omega
end
theorem sm_all (f : Rdg → Int) (rs : List Rdg) (B : Int) (h : ∀ k, k < rs.length → -B ≤ f (rs.getD k (0, 0)) ∧ f (rs.getD k (0, 0)) ≤ B) (hB : 0 ≤ B) (h64 : rs.length ≤ 64) : -(64 * B) ≤ sm f rs ∧ sm f rs ≤ 64 * B := by
  have h1 := sm_bd f rs B h rs.length (Nat.le_refl _)
  rw [List.take_length] at h1
  have h2 : (rs.length : Int) * B ≤ 64 * B := Int.mul_le_mul_of_nonneg_right (by omega) hB
  omega
theorem sq_fit {rs : List Rdg} (hv : Vld rs) (hsm : SmallR rs) : fitQ (sqS rs) ∧ fitQ (sqH rs) := by
  obtain ⟨s, e1⟩ : ∃ s, s = sqS rs := ⟨_, rfl⟩
  obtain ⟨h, e2⟩ : ∃ h, h = sqH rs := ⟨_, rfl⟩
  rw [← e1, ← e2]
  unfold sqH at e2
  unfold sqS at e1 e2
  have hl64 := hv.2.1
  have b1 := sm_all g1 rs 2000 (fun k hk => (hsm k hk).1) (by omega) hl64
  have b2 := sm_all g2 rs 100000 (fun k hk => (hsm k hk).2) (by omega) hl64
  have b3 := sm_all g3 rs 4000000 (fun k hk => mul_bd' _ _ 2000 2000 (hsm k hk).1.1 (hsm k hk).1.2 (hsm k hk).1.1 (hsm k hk).1.2) (by omega) hl64
  have b4 := sm_all g4 rs 200000000 (fun k hk => mul_bd' _ _ 2000 100000 (hsm k hk).1.1 (hsm k hk).1.2 (hsm k hk).2.1 (hsm k hk).2.2) (by omega) hl64
  have hD : 0 < sqD rs.length (sm g1 rs) (sm g3 rs) := hv.dets_pos
  have hn : 0 < rs.length := by have := hv.1; omega
  unfold sqN sqD at *
  generalize sm g1 rs = T at *
  generalize sm g2 rs = Y at *
  generalize sm g3 rs = TT at *
  generalize sm g4 rs = TY at *
  generalize rs.length = n at *
  have m1 := mul_bd' (n : Int) TY 64 12800000000 (by omega) (by omega) (by omega) (by omega)
  have m2 := mul_bd' T Y 128000 6400000 (by omega) (by omega) (by omega) (by omega)
  have m3 := mul_bd' (n : Int) TT 64 256000000 (by omega) (by omega) (by omega) (by omega)
  have m4 := mul_bd' T T 128000 128000 (by omega) (by omega) (by omega) (by omega)
  obtain ⟨N, hN⟩ : ∃ N, (n : Int) * TY - T * Y = N := ⟨_, rfl⟩
  obtain ⟨D, hDD⟩ : ∃ N, (n : Int) * TT - T * T = N := ⟨_, rfl⟩
  rw [hN, hDD] at e1 e2
  rw [hDD] at hD
  have bN : -2000000000000 ≤ N ∧ N ≤ 2000000000000 := by omega
  have bD : D ≤ 40000000000 := by omega
  have m5 := mul_bd' Y D 6400000 40000000000 (by omega) (by omega) (by omega) (by omega)
  have m6 := mul_bd' N T 2000000000000 128000 (by omega) (by omega) (by omega) (by omega)
  have m7 := mul_bd' (n : Int) D 64 40000000000 (by omega) (by omega) (by omega) (by omega)
  have p7 : 0 < (n : Int) * D := Int.mul_pos (by omega) hD
  have es : s = qv N D := by rw [e1, qv_div]
  have eh : h = qv (Y * D - N * T) ((n : Int) * D) := by
    rw [e2, qv_div]
    have hDn : (D : Rat) ≠ 0 := cast_ne (by omega)
    have hnn : ((n : Int) : Rat) ≠ 0 := cast_ne (by omega)
    rw [Rat.intCast_natCast] at hnn
    simp only [Rat.intCast_mul, Rat.intCast_sub, Rat.intCast_natCast]
    grind
  have f1 : fitQ s := by rw [es]; exact (okFrac_q hD).1 (lim_lown hD (by omega) (by omega))
  have f2 : fitQ h := by rw [eh]; exact (okFrac_q p7).1 (lim_lown p7 (by omega) (by omega))
  exact ⟨f1, f2⟩
end Go.Proofs.Tb
