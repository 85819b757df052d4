/- The sub-case of some faults, renumbered: valid, and its cheapest plan costs what that of the set does. -/
import Derived.Test.YtcjddfhhofoidaaDoorPta
set_option linter.unusedVariables false
set_option linter.unusedSimpArgs false
namespace Go.Proofs.Tb

def subW (ws l : List Int) : List Int := l.map fun x => ws.getD x.toNat 0
def subS (t : List Int) (l : List Int) : List Int := ((List.range l.length).filter fun i => shB t (l.getD i 0)).map fun (i : Nat) => (i : Int)
def subT (ts : List Tt) (l : List Int) : List Tt := ts.map fun t => (t.1, subS t.2 l)
theorem subW_len (ws l : List Int) : (subW ws l).length = l.length := by simp [subW]
theorem subT_len (ts : List Tt) (l : List Int) : (subT ts l).length = ts.length := by simp [subT]
theorem subT_get (ts : List Tt) (l : List Int) (j : Nat) (hj : j < ts.length) : tC (subT ts l) j = tC ts j ∧ tS (subT ts l) j = subS (tS ts j) l := by
  unfold tC tS subT
  simp [List.getD, hj]
theorem subW_get (ws l : List Int) (j : Nat) (hj : j < l.length) : (subW ws l).getD j 0 = ws.getD (l.getD j 0).toNat 0 := by
  unfold subW
  simp [List.getD, hj]
theorem setK_mem (xs : List Int) (i : Nat) : (setK xs xs.length).testBit i = true ↔ ∃ x, x ∈ xs ∧ x.toNat = i := by
  rw [setK_bit]
  constructor
  · rintro ⟨j, hj, h⟩
    exact ⟨xs.getD j 0, by simp [List.getD, hj], h⟩
  · rintro ⟨x, hx, h⟩
    obtain ⟨j, hj, rfl⟩ := List.mem_iff_getElem.1 hx
    exact ⟨j, hj, by simpa [List.getD, hj] using h⟩
theorem subS_bit (t l : List Int) (i : Nat) : (setK (subS t l) (subS t l).length).testBit i = true ↔ i < l.length ∧ shB t (l.getD i 0) = true := by
  rw [setK_mem]
  unfold subS
  constructor
  · rintro ⟨x, hx, h⟩
    obtain ⟨j, hj, rfl⟩ := List.mem_map.1 hx
    rw [Int.toNat_natCast] at h
    subst h
    simpa using hj
  · intro h
    exact ⟨(i : Int), List.mem_map.2 ⟨i, by simpa using h, rfl⟩, Int.toNat_natCast i⟩
theorem ris_of_pairwise {xs : List Int} {lim : Int} (h : xs.Pairwise (· < ·)) (h0 : ∀ x ∈ xs, 0 ≤ x ∧ x < lim) : Ris xs lim := by
  intro k hk
  have hm : ∀ j, j < xs.length → xs.getD j 0 ∈ xs := fun j hj => by simp [List.getD, hj]
  refine ⟨?_, (h0 _ (hm k hk)).2⟩
  unfold prv
  by_cases hk0 : k = 0
  · rw [if_pos hk0]
    have := (h0 _ (hm k hk)).1
    omega
  · rw [if_neg hk0]
    have := List.pairwise_iff_getElem.1 h (k - 1) k (by omega) hk (by omega)
    have hk1 : k - 1 < xs.length := by omega
    simpa [List.getD, hk, hk1] using this
theorem subS_ris (t l : List Int) : Ris (subS t l) (l.length : Int) := by
  refine ris_of_pairwise ?_ ?_
  · unfold subS
    rw [List.pairwise_map]
    refine List.Pairwise.imp ?_ ((List.pairwise_lt_range (n := l.length)).filter _)
    intro a b h
    exact Int.ofNat_lt.2 h
  · intro x hx
    unfold subS at hx
    obtain ⟨j, hj, rfl⟩ := List.mem_map.1 hx
    have : j < l.length := by
      have := (List.mem_filter.1 hj).1
      simpa using this
    omega
theorem mems_get {n s i : Nat} (hi : i < (memN n s).length) : (mems n s).getD i 0 = ((memN n s).getD i 0 : Nat) := by
  unfold mems
  simp [List.getD, hi]
theorem mems_len_eq (n s : Nat) : (mems n s).length = (memN n s).length := by simp [mems]
theorem memN_dis (n s : Nat) : Dis n (memN n s) := by
  refine ⟨fun i hi => ?_, fun i j hi hj e => ?_⟩
  · have : (memN n s).getD i 0 ∈ memN n s := by simp [List.getD, hi]
    exact (memN_mem.1 this).1
  · simp [List.getD, hi, hj] at e
    have hp := List.pairwise_iff_getElem.1 (memN_nodup n s)
    rcases Nat.lt_trichotomy i j with h1 | h1 | h1
    · exact absurd e (hp i j hi hj h1)
    · exact h1
    · exact absurd e.symm (hp j i hj hi h1)
section
variable {ws : List Int} {ts : List Tt}
theorem sub_cv (h : Cv ws ts) {s : Nat} (hs : s < 2 ^ ws.length) (h0 : s ≠ 0) : Cv (subW ws (mems ws.length s)) (subT ts (mems ws.length s)) := by
  have hl := mems_len ws.length s
  have hl0 : 0 < (mems ws.length s).length := by
    rcases Nat.eq_zero_or_pos (mems ws.length s).length with h1 | h1
    · exact absurd ((mems_nil hs).1 (List.eq_nil_of_length_eq_zero h1)) h0
    · exact h1
  have h10 := h.len10
  refine ⟨⟨by rw [subW_len]; omega, by rw [subW_len]; omega, by rw [subT_len]; exact h.1.2.2⟩, fun j hj => ?_, fun j hj => ?_⟩
  · rw [subW_len] at hj
    rw [subW_get _ _ _ hj]
    have hj' : j < (memN ws.length s).length := by rw [← mems_len_eq]; exact hj
    rw [mems_get hj', Int.toNat_natCast]
    exact h.2.1 _ ((memN_dis ws.length s).1 j hj')
  · rw [subT_len] at hj
    obtain ⟨e1, e2⟩ := subT_get ts (mems ws.length s) j hj
    rw [e1, e2, subW_len]
    exact ⟨(h.2.2 j hj).1, subS_ris _ _⟩
theorem sub_bst (h : Cv ws ts) {s : Nat} (hs : s < 2 ^ ws.length) : pC (subW ws (mems ws.length s)) (subT ts (mems ws.length s)) (allS (subW ws (mems ws.length s))) = pC ws ts s := by
  obtain ⟨L, hL⟩ : ∃ L, memN ws.length s = L := ⟨_, rfl⟩
  obtain ⟨l, hl⟩ : ∃ l, mems ws.length s = l := ⟨_, rfl⟩
  have hlen : l.length = L.length := by rw [← hl, ← hL]; exact mems_len_eq _ _
  have hget : ∀ i, i < L.length → l.getD i 0 = ((L.getD i 0 : Nat) : Int) := fun i hi => by rw [← hl, ← hL]; exact mems_get (by rw [hL]; exact hi)
  have hD : Dis ws.length L := by rw [← hL]; exact memN_dis _ _
  rw [hl]
  have hb : ∀ x, x < 2 ^ L.length → bst (wsN (subW ws l)) (tsN (subT ts l)) x = bst (wsN ws) (tsN ts) (phi L x L.length) := by
    have hbit : ∀ k i, i < L.length → ((tsN (subT ts l)).getD k (0, 0)).2.testBit i = ((tsN ts).getD k (0, 0)).2.testBit (L.getD i 0) := by
      intro k i hi
      rw [tsN_get, tsN_get]
      dsimp only
      by_cases hk : k < ts.length
      · rw [(subT_get ts l k hk).2, ← shB_bit (fun q hq => (h.shows hk q hq).1)]
        rw [Bool.eq_iff_iff, subS_bit, hlen, hget i hi]
        exact ⟨fun h => h.2, fun h => ⟨hi, h⟩⟩
      · have e1 : tS (subT ts l) k = [] := by unfold tS; rw [List.getD_eq_getElem?_getD, List.getElem?_eq_none (by rw [subT_len]; omega)]; rfl
        have e2 : tS ts k = [] := by unfold tS; rw [List.getD_eq_getElem?_getD, List.getElem?_eq_none (by omega)]; rfl
        rw [e1, e2]
        simp [setK]
    refine bst_map (fun x => phi L x L.length) (fun x _ => ?_) (fun x k _ => phi_in _ _ _ (hbit k)) (fun x k _ => phi_out _ _ _ (hbit k)) (fun x hx => phi_zero x hx) (fun k => ?_) (by rw [tsN_len, tsN_len, subT_len])
    · refine phi_wt hD _ _ (wsN_len _) (by rw [wsN_len, subW_len, hlen]) (fun i hi => ?_) x
      unfold wsN
      rw [getD_map_nat, getD_map_nat, subW_get _ _ _ (by rw [hlen]; exact hi), hget i hi, Int.toNat_natCast]
    · rw [tsN_get, tsN_get]
      dsimp only
      by_cases hk : k < ts.length
      · rw [(subT_get ts l k hk).1]
      · have e1 : tC (subT ts l) k = 0 := by unfold tC; rw [List.getD_eq_getElem?_getD, List.getElem?_eq_none (by rw [subT_len]; omega)]; rfl
        have e2 : tC ts k = 0 := by unfold tC; rw [List.getD_eq_getElem?_getD, List.getElem?_eq_none (by omega)]; rfl
        rw [e1, e2]
  have hall : allS (subW ws l) = 2 ^ L.length - 1 := by unfold allS; rw [subW_len, hlen]
  have hphi : phi L (2 ^ L.length - 1) L.length = s := by
    refine Nat.eq_of_testBit_eq fun j => ?_
    rw [Bool.eq_iff_iff, phi_bit]
    constructor
    · rintro ⟨i, hi, _, rfl⟩
      have : L.getD i 0 ∈ memN ws.length s := by rw [hL]; simp [List.getD, hi]
      exact (memN_mem.1 this).2
    · intro hj
      have hjn : j < ws.length := by
        rcases Nat.lt_or_ge j ws.length with h1 | h1
        · exact h1
        · rw [Nat.testBit_lt_two_pow (Nat.lt_of_lt_of_le hs (Nat.pow_le_pow_right (by omega) h1))] at hj; cases hj
      have hm : j ∈ L := by rw [← hL]; exact memN_mem.2 ⟨hjn, hj⟩
      obtain ⟨i, hi, e⟩ := List.mem_iff_getElem.1 hm
      exact ⟨i, hi, by rw [full_bit]; simpa using hi, by simpa [List.getD, hi] using e⟩
  unfold pC
  rw [hall, hb _ (by have := Nat.two_pow_pos L.length; omega), hphi]
end
end Go.Proofs.Tb
