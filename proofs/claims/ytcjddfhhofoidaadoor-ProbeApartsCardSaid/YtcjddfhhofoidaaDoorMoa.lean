/- Plain law: a test more never makes the cheapest plan dearer, if it splits no set that the others do not split. -/
import Derived.Test.YtcjddfhhofoidaaDoorGc
import Derived.Test.YtcjddfhhofoidaaDoorPta
set_option linter.unusedVariables false
set_option linter.unusedSimpArgs false
namespace Go.Proofs.Tb

/-- Does a test split a set? -/
def spl (s : Nat) (t : Tst) : Prop := inn s t.2 ≠ 0 ∧ outs s t.2 ≠ 0
theorem tryT_off {c : Nat → Nat × Int} {W s i : Nat} {t : Tst} {b : Nat × Int} (h : ¬ spl s t) : tryT c W s i t b = b := by
  unfold tryT
  rw [if_pos]
  unfold spl at h
  by_cases h1 : inn s t.2 = 0
  · exact Or.inl h1
  · exact Or.inr (Classical.byContradiction fun h2 => h ⟨h1, h2⟩)
theorem tryT_on {c : Nat → Nat × Int} {W s i : Nat} {t : Tst} {b : Nat × Int} (h : spl s t) : tryT c W s i t b = if b.2 = -1 ∨ W * t.1 + (c (inn s t.2)).1 + (c (outs s t.2)).1 < b.1 then (W * t.1 + (c (inn s t.2)).1 + (c (outs s t.2)).1, (i : Int)) else b := by
  unfold tryT
  rw [if_neg (fun h' => h'.elim h.1 h.2)]
/-- No test so far splits the set: nothing is found; one that does: a plan of at most its cost is found. -/
theorem tryL_none {c : Nat → Nat × Int} {W s : Nat} {ts : List Tst} : ∀ {k : Nat}, (∀ i, i < k → ¬ spl s (ts.getD i (0, 0))) → tryL c W s ts k = (0, -1) := by
  intro k
  induction k with
  | zero => intro _; rfl
  | succ k ih =>
    intro h
    rw [tryL_succ, tryT_off (h k (by omega)), ih fun i hi => h i (by omega)]
theorem tryL_min {c : Nat → Nat × Int} {W s : Nat} {ts : List Tst} : ∀ {k i : Nat}, i < k → spl s (ts.getD i (0, 0)) →
    (tryL c W s ts k).2 ≠ -1 ∧ (tryL c W s ts k).1 ≤ W * (ts.getD i (0, 0)).1 + (c (inn s (ts.getD i (0, 0)).2)).1 + (c (outs s (ts.getD i (0, 0)).2)).1 := by
  intro k
  induction k with
  | zero => intro i h; omega
  | succ k ih =>
    intro i hi hs
    rw [tryL_succ]
    by_cases hk : spl s (ts.getD k (0, 0))
    · rw [tryT_on hk]
      rcases Nat.lt_or_eq_of_le (Nat.le_of_lt_succ hi) with h1 | rfl
      · have h2 := ih h1 hs
        split
        · rename_i h3
          refine ⟨by simp only; omega, ?_⟩
          rcases h3 with h3 | h3
          · exact absurd h3 h2.1
          · simp only; omega
        · exact h2
      · split
        · exact ⟨by simp only; omega, Nat.le_refl _⟩
        · rename_i h3
          exact ⟨fun e => h3 (Or.inl e), by have : ¬ _ := fun h => h3 (Or.inr h); omega⟩
    · rw [tryT_off hk]
      rcases Nat.lt_or_eq_of_le (Nat.le_of_lt_succ hi) with h1 | rfl
      · exact ih h1 hs
      · exact absurd hs hk
/-- The cheapest plan costs at most what any test that splits does. -/
theorem bst_min {ws : List Nat} {ts : List Tst} {s i : Nat} (hi : i < ts.length) (hs : spl s (ts.getD i (0, 0))) :
    (bst ws ts s).1 ≤ wt ws s * (ts.getD i (0, 0)).1 + (bst ws ts (inn s (ts.getD i (0, 0)).2)).1 + (bst ws ts (outs s (ts.getD i (0, 0)).2)).1 := by
  rw [bst_eq]
  exact (tryL_min hi hs).2
theorem bst_none {ws : List Nat} {ts : List Tst} {s : Nat} (h : ∀ i, i < ts.length → ¬ spl s (ts.getD i (0, 0))) : bst ws ts s = (0, -1) := by
  rw [bst_eq]
  exact tryL_none h
theorem spl_lt {s : Nat} {t : Tst} (h : spl s t) : inn s t.2 < s ∧ outs s t.2 < s := by
  have := in_out s t.2
  have h1 := h.1
  have h2 := h.2
  omega
/-- A test more. -/
theorem bst_more {ws : List Nat} {ts : List Tst} {t : Tst} (ht : ∀ s, s < 2 ^ ws.length → spl s t → ∃ i, i < ts.length ∧ spl s (ts.getD i (0, 0))) : ∀ s, s < 2 ^ ws.length → (bst ws (ts ++ [t]) s).1 ≤ (bst ws ts s).1 := by
  intro s
  induction s using Nat.strongRecOn with
  | _ s ih =>
    intro hs
    by_cases hn : ∃ i, i < ts.length ∧ spl s (ts.getD i (0, 0))
    · rcases bst_inv ws ts s with hv | ⟨i, hi, _, a1, a2, hc⟩
      · obtain ⟨i, hi, hsp⟩ := hn
        have h1 := (tryL_min (c := bst ws ts) (W := wt ws s) hi hsp).1
        rw [← bst_eq, hv] at h1
        exact absurd rfl h1
      · have e : (ts ++ [t]).getD i (0, 0) = ts.getD i (0, 0) := by simp only [List.getD]; rw [List.getElem?_append_left hi]
        have hl := spl_lt (t := ts.getD i (0, 0)) ⟨a1, a2⟩
        have h1 := bst_min (ws := ws) (ts := ts ++ [t]) (s := s) (i := i) (by simp; omega) (by rw [e]; exact ⟨a1, a2⟩)
        rw [e] at h1
        have h2 := ih _ hl.1 (by omega)
        have h3 := ih _ hl.2 (by omega)
        omega
    · have h1 : ∀ i, i < (ts ++ [t]).length → ¬ spl s ((ts ++ [t]).getD i (0, 0)) := fun i hi hsp => by
        by_cases h : i < ts.length
        · have e : (ts ++ [t]).getD i (0, 0) = ts.getD i (0, 0) := by simp only [List.getD]; rw [List.getElem?_append_left h]
          rw [e] at hsp
          exact hn ⟨i, h, hsp⟩
        · have e : (ts ++ [t]).getD i (0, 0) = t := by
            have : i = ts.length := by simp at hi; omega
            subst this
            simp [List.getD]
          rw [e] at hsp
          exact hn (ht s hs hsp)
      rw [bst_none h1]
      exact Nat.zero_le _
/-- A test splits a set of faults: two of them, one that it shows and one that it does not. -/
theorem spl_ex {n s m : Nat} (hs : s < 2 ^ n) (h : inn s m ≠ 0 ∧ outs s m ≠ 0) : ∃ i j, i < n ∧ j < n ∧ s.testBit i = true ∧ s.testBit j = true ∧ m.testBit i = true ∧ m.testBit j = false := by
  obtain ⟨i, hi, hbi⟩ := bit_ex (Nat.lt_of_le_of_lt (inn_le s m) hs) h.1
  obtain ⟨j, hj, hbj⟩ := bit_ex (Nat.lt_of_le_of_lt (outs_le s m) hs) h.2
  rw [inn_bit, Bool.and_eq_true] at hbi
  rw [outs_bit, Bool.and_eq_true] at hbj
  exact ⟨i, j, hi, hj, hbi.1, hbj.1, hbi.2, by simpa using hbj.2⟩
theorem spl_of {s m i j : Nat} (hi : s.testBit i = true) (hj : s.testBit j = true) (h : m.testBit i ≠ m.testBit j) : inn s m ≠ 0 ∧ outs s m ≠ 0 := by
  have key : ∀ i j, s.testBit i = true → s.testBit j = true → m.testBit i = true → m.testBit j = false → inn s m ≠ 0 ∧ outs s m ≠ 0 := fun i j hi hj h1 h2 => by
    refine ⟨fun e => ?_, fun e => ?_⟩
    · have := inn_bit s m i
      rw [e, hi, h1] at this
      simp at this
    · have := outs_bit s m j
      rw [e, hj, h2] at this
      simp at this
  cases h1 : m.testBit i with
  | true => exact key i j hi hj h1 (by rw [h1] at h; simpa using h.symm)
  | false => exact key j i hj hi (by rw [h1] at h; simpa using h.symm) h1
/-- Faults of different patterns are split by a test. -/
theorem pat_spl {ws : List Int} {ts : List Tt} (h : Cv ws ts) {s i j : Nat} (hi : s.testBit i = true) (hj : s.testBit j = true) (hp : pat ts (i : Int) ≠ pat ts (j : Int)) : ∃ k, k < (tsN ts).length ∧ spl s ((tsN ts).getD k (0, 0)) := by
  have h1 : ∃ k, k < ts.length ∧ shB (tS ts k) (i : Int) ≠ shB (tS ts k) (j : Int) := by
    refine Classical.byContradiction fun hn => hp ?_
    refine List.ext_getElem (by simp [pat]) fun k h1 h2 => ?_
    have hk : k < ts.length := by simpa [pat] using h1
    have h3 : shB (tS ts k) (i : Int) = shB (tS ts k) (j : Int) := Classical.byContradiction fun h4 => hn ⟨k, hk, h4⟩
    have e : tS ts k = ts[k].2 := by simp [tS, List.getD, hk]
    rw [e] at h3
    simpa [pat] using h3
  obtain ⟨k, hk, hne⟩ := h1
  rw [shB_bit (fun q hq => (h.shows hk q hq).1), shB_bit (fun q hq => (h.shows hk q hq).1)] at hne
  refine ⟨k, by rw [tsN_len]; exact hk, ?_⟩
  rw [tsN_get]
  exact spl_of hi hj hne
theorem tsN_snoc (ts : List Tt) (t : Tt) : tsN (ts ++ [t]) = tsN ts ++ [(t.1.toNat, setK t.2 t.2.length)] := by unfold tsN; rw [List.map_append]; rfl
/-- A test that shows whole classes makes nothing dearer. -/
theorem pC_more {ws : List Int} {ts : List Tt} {t : Tt} (h : Cv ws ts) (ht0 : ∀ k, k < t.2.length → 0 ≤ t.2.getD k 0) (hcl : ∀ i j : Nat, i < ws.length → j < ws.length → pat ts (i : Int) = pat ts (j : Int) → shB t.2 (i : Int) = shB t.2 (j : Int)) {s : Nat} (hs : s < 2 ^ ws.length) :
    pC ws (ts ++ [t]) s ≤ pC ws ts s := by
  unfold pC
  rw [tsN_snoc]
  have h1 := bst_more (ws := wsN ws) (ts := tsN ts) (t := (t.1.toNat, setK t.2 t.2.length)) (fun s hs hsp => by
    rw [wsN_len] at hs
    obtain ⟨i, j, hi, hj, hbi, hbj, hmi, hmj⟩ := spl_ex hs hsp
    refine pat_spl h hbi hbj fun e => ?_
    have h2 := hcl i j hi hj e
    rw [shB_bit ht0, shB_bit ht0, hmi, hmj] at h2
    cases h2) s (by rw [wsN_len]; exact hs)
  omega
end Go.Proofs.Tb
