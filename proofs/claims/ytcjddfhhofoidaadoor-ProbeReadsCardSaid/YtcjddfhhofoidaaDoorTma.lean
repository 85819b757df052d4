/- The plain law of ProbeTimes: costs, or weights, multiplied: the plan stays, its cost is multiplied. -/
import Derived.Test.YtcjddfhhofoidaaDoorRb
set_option linter.unusedVariables false
set_option linter.unusedSimpArgs false
namespace Go.Proofs.Tb

def scT (b : Nat) (ts : List Tt) : List Tt := ts.map fun t => (t.1 * (b : Int), t.2)
def scF (b : Nat) (ws : List Int) : List Int := ws.map fun x => x * (b : Int)
theorem scT_len (b : Nat) (ts : List Tt) : (scT b ts).length = ts.length := by simp [scT]
theorem scF_len (b : Nat) (ws : List Int) : (scF b ws).length = ws.length := by simp [scF]
theorem scT_get (b : Nat) (ts : List Tt) (j : Nat) : tC (scT b ts) j = tC ts j * (b : Int) ∧ tS (scT b ts) j = tS ts j := by
  unfold tC tS scT
  by_cases h : j < ts.length
  · simp [List.getD, h]
  · simp [List.getD, List.getElem?_eq_none (Nat.le_of_not_lt h)]
theorem scF_get (b : Nat) (ws : List Int) (j : Nat) : (scF b ws).getD j 0 = ws.getD j 0 * (b : Int) := by
  unfold scF
  by_cases h : j < ws.length
  · simp [List.getD, h]
  · simp [List.getD, List.getElem?_eq_none (Nat.le_of_not_lt h)]
theorem toNat_sc {x : Int} (h : 0 ≤ x) (b : Nat) : (x * (b : Int)).toNat = b * x.toNat := by
  obtain ⟨n, rfl⟩ := Int.eq_ofNat_of_zero_le h
  have e : (n : Int) * (b : Int) = ((n * b : Nat) : Int) := by rw [Int.natCast_mul]
  rw [e, Int.toNat_natCast, Int.toNat_natCast, Nat.mul_comm]
theorem bst_sc {B : Nat} (hB : 0 < B) {ws ws' : List Nat} {ts ts' : List Tst} (hw : ∀ s i, wt ws' s * (ts'.getD i (0, 0)).1 = B * (wt ws s * (ts.getD i (0, 0)).1)) (hs : ∀ i, (ts'.getD i (0, 0)).2 = (ts.getD i (0, 0)).2) (hl : ts'.length = ts.length) :
    ∀ s, bst ws' ts' s = (B * (bst ws ts s).1, (bst ws ts s).2) := by
  intro s
  induction s using Nat.strongRecOn with
  | _ s ih =>
    rw [bst_eq, bst_eq, hl]
    have key : ∀ k, tryL (bst ws' ts') (wt ws' s) s ts' k = (B * (tryL (bst ws ts) (wt ws s) s ts k).1, (tryL (bst ws ts) (wt ws s) s ts k).2) := by
      intro k
      induction k with
      | zero => rfl
      | succ k ihk =>
        rw [tryL_succ, tryL_succ, ihk]
        generalize tryL (bst ws ts) (wt ws s) s ts k = b
        unfold tryT
        rw [hs k]
        by_cases h1 : inn s (ts.getD k (0, 0)).2 = 0 ∨ outs s (ts.getD k (0, 0)).2 = 0
        · rw [if_pos h1, if_pos h1]
        · rw [if_neg h1, if_neg h1]
          have h2 := in_out s (ts.getD k (0, 0)).2
          rw [ih _ (show inn s (ts.getD k (0, 0)).2 < s by omega), ih _ (show outs s (ts.getD k (0, 0)).2 < s by omega), hw s k]
          have e : B * (wt ws s * (ts.getD k (0, 0)).1) + B * (bst ws ts (inn s (ts.getD k (0, 0)).2)).1 + B * (bst ws ts (outs s (ts.getD k (0, 0)).2)).1 =
              B * (wt ws s * (ts.getD k (0, 0)).1 + (bst ws ts (inn s (ts.getD k (0, 0)).2)).1 + (bst ws ts (outs s (ts.getD k (0, 0)).2)).1) := by rw [Nat.mul_add, Nat.mul_add]
          dsimp only
          rw [e]
          generalize wt ws s * (ts.getD k (0, 0)).1 + (bst ws ts (inn s (ts.getD k (0, 0)).2)).1 + (bst ws ts (outs s (ts.getD k (0, 0)).2)).1 = X
          by_cases h3 : b.2 = -1 ∨ X < b.1
          · rw [if_pos h3, if_pos (h3.imp id fun h => Nat.mul_lt_mul_of_pos_left h hB)]
          · rw [if_neg h3, if_neg (fun h => h3 (h.imp id fun h => Nat.lt_of_mul_lt_mul_left h))]
    exact key _
theorem plnF_sc {ws ws' : List Nat} {ts ts' : List Tst} (h : ∀ s, (bst ws' ts' s).2 = (bst ws ts s).2) (hs : ∀ i, (ts'.getD i (0, 0)).2 = (ts.getD i (0, 0)).2) (n : Nat) : ∀ f s, plnF ws' ts' n f s = plnF ws ts n f s
  | 0, _ => rfl
  | f + 1, s => by
    unfold plnF
    rw [h s, hs, plnF_sc h hs n f, plnF_sc h hs n f]
section
variable {ws : List Int} {ts : List Tt}
theorem Cv.cost_nn (h : Cv ws ts) (j : Nat) : 0 ≤ tC ts j := by
  by_cases hj : j < ts.length
  · exact (h.2.2 j hj).1.1
  · unfold tC
    simp [List.getD, List.getElem?_eq_none (Nat.le_of_not_lt hj)]
theorem sc_shows (b : Nat) (ts : List Tt) (i : Nat) : ((tsN (scT b ts)).getD i (0, 0)).2 = ((tsN ts).getD i (0, 0)).2 := by rw [tsN_get, tsN_get, (scT_get b ts i).2]
theorem costs_sc (h : Cv ws ts) {b : Nat} (hb : 0 < b) (s : Nat) : bst (wsN ws) (tsN (scT b ts)) s = (b * (bst (wsN ws) (tsN ts) s).1, (bst (wsN ws) (tsN ts) s).2) := by
  refine bst_sc hb (fun s i => ?_) (sc_shows b ts) (by rw [tsN_len, tsN_len, scT_len]) s
  rw [tsN_get, tsN_get, (scT_get b ts i).1]
  dsimp only
  rw [toNat_sc (h.cost_nn i), Nat.mul_left_comm]
theorem wtK_sc (h : Cv ws ts) (b s : Nat) : ∀ k, wtK (wsN (scF b ws)) s k = b * wtK (wsN ws) s k
  | 0 => by simp [wtK]
  | k + 1 => by
    have e : (wsN (scF b ws)).getD k 0 = b * (wsN ws).getD k 0 := by
      unfold wsN
      rw [getD_map_nat, getD_map_nat, scF_get, toNat_sc (okF_all h.2.1 k).1]
    show wtK (wsN (scF b ws)) s k + (if s.testBit k then (wsN (scF b ws)).getD k 0 else 0) = b * (wtK (wsN ws) s k + if s.testBit k then (wsN ws).getD k 0 else 0)
    rw [wtK_sc h b s k, e, Nat.mul_add]
    split <;> simp
theorem weights_sc (h : Cv ws ts) {b : Nat} (hb : 0 < b) (s : Nat) : bst (wsN (scF b ws)) (tsN ts) s = (b * (bst (wsN ws) (tsN ts) s).1, (bst (wsN ws) (tsN ts) s).2) := by
  refine bst_sc hb (fun s i => ?_) (fun _ => rfl) rfl s
  unfold wt
  rw [wsN_len, scF_len, wtK_sc h, wsN_len, Nat.mul_assoc]
theorem pC_costs (h : Cv ws ts) {b : Nat} (hb : 0 < b) (s : Nat) : pC ws (scT b ts) s = (b : Int) * pC ws ts s := by
  unfold pC
  rw [costs_sc h hb, Int.natCast_mul]
theorem pC_weights (h : Cv ws ts) {b : Nat} (hb : 0 < b) (s : Nat) : pC (scF b ws) ts s = (b : Int) * pC ws ts s := by
  unfold pC
  rw [weights_sc h hb, Int.natCast_mul]
theorem plL_costs (h : Cv ws ts) {b : Nat} (hb : 0 < b) (s : Nat) : plL ws (scT b ts) s = plL ws ts s := plnF_sc (fun s => by rw [costs_sc h hb]) (sc_shows b ts) _ _ _
theorem plL_weights (h : Cv ws ts) {b : Nat} (hb : 0 < b) (s : Nat) : plL (scF b ws) ts s = plL ws ts s := by
  unfold plL
  rw [scF_len]
  exact plnF_sc (fun s => by rw [weights_sc h hb]) (fun _ => rfl) _ _ _
theorem allS_sc (b : Nat) (ws : List Int) : allS (scF b ws) = allS ws := by unfold allS; rw [scF_len]
theorem Ris.le_get {xs : List Int} {lim : Int} (h : Ris xs lim) : ∀ k, k < xs.length → (k : Int) ≤ xs.getD k 0
  | 0, hk => (h.bd 0 hk).1
  | k + 1, hk => by
    have h1 := h.le_get k (by omega)
    have h2 := (h (k + 1) hk).1
    rw [prv_succ] at h2
    omega
theorem Ris.short {xs : List Int} {n : Nat} (h : Ris xs (n : Int)) : xs.length ≤ n := by
  rcases Nat.eq_zero_or_pos xs.length with h0 | h0
  · omega
  · have h1 := h.le_get (xs.length - 1) (by omega)
    have h2 := (h.bd (xs.length - 1) (by omega)).2
    omega
theorem few_same (h : Cv ws ts) : fewF ws 10 = ws ∧ fewT ts 16 = ts := by
  have h1 := h.len10
  have h2 : ts.length ≤ 16 := h.1.2.2
  refine ⟨?_, ?_⟩
  · unfold fewF cutN
    rw [if_pos h1, List.take_of_length_le (i := min ws.length 10) (by omega), List.take_of_length_le (by omega)]
  · unfold fewT cutN
    rw [if_pos h2, List.take_of_length_le (i := min ts.length 16) (by omega), List.take_of_length_le (by omega)]
    refine (List.map_congr_left (g := id) fun t ht => ?_).trans (List.map_id ts)
    obtain ⟨j, hj, rfl⟩ := List.mem_iff_getElem.1 ht
    have h3 := (h.2.2 j hj).2.short
    unfold tS at h3
    simp [List.getD, hj] at h3
    unfold cutT
    rw [List.take_of_length_le (by omega)]
    rfl
end
end Go.Proofs.Tb
