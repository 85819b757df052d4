/- What a disk's blocks are after a restart: plain. -/
import Derived.Test.YtfljnfdeboibhaaRoi
import Derived.Test.YtfljnfdeboibhaaRqh
set_option linter.unusedVariables false
set_option linter.unusedSimpArgs false
namespace Go.Proofs.Tb
open Go.Maps Go.RowKit Go.Lib

/-- Each block's content after a restart. -/
def resC (bl : List (List (List Nat))) (ks : List Nat) : List (List Nat) := (List.range bl.length).map fun k => if 2 ≤ (bl.getD k []).length then pickB bl ks (looL (bl.take k)) k else (bl.getD k []).getD 0 z64
theorem resC_len (bl : List (List (List Nat))) (ks : List Nat) : (resC bl ks).length = bl.length := by unfold resC; simp
theorem resC_at {bl : List (List (List Nat))} (ks : List Nat) {k : Nat} (hk : k < bl.length) : (resC bl ks).getD k z64 = if 2 ≤ (bl.getD k []).length then pickB bl ks (looL (bl.take k)) k else (bl.getD k []).getD 0 z64 := by
  unfold resC
  rw [List.getD_eq_getElem?_getD, List.getElem?_map, List.getElem?_range hk]
  rfl
theorem looB_succ (g : Dkg) (n : Nat) : looB g (n + 1) = looB g n ++ (if g.lo n = true then [n] else []) := by
  unfold looB
  rw [List.range_succ, List.filter_append]
  congr 1
  cases hg : g.lo n <;> simp [hg]
theorem looB_at (g : Dkg) : ∀ {n k : Nat}, k < n → g.lo k = true → (looB g n)[(looB g k).length]? = some k
  | 0, k, h, _ => absurd h (Nat.not_lt_zero _)
  | n + 1, k, h, hg => by
    rw [looB_succ]
    by_cases hk : k = n
    · subst hk
      rw [if_pos hg, List.getElem?_append_right (Nat.le_refl _), Nat.sub_self]
      rfl
    · have ih := looB_at g (n := n) (k := k) (by omega) hg
      have hl := (List.getElem?_eq_some_iff.1 ih).1
      rw [List.getElem?_append_left hl]
      exact ih
theorem looB_looL {g : Dkg} {bl : List (List (List Nat))} (hlo : ∀ k, k < bl.length → g.lo k = decide (2 ≤ (bl.getD k []).length)) : ∀ k, k ≤ bl.length → (looB g k).length = looL (bl.take k)
  | 0, _ => by simp [looB, looL]
  | k + 1, h => by
    rw [looB_succ, List.length_append, looB_looL hlo k (by omega), looL_take (by omega), hlo k (by omega)]
    by_cases h2 : 2 ≤ (bl.getD k []).length
    · rw [decide_eq_true h2, if_pos rfl, if_pos h2]; rfl
    · rw [decide_eq_false h2, if_neg Bool.false_ne_true, if_neg h2]; rfl
theorem RsC.res {g : Dkg} {bl : List (List (List Nat))} {ks : List Nat} {cur' : List (List Nat)} (h : RsC bl ks (looB g bl.length) (bl.map fun l => l.getLastD z64) (looB g bl.length).length cur') (hlo : ∀ k, k < bl.length → g.lo k = decide (2 ≤ (bl.getD k []).length)) (hne : ∀ k, k < bl.length → bl.getD k [] ≠ []) : cur' = resC bl ks := by
  have hl : cur'.length = bl.length := by rw [h.ln, List.length_map]
  refine List.ext_getElem? fun k => ?_
  by_cases hk : k < bl.length
  · have e1 : cur'.getD k z64 = (resC bl ks).getD k z64 := by
      rw [resC_at ks hk]
      by_cases h2 : 2 ≤ (bl.getD k []).length
      · rw [if_pos h2]
        have hg : g.lo k = true := by rw [hlo k hk]; exact decide_eq_true h2
        have ha := looB_at g hk hg
        obtain ⟨hi, he⟩ := List.getElem?_eq_some_iff.1 ha
        have := h.lo _ hi hi
        rw [he] at this
        rw [this, looB_looL hlo k (by omega)]
      · rw [if_neg h2]
        have hg : g.lo k = false := by rw [hlo k hk]; exact decide_eq_false h2
        have hm : k ∉ (looB g bl.length).take (looB g bl.length).length := by
          rw [List.take_length]
          intro hm
          rw [(looB_mem.1 hm).2] at hg
          cases hg
        rw [h.no k hm]
        have hn := hne k hk
        have e2 : (bl.map fun l => l.getLastD z64).getD k z64 = (bl.getD k []).getLastD z64 := by simp [List.getD, List.getElem?_map, hk]
        rw [e2]
        generalize bl.getD k [] = lk at h2 hn
        cases lk with
        | nil => exact absurd rfl hn
        | cons x l =>
          cases l with
          | nil => rfl
          | cons y l => simp at h2
    rw [List.getElem?_eq_getElem (by omega), List.getElem?_eq_getElem (by rw [resC_len]; omega)]
    rw [List.getD_eq_getElem?_getD, List.getD_eq_getElem?_getD, List.getElem?_eq_getElem (by omega), List.getElem?_eq_getElem (by rw [resC_len]; omega)] at e1
    exact congrArg some e1
  · rw [List.getElem?_eq_none (by omega), List.getElem?_eq_none (by rw [resC_len]; omega)]
end Go.Proofs.Tb
