/- Plain: how many blocks are free; versions and their pairs. -/
import Derived.Test.YtfljnfdeboibhaaSvc
set_option linter.unusedVariables false
set_option linter.unusedSimpArgs false
namespace Go.Proofs.Tb
open Go.Maps Go.RowKit

theorem filter_ne_len (x : Nat) : ∀ {L : List Nat}, L.Pairwise (· ≠ ·) → L.length ≤ (L.filter fun y => decide (y ≠ x)).length + 1
  | [], _ => by simp
  | y :: L, h => by
    obtain ⟨h1, h2⟩ := List.pairwise_cons.1 h
    by_cases e : y = x
    · subst e
      have hs : (L.filter fun z => decide (z ≠ y)) = L := List.filter_eq_self.2 fun z hz => by simpa using (Ne.symm (h1 z hz))
      rw [List.filter_cons_of_neg (by simp), hs]
      simp
    · rw [List.filter_cons_of_pos (by simpa using e)]
      have := filter_ne_len x h2
      simp only [List.length_cons]
      omega
theorem unf_len (B : Nat → Nat) : ∀ (t : MT) {L : List Nat}, L.Pairwise (· ≠ ·) → L.length ≤ (t.unf B L).length + t.er.size
  | .nil, L, _ => by show L.length ≤ L.length + 0; omega
  | .node g k v l r, L, h => by
    unfold MT.unf
    show _ ≤ _ + (l.er.size + r.er.size + 1)
    split
    · have h1 := filter_ne_len (B g) h
      have p1 := h.sublist (List.filter_sublist (p := fun x => decide (x ≠ B g)))
      have h2 := unf_len B l p1
      have h3 := unf_len B r (p1.sublist (unf_sub B l _))
      omega
    · omega
/-- The pairs of some versions, together. -/
def szV (vs : List (Nat × MT)) : Nat := vs.foldl (fun n v => n + v.2.er.size) 0
theorem szV_go (vs : List (Nat × MT)) : ∀ n, vs.foldl (fun n v => n + v.2.er.size) n = n + szV vs := by
  induction vs with
  | nil => intro n; rfl
  | cons v vs ih =>
    intro n
    unfold szV
    rw [List.foldl_cons, List.foldl_cons, ih, ih (0 + v.2.er.size)]
    omega
theorem szV_cons (v : Nat × MT) (vs : List (Nat × MT)) : szV (v :: vs) = v.2.er.size + szV vs := by
  unfold szV
  rw [List.foldl_cons, szV_go]
  unfold szV
  omega
theorem frF_len (B : Nat → Nat) : ∀ (vs : List (Nat × MT)) {L : List Nat}, L.Pairwise (· ≠ ·) → L.length ≤ (frF B vs L).length + szV vs
  | [], L, _ => by show L.length ≤ L.length + 0; omega
  | v :: vs, L, h => by
    have h1 := unf_len B v.2 h
    have h2 := frF_len B vs (h.sublist (unf_sub B v.2 L))
    show _ ≤ (frF B vs (v.2.unf B L)).length + _
    rw [szV_cons]
    omega
theorem frF_up (B : Nat → Nat) (vs : List (Nat × MT)) (n : Nat) : (frF B vs (upB (n - 2))).Pairwise (· < ·) := (upB_pair _).sublist (frF_sub B vs _)
theorem frF_mem (B : Nat → Nat) (vs : List (Nat × MT)) {n x : Nat} (h : x ∈ frF B vs (upB (n - 2))) : 2 ≤ x ∧ x < n := by
  have h1 := (frF_sub B vs _).subset h
  unfold upB at h1
  have := List.mem_range'_1.1 h1
  omega
theorem free_len (B : Nat → Nat) (vs : List (Nat × MT)) (n : Nat) : n ≤ (frF B vs (upB (n - 2))).length + szV vs + 2 := by
  have h1 := frF_len B vs ((upB_pair (n - 2)).imp fun h => Nat.ne_of_lt h)
  have h2 : (upB (n - 2)).length = n - 2 := by unfold upB; simp
  omega
/-- Versions that are kept, and what they are to have. -/
structure VsR (keep : Nat) (vs : List (Nat × MT)) (Vs : List (List Pr)) : Prop where
  nv : Vs ≠ []
  len : vs.length = min (keep + 1) Vs.length
  at_ : ∀ i, i < vs.length → ∃ t, vs[i]? = some (Vs.length - 1 - i, t) ∧ t.er.prs = Vs.getD (Vs.length - 1 - i) [] ∧ t.er.bld
  ok : ∀ l ∈ Vs, Srtd l ∧ OkP l
namespace VsR
variable {keep : Nat} {vs : List (Nat × MT)} {Vs : List (List Pr)}
theorem pos (h : VsR keep vs Vs) : 0 < vs.length := by
  have h1 := h.len
  have h2 : 0 < Vs.length := List.length_pos_iff.2 h.nv
  omega
theorem head (h : VsR keep vs Vs) : ∃ t tl, vs = (Vs.length - 1, t) :: tl ∧ t.er.prs = Vs.getD (Vs.length - 1) [] ∧ t.er.bld := by
  obtain ⟨t, h1, h2, h3⟩ := h.at_ 0 h.pos
  cases vs with
  | nil => simp at h1
  | cons v tl =>
    rw [List.getElem?_cons_zero] at h1
    injection h1 with h1
    exact ⟨t, tl, by rw [h1]; rfl, h2, h3⟩
theorem okAt (h : VsR keep vs Vs) {i : Nat} (hi : i < vs.length) : Srtd (Vs.getD (Vs.length - 1 - i) []) ∧ OkP (Vs.getD (Vs.length - 1 - i) []) := by
  have h1 : 0 < Vs.length := List.length_pos_iff.2 h.nv
  have h2 : Vs.length - 1 - i < Vs.length := by omega
  have e : Vs.getD (Vs.length - 1 - i) [] = Vs[Vs.length - 1 - i] := by simp [List.getD, h2]
  rw [e]
  exact h.ok _ (List.getElem_mem h2)
/-- One version more. -/
theorem step (h : VsR keep vs Vs) {l : List Pr} (hl : Srtd l ∧ OkP l) {t : MT} (ht : t.er.prs = l) (hb : t.er.bld) : VsR keep (((Vs.length, t) :: vs).take (keep + 1)) (Vs ++ [l]) := by
  have h1 : 0 < Vs.length := List.length_pos_iff.2 h.nv
  have h2 := h.len
  refine ⟨by simp, ?_, fun i hi => ?_, fun x hx => ?_⟩
  · rw [List.length_take, List.length_cons, List.length_append, List.length_singleton]; omega
  · rw [List.length_take, List.length_cons] at hi
    rw [List.getElem?_take, if_pos (by omega), List.length_append, List.length_singleton]
    cases i with
    | zero =>
      refine ⟨t, rfl, ?_, hb⟩
      rw [ht]
      have e : Vs.length + 1 - 1 - 0 = Vs.length := by omega
      rw [e]
      simp [List.getD]
    | succ i =>
      obtain ⟨u, h3, h4, h5⟩ := h.at_ i (by omega)
      have e : Vs.length + 1 - 1 - (i + 1) = Vs.length - 1 - i := by omega
      rw [e]
      refine ⟨u, h3, ?_, h5⟩
      rw [h4]
      simp only [List.getD]
      rw [List.getElem?_append_left (by omega)]
  · rcases List.mem_append.1 hx with hx | hx
    · exact h.ok x hx
    · rw [List.mem_singleton.1 hx]; exact hl
end VsR
end Go.Proofs.Tb
