/- Plain law: the median of a list of rational numbers. No program stands here. -/
import Derived.Test.YtfljnfdeboibhaaGround
set_option linter.unusedVariables false
set_option linter.unusedSimpArgs false
namespace Go.Proofs.Tb

def srt (l : List Rat) : List Rat := l.mergeSort fun a b => decide (a ≤ b)
/-- Half way between the two middle ones. -/
def med (l : List Rat) : Rat := ((srt l).getD ((l.length - 1) / 2) 0 + (srt l).getD (l.length / 2) 0) / 2
theorem srt_perm (l : List Rat) : (srt l).Perm l := List.mergeSort_perm l _
theorem srt_len (l : List Rat) : (srt l).length = l.length := (srt_perm l).length_eq
theorem srt_sorted (l : List Rat) : (srt l).Pairwise (· ≤ ·) := by
  have h := List.pairwise_mergeSort (le := fun a b : Rat => decide (a ≤ b)) (fun a b c h1 h2 => by simp at *; grind) (fun a b => by simp; grind) l
  exact h.imp (fun h => by simpa using h)
theorem sorted_uniq {a b : List Rat} (h : a.Perm b) (ha : a.Pairwise (· ≤ ·)) (hb : b.Pairwise (· ≤ ·)) : a = b :=
  List.Perm.eq_of_pairwise (le := (· ≤ ·)) (fun x y _ _ h1 h2 => by grind) ha hb h
theorem srt_eq {a l : List Rat} (h : a.Perm l) (hs : a.Pairwise (· ≤ ·)) : srt l = a := sorted_uniq ((srt_perm l).trans h.symm) (srt_sorted l) hs
theorem med_of {a l : List Rat} (h : a.Perm l) (hs : a.Pairwise (· ≤ ·)) : med l = (a.getD ((l.length - 1) / 2) 0 + a.getD (l.length / 2) 0) / 2 := by
  unfold med; rw [srt_eq h hs]
theorem med_perm {a b : List Rat} (h : a.Perm b) : med a = med b := by
  rw [med_of ((srt_perm b).trans h.symm) (srt_sorted b), h.length_eq]; rfl
theorem med_odd {a l : List Rat} (h : a.Perm l) (hs : a.Pairwise (· ≤ ·)) (ho : l.length % 2 = 1) : med l = a.getD (l.length / 2) 0 := by
  rw [med_of h hs, show (l.length - 1) / 2 = l.length / 2 by omega]; grind
theorem med_even {a l : List Rat} (h : a.Perm l) (hs : a.Pairwise (· ≤ ·)) (ho : l.length % 2 = 0) : med l = (a.getD (l.length / 2 - 1) 0 + a.getD (l.length / 2) 0) / 2 := by
  rw [med_of h hs, show (l.length - 1) / 2 = l.length / 2 - 1 by omega]
theorem sorted_le {a : List Rat} (hs : a.Pairwise (· ≤ ·)) {i j : Nat} (hij : i ≤ j) (hj : j < a.length) : a.getD i 0 ≤ a.getD j 0 := by
  rcases Nat.lt_or_eq_of_le hij with h | rfl
  · have := List.pairwise_iff_getElem.1 hs i j (by omega) hj h
    simpa [List.getD, hj, show i < a.length by omega] using this
  · grind
theorem med_map_add (l : List Rat) (c : Rat) (h : l ≠ []) : med (l.map (· + c)) = med l + c := by
  have hl : 0 < l.length := List.length_pos_iff.2 h
  have h1 : ((srt l).map (· + c)).Perm (l.map (· + c)) := (srt_perm l).map _
  have h2 : ((srt l).map (· + c)).Pairwise (· ≤ ·) := List.Pairwise.map _ (fun a b hab => by grind) (srt_sorted l)
  rw [med_of h1 h2]
  unfold med
  have hn := srt_len l
  have g : ∀ i, i < l.length → ((srt l).map (· + c)).getD i 0 = (srt l).getD i 0 + c := fun i hi => by
    simp [List.getD, show i < (srt l).length by omega]
  rw [List.length_map, g _ (by omega), g _ (by omega)]
  grind
theorem med_mid {l : List Rat} (h : l ≠ []) : (srt l).getD ((l.length - 1) / 2) 0 ≤ med l ∧ med l ≤ (srt l).getD (l.length / 2) 0 := by
  have hl : 0 < l.length := List.length_pos_iff.2 h
  have := sorted_le (srt_sorted l) (i := (l.length - 1) / 2) (j := l.length / 2) (by omega) (by rw [srt_len]; omega)
  unfold med
  constructor <;> grind
theorem med_lt (l : List Rat) : 2 * l.countP (fun x => decide (x < med l)) ≤ l.length := by
  by_cases h : l = []
  · subst h; simp
  have hl : 0 < l.length := List.length_pos_iff.2 h
  rw [← (srt_perm l).countP_eq, ← List.take_append_drop (l.length / 2) (srt l), List.countP_append]
  have h1 := List.countP_le_length (p := fun x => decide (x < med l)) (l := (srt l).take (l.length / 2))
  have h2 : ((srt l).drop (l.length / 2)).countP (fun x => decide (x < med l)) = 0 := by
    rw [List.countP_eq_zero]
    intro x hx
    obtain ⟨i, hi, rfl⟩ := List.mem_iff_getElem.1 hx
    rw [List.length_drop] at hi
    have h3 := sorted_le (srt_sorted l) (i := l.length / 2) (j := l.length / 2 + i) (by omega) (by omega)
    have h4 := (med_mid h).2
    rw [List.getElem_drop]
    have h5 : (srt l).getD (l.length / 2 + i) 0 = (srt l)[l.length / 2 + i]'(by omega) := by simp [List.getD, show l.length / 2 + i < (srt l).length by omega]
    rw [h5] at h3
    simp
    grind
  rw [List.length_take] at h1
  omega
theorem med_gt (l : List Rat) : 2 * l.countP (fun x => decide (med l < x)) ≤ l.length := by
  by_cases h : l = []
  · subst h; simp
  have hl : 0 < l.length := List.length_pos_iff.2 h
  rw [← (srt_perm l).countP_eq, ← List.take_append_drop ((l.length - 1) / 2 + 1) (srt l), List.countP_append]
  have h1 := List.countP_le_length (p := fun x => decide (med l < x)) (l := (srt l).drop ((l.length - 1) / 2 + 1))
  have h2 : ((srt l).take ((l.length - 1) / 2 + 1)).countP (fun x => decide (med l < x)) = 0 := by
    rw [List.countP_eq_zero]
    intro x hx
    obtain ⟨i, hi, rfl⟩ := List.mem_iff_getElem.1 hx
    rw [List.length_take] at hi
    have hn := srt_len l
    have h3 := sorted_le (srt_sorted l) (i := i) (j := (l.length - 1) / 2) (by omega) (by omega)
    have h4 := (med_mid h).1
    rw [List.getElem_take]
    have h5 : (srt l).getD i 0 = (srt l)[i]'(by omega) := by simp [List.getD, show i < (srt l).length by omega]
    rw [h5] at h3
    simp
    grind
  rw [List.length_drop, srt_len] at h1
  omega
/-- One put in its place. -/
theorem ins_sorted {a : List Rat} {x : Rat} {k : Nat} (hs : a.Pairwise (· ≤ ·)) (hk : k ≤ a.length) (h1 : ∀ j, j < k → a.getD j 0 ≤ x) (h2 : k < a.length → x < a.getD k 0) : (a.take k ++ x :: a.drop k).Pairwise (· ≤ ·) := by
  rw [List.pairwise_append]
  have htd := hs
  rw [← List.take_append_drop k a, List.pairwise_append] at htd
  have hge : ∀ y ∈ a.drop k, x ≤ y := fun y hy => by
    obtain ⟨i, hi, rfl⟩ := List.mem_iff_getElem.1 hy
    rw [List.length_drop] at hi
    have h3 := sorted_le hs (i := k) (j := k + i) (by omega) (by omega)
    have h4 := h2 (by omega)
    rw [List.getElem_drop]
    have h5 : a.getD (k + i) 0 = a[k + i]'(by omega) := by simp [List.getD, show k + i < a.length by omega]
    rw [h5] at h3
    grind
  refine ⟨htd.1, List.pairwise_cons.2 ⟨hge, htd.2.1⟩, fun u hu v hv => ?_⟩
  have hux : u ≤ x := by
    obtain ⟨i, hi, rfl⟩ := List.mem_iff_getElem.1 hu
    rw [List.length_take] at hi
    have h3 := h1 i (by omega)
    rw [List.getElem_take]
    have h5 : a.getD i 0 = a[i]'(by omega) := by simp [List.getD, show i < a.length by omega]
    rw [h5] at h3
    exact h3
  rcases List.mem_cons.1 hv with rfl | hv
  · exact hux
  · have := hge v hv; grind
theorem ins_perm (a : List Rat) (x : Rat) (k : Nat) : (a.take k ++ x :: a.drop k).Perm (x :: a) := by
  refine List.perm_middle.trans ?_
  rw [List.take_append_drop]
/-- Pairs: all that lie ahead of one, or all that lie behind one. -/
def prA {α : Type} (f : Nat → Nat → α) (n : Nat) : List α := (List.range n).flatMap fun i => (List.range i).map fun j => f j i
def prB {α : Type} (f : Nat → Nat → α) (n : Nat) : List α := (List.range n).flatMap fun i => (List.range' (i + 1) (n - (i + 1))).map fun j => f i j
theorem prA_succ {α : Type} (f : Nat → Nat → α) (n : Nat) : prA f (n + 1) = prA f n ++ (List.range n).map fun j => f j n := by
  unfold prA
  rw [List.range_succ, List.flatMap_append]
  simp
theorem flatMap_app_perm {α β : Type} (l : List β) (f g : β → List α) : (l.flatMap fun i => f i ++ g i).Perm (l.flatMap f ++ l.flatMap g) := by
  induction l with
  | nil => exact List.Perm.nil
  | cons x l ih =>
    simp only [List.flatMap_cons]
    refine (List.Perm.append_left _ ih).trans ?_
    simp only [List.append_assoc]
    refine List.Perm.append_left _ ?_
    rw [← List.append_assoc, ← List.append_assoc]
    exact List.Perm.append_right _ List.perm_append_comm
theorem flatMap_same {α β : Type} {l : List β} {f g : β → List α} (h : ∀ i, i ∈ l → f i = g i) : l.flatMap f = l.flatMap g := by
  induction l with
  | nil => rfl
  | cons x l ih => rw [List.flatMap_cons, List.flatMap_cons, h x (List.mem_cons_self ..), ih fun i hi => h i (List.mem_cons_of_mem _ hi)]
theorem flatMap_one {α β : Type} (l : List β) (f : β → α) : (l.flatMap fun i => [f i]) = l.map f := by
  induction l with
  | nil => rfl
  | cons x l ih => rw [List.flatMap_cons, ih]; rfl
theorem prB_succ {α : Type} (f : Nat → Nat → α) (n : Nat) : (prB f (n + 1)).Perm (prB f n ++ (List.range n).map fun i => f i n) := by
  unfold prB
  rw [List.range_succ, List.flatMap_append]
  have h1 : ([n].flatMap fun i => (List.range' (i + 1) (n + 1 - (i + 1))).map fun j => f i j) = [] := by simp
  rw [h1, List.append_nil]
  have h2 : ((List.range n).flatMap fun i => (List.range' (i + 1) (n + 1 - (i + 1))).map fun j => f i j) = (List.range n).flatMap fun i => (List.range' (i + 1) (n - (i + 1))).map (fun j => f i j) ++ [f i n] := by
    refine flatMap_same fun i hi => ?_
    have hi := List.mem_range.1 hi
    rw [show n + 1 - (i + 1) = (n - (i + 1)) + 1 by omega, List.range'_1_concat, List.map_append]
    simp [show i + 1 + (n - (i + 1)) = n by omega]
  rw [h2]
  refine (flatMap_app_perm _ _ _).trans ?_
  refine List.Perm.append_left _ ?_
  rw [flatMap_one]
theorem pr_perm {α : Type} (f : Nat → Nat → α) (n : Nat) : (prB f n).Perm (prA f n) := by
  induction n with
  | zero => exact List.Perm.refl _
  | succ n ih =>
    rw [prA_succ]
    exact (prB_succ f n).trans (List.Perm.append_right _ ih)
end Go.Proofs.Tb
