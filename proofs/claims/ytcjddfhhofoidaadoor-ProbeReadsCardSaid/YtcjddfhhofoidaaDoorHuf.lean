/- Plain laws: the joining of the least nodes, step by step, and what always holds of it. -/
import Derived.Test.YtcjddfhhofoidaaDoorQe
set_option linter.unusedVariables false
set_option linter.unusedSimpArgs false
namespace Go.Proofs.Tb

theorem srtI_perm (xs : List Int) : (srtI xs).Perm xs := List.mergeSort_perm _ _
theorem srtI_len (xs : List Int) : (srtI xs).length = xs.length := (srtI_perm xs).length_eq
/-- One more on the way for each of these numbers. -/
def incL : List Int → List Int → List Int
  | ls, [] => ls
  | ls, x :: xs => incL (ls.set x.toNat (ls.getD x.toNat 0 + 1)) xs
theorem incL_len (xs : List Int) : ∀ ls : List Int, (incL ls xs).length = ls.length := by
  induction xs with
  | nil => intro ls; rfl
  | cons x xs ih => intro ls; unfold incL; rw [ih, List.length_set]
theorem incL_snoc (xs : List Int) (x : Int) : ∀ ls : List Int, incL ls (xs ++ [x]) = (incL ls xs).set x.toNat ((incL ls xs).getD x.toNat 0 + 1) := by
  induction xs with
  | nil => intro ls; rfl
  | cons y xs ih => intro ls; exact ih _
/-- The nodes at first. -/
def leavesL (ws : List Int) : List Tt := (List.range ws.length).map fun (i : Nat) => (ws.getD i 0, [(i : Int)])
/-- The nodes, the lengths and the sum after k steps: each joins the two least nodes. -/
def HRk (ws : List Int) : Nat → List Tt → List Int → Int → Prop
  | 0, bs, ls, S => bs = leavesL ws ∧ ls = List.replicate ws.length 0 ∧ S = 0
  | k + 1, bs, ls, S => ∃ bs0 ls0 S0 a b r, HRk ws k bs0 ls0 S0 ∧ (a :: b :: r).Perm bs0 ∧ ((a :: b :: r).map nk).Pairwise (· ≤ ·) ∧
      bs = r ++ [(a.1 + b.1, srtI (a.2 ++ b.2))] ∧ ls = incL ls0 (srtI (a.2 ++ b.2)) ∧ S = S0 + (a.1 + b.1)
/-- The numbers of all nodes. -/
def allN (bs : List Tt) : List Int := bs.flatMap fun b => b.2
def sumW (bs : List Tt) : Int := (bs.map fun b => b.1).sum
theorem allN_perm {bs bs' : List Tt} (h : bs.Perm bs') : (allN bs).Perm (allN bs') := h.flatMap_right _
theorem sumI_perm {a b : List Int} (h : a.Perm b) : a.sum = b.sum := by
  induction h with
  | nil => rfl
  | cons x _ ih => rw [List.sum_cons, List.sum_cons, ih]
  | swap x y l => rw [List.sum_cons, List.sum_cons, List.sum_cons, List.sum_cons]; omega
  | trans _ _ h1 h2 => exact h1.trans h2
theorem sumW_perm {bs bs' : List Tt} (h : bs.Perm bs') : sumW bs = sumW bs' := sumI_perm (h.map _)
theorem allN_app (a b : List Tt) : allN (a ++ b) = allN a ++ allN b := List.flatMap_append
theorem sumW_app (a b : List Tt) : sumW (a ++ b) = sumW a + sumW b := by unfold sumW; rw [List.map_append, List.sum_append]
/-- Numbers as weights: 1 to 1000000 each, 1 to 64 of them. -/
def Wok (ws : List Int) : Prop := (1 ≤ ws.length ∧ ws.length ≤ 64) ∧ ∀ j, j < ws.length → 1 ≤ ws.getD j 0 ∧ ws.getD j 0 ≤ 1000000
/-- What always holds of the nodes. -/
structure Hok (n : Nat) (bs : List Tt) : Prop where
  all : (allN bs).Perm (upL n)
  ne : ∀ b ∈ bs, b.2 ≠ []
  pos : ∀ b ∈ bs, 0 ≤ b.1
  sum : sumW bs ≤ 64000000
theorem leaves_all (ws : List Int) : allN (leavesL ws) = upL ws.length := by
  unfold allN leavesL upL
  rw [List.flatMap_map]
  generalize List.range ws.length = l
  induction l with
  | nil => rfl
  | cons x l ih => rw [List.flatMap_cons, ih]; rfl
theorem sumW_le {bs : List Tt} {c : Int} (h : ∀ b ∈ bs, b.1 ≤ c) : sumW bs ≤ c * bs.length := by
  induction bs with
  | nil => simp [sumW]
  | cons b bs ih =>
    have h1 := h b (List.mem_cons_self ..)
    have h2 := ih fun x hx => h x (List.mem_cons_of_mem _ hx)
    have e : sumW (b :: bs) = b.1 + sumW bs := rfl
    have e2 : c * ((b :: bs).length : Int) = c + c * bs.length := by rw [List.length_cons, Int.natCast_add, Int.mul_add]; omega
    rw [e, e2]; omega
theorem sumW_nn {bs : List Tt} (h : ∀ b ∈ bs, 0 ≤ b.1) : 0 ≤ sumW bs := by
  induction bs with
  | nil => simp [sumW]
  | cons b bs ih =>
    have h1 := h b (List.mem_cons_self ..)
    have h2 := ih fun x hx => h x (List.mem_cons_of_mem _ hx)
    have e : sumW (b :: bs) = b.1 + sumW bs := rfl
    rw [e]; omega
theorem sumW_mem {bs : List Tt} (h : ∀ b ∈ bs, 0 ≤ b.1) {b : Tt} (hb : b ∈ bs) : b.1 ≤ sumW bs := by
  induction bs with
  | nil => cases hb
  | cons c bs ih =>
    have e : sumW (c :: bs) = c.1 + sumW bs := rfl
    have h1 := h c (List.mem_cons_self ..)
    have hn := sumW_nn fun x hx => h x (List.mem_cons_of_mem _ hx)
    rcases List.mem_cons.1 hb with rfl | hb
    · rw [e]; omega
    · have := ih (fun x hx => h x (List.mem_cons_of_mem _ hx)) hb
      rw [e]; omega
theorem Hok.leaves {ws : List Int} (h : Wok ws) : Hok ws.length (leavesL ws) := by
  refine ⟨by rw [leaves_all], fun b hb => ?_, fun b hb => ?_, ?_⟩
  · unfold leavesL at hb
    obtain ⟨i, _, rfl⟩ := List.mem_map.1 hb
    simp
  · unfold leavesL at hb
    obtain ⟨i, hi, rfl⟩ := List.mem_map.1 hb
    have := h.2 i (List.mem_range.1 hi)
    simp only; omega
  · have h1 := sumW_le (bs := leavesL ws) (c := 1000000) (fun b hb => by
      unfold leavesL at hb
      obtain ⟨i, hi, rfl⟩ := List.mem_map.1 hb
      exact (h.2 i (List.mem_range.1 hi)).2)
    have h2 : (leavesL ws).length = ws.length := by simp [leavesL]
    have := h.1.2
    omega
theorem Hok.perm {n : Nat} {bs bs' : List Tt} (h : Hok n bs) (hp : bs'.Perm bs) : Hok n bs' :=
  ⟨(allN_perm hp).trans h.all, fun b hb => h.ne b (hp.subset hb), fun b hb => h.pos b (hp.subset hb), by rw [sumW_perm hp]; exact h.sum⟩
theorem Hok.join {n : Nat} {a b : Tt} {r : List Tt} (h : Hok n (a :: b :: r)) : Hok n (r ++ [(a.1 + b.1, srtI (a.2 ++ b.2))]) := by
  have ha := h.pos a (List.mem_cons_self ..)
  have hb := h.pos b (List.mem_cons_of_mem _ (List.mem_cons_self ..))
  have e : allN (a :: b :: r) = (a.2 ++ b.2) ++ allN r := by unfold allN; rw [List.flatMap_cons, List.flatMap_cons, List.append_assoc]
  have e2 : allN (r ++ [(a.1 + b.1, srtI (a.2 ++ b.2))]) = allN r ++ srtI (a.2 ++ b.2) := by rw [allN_app]; simp [allN]
  refine ⟨?_, fun c hc => ?_, fun c hc => ?_, ?_⟩
  · rw [e2]
    refine List.Perm.trans ?_ h.all
    rw [e]
    exact (List.perm_append_comm).trans (List.Perm.append_right _ (srtI_perm _))
  · rcases List.mem_append.1 hc with hc | hc
    · exact h.ne c (List.mem_cons_of_mem _ (List.mem_cons_of_mem _ hc))
    · rw [List.mem_singleton] at hc
      subst hc
      intro he
      have := congrArg List.length he
      simp only [srtI_len, List.length_append, List.length_nil] at this
      exact h.ne a (List.mem_cons_self ..) (List.eq_nil_of_length_eq_zero (by omega))
  · rcases List.mem_append.1 hc with hc | hc
    · exact h.pos c (List.mem_cons_of_mem _ (List.mem_cons_of_mem _ hc))
    · rw [List.mem_singleton] at hc
      subst hc
      simp only; omega
  · have h1 : sumW (r ++ [(a.1 + b.1, srtI (a.2 ++ b.2))]) = sumW (a :: b :: r) := by
      rw [sumW_app]
      simp only [sumW, List.map_cons, List.map_nil, List.sum_cons, List.sum_nil]
      omega
    rw [h1]; exact h.sum
theorem upL_mem {n : Nat} {x : Int} : x ∈ upL n ↔ 0 ≤ x ∧ x < (n : Int) := by
  unfold upL
  rw [List.mem_map]
  constructor
  · rintro ⟨i, hi, rfl⟩
    have := List.mem_range.1 hi
    omega
  · rintro ⟨h1, h2⟩
    exact ⟨x.toNat, List.mem_range.2 (by omega), by omega⟩
theorem Hok.rng {n : Nat} {bs : List Tt} (h : Hok n bs) {b : Tt} (hb : b ∈ bs) {x : Int} (hx : x ∈ b.2) : 0 ≤ x ∧ x < (n : Int) := by
  have h1 : x ∈ allN bs := List.mem_flatMap.2 ⟨b, hb, hx⟩
  exact upL_mem.1 (h.all.subset h1)
theorem Hok.nok {n : Nat} {bs : List Tt} (h : Hok n bs) (hn : n ≤ 1000) {b : Tt} (hb : b ∈ bs) : NokB b := by
  have h1 := h.ne b hb
  cases hl : b.2 with
  | nil => exact absurd hl h1
  | cons x t =>
    have := h.rng hb (x := x) (by rw [hl]; exact List.mem_cons_self ..)
    exact ⟨x, t, hl, by omega, by omega⟩
theorem Hok.len {n : Nat} {bs : List Tt} (h : Hok n bs) {b : Tt} (hb : b ∈ bs) : b.2.length ≤ n := by
  have h1 := h.all.length_eq
  rw [upL_len] at h1
  rw [← h1]
  unfold allN
  obtain ⟨s, t, rfl⟩ := List.append_of_mem hb
  rw [List.flatMap_append, List.flatMap_cons, List.length_append, List.length_append]
  omega
theorem Hok.wle {n : Nat} {bs : List Tt} (h : Hok n bs) {b : Tt} (hb : b ∈ bs) : 0 ≤ b.1 ∧ b.1 ≤ 64000000 := ⟨h.pos b hb, Int.le_trans (sumW_mem h.pos hb) h.sum⟩
/-- What always holds of a run. -/
structure HRok (ws : List Int) (k : Nat) (bs : List Tt) (ls : List Int) (S : Int) : Prop where
  ok : Hok ws.length bs
  len : bs.length + k = ws.length
  ll : ls.length = ws.length
  lb : ∀ j, 0 ≤ ls.getD j 0 ∧ ls.getD j 0 ≤ 64 * k
  sb : 0 ≤ S ∧ S ≤ 64000000 * k
theorem getD_set_int (l : List Int) (i j : Nat) (v : Int) : (l.set i v).getD j 0 = if i = j ∧ i < l.length then v else l.getD j 0 := by
  simp only [List.getD, List.getElem?_set]
  by_cases h : i = j
  · subst h
    by_cases h2 : i < l.length
    · simp [h2]
    · simp [h2]
  · simp [h]
theorem incL_bd (xs : List Int) : ∀ (ls : List Int) (c : Int), (∀ j, 0 ≤ ls.getD j 0 ∧ ls.getD j 0 ≤ c) → ∀ j, 0 ≤ (incL ls xs).getD j 0 ∧ (incL ls xs).getD j 0 ≤ c + xs.length := by
  induction xs with
  | nil => intro ls c h j; have := h j; simp only [incL, List.length_nil]; omega
  | cons x xs ih =>
    intro ls c h j
    have h1 := ih (ls.set x.toNat (ls.getD x.toNat 0 + 1)) (c + 1) (fun i => by
      rw [getD_set_int]
      have a := h i
      have b := h x.toNat
      split <;> omega) j
    simp only [incL, List.length_cons]
    omega
theorem HRk.ok {ws : List Int} (hw : Wok ws) : ∀ {k : Nat} {bs : List Tt} {ls : List Int} {S : Int}, HRk ws k bs ls S → HRok ws k bs ls S
  | 0, bs, ls, S, ⟨h1, h2, h3⟩ => by
    subst h1 h2 h3
    refine ⟨Hok.leaves hw, by simp [leavesL], by simp, fun j => ?_, by omega⟩
    have : (List.replicate ws.length (0 : Int)).getD j 0 = 0 := by
      simp only [List.getD, List.getElem?_replicate]
      split <;> rfl
    rw [this]; omega
  | k + 1, bs, ls, S, ⟨bs0, ls0, S0, a, b, r, h0, hp, _, e1, e2, e3⟩ => by
    have h := HRk.ok hw h0
    have hk := h.ok.perm hp
    have hl := hp.length_eq
    simp only [List.length_cons] at hl
    have wa := hk.wle (List.mem_cons_self ..)
    have wb := hk.wle (List.mem_cons_of_mem _ (List.mem_cons_self ..))
    have hs : a.1 + b.1 ≤ 64000000 := by
      have h1 := hk.sum
      have h2 : sumW (a :: b :: r) = a.1 + (b.1 + sumW r) := rfl
      have h3 := sumW_nn (bs := r) fun x hx => hk.pos x (List.mem_cons_of_mem _ (List.mem_cons_of_mem _ hx))
      omega
    have hab : (a.2 ++ b.2).length ≤ 64 := by
      have h1 := hk.all.length_eq
      rw [upL_len] at h1
      have e : allN (a :: b :: r) = (a.2 ++ b.2) ++ allN r := by unfold allN; rw [List.flatMap_cons, List.flatMap_cons, List.append_assoc]
      rw [e, List.length_append] at h1
      have := hw.1.2
      omega
    refine ⟨by rw [e1]; exact hk.join, by rw [e1, List.length_append]; have := h.len; simp only [List.length_singleton]; omega, by rw [e2, incL_len]; exact h.ll, fun j => ?_, ?_⟩
    · rw [e2]
      have := incL_bd (srtI (a.2 ++ b.2)) ls0 (64 * k) h.lb j
      rw [srtI_len] at this
      omega
    · have := h.sb
      omega
end Go.Proofs.Tb
