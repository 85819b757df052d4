/- Plain law: classes of numbers with the same pattern, in the order in which they come. -/
import Derived.Test.YtcjddfhhofoidaaDoorGa
import Derived.Test.YtcjddfhhofoidaaDoorBsv
set_option linter.unusedVariables false
set_option linter.unusedSimpArgs false
namespace Go.Proofs.Tb

theorem upL_mem' {n : Nat} {x : Int} : x ∈ upL n ↔ 0 ≤ x ∧ x < (n : Int) := by
  unfold upL
  rw [List.mem_map]
  constructor
  · rintro ⟨i, hi, rfl⟩
    have := List.mem_range.1 hi
    omega
  · rintro ⟨h1, h2⟩
    exact ⟨x.toNat, List.mem_range.2 (by omega), by omega⟩
theorem mem_set' {α : Type} {l : List α} {a : Nat} {x : α} (ha : a < l.length) : x ∈ l.set a x := by
  rw [List.mem_iff_getElem]
  exact ⟨a, by rw [List.length_set]; exact ha, by rw [List.getElem_set, if_pos rfl]⟩
/-- What the tests say of a fault. -/
def pat (ts : List Tt) (a : Int) : List Bool := ts.map fun t => shB t.2 a
theorem tdB_pat (ts : List Tt) (a b : Int) : tdB ts (upL ts.length) a b = decide (pat ts a ≠ pat ts b) := by
  have hg : ∀ k, k < ts.length → (upL ts.length).getD k 0 = (k : Int) := fun k hk => by simp [upL, List.getD, hk]
  by_cases h : pat ts a = pat ts b
  · have h1 : ∀ k, k < (upL ts.length).length → tdk ts (upL ts.length) a b k = false := fun k hk => by
      rw [upL_len] at hk
      unfold tdk
      rw [hg k hk, Int.toNat_natCast]
      have h2 := congrArg (fun l => l[k]?) h
      simp only [pat, List.getElem?_map, List.getElem?_eq_getElem hk, Option.map_some, Option.some.injEq] at h2
      have e : tS ts k = ts[k].2 := by simp [tS, List.getD, hk]
      rw [e, h2]
      simp
    rw [tdB_f h1]
    simp [h]
  · have h1 : ∃ k, k < ts.length ∧ shB (tS ts k) a ≠ shB (tS ts k) b := by
      refine Classical.byContradiction fun hn => h ?_
      refine List.ext_getElem (by simp [pat]) fun k h1 h2 => ?_
      have hk : k < ts.length := by simpa [pat] using h1
      have h3 : shB (tS ts k) a = shB (tS ts k) b := Classical.byContradiction fun h4 => hn ⟨k, hk, h4⟩
      have e : tS ts k = ts[k].2 := by simp [tS, List.getD, hk]
      rw [e] at h3
      simpa [pat] using h3
    obtain ⟨k, hk, hne⟩ := h1
    rw [tdB_t (k := k) (by rw [upL_len]; exact hk) (by
      unfold tdk
      rw [hg k hk, Int.toNat_natCast]
      simpa using hne)]
    simp [h]
/-- The class of i among the first k classes: the last whose first number is not told from i; -1: none. -/
def atK (td : Int → Int → Bool) (out : List (List Int)) (i : Int) : Nat → Int
  | 0 => -1
  | k + 1 => if td ((out.getD k []).getD 0 0) i then atK td out i k else (k : Int)
/-- One more number. -/
def stepC (td : Int → Int → Bool) (out : List (List Int)) (i : Int) : List (List Int) :=
  if atK td out i out.length < 0 then out ++ [[i]] else out.set (atK td out i out.length).toNat (out.getD (atK td out i out.length).toNat [] ++ [i])
def apC (td : Int → Int → Bool) : Nat → List (List Int)
  | 0 => []
  | k + 1 => stepC td (apC td k) (k : Int)
theorem atK_bd (td : Int → Int → Bool) (out : List (List Int)) (i : Int) : ∀ k, -1 ≤ atK td out i k ∧ atK td out i k < (k : Int) := by
  intro k
  induction k with
  | zero => simp [atK]
  | succ k ih => unfold atK; split <;> omega
/-- The classes are as they should be: k numbers, the pattern p. -/
structure ClsR {α : Type} [DecidableEq α] (p : Int → α) (k : Nat) (out : List (List Int)) : Prop where
  cls : ∀ c ∈ out, ∃ i, i ∈ upL k ∧ c = (upL k).filter fun x => p x = p i
  dist : out.Pairwise fun c d => ∀ x ∈ c, ∀ y ∈ d, p x ≠ p y
  cov : ∀ i ∈ upL k, ∃ c ∈ out, i ∈ c
section
variable {α : Type} [DecidableEq α] {p : Int → α} {td : Int → Int → Bool}
theorem ClsR.ne {k : Nat} {out : List (List Int)} (h : ClsR p k out) {c : List Int} (hc : c ∈ out) : c ≠ [] := by
  obtain ⟨i, hi, rfl⟩ := h.cls c hc
  intro e
  have : i ∈ (upL k).filter fun x => p x = p i := List.mem_filter.2 ⟨hi, by simp⟩
  rw [e] at this; cases this
theorem ClsR.head {k : Nat} {out : List (List Int)} (h : ClsR p k out) {c : List Int} (hc : c ∈ out) : c.getD 0 0 ∈ c := by
  have := h.ne hc
  cases c with
  | nil => exact absurd rfl this
  | cons x t => exact List.mem_cons_self ..
theorem ClsR.mem {k : Nat} {out : List (List Int)} (h : ClsR p k out) {c : List Int} (hc : c ∈ out) {i j : Int} (hi : i ∈ c) : j ∈ c ↔ j ∈ upL k ∧ p j = p i := by
  obtain ⟨x, hx, rfl⟩ := h.cls c hc
  rw [List.mem_filter] at hi ⊢
  simp only [decide_eq_true_eq] at hi ⊢
  rw [hi.2]
theorem ClsR.eq {k : Nat} {out : List (List Int)} (h : ClsR p k out) {c : List Int} (hc : c ∈ out) {i : Int} (hi : i ∈ c) : c = (upL k).filter fun x => p x = p i := by
  obtain ⟨x, hx, rfl⟩ := h.cls c hc
  rw [List.mem_filter] at hi
  simp only [decide_eq_true_eq] at hi
  rw [hi.2]
theorem ClsR.rng {k : Nat} {out : List (List Int)} (h : ClsR p k out) {c : List Int} (hc : c ∈ out) {i : Int} (hi : i ∈ c) : 0 ≤ i ∧ i < (k : Int) := by
  obtain ⟨x, hx, rfl⟩ := h.cls c hc
  exact upL_mem'.1 (List.mem_filter.1 hi).1
theorem ClsR.clen {k : Nat} {out : List (List Int)} (h : ClsR p k out) {c : List Int} (hc : c ∈ out) : c.length ≤ k := by
  obtain ⟨x, hx, rfl⟩ := h.cls c hc
  exact Nat.le_trans (List.length_filter_le _ _) (Nat.le_of_eq (upL_len k))
theorem ClsR.inj {k : Nat} {out : List (List Int)} (h : ClsR p k out) {a b : Nat} (ha : a < out.length) (hb : b < out.length) {x y : Int} (hx : x ∈ out[a]) (hy : y ∈ out[b]) (e : p x = p y) : a = b := by
  have hd := List.pairwise_iff_getElem.1 h.dist
  rcases Nat.lt_trichotomy a b with h1 | h1 | h1
  · exact absurd e (hd a b ha hb h1 x hx y hy)
  · exact h1
  · exact absurd e.symm (hd b a hb ha h1 y hy x hx)
theorem ClsR.at {k : Nat} {out : List (List Int)} (h : ClsR p k out) (htd : ∀ a b, td a b = decide (p a ≠ p b)) (i : Int) : ∀ m, m ≤ out.length →
    (atK td out i m = -1 ∧ ∀ a (ha : a < out.length), a < m → p (out[a].getD 0 0) ≠ p i) ∨ ∃ a, ∃ ha : a < out.length, a < m ∧ atK td out i m = (a : Int) ∧ p (out[a].getD 0 0) = p i := by
  intro m
  induction m with
  | zero => intro _; exact Or.inl ⟨rfl, fun a _ h => absurd h (by omega)⟩
  | succ m ih =>
    intro hm
    have e : out.getD m [] = out[m] := by simp [List.getD, show m < out.length by omega]
    by_cases hp : p (out[m].getD 0 0) = p i
    · refine Or.inr ⟨m, by omega, by omega, ?_, hp⟩
      unfold atK
      rw [htd, e, decide_eq_false (fun h => h hp)]
      rfl
    · have e2 : atK td out i (m + 1) = atK td out i m := by
        conv => lhs; unfold atK
        rw [htd, e, decide_eq_true hp]
        rfl
      rw [e2]
      rcases ih (by omega) with ⟨h1, h2⟩ | ⟨a, ha, h1, h2, h3⟩
      · refine Or.inl ⟨h1, fun a ha hlt => ?_⟩
        rcases Nat.lt_or_eq_of_le (Nat.le_of_lt_succ hlt) with h4 | rfl
        · exact h2 a ha h4
        · exact hp
      · exact Or.inr ⟨a, ha, by omega, h2, h3⟩
theorem ClsR.step {k : Nat} {out : List (List Int)} (h : ClsR p k out) (htd : ∀ a b, td a b = decide (p a ≠ p b)) : ClsR p (k + 1) (stepC td out (k : Int)) := by
  have hup : upL (k + 1) = upL k ++ [(k : Int)] := upL_succ k
  have hfil : ∀ i, (upL (k + 1)).filter (fun x => p x = p i) = (upL k).filter (fun x => p x = p i) ++ if p k = p i then [(k : Int)] else [] := fun i => by
    rw [hup, List.filter_append]
    congr 1
    by_cases e : p k = p i <;> simp [e]
  unfold stepC
  rcases h.at htd (k : Int) out.length (Nat.le_refl _) with ⟨h1, h2⟩ | ⟨a, ha, _, h1, h2⟩
  · have hno : ∀ c ∈ out, ∀ x ∈ c, p x ≠ p (k : Int) := fun c hc x hx e => by
      obtain ⟨a, ha, rfl⟩ := List.getElem_of_mem hc
      refine h2 a ha ha ?_
      rw [((h.mem hc hx).1 (h.head hc)).2, e]
    rw [h1, if_pos (by omega)]
    refine ⟨fun c hc => ?_, ?_, fun i hi => ?_⟩
    · rcases List.mem_append.1 hc with hc | hc
      · obtain ⟨i, hi, e⟩ := h.cls c hc
        refine ⟨i, by rw [hup]; exact List.mem_append_left _ hi, ?_⟩
        have hic : i ∈ c := by rw [e]; exact List.mem_filter.2 ⟨hi, by simp⟩
        rw [hfil, if_neg (fun e' => hno c hc i hic e'.symm), List.append_nil]
        exact e
      · rw [List.mem_singleton] at hc
        subst hc
        refine ⟨(k : Int), by rw [hup]; exact List.mem_append_right _ (List.mem_singleton.2 rfl), ?_⟩
        rw [hfil, if_pos rfl]
        rw [List.filter_eq_nil_iff.2 fun x hx => ?_]
        · rfl
        · obtain ⟨c, hc, hx'⟩ := h.cov x hx
          have := hno c hc x hx'
          simpa using this
    · rw [List.pairwise_append]
      refine ⟨h.dist, List.pairwise_singleton _ _, fun c hc d hd x hx y hy => ?_⟩
      rw [List.mem_singleton] at hd
      subst hd
      rw [List.mem_singleton] at hy
      subst hy
      exact hno c hc x hx
    · rw [hup] at hi
      rcases List.mem_append.1 hi with hi | hi
      · obtain ⟨c, hc, hic⟩ := h.cov i hi
        exact ⟨c, List.mem_append_left _ hc, hic⟩
      · exact ⟨[(k : Int)], List.mem_append_right _ (List.mem_singleton.2 rfl), hi⟩
  · have hm : out[a] ∈ out := List.getElem_mem ha
    have hall : ∀ x ∈ out[a], p x = p (k : Int) := fun x hx => by
      rw [((h.mem hm (h.head hm)).1 hx).2, h2]
    have hoth : ∀ b (hb : b < out.length), b ≠ a → ∀ x ∈ out[b], p x ≠ p (k : Int) := fun b hb hne x hx e => hne (h.inj hb ha hx (h.head hm) (by rw [e, h2]))
    rw [h1, if_neg (by omega), Int.toNat_natCast]
    have e : out.getD a [] = out[a] := by simp [List.getD, ha]
    rw [e]
    refine ⟨fun c hc => ?_, ?_, fun i hi => ?_⟩
    · obtain ⟨b, hb, rfl⟩ := List.getElem_of_mem hc
      rw [List.length_set] at hb
      rw [List.getElem_set]
      by_cases hab : a = b
      · rw [if_pos hab]
        refine ⟨(k : Int), by rw [hup]; exact List.mem_append_right _ (List.mem_singleton.2 rfl), ?_⟩
        rw [hfil, if_pos rfl, h.eq hm (h.head hm), h2]
      · rw [if_neg hab]
        obtain ⟨i, hi, e⟩ := h.cls out[b] (List.getElem_mem hb)
        have hic : i ∈ out[b] := by rw [e]; exact List.mem_filter.2 ⟨hi, by simp⟩
        refine ⟨i, by rw [hup]; exact List.mem_append_left _ hi, ?_⟩
        rw [hfil, if_neg (fun e' => hoth b hb (fun h => hab h.symm) i hic e'.symm), List.append_nil]
        exact e
    · rw [List.pairwise_iff_getElem]
      intro b d hb hd hbd x hx y hy
      rw [List.length_set] at hb hd
      rw [List.getElem_set] at hx hy
      have hd0 := List.pairwise_iff_getElem.1 h.dist b d hb hd hbd
      by_cases e1 : a = b
      · rw [if_pos e1] at hx
        rw [if_neg (by omega)] at hy
        have hxk : p x = p (k : Int) := by
          rcases List.mem_append.1 hx with hx | hx
          · exact hall x hx
          · rw [List.mem_singleton.1 hx]
        rw [hxk]
        exact fun e => hoth d hd (by omega) y hy e.symm
      · rw [if_neg e1] at hx
        by_cases e2 : a = d
        · rw [if_pos e2] at hy
          have hyk : p y = p (k : Int) := by
            rcases List.mem_append.1 hy with hy | hy
            · exact hall y hy
            · rw [List.mem_singleton.1 hy]
          rw [hyk]
          exact hoth b hb (by omega) x hx
        · rw [if_neg e2] at hy
          exact hd0 x hx y hy
    · rw [hup] at hi
      rcases List.mem_append.1 hi with hi | hi
      · obtain ⟨c, hc, hic⟩ := h.cov i hi
        obtain ⟨b, hb, rfl⟩ := List.getElem_of_mem hc
        by_cases hab : a = b
        · subst hab
          exact ⟨_, mem_set' ha, List.mem_append_left _ hic⟩
        · refine ⟨out[b], ?_, hic⟩
          rw [List.mem_iff_getElem]
          exact ⟨b, by rw [List.length_set]; exact hb, by rw [List.getElem_set, if_neg hab]⟩
      · exact ⟨_, mem_set' ha, List.mem_append_right _ hi⟩
theorem ClsR.all (htd : ∀ a b, td a b = decide (p a ≠ p b)) : ∀ k, ClsR p k (apC td k) := by
  intro k
  induction k with
  | zero => exact ⟨(fun c hc => nomatch hc), List.Pairwise.nil, (fun i hi => nomatch hi)⟩
  | succ k ih => exact ih.step htd
theorem apC_len (td : Int → Int → Bool) : ∀ k, (apC td k).length ≤ k := by
  intro k
  induction k with
  | zero => exact Nat.le_refl _
  | succ k ih =>
    unfold apC stepC
    split
    · simp; exact ih
    · rw [List.length_set]; omega
end
/-- The classes of a case. -/
def clsT (n : Nat) (ts : List Tt) : List (List Int) := apC (tdB ts (upL ts.length)) n
theorem clsT_ok (n : Nat) (ts : List Tt) : ClsR (pat ts) n (clsT n ts) := ClsR.all (tdB_pat ts) n
end Go.Proofs.Tb
