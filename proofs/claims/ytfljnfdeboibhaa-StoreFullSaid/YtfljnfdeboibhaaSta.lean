/- Plain: the order of strings; trees of pairs and what set and without make of them. -/
import Derived.Test.YtfljnfdeboibhaaGround
set_option linter.unusedVariables false
set_option linter.unusedSimpArgs false
namespace Go.Proofs.Tb
open Go.RowKit

abbrev Str := ByteArray
theorem str_ext {x y : Str} (h : x.toList = y.toList) : x = y := by
  rw [ByteArray.toList_eq, ByteArray.toList_eq] at h
  cases x; cases y
  simp at h
  rw [h]
theorem bl_irrefl : ∀ x : List UInt8, Op.bytesLess x x = false
  | [] => rfl
  | a :: x => by
    have := bl_irrefl x
    simp [Op.bytesLess, this]
theorem u8_tri (a b : UInt8) : a < b ∨ a = b ∨ b < a := by
  rcases Nat.lt_trichotomy a.toNat b.toNat with h | h | h
  · exact Or.inl (UInt8.lt_iff_toNat_lt.2 h)
  · exact Or.inr (Or.inl (UInt8.toNat_inj.1 h))
  · exact Or.inr (Or.inr (UInt8.lt_iff_toNat_lt.2 h))
theorem bl_cons (a b : UInt8) (x y : List UInt8) : Op.bytesLess (a :: x) (b :: y) = true ↔ a < b ∨ (a = b ∧ Op.bytesLess x y = true) := by
  simp [Op.bytesLess]
theorem bl_trans : ∀ {x y z : List UInt8}, Op.bytesLess x y = true → Op.bytesLess y z = true → Op.bytesLess x z = true
  | _, [], _, h, _ => by cases ‹List UInt8› <;> simp [Op.bytesLess] at h
  | _, _ :: _, [], _, h => by simp [Op.bytesLess] at h
  | [], _ :: _, _ :: _, _, _ => rfl
  | a :: x, b :: y, c :: z, h, h' => by
    rw [bl_cons] at h h' ⊢
    rcases h with h | ⟨rfl, h⟩
    · rcases h' with h' | ⟨rfl, _⟩
      · left
        rw [UInt8.lt_iff_toNat_lt] at *
        omega
      · exact Or.inl h
    · rcases h' with h' | ⟨rfl, h'⟩
      · exact Or.inl h'
      · exact Or.inr ⟨rfl, bl_trans h h'⟩
theorem bl_tri : ∀ x y : List UInt8, Op.bytesLess x y = true ∨ x = y ∨ Op.bytesLess y x = true
  | [], [] => Or.inr (Or.inl rfl)
  | [], _ :: _ => Or.inl rfl
  | _ :: _, [] => Or.inr (Or.inr rfl)
  | a :: x, b :: y => by
    rw [bl_cons, bl_cons]
    rcases u8_tri a b with h | rfl | h
    · exact Or.inl (Or.inl h)
    · rcases bl_tri x y with h | rfl | h
      · exact Or.inl (Or.inr ⟨rfl, h⟩)
      · exact Or.inr (Or.inl rfl)
      · exact Or.inr (Or.inr (Or.inr ⟨rfl, h⟩))
    · exact Or.inr (Or.inr (Or.inl h))
def sl (x y : Str) : Bool := Op.bytesLess x.toList y.toList
theorem sl_irrefl (x : Str) : sl x x = false := bl_irrefl _
theorem sl_trans {x y z : Str} (h : sl x y = true) (h' : sl y z = true) : sl x z = true := bl_trans h h'
theorem sl_tri (x y : Str) : sl x y = true ∨ x = y ∨ sl y x = true := by
  rcases bl_tri x.toList y.toList with h | h | h
  · exact Or.inl h
  · exact Or.inr (Or.inl (str_ext h))
  · exact Or.inr (Or.inr h)
theorem sl_asymm {x y : Str} (h : sl x y = true) : sl y x = false := by
  cases h' : sl y x with
  | false => rfl
  | true => have := sl_trans h h'; rw [sl_irrefl] at this; cases this
theorem sl_ne {x y : Str} (h : sl x y = true) : x ≠ y := fun e => by rw [e, sl_irrefl] at h; cases h
theorem sl_eq {x y : Str} (h : sl x y = false) (h' : sl y x = false) : x = y := by
  rcases sl_tri x y with h1 | h1 | h1
  · rw [h] at h1; cases h1
  · exact h1
  · rw [h'] at h1; cases h1
theorem sl_not (x y : Str) : (!(Op.bytesLess x.toList y.toList || x.toList == y.toList)) = Op.bytesLess y.toList x.toList := by
  rcases sl_tri x y with h | rfl | h
  · have h1 : Op.bytesLess x.toList y.toList = true := h
    have h2 : Op.bytesLess y.toList x.toList = false := sl_asymm h
    rw [h1, h2]; rfl
  · have h2 : Op.bytesLess x.toList x.toList = false := sl_irrefl x
    rw [h2]; simp
  · have h1 : Op.bytesLess y.toList x.toList = true := h
    have h2 : Op.bytesLess x.toList y.toList = false := sl_asymm h
    have h3 : (x.toList == y.toList) = false := by
      rw [beq_eq_false_iff_ne]
      intro e
      rw [str_ext e, sl_irrefl] at h
      cases h
    rw [h1, h2, h3]; rfl
theorem binOp_string_gtr' (t : TypeId) (a b : ByteArray) : binOp .gtr t (.string a) (.string b) = pure (.bool (Op.bytesLess b.toList a.toList)) := by
  rw [← sl_not]; simp [binOp, Op.stringOp]
theorem binOp_string_geq' (t : TypeId) (a b : ByteArray) : binOp .geq t (.string a) (.string b) = pure (.bool !(Op.bytesLess a.toList b.toList)) := by
  simp [binOp, Op.stringOp]
/-- Pairs, rising. -/
abbrev Pr := Str × Str
def Srtd (l : List Pr) : Prop := l.Pairwise fun a b => sl a.1 b.1 = true
def low (k : Str) (l : List Pr) : List Pr := l.filter fun p => sl p.1 k
def high (k : Str) (l : List Pr) : List Pr := l.filter fun p => sl k p.1
/-- A version's pairs after one change. -/
def setP (l : List Pr) (k v : Str) : List Pr := low k l ++ (k, v) :: high k l
def delP (l : List Pr) (k : Str) : List Pr := low k l ++ high k l
theorem low_app (k : Str) (a b : List Pr) : low k (a ++ b) = low k a ++ low k b := List.filter_append ..
theorem high_app (k : Str) (a b : List Pr) : high k (a ++ b) = high k a ++ high k b := List.filter_append ..
theorem low_all {k : Str} {l : List Pr} (h : ∀ p ∈ l, sl p.1 k = true) : low k l = l := List.filter_eq_self.2 h
theorem low_none {k : Str} {l : List Pr} (h : ∀ p ∈ l, sl p.1 k = false) : low k l = [] := List.filter_eq_nil_iff.2 fun p hp => by rw [h p hp]; exact Bool.false_ne_true
theorem high_all {k : Str} {l : List Pr} (h : ∀ p ∈ l, sl k p.1 = true) : high k l = l := List.filter_eq_self.2 h
theorem high_none {k : Str} {l : List Pr} (h : ∀ p ∈ l, sl k p.1 = false) : high k l = [] := List.filter_eq_nil_iff.2 fun p hp => by rw [h p hp]; exact Bool.false_ne_true
theorem low_cons (k : Str) (p : Pr) (l : List Pr) : low k (p :: l) = if sl p.1 k = true then p :: low k l else low k l := List.filter_cons
theorem high_cons (k : Str) (p : Pr) (l : List Pr) : high k (p :: l) = if sl k p.1 = true then p :: high k l else high k l := List.filter_cons
theorem srtd_mid {a b : List Pr} {p : Pr} : Srtd (a ++ p :: b) ↔ Srtd a ∧ Srtd b ∧ (∀ x ∈ a, sl x.1 p.1 = true) ∧ ∀ x ∈ b, sl p.1 x.1 = true := by
  unfold Srtd
  rw [List.pairwise_append, List.pairwise_cons]
  constructor
  · rintro ⟨h1, ⟨h2, h3⟩, h4⟩
    exact ⟨h1, h3, fun x hx => h4 x hx p (List.mem_cons_self ..), h2⟩
  · rintro ⟨h1, h2, h3, h4⟩
    refine ⟨h1, ⟨h4, h2⟩, fun x hx y hy => ?_⟩
    rcases List.mem_cons.1 hy with rfl | hy
    · exact h3 x hx
    · exact sl_trans (h3 x hx) (h4 y hy)
theorem setP_srtd {l : List Pr} (h : Srtd l) (k v : Str) : Srtd (setP l k v) := by
  unfold setP
  rw [srtd_mid]
  exact ⟨List.Pairwise.filter _ h, List.Pairwise.filter _ h, fun x hx => (List.mem_filter.1 hx).2, fun x hx => (List.mem_filter.1 hx).2⟩
theorem delP_srtd {l : List Pr} (h : Srtd l) (k : Str) : Srtd (delP l k) := by
  unfold delP Srtd
  rw [List.pairwise_append]
  exact ⟨List.Pairwise.filter _ h, List.Pairwise.filter _ h, fun x hx y hy => sl_trans (List.mem_filter.1 hx).2 (List.mem_filter.1 hy).2⟩
/-- Trees. -/
inductive Tr where
  | nil
  | node (k v : Str) (l r : Tr)
namespace Tr
def ht : Tr → Nat
  | nil => 0
  | node _ _ l r => 1 + max l.ht r.ht
def prs : Tr → List Pr
  | nil => []
  | node k v l r => l.prs ++ (k, v) :: r.prs
def size : Tr → Nat
  | nil => 0
  | node _ _ l r => l.size + r.size + 1
theorem size_prs : ∀ t : Tr, t.prs.length = t.size
  | nil => rfl
  | node k v l r => by
    show (l.prs ++ (k, v) :: r.prs).length = l.size + r.size + 1
    rw [List.length_append, List.length_cons, size_prs l, size_prs r]
    omega
theorem ht_size : ∀ t : Tr, t.ht ≤ t.size
  | nil => Nat.le_refl _
  | node _ _ l r => by
    have := ht_size l
    have := ht_size r
    show 1 + max l.ht r.ht ≤ l.size + r.size + 1
    omega
/-- A tree whose parts differ by two at most in height. -/
def bal (k v : Str) (l r : Tr) : Tr :=
  if r.ht + 1 < l.ht then
    match l with
    | nil => node k v l r
    | node lk lv ll lr =>
      if ll.ht < lr.ht then
        match lr with
        | nil => node k v l r
        | node mk mv ml mr => node mk mv (node lk lv ll ml) (node k v mr r)
      else node lk lv ll (node k v lr r)
  else if l.ht + 1 < r.ht then
    match r with
    | nil => node k v l r
    | node rk rv rl rr =>
      if rr.ht < rl.ht then
        match rl with
        | nil => node k v l r
        | node mk mv ml mr => node mk mv (node k v l ml) (node rk rv mr rr)
      else node rk rv (node k v l rl) rr
  else node k v l r
theorem bal_prs (k v : Str) (l r : Tr) : (bal k v l r).prs = l.prs ++ (k, v) :: r.prs := by
  unfold bal
  split
  · split
    · rfl
    · split
      · split
        · rfl
        · simp [prs]
      · simp [prs]
  · split
    · split
      · rfl
      · split
        · split
          · rfl
          · simp [prs]
        · simp [prs]
    · rfl
def set_ : Tr → Str → Str → Tr
  | nil, k, v => node k v nil nil
  | node k' v' l r, k, v => if sl k k' = true then bal k' v' (l.set_ k v) r else if sl k' k = true then bal k' v' l (r.set_ k v) else if v = v' then node k' v' l r else node k v l r
theorem set_prs : ∀ {t : Tr} (_ : Srtd t.prs) (k v : Str), (t.set_ k v).prs = setP t.prs k v
  | nil, _, k, v => rfl
  | node k' v' l r, h, k, v => by
    have h' : Srtd (l.prs ++ (k', v') :: r.prs) := h
    rw [srtd_mid] at h'
    obtain ⟨h1, h2, h3, h4⟩ := h'
    show _ = setP (l.prs ++ (k', v') :: r.prs) k v
    unfold set_ setP
    rw [low_app, high_app, low_cons, high_cons]
    by_cases c1 : sl k k' = true
    · rw [if_pos c1, bal_prs, set_prs h1, if_neg (by rw [sl_asymm c1]; exact Bool.false_ne_true), if_pos c1]
      have e1 : low k r.prs = [] := low_none fun p hp => sl_asymm (sl_trans c1 (h4 p hp))
      have e2 : high k r.prs = r.prs := high_all fun p hp => sl_trans c1 (h4 p hp)
      rw [e1, e2]
      simp [setP]
    · rw [if_neg c1]
      by_cases c2 : sl k' k = true
      · rw [if_pos c2, bal_prs, set_prs h2, if_pos c2, if_neg c1]
        have e1 : low k l.prs = l.prs := low_all fun p hp => sl_trans (h3 p hp) c2
        have e2 : high k l.prs = [] := high_none fun p hp => sl_asymm (sl_trans (h3 p hp) c2)
        rw [e1, e2]
        simp [setP]
      · have e := sl_eq (by simpa using c1) (by simpa using c2)
        subst e
        rw [if_neg c2, if_neg c2]
        have e1 : low k l.prs = l.prs := low_all h3
        have e2 : high k l.prs = [] := high_none fun p hp => sl_asymm (h3 p hp)
        have e3 : low k r.prs = [] := low_none fun p hp => sl_asymm (h4 p hp)
        have e4 : high k r.prs = r.prs := high_all h4
        rw [if_neg c2, e1, e2, e3, e4]
        by_cases hv : v = v'
        · subst hv; rw [if_pos rfl]; simp [prs]
        · rw [if_neg hv]; simp [prs]
/-- The first pair. -/
def first : Tr → Pr
  | nil => (default, default)
  | node k v nil _ => (k, v)
  | node _ _ (node k v l r) _ => first (node k v l r)
theorem first_prs : ∀ {t : Tr}, t ≠ nil → ∃ tl, t.prs = t.first :: tl
  | nil, h => absurd rfl h
  | node k v nil r, _ => ⟨r.prs, rfl⟩
  | node k' v' (node k v l r) r', _ => by
    obtain ⟨tl, e⟩ := first_prs (t := node k v l r) (by intro h; cases h)
    exact ⟨tl ++ (k', v') :: r'.prs, by
      show (node k v l r).prs ++ (k', v') :: r'.prs = _
      rw [e]; rfl⟩
def without : Tr → Str → Tr
  | nil, _ => nil
  | node k' v' l r, k => if sl k k' = true then bal k' v' (l.without k) r else if sl k' k = true then bal k' v' l (r.without k) else
    match l, r with
    | nil, r => r
    | l, nil => l
    | l, node rk rv rl rr => bal (node rk rv rl rr).first.1 (node rk rv rl rr).first.2 l ((node rk rv rl rr).without (node rk rv rl rr).first.1)
theorem without_prs : ∀ {t : Tr} (_ : Srtd t.prs) (k : Str), (t.without k).prs = delP t.prs k
  | nil, _, k => by unfold without; rfl
  | node k' v' l r, h, k => by
    have h' : Srtd (l.prs ++ (k', v') :: r.prs) := h
    rw [srtd_mid] at h'
    obtain ⟨h1, h2, h3, h4⟩ := h'
    show _ = delP (l.prs ++ (k', v') :: r.prs) k
    unfold without delP
    rw [low_app, high_app, low_cons, high_cons]
    by_cases c1 : sl k k' = true
    · rw [if_pos c1, bal_prs, without_prs h1, if_neg (by rw [sl_asymm c1]; exact Bool.false_ne_true), if_pos c1]
      have e1 : low k r.prs = [] := low_none fun p hp => sl_asymm (sl_trans c1 (h4 p hp))
      have e2 : high k r.prs = r.prs := high_all fun p hp => sl_trans c1 (h4 p hp)
      rw [e1, e2]
      simp [delP]
    · rw [if_neg c1]
      by_cases c2 : sl k' k = true
      · rw [if_pos c2, bal_prs, without_prs h2, if_pos c2, if_neg c1]
        have e1 : low k l.prs = l.prs := low_all fun p hp => sl_trans (h3 p hp) c2
        have e2 : high k l.prs = [] := high_none fun p hp => sl_asymm (sl_trans (h3 p hp) c2)
        rw [e1, e2]
        simp [delP]
      · have e := sl_eq (by simpa using c1) (by simpa using c2)
        subst e
        rw [if_neg c2, if_neg c2, if_neg c2]
        have e1 : low k l.prs = l.prs := low_all h3
        have e2 : high k l.prs = [] := high_none fun p hp => sl_asymm (h3 p hp)
        have e3 : low k r.prs = [] := low_none fun p hp => sl_asymm (h4 p hp)
        have e4 : high k r.prs = r.prs := high_all h4
        rw [e1, e2, e3, e4]
        cases l with
        | nil => simp [prs]
        | node lk lv ll lr =>
          cases r with
          | nil => simp [prs]
          | node rk rv rl rr =>
            obtain ⟨tl, et⟩ := first_prs (t := node rk rv rl rr) (by intro h; cases h)
            simp only
            rw [bal_prs, without_prs h2]
            have hs := h2
            rw [et] at hs
            obtain ⟨hs1, _⟩ := List.pairwise_cons.1 hs
            unfold delP
            rw [et, low_cons, high_cons, if_neg (by rw [sl_irrefl]; exact Bool.false_ne_true), if_neg (by rw [sl_irrefl]; exact Bool.false_ne_true)]
            rw [low_none fun p hp => sl_asymm (hs1 p hp), high_all hs1]
            simp
theorem bal_size (k v : Str) (l r : Tr) : (bal k v l r).size = l.size + r.size + 1 := by
  rw [← size_prs, bal_prs, List.length_append, List.length_cons, size_prs, size_prs]
  omega
theorem set_size (t : Tr) (k v : Str) : (t.set_ k v).size ≤ t.size + 1 := by
  induction t with
  | nil => exact Nat.le_refl _
  | node k' v' l r ihl ihr =>
    unfold set_
    split
    · rw [bal_size]; simp only [size]; omega
    · split
      · rw [bal_size]; simp only [size]; omega
      · split <;> simp only [size] <;> omega
end Tr
end Go.Proofs.Tb
