/- Plain: the order of strings; trees of pairs and what set and without make of them. (With what follows it, in one text.) -/
import Derived.Test.YtfljnfdeboibhaaGround
set_option linter.unusedVariables false
set_option linter.unusedSimpArgs false
/- Plain: the order of strings; trees of pairs and what set and without make of them. -/
namespace Go.Proofs.Tb
open Go.RowKit

abbrev Str := ByteArray
theorem str_ext {x y : Str} (h : x.toList = y.toList) : x = y := by
  rw [ByteArray.toList_eq, ByteArray.toList_eq] at h
  cases x; cases y
  simp at h
  rw [h]
theorem bl_irrefl : ∀ x : List UInt8, Op.bytesLess x x = false
  | [] => rfl
  | a :: x => by
    have := bl_irrefl x
    simp [Op.bytesLess, this]
theorem u8_tri (a b : UInt8) : a < b ∨ a = b ∨ b < a := by
  rcases Nat.lt_trichotomy a.toNat b.toNat with h | h | h
  · exact Or.inl (UInt8.lt_iff_toNat_lt.2 h)
  · exact Or.inr (Or.inl (UInt8.toNat_inj.1 h))
  · exact Or.inr (Or.inr (UInt8.lt_iff_toNat_lt.2 h))
theorem bl_cons (a b : UInt8) (x y : List UInt8) : Op.bytesLess (a :: x) (b :: y) = true ↔ a < b ∨ (a = b ∧ Op.bytesLess x y = true) := by
  simp [Op.bytesLess]
theorem bl_trans : ∀ {x y z : List UInt8}, Op.bytesLess x y = true → Op.bytesLess y z = true → Op.bytesLess x z = true
  | _, [], _, h, _ => by cases ‹List UInt8› <;> simp [Op.bytesLess] at h
  | _, _ :: _, [], _, h => by simp [Op.bytesLess] at h
  | [], _ :: _, _ :: _, _, _ => rfl
  | a :: x, b :: y, c :: z, h, h' => by
    rw [bl_cons] at h h' ⊢
    rcases h with h | ⟨rfl, h⟩
    · rcases h' with h' | ⟨rfl, _⟩
      · left
        rw [UInt8.lt_iff_toNat_lt] at *
        omega
      · exact Or.inl h
    · rcases h' with h' | ⟨rfl, h'⟩
      · exact Or.inl h'
      · exact Or.inr ⟨rfl, bl_trans h h'⟩
theorem bl_tri : ∀ x y : List UInt8, Op.bytesLess x y = true ∨ x = y ∨ Op.bytesLess y x = true
  | [], [] => Or.inr (Or.inl rfl)
  | [], _ :: _ => Or.inl rfl
  | _ :: _, [] => Or.inr (Or.inr rfl)
  | a :: x, b :: y => by
    rw [bl_cons, bl_cons]
    rcases u8_tri a b with h | rfl | h
    · exact Or.inl (Or.inl h)
    · rcases bl_tri x y with h | rfl | h
      · exact Or.inl (Or.inr ⟨rfl, h⟩)
      · exact Or.inr (Or.inl rfl)
      · exact Or.inr (Or.inr (Or.inr ⟨rfl, h⟩))
    · exact Or.inr (Or.inr (Or.inl h))
def sl (x y : Str) : Bool := Op.bytesLess x.toList y.toList
theorem sl_irrefl (x : Str) : sl x x = false := bl_irrefl _
theorem sl_trans {x y z : Str} (h : sl x y = true) (h' : sl y z = true) : sl x z = true := bl_trans h h'
theorem sl_tri (x y : Str) : sl x y = true ∨ x = y ∨ sl y x = true := by
  rcases bl_tri x.toList y.toList with h | h | h
  · exact Or.inl h
  · exact Or.inr (Or.inl (str_ext h))
  · exact Or.inr (Or.inr h)
theorem sl_asymm {x y : Str} (h : sl x y = true) : sl y x = false := by
  cases h' : sl y x with
  | false => rfl
  | true => have := sl_trans h h'; rw [sl_irrefl] at this; cases this
theorem sl_ne {x y : Str} (h : sl x y = true) : x ≠ y := fun e => by rw [e, sl_irrefl] at h; cases h
theorem sl_eq {x y : Str} (h : sl x y = false) (h' : sl y x = false) : x = y := by
  rcases sl_tri x y with h1 | h1 | h1
  · rw [h] at h1; cases h1
  · exact h1
  · rw [h'] at h1; cases h1
theorem sl_not (x y : Str) : (!(Op.bytesLess x.toList y.toList || x.toList == y.toList)) = Op.bytesLess y.toList x.toList := by
  rcases sl_tri x y with h | rfl | h
  · have h1 : Op.bytesLess x.toList y.toList = true := h
    have h2 : Op.bytesLess y.toList x.toList = false := sl_asymm h
    rw [h1, h2]; rfl
  · have h2 : Op.bytesLess x.toList x.toList = false := sl_irrefl x
    rw [h2]; simp
  · have h1 : Op.bytesLess y.toList x.toList = true := h
    have h2 : Op.bytesLess x.toList y.toList = false := sl_asymm h
    have h3 : (x.toList == y.toList) = false := by
      rw [beq_eq_false_iff_ne]
      intro e
      rw [str_ext e, sl_irrefl] at h
      cases h
    rw [h1, h2, h3]; rfl
theorem binOp_string_gtr' (t : TypeId) (a b : ByteArray) : binOp .gtr t (.string a) (.string b) = pure (.bool (Op.bytesLess b.toList a.toList)) := by
  rw [← sl_not]; simp [binOp, Op.stringOp]
theorem binOp_string_geq' (t : TypeId) (a b : ByteArray) : binOp .geq t (.string a) (.string b) = pure (.bool !(Op.bytesLess a.toList b.toList)) := by
  simp [binOp, Op.stringOp]
/-- Pairs, rising. -/
abbrev Pr := Str × Str
def Srtd (l : List Pr) : Prop := l.Pairwise fun a b => sl a.1 b.1 = true
def low (k : Str) (l : List Pr) : List Pr := l.filter fun p => sl p.1 k
def high (k : Str) (l : List Pr) : List Pr := l.filter fun p => sl k p.1
/-- A version's pairs after one change. -/
def setP (l : List Pr) (k v : Str) : List Pr := low k l ++ (k, v) :: high k l
def delP (l : List Pr) (k : Str) : List Pr := low k l ++ high k l
theorem low_app (k : Str) (a b : List Pr) : low k (a ++ b) = low k a ++ low k b := List.filter_append ..
theorem high_app (k : Str) (a b : List Pr) : high k (a ++ b) = high k a ++ high k b := List.filter_append ..
theorem low_all {k : Str} {l : List Pr} (h : ∀ p ∈ l, sl p.1 k = true) : low k l = l := List.filter_eq_self.2 h
theorem low_none {k : Str} {l : List Pr} (h : ∀ p ∈ l, sl p.1 k = false) : low k l = [] := List.filter_eq_nil_iff.2 fun p hp => by rw [h p hp]; exact Bool.false_ne_true
theorem high_all {k : Str} {l : List Pr} (h : ∀ p ∈ l, sl k p.1 = true) : high k l = l := List.filter_eq_self.2 h
theorem high_none {k : Str} {l : List Pr} (h : ∀ p ∈ l, sl k p.1 = false) : high k l = [] := List.filter_eq_nil_iff.2 fun p hp => by rw [h p hp]; exact Bool.false_ne_true
theorem low_cons (k : Str) (p : Pr) (l : List Pr) : low k (p :: l) = if sl p.1 k = true then p :: low k l else low k l := List.filter_cons
theorem high_cons (k : Str) (p : Pr) (l : List Pr) : high k (p :: l) = if sl k p.1 = true then p :: high k l else high k l := List.filter_cons
theorem srtd_mid {a b : List Pr} {p : Pr} : Srtd (a ++ p :: b) ↔ Srtd a ∧ Srtd b ∧ (∀ x ∈ a, sl x.1 p.1 = true) ∧ ∀ x ∈ b, sl p.1 x.1 = true := by
  unfold Srtd
  rw [List.pairwise_append, List.pairwise_cons]
  constructor
  · rintro ⟨h1, ⟨h2, h3⟩, h4⟩
    exact ⟨h1, h3, fun x hx => h4 x hx p (List.mem_cons_self ..), h2⟩
  · rintro ⟨h1, h2, h3, h4⟩
    refine ⟨h1, ⟨h4, h2⟩, fun x hx y hy => ?_⟩
    rcases List.mem_cons.1 hy with rfl | hy
    · exact h3 x hx
    · exact sl_trans (h3 x hx) (h4 y hy)
theorem setP_srtd {l : List Pr} (h : Srtd l) (k v : Str) : Srtd (setP l k v) := by
  unfold setP
  rw [srtd_mid]
  exact ⟨List.Pairwise.filter _ h, List.Pairwise.filter _ h, fun x hx => (List.mem_filter.1 hx).2, fun x hx => (List.mem_filter.1 hx).2⟩
theorem delP_srtd {l : List Pr} (h : Srtd l) (k : Str) : Srtd (delP l k) := by
  unfold delP Srtd
  rw [List.pairwise_append]
  exact ⟨List.Pairwise.filter _ h, List.Pairwise.filter _ h, fun x hx y hy => sl_trans (List.mem_filter.1 hx).2 (List.mem_filter.1 hy).2⟩
/-- Trees. -/
inductive Tr where
  | nil
  | node (k v : Str) (l r : Tr)
namespace Tr
def ht : Tr → Nat
  | nil => 0
  | node _ _ l r => 1 + max l.ht r.ht
def prs : Tr → List Pr
  | nil => []
  | node k v l r => l.prs ++ (k, v) :: r.prs
def size : Tr → Nat
  | nil => 0
  | node _ _ l r => l.size + r.size + 1
theorem size_prs : ∀ t : Tr, t.prs.length = t.size
  | nil => rfl
  | node k v l r => by
    show (l.prs ++ (k, v) :: r.prs).length = l.size + r.size + 1
    rw [List.length_append, List.length_cons, size_prs l, size_prs r]
    omega
theorem ht_size : ∀ t : Tr, t.ht ≤ t.size
  | nil => Nat.le_refl _
  | node _ _ l r => by
    have := ht_size l
    have := ht_size r
    show 1 + max l.ht r.ht ≤ l.size + r.size + 1
    omega
/-- A tree whose parts differ by two at most in height. -/
def bal (k v : Str) (l r : Tr) : Tr :=
  if r.ht + 1 < l.ht then
    match l with
    | nil => node k v l r
    | node lk lv ll lr =>
      if ll.ht < lr.ht then
        match lr with
        | nil => node k v l r
        | node mk mv ml mr => node mk mv (node lk lv ll ml) (node k v mr r)
      else node lk lv ll (node k v lr r)
  else if l.ht + 1 < r.ht then
    match r with
    | nil => node k v l r
    | node rk rv rl rr =>
      if rr.ht < rl.ht then
        match rl with
        | nil => node k v l r
        | node mk mv ml mr => node mk mv (node k v l ml) (node rk rv mr rr)
      else node rk rv (node k v l rl) rr
  else node k v l r
theorem bal_prs (k v : Str) (l r : Tr) : (bal k v l r).prs = l.prs ++ (k, v) :: r.prs := by
  unfold bal
  split
  · split
    · rfl
    · split
      · split
        · rfl
        · simp [prs]
      · simp [prs]
  · split
    · split
      · rfl
      · split
        · split
          · rfl
          · simp [prs]
        · simp [prs]
    · rfl
def set_ : Tr → Str → Str → Tr
  | nil, k, v => node k v nil nil
  | node k' v' l r, k, v => if sl k k' = true then bal k' v' (l.set_ k v) r else if sl k' k = true then bal k' v' l (r.set_ k v) else if v = v' then node k' v' l r else node k v l r
theorem set_prs : ∀ {t : Tr} (_ : Srtd t.prs) (k v : Str), (t.set_ k v).prs = setP t.prs k v
  | nil, _, k, v => rfl
  | node k' v' l r, h, k, v => by
    have h' : Srtd (l.prs ++ (k', v') :: r.prs) := h
    rw [srtd_mid] at h'
    obtain ⟨h1, h2, h3, h4⟩ := h'
    show _ = setP (l.prs ++ (k', v') :: r.prs) k v
    unfold set_ setP
    rw [low_app, high_app, low_cons, high_cons]
    by_cases c1 : sl k k' = true
    · rw [if_pos c1, bal_prs, set_prs h1, if_neg (by rw [sl_asymm c1]; exact Bool.false_ne_true), if_pos c1]
      have e1 : low k r.prs = [] := low_none fun p hp => sl_asymm (sl_trans c1 (h4 p hp))
      have e2 : high k r.prs = r.prs := high_all fun p hp => sl_trans c1 (h4 p hp)
      rw [e1, e2]
      simp [setP]
    · rw [if_neg c1]
      by_cases c2 : sl k' k = true
      · rw [if_pos c2, bal_prs, set_prs h2, if_pos c2, if_neg c1]
        have e1 : low k l.prs = l.prs := low_all fun p hp => sl_trans (h3 p hp) c2
        have e2 : high k l.prs = [] := high_none fun p hp => sl_asymm (sl_trans (h3 p hp) c2)
        rw [e1, e2]
        simp [setP]
      · have e := sl_eq (by simpa using c1) (by simpa using c2)
        subst e
        rw [if_neg c2, if_neg c2]
        have e1 : low k l.prs = l.prs := low_all h3
        have e2 : high k l.prs = [] := high_none fun p hp => sl_asymm (h3 p hp)
        have e3 : low k r.prs = [] := low_none fun p hp => sl_asymm (h4 p hp)
        have e4 : high k r.prs = r.prs := high_all h4
        rw [if_neg c2, e1, e2, e3, e4]
        by_cases hv : v = v'
        · subst hv; rw [if_pos rfl]; simp [prs]
        · rw [if_neg hv]; simp [prs]
/-- The first pair. -/
def first : Tr → Pr
  | nil => (default, default)
  | node k v nil _ => (k, v)
  | node _ _ (node k v l r) _ => first (node k v l r)
theorem first_prs : ∀ {t : Tr}, t ≠ nil → ∃ tl, t.prs = t.first :: tl
  | nil, h => absurd rfl h
  | node k v nil r, _ => ⟨r.prs, rfl⟩
  | node k' v' (node k v l r) r', _ => by
    obtain ⟨tl, e⟩ := first_prs (t := node k v l r) (by intro h; cases h)
    exact ⟨tl ++ (k', v') :: r'.prs, by
      show (node k v l r).prs ++ (k', v') :: r'.prs = _
      rw [e]; rfl⟩
def without : Tr → Str → Tr
  | nil, _ => nil
  | node k' v' l r, k => if sl k k' = true then bal k' v' (l.without k) r else if sl k' k = true then bal k' v' l (r.without k) else
    match l, r with
    | nil, r => r
    | l, nil => l
    | l, node rk rv rl rr => bal (node rk rv rl rr).first.1 (node rk rv rl rr).first.2 l ((node rk rv rl rr).without (node rk rv rl rr).first.1)
theorem without_prs : ∀ {t : Tr} (_ : Srtd t.prs) (k : Str), (t.without k).prs = delP t.prs k
  | nil, _, k => by unfold without; rfl
  | node k' v' l r, h, k => by
    have h' : Srtd (l.prs ++ (k', v') :: r.prs) := h
    rw [srtd_mid] at h'
    obtain ⟨h1, h2, h3, h4⟩ := h'
    show _ = delP (l.prs ++ (k', v') :: r.prs) k
    unfold without delP
    rw [low_app, high_app, low_cons, high_cons]
    by_cases c1 : sl k k' = true
    · rw [if_pos c1, bal_prs, without_prs h1, if_neg (by rw [sl_asymm c1]; exact Bool.false_ne_true), if_pos c1]
      have e1 : low k r.prs = [] := low_none fun p hp => sl_asymm (sl_trans c1 (h4 p hp))
      have e2 : high k r.prs = r.prs := high_all fun p hp => sl_trans c1 (h4 p hp)
      rw [e1, e2]
      simp [delP]
    · rw [if_neg c1]
      by_cases c2 : sl k' k = true
      · rw [if_pos c2, bal_prs, without_prs h2, if_pos c2, if_neg c1]
        have e1 : low k l.prs = l.prs := low_all fun p hp => sl_trans (h3 p hp) c2
        have e2 : high k l.prs = [] := high_none fun p hp => sl_asymm (sl_trans (h3 p hp) c2)
        rw [e1, e2]
        simp [delP]
      · have e := sl_eq (by simpa using c1) (by simpa using c2)
        subst e
        rw [if_neg c2, if_neg c2, if_neg c2]
        have e1 : low k l.prs = l.prs := low_all h3
        have e2 : high k l.prs = [] := high_none fun p hp => sl_asymm (h3 p hp)
        have e3 : low k r.prs = [] := low_none fun p hp => sl_asymm (h4 p hp)
        have e4 : high k r.prs = r.prs := high_all h4
        rw [e1, e2, e3, e4]
        cases l with
        | nil => simp [prs]
        | node lk lv ll lr =>
          cases r with
          | nil => simp [prs]
          | node rk rv rl rr =>
            obtain ⟨tl, et⟩ := first_prs (t := node rk rv rl rr) (by intro h; cases h)
            simp only
            rw [bal_prs, without_prs h2]
            have hs := h2
            rw [et] at hs
            obtain ⟨hs1, _⟩ := List.pairwise_cons.1 hs
            unfold delP
            rw [et, low_cons, high_cons, if_neg (by rw [sl_irrefl]; exact Bool.false_ne_true), if_neg (by rw [sl_irrefl]; exact Bool.false_ne_true)]
            rw [low_none fun p hp => sl_asymm (hs1 p hp), high_all hs1]
            simp
theorem bal_size (k v : Str) (l r : Tr) : (bal k v l r).size = l.size + r.size + 1 := by
  rw [← size_prs, bal_prs, List.length_append, List.length_cons, size_prs, size_prs]
  omega
theorem set_size (t : Tr) (k v : Str) : (t.set_ k v).size ≤ t.size + 1 := by
  induction t with
  | nil => exact Nat.le_refl _
  | node k' v' l r ihl ihr =>
    unfold set_
    split
    · rw [bal_size]; simp only [size]; omega
    · split
      · rw [bal_size]; simp only [size]; omega
      · split <;> simp only [size] <;> omega
end Tr
end Go.Proofs.Tb
/- Plain: blocks of bytes: numbers, texts, sums. -/
namespace Go.Proofs.Tb
open Go.RowKit

/-- A number in some bytes, the highest first. -/
def beB (n : Nat) : Nat → List Nat
  | 0 => []
  | k + 1 => (n / 2 ^ (8 * k) % 256) :: beB n k
theorem beB_len (n : Nat) : ∀ k, (beB n k).length = k
  | 0 => rfl
  | k + 1 => by rw [beB, List.length_cons, beB_len n k]
theorem beB_lt (n : Nat) : ∀ k, ∀ b ∈ beB n k, b < 256
  | 0, _, h => by cases h
  | k + 1, b, h => by
    rcases List.mem_cons.1 h with rfl | h
    · omega
    · exact beB_lt n k b h
/-- What is read off some bytes. -/
def rdB (l : List Nat) : Nat := l.foldl (fun n b => n * 256 + b) 0
theorem rdB_snoc (l : List Nat) (b : Nat) : rdB (l ++ [b]) = rdB l * 256 + b := by unfold rdB; rw [List.foldl_append]; rfl
theorem rdB_go (l : List Nat) : ∀ a, l.foldl (fun n b => n * 256 + b) a = a * 256 ^ l.length + rdB l := by
  induction l with
  | nil => intro a; simp [rdB]
  | cons x l ih =>
    intro a
    unfold rdB
    rw [List.foldl_cons, List.foldl_cons, ih, ih (0 * 256 + x), List.length_cons, Nat.pow_succ, Nat.zero_mul, Nat.zero_add, Nat.add_mul, Nat.mul_assoc a, Nat.mul_comm 256, Nat.add_assoc]
theorem rdB_be (n : Nat) : ∀ k, n < 256 ^ k → rdB (beB n k) = n := by
  have key : ∀ k, rdB (beB n k) = n % 256 ^ k := by
    intro k
    induction k with
    | zero => simp [beB, rdB, Nat.mod_one]
    | succ k ih =>
      show (beB n (k + 1)).foldl (fun n b => n * 256 + b) 0 = _
      unfold beB
      rw [List.foldl_cons, rdB_go, beB_len, Nat.zero_mul, Nat.zero_add, ih]
      have h1 : 2 ^ (8 * k) = 256 ^ k := by rw [Nat.pow_mul]
      rw [h1, Nat.pow_succ, Nat.mod_mul, Nat.add_comm, Nat.mul_comm]
  intro k hk
  rw [key, Nat.mod_eq_of_lt hk]
def strB (s : Str) : List Nat := s.toList.map UInt8.toNat
theorem strB_lt (s : Str) : ∀ b ∈ strB s, b < 256 := fun b hb => by
  obtain ⟨u, _, rfl⟩ := List.mem_map.1 hb
  exact u.toNat_lt
theorem strB_len (s : Str) : (strB s).length = s.size := by
  unfold strB
  rw [List.length_map, ByteArray.toList_eq]
  rfl
/-- A text and its length. -/
def txB (s : Str) (most : Nat) : List Nat := beB s.size 1 ++ strB s ++ List.replicate (most - s.size) 0
theorem txB_len {s : Str} {most : Nat} (h : s.size ≤ most) : (txB s most).length = most + 1 := by
  unfold txB
  rw [List.length_append, List.length_append, beB_len, strB_len, List.length_replicate]
  omega
theorem txB_lt (s : Str) (most : Nat) : ∀ b ∈ txB s most, b < 256 := fun b hb => by
  unfold txB at hb
  rcases List.mem_append.1 hb with hb | hb
  · rcases List.mem_append.1 hb with hb | hb
    · exact beB_lt _ _ b hb
    · exact strB_lt s b hb
  · rw [List.mem_replicate] at hb; omega
/-- A sum of bytes. -/
def rot5 (x : Nat) : Nat := (x * 32 % 4294967296) ||| (x / 134217728)
def sumS (s b : Nat) : Nat := ((rot5 s * 31 % 4294967296 + b) % 4294967296 + 7) % 4294967296
def sumB (l : List Nat) : Nat := l.foldl sumS ((l.length + 1) % 4294967296)
def sumK (l : List Nat) (k : Nat) : Nat := (l.take k).foldl sumS ((l.length + 1) % 4294967296)
theorem sumK_zero (l : List Nat) : sumK l 0 = (l.length + 1) % 4294967296 := by simp [sumK]
theorem sumK_succ {l : List Nat} {k : Nat} (h : k < l.length) : sumK l (k + 1) = sumS (sumK l k) (l.getD k 0) := by
  unfold sumK
  rw [List.take_succ_eq_append_getElem h, List.foldl_append]
  simp [List.getD, h]
theorem sumK_end (l : List Nat) : sumK l l.length = sumB l := by unfold sumK sumB; rw [List.take_length]
theorem sumS_lt (s b : Nat) : sumS s b < 4294967296 := Nat.mod_lt _ (by decide)
theorem sumK_lt (l : List Nat) : ∀ k, sumK l k < 4294967296
  | 0 => by rw [sumK_zero]; exact Nat.mod_lt _ (by decide)
  | k + 1 => by
    by_cases h : k < l.length
    · rw [sumK_succ h]; exact sumS_lt _ _
    · have : sumK l (k + 1) = sumK l k := by unfold sumK; rw [List.take_of_length_le (by omega), List.take_of_length_le (by omega)]
      rw [this]; exact sumK_lt l k
theorem sumB_lt (l : List Nat) : sumB l < 4294967296 := by rw [← sumK_end]; exact sumK_lt l _
/-- A block. -/
def endB (l : List Nat) : List Nat := l ++ List.replicate (60 - l.length) 0
def blkB (l : List Nat) : List Nat := endB l ++ beB (sumB (endB l)) 4
theorem endB_len {l : List Nat} (h : l.length ≤ 60) : (endB l).length = 60 := by unfold endB; rw [List.length_append, List.length_replicate]; omega
theorem blkB_len {l : List Nat} (h : l.length ≤ 60) : (blkB l).length = 64 := by unfold blkB; rw [List.length_append, endB_len h, beB_len]
def nodB (k v : Str) (l r h : Nat) : List Nat := [110] ++ txB k 12 ++ txB v 24 ++ beB l 2 ++ beB r 2 ++ beB h 1
def rootB (keep number : Nat) (roots : List Nat) : List Nat := [114] ++ beB keep 1 ++ beB number 8 ++ beB roots.length 1 ++ (roots.map fun r => beB r 2).flatten
theorem nodB_len {k v : Str} {l r h : Nat} (hk : k.size ≤ 12) (hv : v.size ≤ 24) : (nodB k v l r h).length = 44 := by
  unfold nodB
  simp only [List.length_append, txB_len hk, txB_len hv, beB_len, List.length_cons, List.length_nil]
theorem flat2_len (roots : List Nat) : ((roots.map fun r => beB r 2).flatten).length = 2 * roots.length := by
  induction roots with
  | nil => rfl
  | cons r l ih => rw [List.map_cons, List.flatten_cons, List.length_append, beB_len, ih, List.length_cons]; omega
theorem rootB_len (keep number : Nat) (roots : List Nat) : (rootB keep number roots).length = 11 + 2 * roots.length := by
  unfold rootB
  simp only [List.length_append, beB_len, flat2_len, List.length_cons, List.length_nil]
end Go.Proofs.Tb
/- Plain: trees that are balanced, changes, batches. -/
namespace Go.Proofs.Tb
namespace Tr
/-- Balanced: the parts of each node differ by one at most in height. -/
def bld : Tr → Prop
  | nil => True
  | node _ _ l r => l.ht ≤ r.ht + 1 ∧ r.ht ≤ l.ht + 1 ∧ l.bld ∧ r.bld
theorem bal_bld (k v : Str) (l r : Tr) (hl : l.bld) (hr : r.bld) (h1 : l.ht ≤ r.ht + 2) (h2 : r.ht ≤ l.ht + 2) :
    (bal k v l r).bld ∧ max l.ht r.ht ≤ (bal k v l r).ht ∧ (bal k v l r).ht ≤ 1 + max l.ht r.ht ∧ (l.ht ≤ r.ht + 1 → r.ht ≤ l.ht + 1 → (bal k v l r).ht = 1 + max l.ht r.ht) := by
  unfold bal
  split
  · cases l with
    | nil => simp [ht] at *
    | node lk lv ll lr =>
      simp only [bld, ht] at *
      split
      · cases lr with
        | nil => simp [ht] at *
        | node mk mv ml mr =>
          simp only [bld, ht] at *
          obtain ⟨a1, a2, a3, b1, b2, b3, b4⟩ := hl
          refine ⟨⟨by omega, by omega, ⟨by omega, by omega, a3, b3⟩, by omega, by omega, b4, hr⟩, by omega, by omega, fun _ _ => by omega⟩
      · simp only [bld, ht] at *
        obtain ⟨a1, a2, a3, a4⟩ := hl
        refine ⟨⟨by omega, by omega, a3, by omega, by omega, a4, hr⟩, by omega, by omega, fun _ _ => by omega⟩
  · split
    · cases r with
      | nil => simp [ht] at *
      | node rk rv rl rr =>
        simp only [bld, ht] at *
        split
        · cases rl with
          | nil => simp [ht] at *
          | node mk mv ml mr =>
            simp only [bld, ht] at *
            obtain ⟨a1, a2, ⟨b1, b2, b3, b4⟩, a4⟩ := hr
            refine ⟨⟨by omega, by omega, ⟨by omega, by omega, hl, b3⟩, by omega, by omega, b4, a4⟩, by omega, by omega, fun _ _ => by omega⟩
        · simp only [bld, ht] at *
          obtain ⟨a1, a2, a3, a4⟩ := hr
          refine ⟨⟨by omega, by omega, ⟨by omega, by omega, hl, a3⟩, a4⟩, by omega, by omega, fun _ _ => by omega⟩
    · simp only [bld, ht]
      exact ⟨⟨by omega, by omega, hl, hr⟩, by omega, by omega, fun _ _ => by first | trivial | rfl⟩
theorem set_bld (k v : Str) : ∀ t : Tr, t.bld → (t.set_ k v).bld ∧ t.ht ≤ (t.set_ k v).ht ∧ (t.set_ k v).ht ≤ t.ht + 1
  | nil, _ => by
    unfold set_
    simp [bld, ht]
  | node k' v' l r, ⟨h1, h2, h3, h4⟩ => by
    unfold set_
    split
    · obtain ⟨i1, i2, i3⟩ := set_bld k v l h3
      obtain ⟨j1, j2, j3, j4⟩ := bal_bld k' v' (l.set_ k v) r i1 h4 (by omega) (by omega)
      refine ⟨j1, ?_, by simp only [ht]; omega⟩
      simp only [ht]
      by_cases c : (l.set_ k v).ht ≤ r.ht + 1
      · have := j4 c (by omega); omega
      · omega
    · split
      · obtain ⟨i1, i2, i3⟩ := set_bld k v r h4
        obtain ⟨j1, j2, j3, j4⟩ := bal_bld k' v' l (r.set_ k v) h3 i1 (by omega) (by omega)
        refine ⟨j1, ?_, by simp only [ht]; omega⟩
        simp only [ht]
        by_cases c : (r.set_ k v).ht ≤ l.ht + 1
        · have := j4 (by omega) c; omega
        · omega
      · split
        · exact ⟨⟨h1, h2, h3, h4⟩, by omega, by omega⟩
        · exact ⟨⟨h1, h2, h3, h4⟩, by simp [ht], by simp [ht]⟩
theorem without_bld : ∀ (t : Tr) (k : Str), t.bld → (t.without k).bld ∧ (t.without k).ht ≤ t.ht ∧ t.ht ≤ (t.without k).ht + 1
  | nil, k, _ => by
    unfold without
    simp [bld, ht]
  | node k' v' l r, k, ⟨h1, h2, h3, h4⟩ => by
    unfold without
    split
    · obtain ⟨i1, i2, i3⟩ := without_bld l k h3
      obtain ⟨j1, j2, j3, j4⟩ := bal_bld k' v' (l.without k) r i1 h4 (by omega) (by omega)
      refine ⟨j1, by simp only [ht]; omega, ?_⟩
      simp only [ht]
      by_cases c : r.ht ≤ (l.without k).ht + 1
      · have := j4 (by omega) c; omega
      · omega
    · split
      · obtain ⟨i1, i2, i3⟩ := without_bld r k h4
        obtain ⟨j1, j2, j3, j4⟩ := bal_bld k' v' l (r.without k) h3 i1 (by omega) (by omega)
        refine ⟨j1, by simp only [ht]; omega, ?_⟩
        simp only [ht]
        by_cases c : l.ht ≤ (r.without k).ht + 1
        · have := j4 c (by omega); omega
        · omega
      · cases l with
        | nil =>
          simp only [ht] at *
          exact ⟨h4, by omega, by omega⟩
        | node lk lv ll lr =>
          cases r with
          | nil =>
            simp only [ht] at *
            exact ⟨h3, by omega, by omega⟩
          | node rk rv rl rr =>
            obtain ⟨R, hR⟩ : ∃ R, node rk rv rl rr = R := ⟨_, rfl⟩
            obtain ⟨L, hL⟩ : ∃ L, node lk lv ll lr = L := ⟨_, rfl⟩
            obtain ⟨i1, i2, i3⟩ := without_bld (node rk rv rl rr) (node rk rv rl rr).first.1 h4
            simp only
            rw [hR] at i1 i2 i3 h1 h2 h4 ⊢
            rw [hL] at h1 h2 h3 ⊢
            obtain ⟨j1, j2, j3, j4⟩ := bal_bld R.first.1 R.first.2 L (R.without R.first.1) h3 i1 (by omega) (by omega)
            refine ⟨j1, by simp only [ht]; omega, ?_⟩
            simp only [ht]
            by_cases c : L.ht ≤ (R.without R.first.1).ht + 1
            · have := j4 c (by omega); omega
            · omega
theorem ht_pow : ∀ t : Tr, t.bld → 2 ^ ((t.ht + 1) / 2) ≤ t.size + 1
  | nil, _ => by simp [ht, size]
  | node k v l r, ⟨h1, h2, h3, h4⟩ => by
    have i1 := ht_pow l h3
    have i2 := ht_pow r h4
    simp only [ht, size]
    obtain ⟨m, hm⟩ : ∃ m, (max l.ht r.ht) / 2 = m := ⟨_, rfl⟩
    have e : (1 + max l.ht r.ht + 1) / 2 = m + 1 := by omega
    have a1 : 2 ^ m ≤ 2 ^ ((l.ht + 1) / 2) := Nat.pow_le_pow_right (by omega) (by omega)
    have a2 : 2 ^ m ≤ 2 ^ ((r.ht + 1) / 2) := Nat.pow_le_pow_right (by omega) (by omega)
    rw [e, Nat.pow_succ]
    omega
theorem ht_lt {t : Tr} (h : t.bld) (hs : t.size ≤ 100000) : t.ht < 64 := by
  rcases Nat.lt_or_ge t.ht 64 with h' | h'
  · exact h'
  · have h1 := ht_pow t h
    have h2 : 2 ^ 20 ≤ 2 ^ ((t.ht + 1) / 2) := Nat.pow_le_pow_right (by omega) (by omega)
    have h3 : (2 : Nat) ^ 20 = 1048576 := by decide
    omega
end Tr
/-- A change: a key, a value, and whether it is gone. -/
structure Cg where
  k : Str
  v : Str
  gone : Bool
def apC (t : Tr) (c : Cg) : Tr := if c.gone = true then t.without c.k else t.set_ c.k c.v
def apP (l : List Pr) (c : Cg) : List Pr := if c.gone = true then delP l c.k else setP l c.k c.v
def aft (l : List Pr) (cs : List Cg) : List Pr := cs.foldl apP l
def aftT (t : Tr) (cs : List Cg) : Tr := cs.foldl apC t
theorem apP_srtd {l : List Pr} (h : Srtd l) (c : Cg) : Srtd (apP l c) := by
  unfold apP
  split
  · exact delP_srtd h _
  · exact setP_srtd h _ _
theorem apC_prs {t : Tr} (h : Srtd t.prs) (c : Cg) : (apC t c).prs = apP t.prs c := by
  unfold apC apP
  split
  · exact Tr.without_prs h _
  · exact Tr.set_prs h _ _
theorem aftT_prs : ∀ (cs : List Cg) {t : Tr}, Srtd t.prs → (aftT t cs).prs = aft t.prs cs
  | [], _, _ => rfl
  | c :: cs, t, h => by
    show (aftT (apC t c) cs).prs = aft (apP t.prs c) cs
    rw [aftT_prs cs (by rw [apC_prs h]; exact apP_srtd h c), apC_prs h]
theorem aft_srtd : ∀ (cs : List Cg) {l : List Pr}, Srtd l → Srtd (aft l cs)
  | [], _, h => h
  | c :: cs, l, h => aft_srtd cs (apP_srtd h c)
theorem apC_bld {t : Tr} (h : t.bld) (c : Cg) : (apC t c).bld := by
  unfold apC
  split
  · exact (Tr.without_bld _ _ h).1
  · exact (Tr.set_bld _ _ _ h).1
theorem aftT_bld : ∀ (cs : List Cg) {t : Tr}, t.bld → (aftT t cs).bld
  | [], _, h => h
  | c :: cs, t, h => aftT_bld cs (apC_bld h c)
theorem low_len (k : Str) (l : List Pr) : (low k l).length + (high k l).length ≤ l.length := by
  induction l with
  | nil => simp [low, high]
  | cons p l ih =>
    rw [low_cons, high_cons]
    by_cases h1 : sl p.1 k = true
    · rw [if_pos h1, if_neg (by rw [sl_asymm h1]; exact Bool.false_ne_true)]
      simp only [List.length_cons]; omega
    · rw [if_neg h1]
      split <;> simp only [List.length_cons] <;> omega
theorem apP_len (l : List Pr) (c : Cg) : (apP l c).length ≤ l.length + 1 := by
  have := low_len c.k l
  unfold apP delP setP
  split
  · rw [List.length_append]; omega
  · rw [List.length_append, List.length_cons]; omega
theorem aft_len : ∀ (cs : List Cg) (l : List Pr), (aft l cs).length ≤ l.length + cs.length
  | [], _ => Nat.le_refl _
  | c :: cs, l => by
    have h1 := aft_len cs (apP l c)
    have h2 := apP_len l c
    show (aft (apP l c) cs).length ≤ _
    rw [List.length_cons]; omega
/-- Pairs of keys and values that are not too long. -/
def OkP (l : List Pr) : Prop := ∀ p ∈ l, p.1.size ≤ 12 ∧ p.2.size ≤ 24
def OkC (cs : List Cg) : Prop := ∀ c ∈ cs, c.k.size ≤ 12 ∧ c.v.size ≤ 24
theorem apP_ok {l : List Pr} (h : OkP l) {c : Cg} (hc : c.k.size ≤ 12 ∧ c.v.size ≤ 24) : OkP (apP l c) := by
  intro p hp
  unfold apP delP setP at hp
  split at hp
  · rcases List.mem_append.1 hp with hp | hp
    · exact h p (List.mem_filter.1 hp).1
    · exact h p (List.mem_filter.1 hp).1
  · rcases List.mem_append.1 hp with hp | hp
    · exact h p (List.mem_filter.1 hp).1
    · rcases List.mem_cons.1 hp with rfl | hp
      · exact hc
      · exact h p (List.mem_filter.1 hp).1
theorem aft_ok : ∀ (cs : List Cg) {l : List Pr}, OkP l → OkC cs → OkP (aft l cs)
  | [], _, h, _ => h
  | c :: cs, _, h, hc => aft_ok cs (apP_ok h (hc c List.mem_cons_self)) fun d hd => hc d (List.mem_cons_of_mem _ hd)
theorem aft_take_succ (l : List Pr) (cs : List Cg) {j : Nat} (hj : j < cs.length) : aft l (cs.take (j + 1)) = apP (aft l (cs.take j)) cs[j] := by
  unfold aft
  rw [List.take_succ_eq_append_getElem hj, List.foldl_append]
  rfl
theorem aftT_take_succ (t : Tr) (cs : List Cg) {j : Nat} (hj : j < cs.length) : aftT t (cs.take (j + 1)) = apC (aftT t (cs.take j)) cs[j] := by
  unfold aftT
  rw [List.take_succ_eq_append_getElem hj, List.foldl_append]
  rfl
/-- A disk's acts: Write after Write, and a Sync. -/
def putB (bl : List (List (List Nat))) (p : Nat × List Nat) : List (List (List Nat)) := bl.set p.1 (bl.getD p.1 [] ++ [p.2])
end Go.Proofs.Tb

