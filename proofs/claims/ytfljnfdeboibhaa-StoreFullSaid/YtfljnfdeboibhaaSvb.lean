/- The fresh nodes of a tree, and their blocks; a disk's acts. -/
import Derived.Test.YtfljnfdeboibhaaSub
import Derived.Test.YtfljnfdeboibhaaSva
set_option linter.unusedVariables false
set_option linter.unusedSimpArgs false
namespace Go.Proofs.Tb
open Go.Maps Go.RowKit

theorem TrW.imp {w : World} {B : Nat → Nat} {Q Q' : Nat → Prop} : ∀ {t : MT}, TrW w B Q t → (∀ g, g < w.heap.size → Q g → Q' g) → TrW w B Q' t
  | .nil, _, _ => trivial
  | .node _ _ _ _ _, ⟨h1, h2, h3, h4⟩, h => ⟨h1, h _ h1.lt h2, h3.imp h, h4.imp h⟩
namespace MT
def g0 : MT → Nat
  | nil => 0
  | node g _ _ _ _ => g
def ads : MT → List Nat
  | nil => []
  | node g _ _ l r => l.ads ++ r.ads ++ [g]
/-- The subtrees whose roots stand on no block, those beneath ahead of those above. -/
def frs (B : Nat → Nat) : MT → List MT
  | nil => []
  | node g k v l r => if 0 < B g then [] else l.frs B ++ r.frs B ++ [node g k v l r]
theorem frs_fr (B : Nat → Nat) : ∀ t : MT, (t.frs B).map g0 = t.fr B
  | nil => rfl
  | node g k v l r => by
    simp only [frs, fr]
    split
    · rfl
    · rw [List.map_append, List.map_append, frs_fr B l, frs_fr B r]
      rfl
theorem frs_len (B : Nat → Nat) (t : MT) : (t.frs B).length = (t.fr B).length := by rw [← frs_fr, List.length_map]
theorem fr_sub (B : Nat → Nat) : ∀ t : MT, (t.fr B).Sublist t.ads
  | nil => List.Sublist.refl _
  | node g k v l r => by
    simp only [fr, ads]
    split
    · exact List.nil_sublist _
    · exact ((fr_sub B l).append (fr_sub B r)).append (List.Sublist.refl _)
theorem fr_zero (B : Nat → Nat) : ∀ (t : MT) (g : Nat), g ∈ t.fr B → B g = 0
  | nil, _, h => by cases h
  | node g' k v l r, g, h => by
    simp only [fr] at h
    split at h
    · cases h
    · rcases List.mem_append.1 h with h | h
      · rcases List.mem_append.1 h with h | h
        · exact fr_zero B l g h
        · exact fr_zero B r g h
      · rw [List.mem_singleton.1 h]; omega
theorem fr_root {B : Nat → Nat} {g : Nat} {k v : Str} {l r : MT} (h : B g = 0) : g ∈ (node g k v l r).fr B := by
  simp only [fr]
  rw [if_neg (by omega)]
  simp
end MT
/-- The key that lies at a node's place. -/
def keyW (w : World) (g : Nat) : Str :=
  match w.heap[g]? with
  | some (Obj.cells cs _ _) => match cs.toList with
    | Value.string s :: _ => s
    | _ => default
  | _ => default
theorem TrW.keys {w : World} {B : Nat → Nat} {Q : Nat → Prop} : ∀ {t : MT}, TrW w B Q t → (t.ads.map (keyW w)).Perm (t.er.prs.map fun p => p.1)
  | .nil, _ => List.Perm.refl _
  | .node g k v l r, ⟨h1, _, h3, h4⟩ => by
    have ek : keyW w g = k := by unfold keyW; unfold Blk at h1; rw [h1]
    show ((l.ads ++ r.ads ++ [g]).map (keyW w)).Perm ((l.er.prs ++ (k, v) :: r.er.prs).map fun p => p.1)
    rw [List.map_append, List.map_append, List.map_append, List.map_cons, List.map_cons, List.map_nil, ek]
    have p1 := h3.keys
    have p2 := h4.keys
    refine List.Perm.trans ((p1.append p2).append (List.Perm.refl [k])) ?_
    rw [List.append_assoc]
    refine List.Perm.append_left _ ?_
    exact List.perm_append_comm
theorem TrW.nodup {w : World} {B : Nat → Nat} {Q : Nat → Prop} {t : MT} (h : TrW w B Q t) (hs : Srtd t.er.prs) : t.ads.Pairwise (· ≠ ·) := by
  have h1 : (t.er.prs.map fun p => p.1).Pairwise (· ≠ ·) := by
    rw [List.pairwise_map]
    exact hs.imp fun h => sl_ne h
  have h2 := h.keys.symm.pairwise h1 (fun h => Ne.symm h)
  rw [List.pairwise_map] at h2
  exact h2.imp fun hne e => hne (by rw [e])
theorem TrW.fr_nodup {w : World} {B : Nat → Nat} {Q : Nat → Prop} {t : MT} (h : TrW w B Q t) (hs : Srtd t.er.prs) : (t.fr B).Pairwise (· ≠ ·) := (h.nodup hs).sublist (MT.fr_sub B t)
/-- A child that is nothing, stands on a block, or is among these. -/
def Chd (B : Nat → Nat) (gs : List Nat) (c : MT) : Prop := c = .nil ∨ (c ≠ .nil ∧ 0 < B c.g0) ∨ c.g0 ∈ gs
theorem Chd.mono {B : Nat → Nat} {gs gs' : List Nat} {c : MT} (h : Chd B gs c) (hs : ∀ g ∈ gs, g ∈ gs') : Chd B gs' c := by
  rcases h with h | h | h
  · exact Or.inl h
  · exact Or.inr (Or.inl h)
  · exact Or.inr (Or.inr (hs _ h))
theorem Chd.of_fr (B : Nat → Nat) (c : MT) : Chd B (c.fr B) c := by
  cases c with
  | nil => exact Or.inl rfl
  | node g k v l r =>
    by_cases h : B g = 0
    · exact Or.inr (Or.inr (MT.fr_root h))
    · exact Or.inr (Or.inl ⟨(by intro e; cases e), by show 0 < B g; omega⟩)
/-- A fresh subtree: a node, its parts, and where they stand. -/
structure FrAt (w : World) (B : Nat → Nat) (Q : Nat → Prop) (t u : MT) (gs : List Nat) : Prop where
  ex : ∃ g k v l r, u = .node g k v l r ∧ B g = 0 ∧ Chd B gs l ∧ Chd B gs r
  tr : TrW w B Q u
  sz : u.er.size ≤ t.er.size
  pr : ∀ p ∈ u.er.prs, p ∈ t.er.prs
theorem TrW.frs_at {w : World} {B : Nat → Nat} {Q : Nat → Prop} : ∀ {t : MT}, TrW w B Q t → ∀ (j : Nat) (hj : j < (t.frs B).length), FrAt w B Q t ((t.frs B)[j]) ((t.fr B).take j)
  | .nil, _, j, hj => by simp [MT.frs] at hj
  | .node g k v l r, h, j, hj => by
    by_cases hB : 0 < B g
    · simp only [MT.frs, if_pos hB] at hj
      simp at hj
    · have e1 : (MT.node g k v l r).frs B = l.frs B ++ r.frs B ++ [.node g k v l r] := by simp only [MT.frs]; rw [if_neg hB]
      have e2 : (MT.node g k v l r).fr B = l.fr B ++ r.fr B ++ [g] := by simp only [MT.fr]; rw [if_neg hB]
      have hll := MT.frs_len B l
      have hlr := MT.frs_len B r
      have hpr : (MT.node g k v l r).er.prs = l.er.prs ++ (k, v) :: r.er.prs := rfl
      have hsz : (MT.node g k v l r).er.size = l.er.size + r.er.size + 1 := rfl
      rw [e1, List.length_append, List.length_append, List.length_singleton] at hj
      have hx : ((MT.node g k v l r).frs B)[j]? = some ((MT.node g k v l r).frs B)[j] := List.getElem?_eq_getElem _
      generalize ((MT.node g k v l r).frs B)[j] = u at hx ⊢
      rw [e1] at hx
      rw [e2]
      by_cases c1 : j < (l.frs B).length
      · rw [List.append_assoc, List.getElem?_append_left c1, List.getElem?_eq_getElem c1] at hx
        injection hx with hx
        obtain ⟨q1, q2, q3, q4⟩ := h.2.2.1.frs_at j c1
        rw [hx] at q1 q2 q3 q4
        obtain ⟨a1, a2, a3, a4, a5, a6, a7, a8, a9⟩ := q1
        have hs : ∀ g' ∈ (l.fr B).take j, g' ∈ (l.fr B ++ r.fr B ++ [g]).take j := fun g' hg' => by
          rw [List.append_assoc, List.take_append_of_le_length (by omega)]; exact hg'
        exact ⟨⟨a1, a2, a3, a4, a5, a6, a7, a8.mono hs, a9.mono hs⟩, q2, by omega, fun p hp => by rw [hpr]; exact List.mem_append_left _ (q4 p hp)⟩
      · by_cases c2 : j < (l.frs B).length + (r.frs B).length
        · have c3 : j - (l.frs B).length < (r.frs B).length := by omega
          rw [List.append_assoc, List.getElem?_append_right (by omega), List.getElem?_append_left c3, List.getElem?_eq_getElem c3] at hx
          injection hx with hx
          obtain ⟨q1, q2, q3, q4⟩ := h.2.2.2.frs_at _ c3
          rw [hx] at q1 q2 q3 q4
          obtain ⟨a1, a2, a3, a4, a5, a6, a7, a8, a9⟩ := q1
          have hs : ∀ g' ∈ (r.fr B).take (j - (l.frs B).length), g' ∈ (l.fr B ++ r.fr B ++ [g]).take j := fun g' hg' => by
            rw [List.append_assoc, List.take_append, List.mem_append]
            right
            rw [List.take_append_of_le_length (by omega), ← hll]
            exact hg'
          exact ⟨⟨a1, a2, a3, a4, a5, a6, a7, a8.mono hs, a9.mono hs⟩, q2, by omega, fun p hp => by rw [hpr]; exact List.mem_append_right _ (List.mem_cons_of_mem _ (q4 p hp))⟩
        · have c3 : j - (l.frs B).length - (r.frs B).length = 0 := by omega
          rw [List.append_assoc, List.getElem?_append_right (by omega), List.getElem?_append_right (by omega), c3] at hx
          injection hx with hx
          subst hx
          have hs : ∀ g' ∈ l.fr B ++ r.fr B, g' ∈ (l.fr B ++ r.fr B ++ [g]).take j := fun g' hg' => by
            rw [List.take_append_of_le_length (by rw [List.length_append]; omega), List.take_of_length_le (by rw [List.length_append]; omega)]
            exact hg'
          exact ⟨⟨g, k, v, l, r, rfl, by omega, (Chd.of_fr B l).mono fun g' hg' => hs g' (List.mem_append_left _ hg'), (Chd.of_fr B r).mono fun g' hg' => hs g' (List.mem_append_right _ hg')⟩, h, Nat.le_refl _, fun p hp => hp⟩
/-- Places get blocks. -/
def asg (B : Nat → Nat) : List Nat → List Nat → Nat → Nat
  | g :: gs, f :: fs, a => if a = g then f else asg B gs fs a
  | _, _, a => B a
theorem asg_nil (B : Nat → Nat) (fs : List Nat) : asg B [] fs = B := by funext a; cases fs <;> rfl
theorem asg_not {B : Nat → Nat} : ∀ {gs fs : List Nat} {a : Nat}, a ∉ gs → asg B gs fs a = B a
  | [], fs, a, _ => by rw [asg_nil]
  | g :: gs, [], a, _ => rfl
  | g :: gs, f :: fs, a, h => by
    rw [List.mem_cons] at h
    show (if a = g then f else asg B gs fs a) = _
    rw [if_neg (fun e => h (Or.inl e)), asg_not fun e => h (Or.inr e)]
theorem asg_take {B : Nat → Nat} : ∀ {gs fs : List Nat} {a : Nat} (j : Nat), a ∈ gs.take j → asg B (gs.take j) fs a = asg B gs fs a
  | [], fs, a, j, h => by simp at h
  | g :: gs, [], a, j, h => by cases j <;> rfl
  | g :: gs, f :: fs, a, 0, h => by simp at h
  | g :: gs, f :: fs, a, j + 1, h => by
    show (if a = g then f else asg B (gs.take j) fs a) = if a = g then f else asg B gs fs a
    by_cases e : a = g
    · rw [if_pos e, if_pos e]
    · rw [if_neg e, if_neg e]
      rw [List.take_succ_cons] at h
      exact asg_take j ((List.mem_cons.1 h).resolve_left e)
theorem asg_at {B : Nat → Nat} : ∀ {gs fs : List Nat} (j : Nat) (hj : j < gs.length) (hf : j < fs.length), gs.Pairwise (· ≠ ·) → asg B gs fs gs[j] = fs[j]
  | g :: gs, f :: fs, 0, _, _, _ => if_pos rfl
  | g :: gs, f :: fs, j + 1, hj, hf, hp => by
    obtain ⟨h1, h2⟩ := List.pairwise_cons.1 hp
    have hj' : j < gs.length := by simpa using hj
    have hf' : j < fs.length := by simpa using hf
    show (if gs[j] = g then f else asg B gs fs gs[j]) = fs[j]
    rw [if_neg (fun e => h1 _ (List.getElem_mem hj') e.symm)]
    exact asg_at j hj' hf' h2
theorem asg_succ {B : Nat → Nat} {gs fs : List Nat} {j : Nat} (hj : j < gs.length) (hf : j < fs.length) (hp : gs.Pairwise (· ≠ ·)) : asg B (gs.take (j + 1)) fs = fun a => if a = gs[j] then fs[j] else asg B (gs.take j) fs a := by
  funext a
  by_cases e : a = gs[j]
  · rw [if_pos e, e]
    have h1 : gs[j] ∈ gs.take (j + 1) := by rw [List.take_succ_eq_append_getElem hj, List.mem_append]; exact Or.inr (List.mem_singleton.2 rfl)
    rw [asg_take _ h1, asg_at j hj hf hp]
  · rw [if_neg e]
    by_cases h : a ∈ gs.take j
    · have h1 : a ∈ gs.take (j + 1) := by rw [List.take_succ_eq_append_getElem hj]; exact List.mem_append_left _ h
      rw [asg_take _ h1, asg_take _ h]
    · rw [asg_not h, asg_not fun h1 => by
        rw [List.take_succ_eq_append_getElem hj, List.mem_append, List.mem_singleton] at h1
        exact h1.elim h e]
theorem asg_le {B : Nat → Nat} {m : Nat} (hB : ∀ a, B a ≤ m) : ∀ {gs fs : List Nat}, (∀ f ∈ fs, f ≤ m) → ∀ a, asg B gs fs a ≤ m
  | [], fs, _, a => by rw [asg_nil]; exact hB a
  | g :: gs, [], _, a => hB a
  | g :: gs, f :: fs, h, a => by
    show (if a = g then f else asg B gs fs a) ≤ m
    split
    · exact h f List.mem_cons_self
    · exact asg_le hB (fun x hx => h x (List.mem_cons_of_mem _ hx)) a
/-- One node is told its block. -/
theorem TrW.upd {w : World} {B : Nat → Nat} {Q : Nat → Prop} {g b : Nat} : ∀ {t : MT}, TrW w B Q t → TrW (w.setCell ⟨g, 5, none⟩ (.int .i64 (b : Int))) (fun a => if a = g then b else B a) Q t
  | .nil, _ => trivial
  | .node g' k v l r, ⟨h1, h2, h3, h4⟩ => by
    refine ⟨?_, h2, h3.upd, h4.upd⟩
    show Blk _ g' TNO #[.string k, .string v, .pointer l.ad, .pointer r.ad, .int .i64 ((1 + max l.er.ht r.er.ht : Nat) : Int), .int .i64 (((if g' = g then b else B g') : Nat) : Int)]
    by_cases e : g' = g
    · subst e
      have := h1.set_ 5 (.int .i64 (b : Int))
      rw [if_pos rfl]
      exact this
    · rw [if_neg e]
      exact h1.far (p := ⟨g, 5, none⟩) e _
/-- .. and its block's bytes. -/
def ptB (B : Nat → Nat) : MT → Nat × List Nat
  | .nil => (0, [])
  | .node g k v l r => (B g, blkB (nodB k v (l.bk B) (r.bk B) (1 + max l.er.ht r.er.ht)))
theorem bk_asg {B : Nat → Nat} {gs fs : List Nat} {c : MT} (hz : ∀ g ∈ gs, B g = 0) (j : Nat) (h : Chd B (gs.take j) c) : c.bk (asg B (gs.take j) fs) = c.bk (asg B gs fs) := by
  cases c with
  | nil => rfl
  | node g k v l r =>
    show asg B (gs.take j) fs g = asg B gs fs g
    rcases h with h | ⟨_, h⟩ | h
    · cases h
    · have h' : 0 < B g := h
      have hn : g ∉ gs := fun hm => by have := hz g hm; omega
      rw [asg_not hn, asg_not fun hm => hn (List.mem_of_mem_take hm)]
    · exact asg_take j h
/-- What a list of Writes and a Sync make of a disk. -/
structure Dst where
  bl : List (List (List Nat))
  dn : Bool
  lf : Nat
def wrA : List (Nat × List Nat) → List (List (List Nat)) → Nat → Dst
  | [], bl, left => ⟨if left = 1 then bl else safeB bl, decide (left = 1), left - 1⟩
  | p :: ps, bl, left => if left = 1 then ⟨putB bl p, true, 0⟩ else wrA ps (putB bl p) (left - 1)
theorem putB_len (bl : List (List (List Nat))) (p : Nat × List Nat) : (putB bl p).length = bl.length := by unfold putB; rw [List.length_set]
theorem safeB_len (bl : List (List (List Nat))) : (safeB bl).length = bl.length := by unfold safeB; rw [List.length_map, List.length_map]
theorem wrA_len : ∀ (ps : List (Nat × List Nat)) (bl : List (List (List Nat))) (left : Nat), (wrA ps bl left).bl.length = bl.length
  | [], bl, left => by
    show (if left = 1 then bl else safeB bl).length = _
    split
    · rfl
    · exact safeB_len bl
  | p :: ps, bl, left => by
    unfold wrA
    split
    · exact putB_len bl p
    · rw [wrA_len ps, putB_len]
theorem putB_few {bl : List (List (List Nat))} {p : Nat × List Nat} {m : Nat} (h : ∀ k, (bl.getD k []).length ≤ m) (k : Nat) : ((putB bl p).getD k []).length ≤ m + 1 := by
  unfold putB
  by_cases hp : p.1 < bl.length
  · rw [getD_setL _ _ _ hp]
    split
    · rw [List.length_append, List.length_singleton]
      have := h p.1
      omega
    · have := h k; omega
  · rw [List.set_eq_of_length_le (by omega)]
    have := h k; omega
theorem wrA_few : ∀ (ps : List (Nat × List Nat)) {bl : List (List (List Nat))} {left m : Nat}, (∀ k, (bl.getD k []).length ≤ m) → 1 ≤ m → ∀ k, ((wrA ps bl left).bl.getD k []).length ≤ m + ps.length
  | [], bl, left, m, h, h1, k => by
    show ((if left = 1 then bl else safeB bl).getD k []).length ≤ _
    split
    · exact h k
    · by_cases hk : k < bl.length
      · rw [safe_getD bl hk]; simpa using h1
      · rw [List.getD_eq_getElem?_getD, List.getElem?_eq_none (by rw [safeB_len]; omega)]; simp
  | p :: ps, bl, left, m, h, h1, k => by
    unfold wrA
    split
    · have := putB_few (p := p) h k
      rw [List.length_cons]
      show ((putB bl p).getD k []).length ≤ _
      omega
    · have := wrA_few ps (left := left - 1) (putB_few (p := p) h) (by omega) k
      rw [List.length_cons]
      omega
/-- The places of a tree that is being made: new ones, or nodes of trees that stand. -/
def Pos (B : Nat → Nat) (g : Nat) : Prop := 0 < B g
def Qn (w : World) (B : Nat → Nat) (P : MT → Prop) (g : Nat) : Prop := w.heap.size ≤ g ∨ ∃ t : MT, t.ad = some ⟨g, 0, none⟩ ∧ TrW w B (Pos B) t ∧ P t
theorem TrW.qn {w : World} {B : Nat → Nat} {P : MT → Prop} (hP : ∀ g k v l r, P (.node g k v l r) → P l ∧ P r) : ∀ {t : MT}, TrW w B (Pos B) t → P t → TrW w B (Qn w B P) t
  | .nil, _, _ => trivial
  | .node g k v l r, h, p => ⟨h.1, Or.inr ⟨.node g k v l r, rfl, h, p⟩, h.2.2.1.qn hP (hP _ _ _ _ _ p).1, h.2.2.2.qn hP (hP _ _ _ _ _ p).2⟩
theorem frs_qn (w : World) {B : Nat → Nat} (P : MT → Prop) (hz : ∀ a, w.heap.size ≤ a → B a = 0) : Frs w B (Qn w B P) := fun a ha => ⟨hz a ha, Or.inl ha⟩
/-- All parts of a tree. -/
def MT.subs : MT → List MT
  | .nil => [.nil]
  | .node g k v l r => .node g k v l r :: (l.subs ++ r.subs)
theorem MT.subs_self : ∀ t : MT, t ∈ t.subs
  | .nil => List.mem_cons_self
  | .node _ _ _ _ _ => List.mem_cons_self
theorem MT.subs_child {g : Nat} {k v : Str} {l r : MT} : ∀ {t : MT}, MT.node g k v l r ∈ t.subs → l ∈ t.subs ∧ r ∈ t.subs
  | .nil, h => by
    rcases List.mem_cons.1 h with h | h
    · cases h
    · cases h
  | .node g' k' v' l' r', h => by
    unfold MT.subs at h
    rcases List.mem_cons.1 h with h | h
    · injection h with _ _ _ h4 h5
      subst h4 h5
      exact ⟨List.mem_cons_of_mem _ (List.mem_append_left _ (MT.subs_self _)), List.mem_cons_of_mem _ (List.mem_append_right _ (MT.subs_self _))⟩
    · rcases List.mem_append.1 h with h | h
      · have := MT.subs_child h
        exact ⟨List.mem_cons_of_mem _ (List.mem_append_left _ this.1), List.mem_cons_of_mem _ (List.mem_append_left _ this.2)⟩
      · have := MT.subs_child h
        exact ⟨List.mem_cons_of_mem _ (List.mem_append_right _ this.1), List.mem_cons_of_mem _ (List.mem_append_right _ this.2)⟩
/-- A part of one of these versions. -/
def SubV (vs : List (Nat × MT)) (u : MT) : Prop := ∃ v ∈ vs, u ∈ v.2.subs
theorem SubV.child (vs : List (Nat × MT)) : ∀ g k v l r, SubV vs (.node g k v l r) → SubV vs l ∧ SubV vs r := fun _ _ _ _ _ ⟨x, hx, h⟩ => ⟨⟨x, hx, (MT.subs_child h).1⟩, ⟨x, hx, (MT.subs_child h).2⟩⟩
/-- New nodes above, parts of what stands beneath. -/
def Mix (B : Nat → Nat) (P : MT → Prop) : MT → Prop
  | .nil => True
  | .node g k v l r => (0 < B g ∧ P (.node g k v l r)) ∨ (B g = 0 ∧ Mix B P l ∧ Mix B P r)
theorem TrW.mix {w w1 : World} {B : Nat → Nat} {P : MT → Prop} (hx : Ext w w1) (hz : ∀ a, w.heap.size ≤ a → B a = 0) : ∀ {t : MT}, TrW w1 B (Qn w B P) t → Mix B P t
  | .nil, _ => trivial
  | .node g k v l r, h => by
    by_cases hg : 0 < B g
    · rcases h.2.1 with hge | ⟨u, hu, hut, hp⟩
      · have := hz g hge; omega
      · have e : u = .node g k v l r := (hut.below hx).inj h (by rw [hu]; rfl)
        subst e
        exact Or.inl ⟨hg, hp⟩
    · exact Or.inr ⟨by omega, h.2.2.1.mix hx hz, h.2.2.2.mix hx hz⟩
/-- A new tree stands when its fresh nodes do. -/
theorem TrW.stands {w w1 w2 : World} {B B' : Nat → Nat} {P : MT → Prop} (hx : Ext w w1) (hz : ∀ a, w.heap.size ≤ a → B a = 0) (hB : ∀ a, 0 < B a → B' a = B a) : ∀ {t : MT} {Q : Nat → Prop}, TrW w1 B (Qn w B P) t → TrW w2 B' Q t → (∀ g ∈ t.fr B, 0 < B' g) → TrW w2 B' (Pos B') t
  | .nil, _, _, _, _ => trivial
  | .node g k v l r, Q, h1, h2, hf => by
    have up : ∀ {u : MT}, TrW w1 B (Pos B) u → ∀ {Q : Nat → Prop}, TrW w2 B' Q u → TrW w2 B' (Pos B') u := by
      intro u
      induction u with
      | nil => intro _ _ _; trivial
      | node g' k' v' l' r' ihl ihr => exact fun a1 _ a2 => ⟨a2.1, by unfold Pos; rw [hB _ a1.2.1]; exact a1.2.1, ihl a1.2.2.1 a2.2.2.1, ihr a1.2.2.2 a2.2.2.2⟩
    by_cases hg : 0 < B g
    · rcases h1.2.1 with hge | ⟨u, hu, hut, _⟩
      · have := hz g hge; omega
      · have e : u = .node g k v l r := (hut.below hx).inj h1 (by rw [hu]; rfl)
        subst e
        exact up (hut.below hx) h2
    · have e2 : (MT.node g k v l r).fr B = l.fr B ++ r.fr B ++ [g] := by simp only [MT.fr]; rw [if_neg hg]
      rw [e2] at hf
      exact ⟨h2.1, hf g (by simp), h1.2.2.1.stands hx hz hB h2.2.2.1 fun g' hg' => hf g' (List.mem_append_left _ (List.mem_append_left _ hg')), h1.2.2.2.stands hx hz hB h2.2.2.2 fun g' hg' => hf g' (List.mem_append_left _ (List.mem_append_right _ hg'))⟩
end Go.Proofs.Tb
