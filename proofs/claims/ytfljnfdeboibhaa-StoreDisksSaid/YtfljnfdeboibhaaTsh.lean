/- The fresh nodes of a tree, and their blocks; a disk's acts. (With what follows it, in one text.) -/
import Derived.Test.YtfljnfdeboibhaaTsg
import Derived.Test.YtfljnfdeboibhaaTsa
set_option linter.unusedVariables false
set_option linter.unusedSimpArgs false
/- The fresh nodes of a tree, and their blocks; a disk's acts. -/
namespace Go.Proofs.Tb
open Go.Maps Go.RowKit

theorem TrW.imp {w : World} {B : Nat → Nat} {Q Q' : Nat → Prop} : ∀ {t : MT}, TrW w B Q t → (∀ g, g < w.heap.size → Q g → Q' g) → TrW w B Q' t
  | .nil, _, _ => trivial
  | .node _ _ _ _ _, ⟨h1, h2, h3, h4⟩, h => ⟨h1, h _ h1.lt h2, h3.imp h, h4.imp h⟩
namespace MT
def g0 : MT → Nat
  | nil => 0
  | node g _ _ _ _ => g
def ads : MT → List Nat
  | nil => []
  | node g _ _ l r => l.ads ++ r.ads ++ [g]
/-- The subtrees whose roots stand on no block, those beneath ahead of those above. -/
def frs (B : Nat → Nat) : MT → List MT
  | nil => []
  | node g k v l r => if 0 < B g then [] else l.frs B ++ r.frs B ++ [node g k v l r]
theorem frs_fr (B : Nat → Nat) : ∀ t : MT, (t.frs B).map g0 = t.fr B
  | nil => rfl
  | node g k v l r => by
    simp only [frs, fr]
    split
    · rfl
    · rw [List.map_append, List.map_append, frs_fr B l, frs_fr B r]
      rfl
theorem frs_len (B : Nat → Nat) (t : MT) : (t.frs B).length = (t.fr B).length := by rw [← frs_fr, List.length_map]
theorem fr_sub (B : Nat → Nat) : ∀ t : MT, (t.fr B).Sublist t.ads
  | nil => List.Sublist.refl _
  | node g k v l r => by
    simp only [fr, ads]
    split
    · exact List.nil_sublist _
    · exact ((fr_sub B l).append (fr_sub B r)).append (List.Sublist.refl _)
theorem fr_zero (B : Nat → Nat) : ∀ (t : MT) (g : Nat), g ∈ t.fr B → B g = 0
  | nil, _, h => by cases h
  | node g' k v l r, g, h => by
    simp only [fr] at h
    split at h
    · cases h
    · rcases List.mem_append.1 h with h | h
      · rcases List.mem_append.1 h with h | h
        · exact fr_zero B l g h
        · exact fr_zero B r g h
      · rw [List.mem_singleton.1 h]; omega
theorem fr_root {B : Nat → Nat} {g : Nat} {k v : Str} {l r : MT} (h : B g = 0) : g ∈ (node g k v l r).fr B := by
  simp only [fr]
  rw [if_neg (by omega)]
  simp
end MT
/-- The key that lies at a node's place. -/
def keyW (w : World) (g : Nat) : Str :=
  match w.heap[g]? with
  | some (Obj.cells cs _ _) => match cs.toList with
    | Value.string s :: _ => s
    | _ => default
  | _ => default
theorem TrW.keys {w : World} {B : Nat → Nat} {Q : Nat → Prop} : ∀ {t : MT}, TrW w B Q t → (t.ads.map (keyW w)).Perm (t.er.prs.map fun p => p.1)
  | .nil, _ => List.Perm.refl _
  | .node g k v l r, ⟨h1, _, h3, h4⟩ => by
    have ek : keyW w g = k := by unfold keyW; unfold Blk at h1; rw [h1]
    show ((l.ads ++ r.ads ++ [g]).map (keyW w)).Perm ((l.er.prs ++ (k, v) :: r.er.prs).map fun p => p.1)
    rw [List.map_append, List.map_append, List.map_append, List.map_cons, List.map_cons, List.map_nil, ek]
    have p1 := h3.keys
    have p2 := h4.keys
    refine List.Perm.trans ((p1.append p2).append (List.Perm.refl [k])) ?_
    rw [List.append_assoc]
    refine List.Perm.append_left _ ?_
    exact List.perm_append_comm
theorem TrW.nodup {w : World} {B : Nat → Nat} {Q : Nat → Prop} {t : MT} (h : TrW w B Q t) (hs : Srtd t.er.prs) : t.ads.Pairwise (· ≠ ·) := by
  have h1 : (t.er.prs.map fun p => p.1).Pairwise (· ≠ ·) := by
    rw [List.pairwise_map]
    exact hs.imp fun h => sl_ne h
  have h2 := h.keys.symm.pairwise h1 (fun h => Ne.symm h)
  rw [List.pairwise_map] at h2
  exact h2.imp fun hne e => hne (by rw [e])
theorem TrW.fr_nodup {w : World} {B : Nat → Nat} {Q : Nat → Prop} {t : MT} (h : TrW w B Q t) (hs : Srtd t.er.prs) : (t.fr B).Pairwise (· ≠ ·) := (h.nodup hs).sublist (MT.fr_sub B t)
/-- A child that is nothing, stands on a block, or is among these. -/
def Chd (B : Nat → Nat) (gs : List Nat) (c : MT) : Prop := c = .nil ∨ (c ≠ .nil ∧ 0 < B c.g0) ∨ c.g0 ∈ gs
theorem Chd.mono {B : Nat → Nat} {gs gs' : List Nat} {c : MT} (h : Chd B gs c) (hs : ∀ g ∈ gs, g ∈ gs') : Chd B gs' c := by
  rcases h with h | h | h
  · exact Or.inl h
  · exact Or.inr (Or.inl h)
  · exact Or.inr (Or.inr (hs _ h))
theorem Chd.of_fr (B : Nat → Nat) (c : MT) : Chd B (c.fr B) c := by
  cases c with
  | nil => exact Or.inl rfl
  | node g k v l r =>
    by_cases h : B g = 0
    · exact Or.inr (Or.inr (MT.fr_root h))
    · exact Or.inr (Or.inl ⟨(by intro e; cases e), by show 0 < B g; omega⟩)
/-- A fresh subtree: a node, its parts, and where they stand. -/
structure FrAt (w : World) (B : Nat → Nat) (Q : Nat → Prop) (t u : MT) (gs : List Nat) : Prop where
  ex : ∃ g k v l r, u = .node g k v l r ∧ B g = 0 ∧ Chd B gs l ∧ Chd B gs r
  tr : TrW w B Q u
  sz : u.er.size ≤ t.er.size
  pr : ∀ p ∈ u.er.prs, p ∈ t.er.prs
theorem TrW.frs_at {w : World} {B : Nat → Nat} {Q : Nat → Prop} : ∀ {t : MT}, TrW w B Q t → ∀ (j : Nat) (hj : j < (t.frs B).length), FrAt w B Q t ((t.frs B)[j]) ((t.fr B).take j)
  | .nil, _, j, hj => by simp [MT.frs] at hj
  | .node g k v l r, h, j, hj => by
    by_cases hB : 0 < B g
    · simp only [MT.frs, if_pos hB] at hj
      simp at hj
    · have e1 : (MT.node g k v l r).frs B = l.frs B ++ r.frs B ++ [.node g k v l r] := by simp only [MT.frs]; rw [if_neg hB]
      have e2 : (MT.node g k v l r).fr B = l.fr B ++ r.fr B ++ [g] := by simp only [MT.fr]; rw [if_neg hB]
      have hll := MT.frs_len B l
      have hlr := MT.frs_len B r
      have hpr : (MT.node g k v l r).er.prs = l.er.prs ++ (k, v) :: r.er.prs := rfl
      have hsz : (MT.node g k v l r).er.size = l.er.size + r.er.size + 1 := rfl
      rw [e1, List.length_append, List.length_append, List.length_singleton] at hj
      have hx : ((MT.node g k v l r).frs B)[j]? = some ((MT.node g k v l r).frs B)[j] := List.getElem?_eq_getElem _
      generalize ((MT.node g k v l r).frs B)[j] = u at hx ⊢
      rw [e1] at hx
      rw [e2]
      by_cases c1 : j < (l.frs B).length
      · rw [List.append_assoc, List.getElem?_append_left c1, List.getElem?_eq_getElem c1] at hx
        injection hx with hx
        obtain ⟨q1, q2, q3, q4⟩ := h.2.2.1.frs_at j c1
        rw [hx] at q1 q2 q3 q4
        obtain ⟨a1, a2, a3, a4, a5, a6, a7, a8, a9⟩ := q1
        have hs : ∀ g' ∈ (l.fr B).take j, g' ∈ (l.fr B ++ r.fr B ++ [g]).take j := fun g' hg' => by
          rw [List.append_assoc, List.take_append_of_le_length (by omega)]; exact hg'
        exact ⟨⟨a1, a2, a3, a4, a5, a6, a7, a8.mono hs, a9.mono hs⟩, q2, by omega, fun p hp => by rw [hpr]; exact List.mem_append_left _ (q4 p hp)⟩
      · by_cases c2 : j < (l.frs B).length + (r.frs B).length
        · have c3 : j - (l.frs B).length < (r.frs B).length := by omega
          rw [List.append_assoc, List.getElem?_append_right (by omega), List.getElem?_append_left c3, List.getElem?_eq_getElem c3] at hx
          injection hx with hx
          obtain ⟨q1, q2, q3, q4⟩ := h.2.2.2.frs_at _ c3
          rw [hx] at q1 q2 q3 q4
          obtain ⟨a1, a2, a3, a4, a5, a6, a7, a8, a9⟩ := q1
          have hs : ∀ g' ∈ (r.fr B).take (j - (l.frs B).length), g' ∈ (l.fr B ++ r.fr B ++ [g]).take j := fun g' hg' => by
            rw [List.append_assoc, List.take_append, List.mem_append]
            right
            rw [List.take_append_of_le_length (by omega), ← hll]
            exact hg'
          exact ⟨⟨a1, a2, a3, a4, a5, a6, a7, a8.mono hs, a9.mono hs⟩, q2, by omega, fun p hp => by rw [hpr]; exact List.mem_append_right _ (List.mem_cons_of_mem _ (q4 p hp))⟩
        · have c3 : j - (l.frs B).length - (r.frs B).length = 0 := by omega
          rw [List.append_assoc, List.getElem?_append_right (by omega), List.getElem?_append_right (by omega), c3] at hx
          injection hx with hx
          subst hx
          have hs : ∀ g' ∈ l.fr B ++ r.fr B, g' ∈ (l.fr B ++ r.fr B ++ [g]).take j := fun g' hg' => by
            rw [List.take_append_of_le_length (by rw [List.length_append]; omega), List.take_of_length_le (by rw [List.length_append]; omega)]
            exact hg'
          exact ⟨⟨g, k, v, l, r, rfl, by omega, (Chd.of_fr B l).mono fun g' hg' => hs g' (List.mem_append_left _ hg'), (Chd.of_fr B r).mono fun g' hg' => hs g' (List.mem_append_right _ hg')⟩, h, Nat.le_refl _, fun p hp => hp⟩
/-- Places get blocks. -/
def asg (B : Nat → Nat) : List Nat → List Nat → Nat → Nat
  | g :: gs, f :: fs, a => if a = g then f else asg B gs fs a
  | _, _, a => B a
theorem asg_nil (B : Nat → Nat) (fs : List Nat) : asg B [] fs = B := by funext a; cases fs <;> rfl
theorem asg_not {B : Nat → Nat} : ∀ {gs fs : List Nat} {a : Nat}, a ∉ gs → asg B gs fs a = B a
  | [], fs, a, _ => by rw [asg_nil]
  | g :: gs, [], a, _ => rfl
  | g :: gs, f :: fs, a, h => by
    rw [List.mem_cons] at h
    show (if a = g then f else asg B gs fs a) = _
    rw [if_neg (fun e => h (Or.inl e)), asg_not fun e => h (Or.inr e)]
theorem asg_take {B : Nat → Nat} : ∀ {gs fs : List Nat} {a : Nat} (j : Nat), a ∈ gs.take j → asg B (gs.take j) fs a = asg B gs fs a
  | [], fs, a, j, h => by simp at h
  | g :: gs, [], a, j, h => by cases j <;> rfl
  | g :: gs, f :: fs, a, 0, h => by simp at h
  | g :: gs, f :: fs, a, j + 1, h => by
    show (if a = g then f else asg B (gs.take j) fs a) = if a = g then f else asg B gs fs a
    by_cases e : a = g
    · rw [if_pos e, if_pos e]
    · rw [if_neg e, if_neg e]
      rw [List.take_succ_cons] at h
      exact asg_take j ((List.mem_cons.1 h).resolve_left e)
theorem asg_at {B : Nat → Nat} : ∀ {gs fs : List Nat} (j : Nat) (hj : j < gs.length) (hf : j < fs.length), gs.Pairwise (· ≠ ·) → asg B gs fs gs[j] = fs[j]
  | g :: gs, f :: fs, 0, _, _, _ => if_pos rfl
  | g :: gs, f :: fs, j + 1, hj, hf, hp => by
    obtain ⟨h1, h2⟩ := List.pairwise_cons.1 hp
    have hj' : j < gs.length := by simpa using hj
    have hf' : j < fs.length := by simpa using hf
    show (if gs[j] = g then f else asg B gs fs gs[j]) = fs[j]
    rw [if_neg (fun e => h1 _ (List.getElem_mem hj') e.symm)]
    exact asg_at j hj' hf' h2
theorem asg_succ {B : Nat → Nat} {gs fs : List Nat} {j : Nat} (hj : j < gs.length) (hf : j < fs.length) (hp : gs.Pairwise (· ≠ ·)) : asg B (gs.take (j + 1)) fs = fun a => if a = gs[j] then fs[j] else asg B (gs.take j) fs a := by
  funext a
  by_cases e : a = gs[j]
  · rw [if_pos e, e]
    have h1 : gs[j] ∈ gs.take (j + 1) := by rw [List.take_succ_eq_append_getElem hj, List.mem_append]; exact Or.inr (List.mem_singleton.2 rfl)
    rw [asg_take _ h1, asg_at j hj hf hp]
  · rw [if_neg e]
    by_cases h : a ∈ gs.take j
    · have h1 : a ∈ gs.take (j + 1) := by rw [List.take_succ_eq_append_getElem hj]; exact List.mem_append_left _ h
      rw [asg_take _ h1, asg_take _ h]
    · rw [asg_not h, asg_not fun h1 => by
        rw [List.take_succ_eq_append_getElem hj, List.mem_append, List.mem_singleton] at h1
        exact h1.elim h e]
theorem asg_le {B : Nat → Nat} {m : Nat} (hB : ∀ a, B a ≤ m) : ∀ {gs fs : List Nat}, (∀ f ∈ fs, f ≤ m) → ∀ a, asg B gs fs a ≤ m
  | [], fs, _, a => by rw [asg_nil]; exact hB a
  | g :: gs, [], _, a => hB a
  | g :: gs, f :: fs, h, a => by
    show (if a = g then f else asg B gs fs a) ≤ m
    split
    · exact h f List.mem_cons_self
    · exact asg_le hB (fun x hx => h x (List.mem_cons_of_mem _ hx)) a
/-- One node is told its block. -/
theorem TrW.upd {w : World} {B : Nat → Nat} {Q : Nat → Prop} {g b : Nat} : ∀ {t : MT}, TrW w B Q t → TrW (w.setCell ⟨g, 5, none⟩ (.int .i64 (b : Int))) (fun a => if a = g then b else B a) Q t
  | .nil, _ => trivial
  | .node g' k v l r, ⟨h1, h2, h3, h4⟩ => by
    refine ⟨?_, h2, h3.upd, h4.upd⟩
    show Blk _ g' TNO #[.string k, .string v, .pointer l.ad, .pointer r.ad, .int .i64 ((1 + max l.er.ht r.er.ht : Nat) : Int), .int .i64 (((if g' = g then b else B g') : Nat) : Int)]
    by_cases e : g' = g
    · subst e
      have := h1.set_ 5 (.int .i64 (b : Int))
      rw [if_pos rfl]
      exact this
    · rw [if_neg e]
      exact h1.far (p := ⟨g, 5, none⟩) e _
/-- .. and its block's bytes. -/
def ptB (B : Nat → Nat) : MT → Nat × List Nat
  | .nil => (0, [])
  | .node g k v l r => (B g, blkB (nodB k v (l.bk B) (r.bk B) (1 + max l.er.ht r.er.ht)))
theorem bk_asg {B : Nat → Nat} {gs fs : List Nat} {c : MT} (hz : ∀ g ∈ gs, B g = 0) (j : Nat) (h : Chd B (gs.take j) c) : c.bk (asg B (gs.take j) fs) = c.bk (asg B gs fs) := by
  cases c with
  | nil => rfl
  | node g k v l r =>
    show asg B (gs.take j) fs g = asg B gs fs g
    rcases h with h | ⟨_, h⟩ | h
    · cases h
    · have h' : 0 < B g := h
      have hn : g ∉ gs := fun hm => by have := hz g hm; omega
      rw [asg_not hn, asg_not fun hm => hn (List.mem_of_mem_take hm)]
    · exact asg_take j h
/-- What a list of Writes and a Sync make of a disk. -/
structure Dst where
  bl : List (List (List Nat))
  dn : Bool
  lf : Nat
def wrA : List (Nat × List Nat) → List (List (List Nat)) → Nat → Dst
  | [], bl, left => ⟨if left = 1 then bl else safeB bl, decide (left = 1), left - 1⟩
  | p :: ps, bl, left => if left = 1 then ⟨putB bl p, true, 0⟩ else wrA ps (putB bl p) (left - 1)
theorem putB_len (bl : List (List (List Nat))) (p : Nat × List Nat) : (putB bl p).length = bl.length := by unfold putB; rw [List.length_set]
theorem safeB_len (bl : List (List (List Nat))) : (safeB bl).length = bl.length := by unfold safeB; rw [List.length_map, List.length_map]
theorem wrA_len : ∀ (ps : List (Nat × List Nat)) (bl : List (List (List Nat))) (left : Nat), (wrA ps bl left).bl.length = bl.length
  | [], bl, left => by
    show (if left = 1 then bl else safeB bl).length = _
    split
    · rfl
    · exact safeB_len bl
  | p :: ps, bl, left => by
    unfold wrA
    split
    · exact putB_len bl p
    · rw [wrA_len ps, putB_len]
theorem putB_few {bl : List (List (List Nat))} {p : Nat × List Nat} {m : Nat} (h : ∀ k, (bl.getD k []).length ≤ m) (k : Nat) : ((putB bl p).getD k []).length ≤ m + 1 := by
  unfold putB
  by_cases hp : p.1 < bl.length
  · rw [getD_setL _ _ _ hp]
    split
    · rw [List.length_append, List.length_singleton]
      have := h p.1
      omega
    · have := h k; omega
  · rw [List.set_eq_of_length_le (by omega)]
    have := h k; omega
theorem wrA_few : ∀ (ps : List (Nat × List Nat)) {bl : List (List (List Nat))} {left m : Nat}, (∀ k, (bl.getD k []).length ≤ m) → 1 ≤ m → ∀ k, ((wrA ps bl left).bl.getD k []).length ≤ m + ps.length
  | [], bl, left, m, h, h1, k => by
    show ((if left = 1 then bl else safeB bl).getD k []).length ≤ _
    split
    · exact h k
    · by_cases hk : k < bl.length
      · rw [safe_getD bl hk]; simpa using h1
      · rw [List.getD_eq_getElem?_getD, List.getElem?_eq_none (by rw [safeB_len]; omega)]; simp
  | p :: ps, bl, left, m, h, h1, k => by
    unfold wrA
    split
    · have := putB_few (p := p) h k
      rw [List.length_cons]
      show ((putB bl p).getD k []).length ≤ _
      omega
    · have := wrA_few ps (left := left - 1) (putB_few (p := p) h) (by omega) k
      rw [List.length_cons]
      omega
/-- The places of a tree that is being made: new ones, or nodes of trees that stand. -/
def Pos (B : Nat → Nat) (g : Nat) : Prop := 0 < B g
def Qn (w : World) (B : Nat → Nat) (P : MT → Prop) (g : Nat) : Prop := w.heap.size ≤ g ∨ ∃ t : MT, t.ad = some ⟨g, 0, none⟩ ∧ TrW w B (Pos B) t ∧ P t
theorem TrW.qn {w : World} {B : Nat → Nat} {P : MT → Prop} (hP : ∀ g k v l r, P (.node g k v l r) → P l ∧ P r) : ∀ {t : MT}, TrW w B (Pos B) t → P t → TrW w B (Qn w B P) t
  | .nil, _, _ => trivial
  | .node g k v l r, h, p => ⟨h.1, Or.inr ⟨.node g k v l r, rfl, h, p⟩, h.2.2.1.qn hP (hP _ _ _ _ _ p).1, h.2.2.2.qn hP (hP _ _ _ _ _ p).2⟩
theorem frs_qn (w : World) {B : Nat → Nat} (P : MT → Prop) (hz : ∀ a, w.heap.size ≤ a → B a = 0) : Frs w B (Qn w B P) := fun a ha => ⟨hz a ha, Or.inl ha⟩
/-- All parts of a tree. -/
def MT.subs : MT → List MT
  | .nil => [.nil]
  | .node g k v l r => .node g k v l r :: (l.subs ++ r.subs)
theorem MT.subs_self : ∀ t : MT, t ∈ t.subs
  | .nil => List.mem_cons_self
  | .node _ _ _ _ _ => List.mem_cons_self
theorem MT.subs_child {g : Nat} {k v : Str} {l r : MT} : ∀ {t : MT}, MT.node g k v l r ∈ t.subs → l ∈ t.subs ∧ r ∈ t.subs
  | .nil, h => by
    rcases List.mem_cons.1 h with h | h
    · cases h
    · cases h
  | .node g' k' v' l' r', h => by
    unfold MT.subs at h
    rcases List.mem_cons.1 h with h | h
    · injection h with _ _ _ h4 h5
      subst h4 h5
      exact ⟨List.mem_cons_of_mem _ (List.mem_append_left _ (MT.subs_self _)), List.mem_cons_of_mem _ (List.mem_append_right _ (MT.subs_self _))⟩
    · rcases List.mem_append.1 h with h | h
      · have := MT.subs_child h
        exact ⟨List.mem_cons_of_mem _ (List.mem_append_left _ this.1), List.mem_cons_of_mem _ (List.mem_append_left _ this.2)⟩
      · have := MT.subs_child h
        exact ⟨List.mem_cons_of_mem _ (List.mem_append_right _ this.1), List.mem_cons_of_mem _ (List.mem_append_right _ this.2)⟩
/-- A part of one of these versions. -/
def SubV (vs : List (Nat × MT)) (u : MT) : Prop := ∃ v ∈ vs, u ∈ v.2.subs
theorem SubV.child (vs : List (Nat × MT)) : ∀ g k v l r, SubV vs (.node g k v l r) → SubV vs l ∧ SubV vs r := fun _ _ _ _ _ ⟨x, hx, h⟩ => ⟨⟨x, hx, (MT.subs_child h).1⟩, ⟨x, hx, (MT.subs_child h).2⟩⟩
/-- New nodes above, parts of what stands beneath. -/
def Mix (B : Nat → Nat) (P : MT → Prop) : MT → Prop
  | .nil => True
  | .node g k v l r => (0 < B g ∧ P (.node g k v l r)) ∨ (B g = 0 ∧ Mix B P l ∧ Mix B P r)
theorem TrW.mix {w w1 : World} {B : Nat → Nat} {P : MT → Prop} (hx : Ext w w1) (hz : ∀ a, w.heap.size ≤ a → B a = 0) : ∀ {t : MT}, TrW w1 B (Qn w B P) t → Mix B P t
  | .nil, _ => trivial
  | .node g k v l r, h => by
    by_cases hg : 0 < B g
    · rcases h.2.1 with hge | ⟨u, hu, hut, hp⟩
      · have := hz g hge; omega
      · have e : u = .node g k v l r := (hut.below hx).inj h (by rw [hu]; rfl)
        subst e
        exact Or.inl ⟨hg, hp⟩
    · exact Or.inr ⟨by omega, h.2.2.1.mix hx hz, h.2.2.2.mix hx hz⟩
/-- A new tree stands when its fresh nodes do. -/
theorem TrW.stands {w w1 w2 : World} {B B' : Nat → Nat} {P : MT → Prop} (hx : Ext w w1) (hz : ∀ a, w.heap.size ≤ a → B a = 0) (hB : ∀ a, 0 < B a → B' a = B a) : ∀ {t : MT} {Q : Nat → Prop}, TrW w1 B (Qn w B P) t → TrW w2 B' Q t → (∀ g ∈ t.fr B, 0 < B' g) → TrW w2 B' (Pos B') t
  | .nil, _, _, _, _ => trivial
  | .node g k v l r, Q, h1, h2, hf => by
    have up : ∀ {u : MT}, TrW w1 B (Pos B) u → ∀ {Q : Nat → Prop}, TrW w2 B' Q u → TrW w2 B' (Pos B') u := by
      intro u
      induction u with
      | nil => intro _ _ _; trivial
      | node g' k' v' l' r' ihl ihr => exact fun a1 _ a2 => ⟨a2.1, by unfold Pos; rw [hB _ a1.2.1]; exact a1.2.1, ihl a1.2.2.1 a2.2.2.1, ihr a1.2.2.2 a2.2.2.2⟩
    by_cases hg : 0 < B g
    · rcases h1.2.1 with hge | ⟨u, hu, hut, _⟩
      · have := hz g hge; omega
      · have e : u = .node g k v l r := (hut.below hx).inj h1 (by rw [hu]; rfl)
        subst e
        exact up (hut.below hx) h2
    · have e2 : (MT.node g k v l r).fr B = l.fr B ++ r.fr B ++ [g] := by simp only [MT.fr]; rw [if_neg hg]
      rw [e2] at hf
      exact ⟨h2.1, hf g (by simp), h1.2.2.1.stands hx hz hB h2.2.2.1 fun g' hg' => hf g' (List.mem_append_left _ (List.mem_append_left _ hg')), h1.2.2.2.stands hx hz hB h2.2.2.2 fun g' hg' => hf g' (List.mem_append_left _ (List.mem_append_right _ hg'))⟩
end Go.Proofs.Tb
/- Rows of pairs and of changes, and rows of such rows. -/
namespace Go.Proofs.Tb
open Go.Maps Go.RowKit

abbrev TPA : TypeId := 62
abbrev TPS : TypeId := 47
abbrev TPV : TypeId := 26
abbrev TCG : TypeId := 37
abbrev TCS : TypeId := 23
theorem pa_info : (Try.prog.info? TPA).map (fun i => (i.zero, i.size, i.bytes)) = some (some (.agg #[.string ByteArray.empty, .string ByteArray.empty]), 2, 32) := by kernel_rfl
theorem ps_info : (Try.prog.info? TPS).map (fun i => (i.zero, i.size, i.bytes)) = some (some (.slice none 0 0), 1, 24) := by kernel_rfl
theorem cg_info : (Try.prog.info? TCG).map (fun i => (i.zero, i.size, i.bytes)) = some (some (.agg #[.string ByteArray.empty, .string ByteArray.empty, .bool false]), 3, 40) := by kernel_rfl
/-- The cells of pairs, and of changes. -/
def pcs (l : List Pr) : List Value := (l.map fun p => [Value.string p.1, .string p.2]).flatten
def ccs (l : List Cg) : List Value := (l.map fun c => [Value.string c.k, .string c.v, .bool c.gone]).flatten
theorem pcs_app (a b : List Pr) : pcs (a ++ b) = pcs a ++ pcs b := by unfold pcs; rw [List.map_append, List.flatten_append]
theorem ccs_app (a b : List Cg) : ccs (a ++ b) = ccs a ++ ccs b := by unfold ccs; rw [List.map_append, List.flatten_append]
theorem pcs_len : ∀ l : List Pr, (pcs l).length = l.length * 2
  | [] => rfl
  | p :: l => by
    have := pcs_len l
    show (Value.string p.1 :: .string p.2 :: pcs l).length = _
    simp only [List.length_cons]; omega
theorem ccs_len : ∀ l : List Cg, (ccs l).length = l.length * 3
  | [] => rfl
  | c :: l => by
    have := ccs_len l
    show (Value.string c.k :: .string c.v :: .bool c.gone :: ccs l).length = _
    simp only [List.length_cons]; omega
theorem pcs_one (l : List Pr) : ∀ u ∈ pcs l, u.oneCell' = true := fun u hu => by
  unfold pcs at hu
  rw [List.mem_flatten] at hu
  obtain ⟨x, hx, hu⟩ := hu
  obtain ⟨p, _, rfl⟩ := List.mem_map.1 hx
  simp only [List.mem_cons, List.not_mem_nil, or_false] at hu
  rcases hu with rfl | rfl <;> rfl
theorem ccs_one (l : List Cg) : ∀ u ∈ ccs l, u.oneCell' = true := fun u hu => by
  unfold ccs at hu
  rw [List.mem_flatten] at hu
  obtain ⟨x, hx, hu⟩ := hu
  obtain ⟨p, _, rfl⟩ := List.mem_map.1 hx
  simp only [List.mem_cons, List.not_mem_nil, or_false] at hu
  rcases hu with rfl | rfl | rfl <;> rfl
theorem pcs_at : ∀ (l : List Pr) (i : Nat) (hi : i < l.length), (pcs l)[i * 2]? = some (.string (l[i]).1) ∧ (pcs l)[i * 2 + 1]? = some (.string (l[i]).2)
  | p :: l, 0, _ => ⟨rfl, rfl⟩
  | p :: l, i + 1, hi => by
    have := pcs_at l i (by simpa using hi)
    have e : pcs (p :: l) = .string p.1 :: .string p.2 :: pcs l := rfl
    rw [e, show (i + 1) * 2 = i * 2 + 1 + 1 by omega, show i * 2 + 1 + 1 + 1 = (i * 2 + 1) + 1 + 1 by omega]
    simp only [List.getElem?_cons_succ, List.getElem_cons_succ]
    exact this
theorem ccs_at : ∀ (l : List Cg) (i : Nat) (hi : i < l.length), (ccs l)[i * 3]? = some (.string (l[i]).k) ∧ (ccs l)[i * 3 + 1]? = some (.string (l[i]).v) ∧ (ccs l)[i * 3 + 2]? = some (.bool (l[i]).gone)
  | p :: l, 0, _ => ⟨rfl, rfl, rfl⟩
  | p :: l, i + 1, hi => by
    have := ccs_at l i (by simpa using hi)
    have e : ccs (p :: l) = .string p.k :: .string p.v :: .bool p.gone :: ccs l := rfl
    rw [e, show (i + 1) * 3 = i * 3 + 1 + 1 + 1 by omega, show i * 3 + 1 + 1 + 1 + 1 = (i * 3 + 1) + 1 + 1 + 1 by omega, show i * 3 + 1 + 1 + 1 + 2 = (i * 3 + 2) + 1 + 1 + 1 by omega]
    simp only [List.getElem?_cons_succ, List.getElem_cons_succ]
    exact this
/-- A row of pairs, a row of changes: whole rows from their block's beginning on. -/
def OwP (base : Nat) (w : World) (v : Value) (l : List Pr) : Prop := w.ownsRow base TPA 2 v l.length (pcs l)
def OwC (base : Nat) (w : World) (v : Value) (l : List Cg) : Prop := w.ownsRow base TCG 3 v l.length (ccs l)
theorem wp_appP {o : Oper} {a : Act} {K : Act → World → Prop} {Q : Exit → Act → World → Prop} {w : World} (s x : Operand)
    (ho : o.op = .call { callee := .builtin .append, args := #[s, x], argTypes := #[TPS, TPS] }) (base : Nat) (v : Value) (l : List Pr) (hs : a.eval s = v) (hown : OwP base w v l)
    (A : Option Addr) (m c : Nat) (l2 : List Pr) (hx : a.eval x = .slice A m c) (hr : Rv w 2 A m c (pcs l2)) (hn : l.length ≤ 1000000) (hm : m ≤ 1000000) (hbase : base ≤ w.heap.size)
    (h : ∀ A' n' c' w', OwP base w' (.slice A' n' c') (l ++ l2) → Rv w' 2 A' n' c' (pcs (l ++ l2)) → Below base w w' → w.grownBy w' v.ownBlock → K (a.put o.dst (.slice A' n' c')) w') : Oper.wp Try.prog o a w K Q := by
  have hml : l2.length = m := by have := hr.len; rw [pcs_len] at this; omega
  refine wp_appR TPS TPA _ 2 32 pa_info Try.underlying47 rfl (by omega) (by omega) s x ho base v l.length (pcs l) hs hown A m c (pcs l2) hx hr (pcs_one _) hn hm hbase ?_
  intro v3 w3 hrow hgr hbel
  have hO : OwP base w3 v3 (l ++ l2) := by
    unfold OwP
    rw [List.length_append, hml, pcs_app]
    exact hrow
  obtain ⟨A', c', e, hr'⟩ := own_rv hO
  subst e
  exact h _ _ _ _ hO hr' hbel hgr
theorem wpl_appP {ops : Array Oper} {rest : List Oper} {o : Oper} {a : Act} {Q : Exit → Act → World → Prop} {w : World} (hgd : o.guard = none) (s x : Operand)
    (ho : o.op = .call { callee := .builtin .append, args := #[s, x], argTypes := #[TPS, TPS] }) (base : Nat) (v : Value) (l : List Pr) (hs : a.eval s = v) (hown : OwP base w v l)
    (A : Option Addr) (m c : Nat) (l2 : List Pr) (hx : a.eval x = .slice A m c) (hr : Rv w 2 A m c (pcs l2)) (hn : l.length ≤ 1000000) (hm : m ≤ 1000000) (hbase : base ≤ w.heap.size)
    (h : ∀ A' n' c' w', OwP base w' (.slice A' n' c') (l ++ l2) → Rv w' 2 A' n' c' (pcs (l ++ l2)) → Below base w w' → w.grownBy w' v.ownBlock → wpList Try.prog ops Q rest (a.put o.dst (.slice A' n' c')) w') : wpList Try.prog ops Q (o :: rest) a w := by
  have hml : l2.length = m := by have := hr.len; rw [pcs_len] at this; omega
  refine wpl_appR TPS TPA _ 2 32 pa_info Try.underlying47 rfl (by omega) (by omega) hgd s x ho base v l.length (pcs l) hs hown A m c (pcs l2) hx hr (pcs_one _) hn hm hbase ?_
  intro v3 w3 hrow hgr hbel
  have hO : OwP base w3 v3 (l ++ l2) := by
    unfold OwP
    rw [List.length_append, hml, pcs_app]
    exact hrow
  obtain ⟨A', c', e, hr'⟩ := own_rv hO
  subst e
  exact h _ _ _ _ hO hr' hbel hgr
theorem wpl_appC {ops : Array Oper} {rest : List Oper} {o : Oper} {a : Act} {Q : Exit → Act → World → Prop} {w : World} (hgd : o.guard = none) (s x : Operand)
    (ho : o.op = .call { callee := .builtin .append, args := #[s, x], argTypes := #[TCS, TCS] }) (base : Nat) (v : Value) (l : List Cg) (hs : a.eval s = v) (hown : OwC base w v l)
    (A : Option Addr) (m c : Nat) (l2 : List Cg) (hx : a.eval x = .slice A m c) (hr : Rv w 3 A m c (ccs l2)) (hn : l.length ≤ 1000000) (hm : m ≤ 1000000) (hbase : base ≤ w.heap.size)
    (h : ∀ A' n' c' w', OwC base w' (.slice A' n' c') (l ++ l2) → Rv w' 3 A' n' c' (ccs (l ++ l2)) → Below base w w' → w.grownBy w' v.ownBlock → wpList Try.prog ops Q rest (a.put o.dst (.slice A' n' c')) w') : wpList Try.prog ops Q (o :: rest) a w := by
  have hml : l2.length = m := by have := hr.len; rw [ccs_len] at this; omega
  refine wpl_appR TCS TCG _ 3 40 cg_info Try.underlying23 rfl (by omega) (by omega) hgd s x ho base v l.length (ccs l) hs hown A m c (ccs l2) hx hr (ccs_one _) hn hm hbase ?_
  intro v3 w3 hrow hgr hbel
  have hO : OwC base w3 v3 (l ++ l2) := by
    unfold OwC
    rw [List.length_append, hml, ccs_app]
    exact hrow
  obtain ⟨A', c', e, hr'⟩ := own_rv hO
  subst e
  exact h _ _ _ _ hO hr' hbel hgr
/-- The values of a row of rows of pairs. -/
def nlP : Value := .slice none 0 0
def RowsP (base : Nat) (w : World) (zs : List Value) (ls : List (List Pr)) : Prop := zs.length = ls.length ∧ ∀ i, i < ls.length → OwP base w (zs.getD i nlP) (ls.getD i [])
/-- A row of rows of pairs. -/
def OwV (base : Nat) (w : World) (v : Value) (ls : List (List Pr)) : Prop := ∃ zs, w.ownsRow base TPS 1 v ls.length zs ∧ RowsP base w zs ls
theorem OwP.chg {X : Nat → Obj → Prop} {base : Nat} {w w' : World} {v : Value} {l : List Pr} (h : OwP base w v l) (hc : Chg X w w') (hX : ∀ b cs, ¬ X b (.cells cs TPA (0, 0))) : OwP base w' v l := hc.own h fun b cs _ => hX b cs
theorem OwC.chg {X : Nat → Obj → Prop} {base : Nat} {w w' : World} {v : Value} {l : List Cg} (h : OwC base w v l) (hc : Chg X w w') (hX : ∀ b cs, ¬ X b (.cells cs TCG (0, 0))) : OwC base w' v l := hc.own h fun b cs _ => hX b cs
theorem OwV.chg {X : Nat → Obj → Prop} {base : Nat} {w w' : World} {v : Value} {ls : List (List Pr)} (h : OwV base w v ls) (hc : Chg X w w') (hX : ∀ b cs, ¬ X b (.cells cs TPA (0, 0))) (hX2 : ∀ b cs, ¬ X b (.cells cs TPS (0, 0))) : OwV base w' v ls := by
  obtain ⟨zs, h1, h2, h3⟩ := h
  exact ⟨zs, hc.own h1 fun b cs _ => hX2 b cs, h2, fun i hi => (h3 i hi).chg hc hX⟩
theorem OwV.ext {base : Nat} {w w' : World} {v : Value} {ls : List (List Pr)} (h : OwV base w v ls) (hc : Ext w w') : OwV base w' v ls := h.chg (X := fun _ _ => False) (Chg.ext hc) (fun _ _ h => h) fun _ _ h => h
theorem MF.pa {F : Nat → Prop} (b : Nat) (cs : Array Value) : ¬ MF F b (.cells cs TPA (0, 0)) := fun hx => by
  have : TPA = TDK ∨ TPA = TBY ∨ TPA = TSE := hx.2
  revert this
  decide
theorem MF.ps {F : Nat → Prop} (b : Nat) (cs : Array Value) : ¬ MF F b (.cells cs TPS (0, 0)) := fun hx => by
  have : TPS = TDK ∨ TPS = TBY ∨ TPS = TSE := hx.2
  revert this
  decide
theorem MF.cg {F : Nat → Prop} (b : Nat) (cs : Array Value) : ¬ MF F b (.cells cs TCG (0, 0)) := fun hx => by
  have : TCG = TDK ∨ TCG = TBY ∨ TCG = TSE := hx.2
  revert this
  decide
theorem MF.no {F : Nat → Prop} (b : Nat) (cs : Array Value) : ¬ MF F b (.cells cs TNO (0, 0)) := fun hx => by
  have : TNO = TDK ∨ TNO = TBY ∨ TNO = TSE := hx.2
  revert this
  decide
theorem TrW.chg {X : Nat → Obj → Prop} {w w' : World} {B : Nat → Nat} {Q : Nat → Prop} (hc : Chg X w w') (hX : ∀ b cs, ¬ X b (.cells cs TNO (0, 0))) : ∀ {t : MT}, TrW w B Q t → TrW w' B Q t
  | .nil, _ => trivial
  | .node _ _ _ _ _, ⟨h1, h2, h3, h4⟩ => ⟨hc.blk h1 (hX _ _), h2, h3.chg hc hX, h4.chg hc hX⟩
theorem OwP.lower {base b : Nat} {w : World} {v : Value} {l : List Pr} (h : OwP base w v l) (hb : b ≤ base) : OwP b w v l := own_lower h hb
theorem OwC.lower {base b : Nat} {w : World} {v : Value} {l : List Cg} (h : OwC base w v l) (hb : b ≤ base) : OwC b w v l := own_lower h hb
theorem OwP.rv {base : Nat} {w : World} {v : Value} {l : List Pr} (h : OwP base w v l) : ∃ A c, v = .slice A l.length c ∧ Rv w 2 A l.length c (pcs l) := own_rv h
theorem OwC.rv {base : Nat} {w : World} {v : Value} {l : List Cg} (h : OwC base w v l) : ∃ A c, v = .slice A l.length c ∧ Rv w 3 A l.length c (ccs l) := own_rv h
end Go.Proofs.Tb
/- Plain: how many blocks are free; versions and their pairs. -/
namespace Go.Proofs.Tb
open Go.Maps Go.RowKit

theorem filter_ne_len (x : Nat) : ∀ {L : List Nat}, L.Pairwise (· ≠ ·) → L.length ≤ (L.filter fun y => decide (y ≠ x)).length + 1
  | [], _ => by simp
  | y :: L, h => by
    obtain ⟨h1, h2⟩ := List.pairwise_cons.1 h
    by_cases e : y = x
    · subst e
      have hs : (L.filter fun z => decide (z ≠ y)) = L := List.filter_eq_self.2 fun z hz => by simpa using (Ne.symm (h1 z hz))
      rw [List.filter_cons_of_neg (by simp), hs]
      simp
    · rw [List.filter_cons_of_pos (by simpa using e)]
      have := filter_ne_len x h2
      simp only [List.length_cons]
      omega
theorem unf_len (B : Nat → Nat) : ∀ (t : MT) {L : List Nat}, L.Pairwise (· ≠ ·) → L.length ≤ (t.unf B L).length + t.er.size
  | .nil, L, _ => by show L.length ≤ L.length + 0; omega
  | .node g k v l r, L, h => by
    unfold MT.unf
    show _ ≤ _ + (l.er.size + r.er.size + 1)
    split
    · have h1 := filter_ne_len (B g) h
      have p1 := h.sublist (List.filter_sublist (p := fun x => decide (x ≠ B g)))
      have h2 := unf_len B l p1
      have h3 := unf_len B r (p1.sublist (unf_sub B l _))
      omega
    · omega
/-- The pairs of some versions, together. -/
def szV (vs : List (Nat × MT)) : Nat := vs.foldl (fun n v => n + v.2.er.size) 0
theorem szV_go (vs : List (Nat × MT)) : ∀ n, vs.foldl (fun n v => n + v.2.er.size) n = n + szV vs := by
  induction vs with
  | nil => intro n; rfl
  | cons v vs ih =>
    intro n
    unfold szV
    rw [List.foldl_cons, List.foldl_cons, ih, ih (0 + v.2.er.size)]
    omega
theorem szV_cons (v : Nat × MT) (vs : List (Nat × MT)) : szV (v :: vs) = v.2.er.size + szV vs := by
  unfold szV
  rw [List.foldl_cons, szV_go]
  unfold szV
  omega
theorem frF_len (B : Nat → Nat) : ∀ (vs : List (Nat × MT)) {L : List Nat}, L.Pairwise (· ≠ ·) → L.length ≤ (frF B vs L).length + szV vs
  | [], L, _ => by show L.length ≤ L.length + 0; omega
  | v :: vs, L, h => by
    have h1 := unf_len B v.2 h
    have h2 := frF_len B vs (h.sublist (unf_sub B v.2 L))
    show _ ≤ (frF B vs (v.2.unf B L)).length + _
    rw [szV_cons]
    omega
theorem frF_up (B : Nat → Nat) (vs : List (Nat × MT)) (n : Nat) : (frF B vs (upB (n - 2))).Pairwise (· < ·) := (upB_pair _).sublist (frF_sub B vs _)
theorem frF_mem (B : Nat → Nat) (vs : List (Nat × MT)) {n x : Nat} (h : x ∈ frF B vs (upB (n - 2))) : 2 ≤ x ∧ x < n := by
  have h1 := (frF_sub B vs _).subset h
  unfold upB at h1
  have := List.mem_range'_1.1 h1
  omega
theorem free_len (B : Nat → Nat) (vs : List (Nat × MT)) (n : Nat) : n ≤ (frF B vs (upB (n - 2))).length + szV vs + 2 := by
  have h1 := frF_len B vs ((upB_pair (n - 2)).imp fun h => Nat.ne_of_lt h)
  have h2 : (upB (n - 2)).length = n - 2 := by unfold upB; simp
  omega
/-- Versions that are kept, and what they are to have. -/
structure VsR (keep : Nat) (vs : List (Nat × MT)) (Vs : List (List Pr)) : Prop where
  nv : Vs ≠ []
  len : vs.length = min (keep + 1) Vs.length
  at_ : ∀ i, i < vs.length → ∃ t, vs[i]? = some (Vs.length - 1 - i, t) ∧ t.er.prs = Vs.getD (Vs.length - 1 - i) [] ∧ t.er.bld
  ok : ∀ l ∈ Vs, Srtd l ∧ OkP l
namespace VsR
variable {keep : Nat} {vs : List (Nat × MT)} {Vs : List (List Pr)}
theorem pos (h : VsR keep vs Vs) : 0 < vs.length := by
  have h1 := h.len
  have h2 : 0 < Vs.length := List.length_pos_iff.2 h.nv
  omega
theorem head (h : VsR keep vs Vs) : ∃ t tl, vs = (Vs.length - 1, t) :: tl ∧ t.er.prs = Vs.getD (Vs.length - 1) [] ∧ t.er.bld := by
  obtain ⟨t, h1, h2, h3⟩ := h.at_ 0 h.pos
  cases vs with
  | nil => simp at h1
  | cons v tl =>
    rw [List.getElem?_cons_zero] at h1
    injection h1 with h1
    exact ⟨t, tl, by rw [h1]; rfl, h2, h3⟩
theorem okAt (h : VsR keep vs Vs) {i : Nat} (hi : i < vs.length) : Srtd (Vs.getD (Vs.length - 1 - i) []) ∧ OkP (Vs.getD (Vs.length - 1 - i) []) := by
  have h1 : 0 < Vs.length := List.length_pos_iff.2 h.nv
  have h2 : Vs.length - 1 - i < Vs.length := by omega
  have e : Vs.getD (Vs.length - 1 - i) [] = Vs[Vs.length - 1 - i] := by simp [List.getD, h2]
  rw [e]
  exact h.ok _ (List.getElem_mem h2)
/-- One version more. -/
theorem step (h : VsR keep vs Vs) {l : List Pr} (hl : Srtd l ∧ OkP l) {t : MT} (ht : t.er.prs = l) (hb : t.er.bld) : VsR keep (((Vs.length, t) :: vs).take (keep + 1)) (Vs ++ [l]) := by
  have h1 : 0 < Vs.length := List.length_pos_iff.2 h.nv
  have h2 := h.len
  refine ⟨by simp, ?_, fun i hi => ?_, fun x hx => ?_⟩
  · rw [List.length_take, List.length_cons, List.length_append, List.length_singleton]; omega
  · rw [List.length_take, List.length_cons] at hi
    rw [List.getElem?_take, if_pos (by omega), List.length_append, List.length_singleton]
    cases i with
    | zero =>
      refine ⟨t, rfl, ?_, hb⟩
      rw [ht]
      have e : Vs.length + 1 - 1 - 0 = Vs.length := by omega
      rw [e]
      simp [List.getD]
    | succ i =>
      obtain ⟨u, h3, h4, h5⟩ := h.at_ i (by omega)
      have e : Vs.length + 1 - 1 - (i + 1) = Vs.length - 1 - i := by omega
      rw [e]
      refine ⟨u, h3, ?_, h5⟩
      rw [h4]
      simp only [List.getD]
      rw [List.getElem?_append_left (by omega)]
  · rcases List.mem_append.1 hx with hx | hx
    · exact h.ok x hx
    · rw [List.mem_singleton.1 hx]; exact hl
end VsR
end Go.Proofs.Tb

