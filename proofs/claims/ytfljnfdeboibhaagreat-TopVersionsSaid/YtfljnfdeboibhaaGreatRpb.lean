/- The changes between two lists of pairs: plain. -/
import Derived.Test.YtfljnfdeboibhaaGreatTwa
set_option linter.unusedVariables false
set_option linter.unusedSimpArgs false
namespace Go.Proofs.Tb

theorem sorted_ext {α : Type} {r : α → α → Prop} (irr : ∀ x, ¬ r x x) (tr : ∀ x y z, r x y → r y z → r x z) : ∀ {l m : List α}, l.Pairwise r → m.Pairwise r → (∀ x, x ∈ l ↔ x ∈ m) → l = m
  | [], [], _, _, _ => rfl
  | [], y :: m, _, _, h => absurd ((h y).2 List.mem_cons_self) (by simp)
  | x :: l, [], _, _, h => absurd ((h x).1 List.mem_cons_self) (by simp)
  | x :: l, y :: m, hl, hm, h => by
    obtain ⟨h1, h2⟩ := List.pairwise_cons.1 hl
    obtain ⟨h3, h4⟩ := List.pairwise_cons.1 hm
    have e : x = y := by
      rcases List.mem_cons.1 ((h x).1 List.mem_cons_self) with e | e
      · exact e
      · rcases List.mem_cons.1 ((h y).2 List.mem_cons_self) with e2 | e2
        · exact e2.symm
        · exact absurd (tr _ _ _ (h1 _ e2) (h3 _ e)) (irr x)
    subst e
    rw [sorted_ext irr tr h2 h4 fun z => ⟨fun hz => by
      rcases List.mem_cons.1 ((h z).1 (List.mem_cons_of_mem _ hz)) with e | e
      · subst e; exact absurd (h1 _ hz) (irr _)
      · exact e, fun hz => by
      rcases List.mem_cons.1 ((h z).2 (List.mem_cons_of_mem _ hz)) with e | e
      · subst e; exact absurd (h3 _ hz) (irr _)
      · exact e⟩]
/-- The changes that lead from a to b, rising. -/
structure Dif (a b : List Pr) (l : List Cg) : Prop where
  srt : l.Pairwise fun x y => sl x.k y.k = true
  mem : ∀ c : Cg, c ∈ l ↔ (c.gone = false ∧ (c.k, c.v) ∈ b ∧ (c.k, c.v) ∉ a) ∨ (c.gone = true ∧ c.v = ByteArray.empty ∧ (∃ v, (c.k, v) ∈ a) ∧ ∀ v, (c.k, v) ∉ b)
  len : l.length ≤ a.length + b.length
theorem Dif.eq {a b : List Pr} {l m : List Cg} (h : Dif a b l) (h' : Dif a b m) : l = m :=
  sorted_ext (r := fun x y : Cg => sl x.k y.k = true) (fun x h => by rw [sl_irrefl] at h; cases h) (fun x y z h1 h2 => sl_trans h1 h2) h.srt h'.srt fun c => (h.mem c).trans (h'.mem c).symm
theorem Dif.self {a : List Pr} {l : List Cg} (h : Dif a a l) : l = [] := by
  rw [List.eq_nil_iff_forall_not_mem]
  intro c hc
  rcases (h.mem c).1 hc with ⟨_, h1, h2⟩ | ⟨_, _, ⟨v, h1⟩, h2⟩
  · exact h2 h1
  · exact h2 v h1
theorem srtd_uniq {l : List Pr} (h : Srtd l) {k v v' : Str} (h1 : (k, v) ∈ l) (h2 : (k, v') ∈ l) : v = v' := by
  induction l with
  | nil => cases h1
  | cons p l ih =>
    obtain ⟨g1, g2⟩ := List.pairwise_cons.1 h
    rcases List.mem_cons.1 h1 with e1 | e1 <;> rcases List.mem_cons.1 h2 with e2 | e2
    · subst e1; injection e2 with _ e2; exact e2.symm
    · subst e1
      have := g1 _ e2
      rw [sl_irrefl] at this; cases this
    · subst e2
      have := g1 _ e1
      rw [sl_irrefl] at this; cases this
    · exact ih g2 e1 e2
theorem mem_apP (l : List Pr) (c : Cg) (k v : Str) : (k, v) ∈ apP l c ↔ (k = c.k ∧ c.gone = false ∧ v = c.v) ∨ (k ≠ c.k ∧ (k, v) ∈ l) := by
  have hne : (sl k c.k = true ∨ sl c.k k = true) ↔ k ≠ c.k := ⟨fun h => by
    rcases h with h | h
    · exact sl_ne h
    · exact (sl_ne h).symm, fun h => by
    rcases sl_tri k c.k with h' | h' | h'
    · exact .inl h'
    · exact absurd h' h
    · exact .inr h'⟩
  unfold apP
  cases hg : c.gone with
  | true =>
    rw [if_pos rfl]
    unfold delP low high
    rw [List.mem_append, List.mem_filter, List.mem_filter, ← hne]
    constructor
    · rintro (⟨h1, h2⟩ | ⟨h1, h2⟩)
      · exact .inr ⟨.inl h2, h1⟩
      · exact .inr ⟨.inr h2, h1⟩
    · rintro (⟨_, h, _⟩ | ⟨h1 | h1, h2⟩)
      · cases h
      · exact .inl ⟨h2, h1⟩
      · exact .inr ⟨h2, h1⟩
  | false =>
    rw [if_neg (by simp)]
    unfold setP low high
    rw [List.mem_append, List.mem_cons, List.mem_filter, List.mem_filter, ← hne]
    constructor
    · rintro (⟨h1, h2⟩ | h | ⟨h1, h2⟩)
      · exact .inr ⟨.inl h2, h1⟩
      · injection h with h1 h2; exact .inl ⟨h1, rfl, h2⟩
      · exact .inr ⟨.inr h2, h1⟩
    · rintro (⟨h1, _, h2⟩ | ⟨h1 | h1, h2⟩)
      · exact .inr (.inl (by rw [h1, h2]))
      · exact .inl ⟨h2, h1⟩
      · exact .inr (.inr ⟨h2, h1⟩)
theorem mem_aft (k v : Str) : ∀ (cs : List Cg) (l : List Pr), cs.Pairwise (fun x y => sl x.k y.k = true) →
    ((k, v) ∈ aft l cs ↔ (∃ c ∈ cs, c.k = k ∧ c.gone = false ∧ c.v = v) ∨ ((∀ c ∈ cs, c.k ≠ k) ∧ (k, v) ∈ l))
  | [], l, _ => by simp [aft]
  | c :: cs, l, h => by
    obtain ⟨h1, h2⟩ := List.pairwise_cons.1 h
    show (k, v) ∈ aft (apP l c) cs ↔ _
    rw [mem_aft k v cs _ h2, mem_apP]
    constructor
    · rintro (⟨x, hx, e⟩ | ⟨hn, ⟨e1, e2, e3⟩ | ⟨e1, e2⟩⟩)
      · exact .inl ⟨x, List.mem_cons_of_mem _ hx, e⟩
      · exact .inl ⟨c, List.mem_cons_self, e1.symm, e2, e3.symm⟩
      · exact .inr ⟨fun x hx => by
          rcases List.mem_cons.1 hx with rfl | hx
          · exact Ne.symm e1
          · exact hn x hx, e2⟩
    · rintro (⟨x, hx, e1, e2, e3⟩ | ⟨hn, hm⟩)
      · rcases List.mem_cons.1 hx with rfl | hx
        · refine .inr ⟨fun y hy e => ?_, .inl ⟨e1.symm, e2, e3.symm⟩⟩
          have := h1 y hy
          rw [e1, e, sl_irrefl] at this
          cases this
        · exact .inl ⟨x, hx, e1, e2, e3⟩
      · exact .inr ⟨fun x hx => hn x (List.mem_cons_of_mem _ hx), .inr ⟨Ne.symm (hn c List.mem_cons_self), hm⟩⟩
theorem srtd_ext {a b : List Pr} (ha : Srtd a) (hb : Srtd b) (h : ∀ k v, (k, v) ∈ a ↔ (k, v) ∈ b) : a = b :=
  sorted_ext (r := fun x y : Pr => sl x.1 y.1 = true) (fun x h => by rw [sl_irrefl] at h; cases h) (fun x y z h1 h2 => sl_trans h1 h2) ha hb fun p => h p.1 p.2
/-- The changes done on the one version give the other one. -/
theorem Dif.aft {a b : List Pr} {l : List Cg} (h : Dif a b l) (ha : Srtd a) (hb : Srtd b) : aft a l = b := by
  refine srtd_ext (aft_srtd l ha) hb fun k v => ?_
  rw [mem_aft k v l a h.srt]
  constructor
  · rintro (⟨c, hc, rfl, e2, rfl⟩ | ⟨hn, hm⟩)
    · rcases (h.mem c).1 hc with ⟨_, h1, _⟩ | ⟨g, _⟩
      · exact h1
      · rw [e2] at g; cases g
    · by_cases hb1 : ∃ v', (k, v') ∈ b
      · obtain ⟨v', hv'⟩ := hb1
        by_cases ha1 : (k, v') ∈ a
        · rw [srtd_uniq ha hm ha1]; exact hv'
        · exact absurd rfl (hn ⟨k, v', false⟩ ((h.mem _).2 (.inl ⟨rfl, hv', ha1⟩)))
      · exact absurd rfl (hn ⟨k, ByteArray.empty, true⟩ ((h.mem _).2 (.inr ⟨rfl, rfl, ⟨v, hm⟩, fun v' hv' => hb1 ⟨v', hv'⟩⟩)))
  · intro hm
    by_cases ha1 : (k, v) ∈ a
    · refine .inr ⟨fun c hc e => ?_, ha1⟩
      subst e
      rcases (h.mem c).1 hc with ⟨_, h1, h2⟩ | ⟨_, _, _, h2⟩
      · exact h2 (by rw [srtd_uniq hb h1 hm]; exact ha1)
      · exact h2 v hm
    · exact .inl ⟨⟨k, v, false⟩, (h.mem _).2 (.inl ⟨rfl, hm, ha1⟩), rfl, rfl, rfl⟩
section
variable {a b : List Pr} {l : List Cg}
theorem Dif.key (h : Dif a b l) {k : Str} (ha : ∀ p ∈ a, sl k p.1 = true) (hb : ∀ p ∈ b, sl k p.1 = true) : ∀ c ∈ l, sl k c.k = true := fun c hc => by
  rcases (h.mem c).1 hc with ⟨_, h1, _⟩ | ⟨_, _, ⟨v, h1⟩, _⟩
  · exact hb _ h1
  · exact ha _ h1
theorem no_self {k : Str} {a : List Pr} (ha : ∀ p ∈ a, sl k p.1 = true) (v : Str) : (k, v) ∉ a := fun h => by
  have := ha _ h
  rw [sl_irrefl] at this; cases this
theorem Dif.nil : Dif [] [] [] := ⟨List.Pairwise.nil, fun c => by simp, by simp⟩
theorem Dif.put_gone {x : Pr} (h : Dif a b l) (hxa : ∀ p ∈ a, sl x.1 p.1 = true) (hxb : ∀ p ∈ b, sl x.1 p.1 = true) : Dif (x :: a) b (⟨x.1, ByteArray.empty, true⟩ :: l) := by
  refine ⟨List.pairwise_cons.2 ⟨h.key hxa hxb, h.srt⟩, fun c => ?_, by have := h.len; simp only [List.length_cons]; omega⟩
  rw [List.mem_cons]
  constructor
  · rintro (rfl | hc)
    · exact .inr ⟨rfl, rfl, ⟨x.2, List.mem_cons_self⟩, no_self hxb⟩
    · rcases (h.mem c).1 hc with ⟨g, m, n⟩ | ⟨g, e, ⟨v, hv⟩, n⟩
      · refine .inl ⟨g, m, fun hm => ?_⟩
        rcases List.mem_cons.1 hm with e | hm
        · subst e; exact no_self hxb _ m
        · exact n hm
      · exact .inr ⟨g, e, ⟨v, List.mem_cons_of_mem _ hv⟩, n⟩
  · rintro (⟨g, m, n⟩ | ⟨g, e, ⟨v, hv⟩, n⟩)
    · exact .inr ((h.mem c).2 (.inl ⟨g, m, fun hm => n (List.mem_cons_of_mem _ hm)⟩))
    · rcases List.mem_cons.1 hv with e2 | hv
      · subst e2
        obtain ⟨ck, cv, cg⟩ := c
        dsimp only at g e ⊢
        subst g e
        exact .inl rfl
      · exact .inr ((h.mem c).2 (.inr ⟨g, e, ⟨v, hv⟩, n⟩))
theorem Dif.put_new {y : Pr} (h : Dif a b l) (hya : ∀ p ∈ a, sl y.1 p.1 = true) (hyb : ∀ p ∈ b, sl y.1 p.1 = true) : Dif a (y :: b) (⟨y.1, y.2, false⟩ :: l) := by
  refine ⟨List.pairwise_cons.2 ⟨h.key hya hyb, h.srt⟩, fun c => ?_, by have := h.len; simp only [List.length_cons]; omega⟩
  rw [List.mem_cons]
  constructor
  · rintro (rfl | hc)
    · exact .inl ⟨rfl, List.mem_cons_self, no_self hya _⟩
    · rcases (h.mem c).1 hc with ⟨g, m, n⟩ | ⟨g, e, ⟨v, hv⟩, n⟩
      · exact .inl ⟨g, List.mem_cons_of_mem _ m, n⟩
      · refine .inr ⟨g, e, ⟨v, hv⟩, fun v' hm => ?_⟩
        rcases List.mem_cons.1 hm with e | hm
        · subst e; exact no_self hya _ hv
        · exact n _ hm
  · rintro (⟨g, m, n⟩ | ⟨g, e, ⟨v, hv⟩, n⟩)
    · rcases List.mem_cons.1 m with e2 | m
      · subst e2
        obtain ⟨ck, cv, cg⟩ := c
        dsimp only at g ⊢
        subst g
        exact .inl rfl
      · exact .inr ((h.mem c).2 (.inl ⟨g, m, n⟩))
    · exact .inr ((h.mem c).2 (.inr ⟨g, e, ⟨v, hv⟩, fun v' hv' => n v' (List.mem_cons_of_mem _ hv')⟩))
theorem Dif.put_same {x : Pr} (h : Dif a b l) (hxa : ∀ p ∈ a, sl x.1 p.1 = true) (hxb : ∀ p ∈ b, sl x.1 p.1 = true) : Dif (x :: a) (x :: b) l := by
  refine ⟨h.srt, fun c => ?_, by have := h.len; simp only [List.length_cons]; omega⟩
  rw [h.mem c]
  constructor
  · rintro (⟨g, m, n⟩ | ⟨g, e, ⟨v, hv⟩, n⟩)
    · refine .inl ⟨g, List.mem_cons_of_mem _ m, fun hm => ?_⟩
      rcases List.mem_cons.1 hm with e | hm
      · subst e; exact no_self hxb _ m
      · exact n hm
    · refine .inr ⟨g, e, ⟨v, List.mem_cons_of_mem _ hv⟩, fun v' hm => ?_⟩
      rcases List.mem_cons.1 hm with e | hm
      · subst e; exact no_self hxa _ hv
      · exact n _ hm
  · rintro (⟨g, m, n⟩ | ⟨g, e, ⟨v, hv⟩, n⟩)
    · rcases List.mem_cons.1 m with e2 | m
      · exact absurd (List.mem_cons.2 (.inl e2)) n
      · exact .inl ⟨g, m, fun hm => n (List.mem_cons_of_mem _ hm)⟩
    · rcases List.mem_cons.1 hv with e2 | hv
      · exact absurd (List.mem_cons.2 (.inl e2)) (n v)
      · exact .inr ⟨g, e, ⟨v, hv⟩, fun v' hv' => n v' (List.mem_cons_of_mem _ hv')⟩
theorem Dif.put_set {k v v' : Str} (h : Dif a b l) (hxa : ∀ p ∈ a, sl k p.1 = true) (hxb : ∀ p ∈ b, sl k p.1 = true) (hv : v ≠ v') : Dif ((k, v) :: a) ((k, v') :: b) (⟨k, v', false⟩ :: l) := by
  refine ⟨List.pairwise_cons.2 ⟨h.key hxa hxb, h.srt⟩, fun c => ?_, by have := h.len; simp only [List.length_cons]; omega⟩
  rw [List.mem_cons]
  constructor
  · rintro (rfl | hc)
    · refine .inl ⟨rfl, List.mem_cons_self, fun hm => ?_⟩
      rcases List.mem_cons.1 hm with e | hm
      · injection e with _ e; exact hv e.symm
      · exact no_self hxa _ hm
    · rcases (h.mem c).1 hc with ⟨g, m, n⟩ | ⟨g, e, ⟨u, hu⟩, n⟩
      · refine .inl ⟨g, List.mem_cons_of_mem _ m, fun hm => ?_⟩
        rcases List.mem_cons.1 hm with e | hm
        · injection e with e _; rw [e] at m; exact no_self hxb _ m
        · exact n hm
      · refine .inr ⟨g, e, ⟨u, List.mem_cons_of_mem _ hu⟩, fun u' hm => ?_⟩
        rcases List.mem_cons.1 hm with e | hm
        · injection e with e _; rw [e] at hu; exact no_self hxa _ hu
        · exact n _ hm
  · rintro (⟨g, m, n⟩ | ⟨g, e, ⟨u, hu⟩, n⟩)
    · rcases List.mem_cons.1 m with e2 | m
      · obtain ⟨ck, cv, cg⟩ := c
        dsimp only at g e2 ⊢
        injection e2 with e2 e3
        subst g e2 e3
        exact .inl rfl
      · exact .inr ((h.mem c).2 (.inl ⟨g, m, fun hm => n (List.mem_cons_of_mem _ hm)⟩))
    · rcases List.mem_cons.1 hu with e2 | hu
      · injection e2 with e2 _
        exact absurd (List.mem_cons.2 (.inl (by rw [e2]))) (n v')
      · exact .inr ((h.mem c).2 (.inr ⟨g, e, ⟨u, hu⟩, fun u' hu' => n u' (List.mem_cons_of_mem _ hu')⟩))
end
/-- The document's: both lists side by side. -/
def mrg : List Pr → List Pr → List Cg
  | [], [] => []
  | x :: a, [] => ⟨x.1, ByteArray.empty, true⟩ :: mrg a []
  | [], y :: b => ⟨y.1, y.2, false⟩ :: mrg [] b
  | x :: a, y :: b => if sl x.1 y.1 = true then ⟨x.1, ByteArray.empty, true⟩ :: mrg a (y :: b) else if sl y.1 x.1 = true then ⟨y.1, y.2, false⟩ :: mrg (x :: a) b else if x.2 = y.2 then mrg a b else ⟨y.1, y.2, false⟩ :: mrg a b
termination_by a b => a.length + b.length
theorem mrg_dif : ∀ (n : Nat) (a b : List Pr), a.length + b.length ≤ n → Srtd a → Srtd b → Dif a b (mrg a b)
  | _, [], [], _, _, _ => by rw [mrg]; exact Dif.nil
  | 0, x :: a, _, h, _, _ => by simp at h
  | 0, _, y :: b, h, _, _ => by simp at h
  | n + 1, x :: a, [], h, ha, hb => by
    obtain ⟨h1, h2⟩ := List.pairwise_cons.1 ha
    rw [mrg]
    exact (mrg_dif n a [] (by simp only [List.length_cons] at h; omega) h2 hb).put_gone h1 fun p hp => by cases hp
  | n + 1, [], y :: b, h, ha, hb => by
    obtain ⟨h1, h2⟩ := List.pairwise_cons.1 hb
    rw [mrg]
    exact (mrg_dif n [] b (by simp only [List.length_cons] at h; omega) ha h2).put_new (fun p hp => by cases hp) h1
  | n + 1, x :: a, y :: b, h, ha, hb => by
    obtain ⟨h1, h2⟩ := List.pairwise_cons.1 ha
    obtain ⟨h3, h4⟩ := List.pairwise_cons.1 hb
    simp only [List.length_cons] at h
    rw [mrg]
    split
    · rename_i c
      refine (mrg_dif n a (y :: b) (by simp only [List.length_cons]; omega) h2 hb).put_gone h1 fun p hp => ?_
      rcases List.mem_cons.1 hp with rfl | hp
      · exact c
      · exact sl_trans c (h3 _ hp)
    · rename_i c
      split
      · rename_i c2
        refine (mrg_dif n (x :: a) b (by simp only [List.length_cons]; omega) ha h4).put_new (fun p hp => ?_) h3
        rcases List.mem_cons.1 hp with rfl | hp
        · exact c2
        · exact sl_trans c2 (h1 _ hp)
      · rename_i c2
        have e : x.1 = y.1 := sl_eq (by simpa using c) (by simpa using c2)
        have hi := mrg_dif n a b (by omega) h2 h4
        obtain ⟨xk, xv⟩ := x
        obtain ⟨yk, yv⟩ := y
        dsimp only at e h1 h3 ⊢
        subst e
        split
        · rename_i c3
          subst c3
          exact hi.put_same h1 h3
        · rename_i c3
          exact hi.put_set h1 h3 c3
/-- What the program gathers, and then sorts. -/
def gatB (a b : List Pr) : List Cg := (b.filter fun p => decide (fndP a p.1 ≠ some p.2)).map fun p => ⟨p.1, p.2, false⟩
def gatG (a b : List Pr) : List Cg := (a.filter fun p => decide (fndP b p.1 = none)).map fun p => ⟨p.1, ByteArray.empty, true⟩
theorem fnd_mem {l : List Pr} (h : Srtd l) {k v : Str} : fndP l k = some v ↔ (k, v) ∈ l := by
  refine ⟨fun e => ?_, fndP_some h⟩
  unfold fndP at e
  rw [Option.map_eq_some_iff] at e
  obtain ⟨p, hp, rfl⟩ := e
  have h1 := List.find?_some hp
  have h2 := List.mem_of_find?_eq_some hp
  simp only [decide_eq_true_eq] at h1
  subst h1
  exact h2
theorem fnd_none {l : List Pr} {k : Str} : fndP l k = none ↔ ∀ v, (k, v) ∉ l := by
  refine ⟨fun e v hv => ?_, fun h => fndP_none fun p hp e => h p.2 (by subst e; exact hp)⟩
  unfold fndP at e
  rw [Option.map_eq_none_iff, List.find?_eq_none] at e
  exact e _ hv (by simp)
theorem gat_dif {a b : List Pr} {l : List Cg} (ha : Srtd a) (hb : Srtd b) (hp : l.Perm (gatB a b ++ gatG a b)) (hs : l.Pairwise fun x y => sl y.k x.k = false) : Dif a b l := by
  have hm : ∀ c : Cg, c ∈ l ↔ (c.gone = false ∧ (c.k, c.v) ∈ b ∧ (c.k, c.v) ∉ a) ∨ (c.gone = true ∧ c.v = ByteArray.empty ∧ (∃ v, (c.k, v) ∈ a) ∧ ∀ v, (c.k, v) ∉ b) := fun c => by
    rw [hp.mem_iff, List.mem_append]
    unfold gatB gatG
    rw [List.mem_map, List.mem_map]
    constructor
    · rintro (⟨p, h1, rfl⟩ | ⟨p, h1, rfl⟩)
      · obtain ⟨h1, h2⟩ := List.mem_filter.1 h1
        rw [decide_eq_true_iff, Ne, fnd_mem ha] at h2
        exact .inl ⟨rfl, h1, h2⟩
      · obtain ⟨h1, h2⟩ := List.mem_filter.1 h1
        rw [decide_eq_true_iff, fnd_none] at h2
        exact .inr ⟨rfl, rfl, ⟨p.2, h1⟩, h2⟩
    · obtain ⟨ck, cv, cg⟩ := c
      rintro (⟨rfl, h1, h2⟩ | ⟨rfl, rfl, ⟨v, h1⟩, h2⟩)
      · exact .inl ⟨(ck, cv), List.mem_filter.2 ⟨h1, by rw [decide_eq_true_iff, Ne, fnd_mem ha]; exact h2⟩, rfl⟩
      · exact .inr ⟨(ck, v), List.mem_filter.2 ⟨h1, by rw [decide_eq_true_iff, fnd_none]; exact h2⟩, rfl⟩
  have hne : ∀ {x : List Pr} (q : Pr → Bool), Srtd x → ((x.filter q).map fun p => p.1).Pairwise (· ≠ ·) := fun {x} q hx => by
    rw [List.pairwise_map]
    exact (hx.sublist List.filter_sublist).imp fun h => sl_ne h
  have hk : (l.map fun c => c.k).Pairwise (· ≠ ·) := by
    have h1 : ((gatB a b ++ gatG a b).map fun c => c.k).Pairwise (· ≠ ·) := by
      rw [List.map_append, List.pairwise_append]
      refine ⟨by unfold gatB; rw [List.map_map]; exact hne _ hb, by unfold gatG; rw [List.map_map]; exact hne _ ha, fun x hx y hy e => ?_⟩
      subst e
      unfold gatB at hx
      unfold gatG at hy
      rw [List.map_map, List.mem_map] at hx hy
      obtain ⟨p, hp1, rfl⟩ := hx
      obtain ⟨q, hq1, hq2⟩ := hy
      obtain ⟨hp1, _⟩ := List.mem_filter.1 hp1
      obtain ⟨hq1, hq3⟩ := List.mem_filter.1 hq1
      rw [decide_eq_true_iff, fnd_none] at hq3
      have e : q.1 = p.1 := hq2
      rw [e] at hq3
      exact hq3 p.2 hp1
    exact ((hp.map fun c => c.k).pairwise_iff (fun h => Ne.symm h)).2 h1
  refine ⟨?_, hm, ?_⟩
  · have h1 := List.pairwise_map.1 hk
    refine (hs.and h1).imp fun {x y} h => ?_
    rcases sl_tri x.k y.k with h' | h' | h'
    · exact h'
    · exact absurd h' h.2
    · rw [h.1] at h'; cases h'
  · rw [hp.length_eq, List.length_append]
    unfold gatB gatG
    rw [List.length_map, List.length_map]
    have h1 := List.length_filter_le (fun p => decide (fndP a p.1 ≠ some p.2)) b
    have h2 := List.length_filter_le (fun p => decide (fndP b p.1 = none)) a
    omega
end Go.Proofs.Tb
