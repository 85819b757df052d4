/- Plain: what a Commit, or a crash in one, leaves on the disk. -/
import Derived.Test.YtfljnfdeboibhaaRoa
set_option linter.unusedVariables false
set_option linter.unusedSimpArgs false
namespace Go.Proofs.Tb
open Go.RowKit

theorem safeB_one (bl : List (List (List Nat))) (k : Nat) : ((safeB bl).getD k []).length ≤ 1 := by
  unfold safeB
  rw [List.getD_eq_getElem?_getD, List.getElem?_map]
  cases (lastsB bl)[k]? with
  | none => exact Nat.zero_le _
  | some l => exact Nat.le_refl _
theorem lastsB_put (bl : List (List (List Nat))) (p : Nat × List Nat) : lastsB (putB bl p) = (lastsB bl).set p.1 p.2 := by
  unfold lastsB putB
  rw [List.map_set]
  congr 1
  simp
def putL (cur : List (List Nat)) (ps : List (Nat × List Nat)) : List (List Nat) := ps.foldl (fun c p => c.set p.1 p.2) cur
theorem putL_len : ∀ (ps : List (Nat × List Nat)) (cur : List (List Nat)), (putL cur ps).length = cur.length
  | [], _ => rfl
  | p :: ps, cur => (putL_len ps (cur.set p.1 p.2)).trans List.length_set
theorem set_getD_ne (cur : List (List Nat)) {i k : Nat} (x : List Nat) (h : k ≠ i) : (cur.set i x).getD k z64 = cur.getD k z64 := by
  rw [List.getD_eq_getElem?_getD, List.getD_eq_getElem?_getD, List.getElem?_set_ne (Ne.symm h)]
theorem set_getD_eq (cur : List (List Nat)) {i : Nat} (x : List Nat) (h : i < cur.length) : (cur.set i x).getD i z64 = x := by
  rw [List.getD_eq_getElem?_getD, List.getElem?_set_self h]
  rfl
theorem putL_not {k : Nat} : ∀ {ps : List (Nat × List Nat)} {cur : List (List Nat)}, (∀ p ∈ ps, p.1 ≠ k) → (putL cur ps).getD k z64 = cur.getD k z64
  | [], _, _ => rfl
  | p :: ps, cur, h => (putL_not (cur := cur.set p.1 p.2) fun q hq => h q (List.mem_cons_of_mem _ hq)).trans (set_getD_ne cur p.2 (Ne.symm (h p List.mem_cons_self)))
theorem putL_at : ∀ {ps : List (Nat × List Nat)} {cur : List (List Nat)}, (ps.map fun p => p.1).Pairwise (· ≠ ·) → ∀ p ∈ ps, p.1 < cur.length → (putL cur ps).getD p.1 z64 = p.2
  | [], _, _, p, hp, _ => by cases hp
  | q :: ps, cur, h, p, hp, hl => by
    rw [List.map_cons, List.pairwise_cons] at h
    rcases List.mem_cons.1 hp with rfl | hp
    · refine (putL_not (cur := cur.set p.1 p.2) fun r hr => ?_).trans (set_getD_eq cur p.2 hl)
      exact Ne.symm (h.1 _ (List.mem_map.2 ⟨r, hr, rfl⟩))
    · exact putL_at (cur := cur.set q.1 q.2) h.2 p hp (by rw [List.length_set]; exact hl)
theorem wrA_up : ∀ (ps : List (Nat × List Nat)) (bl : List (List (List Nat))) (left : Nat), (wrA ps bl left).dn = false → lastsB (wrA ps bl left).bl = putL (lastsB bl) ps ∧ ∃ b2, (wrA ps bl left).bl = safeB b2
  | [], bl, left, h => by
    have h1 : ¬ left = 1 := of_decide_eq_false h
    have e : (wrA [] bl left).bl = safeB bl := by show (if left = 1 then bl else safeB bl) = _; rw [if_neg h1]
    rw [e]
    exact ⟨safe_lasts bl, bl, rfl⟩
  | p :: ps, bl, left, h => by
    unfold wrA at h ⊢
    split
    · rename_i hl
      rw [if_pos hl] at h
      cases h
    · rename_i hl
      rw [if_neg hl] at h
      have := wrA_up ps _ _ h
      rw [lastsB_put] at this
      exact this
theorem putB_mem {bl : List (List (List Nat))} {p : Nat × List Nat} {k : Nat} {x : List Nat} (h : x ∈ (putB bl p).getD k []) : x ∈ bl.getD k [] ∨ (p.1 = k ∧ x = p.2) := by
  unfold putB at h
  by_cases hk : p.1 = k
  · subst hk
    by_cases hp : p.1 < bl.length
    · rw [getD_setL _ _ _ hp, if_pos rfl] at h
      rcases List.mem_append.1 h with h | h
      · exact Or.inl h
      · exact Or.inr ⟨rfl, List.mem_singleton.1 h⟩
    · rw [List.set_eq_of_length_le (by omega)] at h
      exact Or.inl h
  · rw [List.getD_eq_getElem?_getD, List.getElem?_set_ne hk] at h
    rw [List.getD_eq_getElem?_getD]
    exact Or.inl h
theorem wrA_down : ∀ (ps : List (Nat × List Nat)) (bl : List (List (List Nat))) (left : Nat), (wrA ps bl left).dn = true → ∀ k x, x ∈ (wrA ps bl left).bl.getD k [] → x ∈ bl.getD k [] ∨ ∃ p ∈ ps, p.1 = k ∧ x = p.2
  | [], bl, left, h, k, x, hx => by
    have h1 : left = 1 := of_decide_eq_true h
    have e : (wrA [] bl left).bl = bl := by show (if left = 1 then bl else safeB bl) = _; rw [if_pos h1]
    rw [e] at hx
    exact Or.inl hx
  | p :: ps, bl, left, h, k, x, hx => by
    unfold wrA at h hx
    by_cases hl : left = 1
    · rw [if_pos hl] at hx
      rcases putB_mem hx with h1 | h1
      · exact Or.inl h1
      · exact Or.inr ⟨p, List.mem_cons_self, h1⟩
    · rw [if_neg hl] at h hx
      rcases wrA_down ps _ _ h k x hx with h1 | ⟨q, hq, h1⟩
      · rcases putB_mem h1 with h1 | h1
        · exact Or.inl h1
        · exact Or.inr ⟨p, List.mem_cons_self, h1⟩
      · exact Or.inr ⟨q, List.mem_cons_of_mem _ hq, h1⟩
/-- What may stand on a disk that was started again. -/
def Rst (bl : List (List (List Nat))) (cur : List (List Nat)) : Prop := cur.length = bl.length ∧ ∀ k, k < bl.length → cur.getD k z64 ∈ bl.getD k []
theorem one_last {bl : List (List (List Nat))} (h1 : ∀ k, (bl.getD k []).length ≤ 1) {k : Nat} {x : List Nat} (hx : x ∈ bl.getD k []) : x = (lastsB bl).getD k z64 := by
  have hk : k < bl.length := by
    apply Classical.byContradiction
    intro h
    rw [List.getD_eq_getElem?_getD, List.getElem?_eq_none (by omega)] at hx
    cases hx
  have h2 := h1 k
  have e : (lastsB bl).getD k z64 = (bl.getD k []).getLastD z64 := by
    rw [List.getD_eq_getElem?_getD, List.getD_eq_getElem?_getD, List.getElem?_map, List.getElem?_eq_getElem hk]
    rfl
  rw [e]
  match hb : bl.getD k [], hx, h2 with
  | [y], hx, _ => exact List.mem_singleton.1 hx
/-- Trees stand on what did not change. -/
theorem MT.bk_to {cur : List (List Nat)} {B B' : Nat → Nat} (hB : ∀ a, 0 < B a → B' a = B a) : ∀ {t : MT}, t.on cur B → t.bk B' = t.bk B
  | .nil, _ => rfl
  | .node g _ _ _ _, h => hB g (by have := h.1.1; omega)
theorem MT.on_to {cur cur' : List (List Nat)} {B B' : Nat → Nat} (hl : cur'.length = cur.length) (hB : ∀ a, 0 < B a → B' a = B a) : ∀ {t : MT}, t.on cur B → (∀ x ∈ t.blks B, cur'.getD x z64 = cur.getD x z64) → t.on cur' B'
  | .nil, _, _ => trivial
  | .node g k v l r, ⟨⟨h1, h2, h3⟩, h4, h5⟩, hc => by
    have e : B' g = B g := hB g (by omega)
    refine ⟨⟨by rw [e]; exact h1, by rw [e, hl]; exact h2, ?_⟩, MT.on_to hl hB h4 fun x hx => hc x (List.mem_cons_of_mem _ (List.mem_append_left _ hx)), MT.on_to hl hB h5 fun x hx => hc x (List.mem_cons_of_mem _ (List.mem_append_right _ hx))⟩
    rw [e, hc _ List.mem_cons_self, h3, MT.bk_to hB h4, MT.bk_to hB h5]
theorem MT.on_blks {cur : List (List Nat)} {B : Nat → Nat} : ∀ {t : MT}, t.on cur B → ∀ x ∈ t.blks B, 2 ≤ x ∧ x < cur.length
  | .nil, _, _, h => by cases h
  | .node g _ _ l r, ⟨⟨h1, h2, _⟩, h4, h5⟩, x, hx => by
    rcases List.mem_cons.1 hx with rfl | hx
    · exact ⟨h1, h2⟩
    · rcases List.mem_append.1 hx with hx | hx
      · exact MT.on_blks h4 x hx
      · exact MT.on_blks h5 x hx
theorem frs_node {B : Nat → Nat} : ∀ {t u : MT}, u ∈ t.frs B → ∃ g k v l r, u = .node g k v l r ∧ B g = 0
  | .nil, _, h => by cases h
  | .node g k v l r, u, h => by
    unfold MT.frs at h
    split at h
    · cases h
    · rcases List.mem_append.1 h with h | h
      · rcases List.mem_append.1 h with h | h
        · exact frs_node h
        · exact frs_node h
      · rw [List.mem_singleton.1 h]
        exact ⟨g, k, v, l, r, rfl, by omega⟩
theorem frs_fst {B B' : Nat → Nat} {t u : MT} (h : u ∈ t.frs B) : (ptB B' u).1 = B' u.g0 := by
  obtain ⟨g, k, v, l, r, rfl, _⟩ := frs_node h
  rfl
/-- Where the new nodes go. -/
theorem ps_fst {B : Nat → Nat} {t : MT} {fs : List Nat} (hnd : (t.fr B).Pairwise (· ≠ ·)) (hle : (t.fr B).length ≤ fs.length) : ((t.frs B).map (ptB (asg B (t.fr B) fs))).map (fun p => p.1) = fs.take (t.fr B).length := by
  have e : ((t.frs B).map (ptB (asg B (t.fr B) fs))).map (fun p => p.1) = (t.fr B).map (asg B (t.fr B) fs) := by
    rw [← MT.frs_fr B t, List.map_map, List.map_map, MT.frs_fr B t]
    apply List.map_congr_left
    intro u hu
    exact frs_fst hu
  rw [e]
  apply List.ext_getElem
  · rw [List.length_map, List.length_take]; omega
  · intro j h1 h2
    rw [List.length_map] at h1
    rw [List.getElem_map, List.getElem_take]
    exact asg_at j h1 (by omega) hnd
theorem MT.on_new {B B' : Nat → Nat} {P : MT → Prop} {cur : List (List Nat)} (hP : ∀ u, P u → u.on cur B') : ∀ {t : MT}, Mix B P t → (∀ u ∈ t.frs B, 2 ≤ (ptB B' u).1 ∧ (ptB B' u).1 < cur.length ∧ cur.getD (ptB B' u).1 z64 = (ptB B' u).2) → t.on cur B'
  | .nil, _, _ => trivial
  | .node g k v l r, h, hu => by
    rcases h with ⟨_, h⟩ | ⟨h0, h1, h2⟩
    · exact hP _ h
    · have e : (MT.node g k v l r).frs B = l.frs B ++ r.frs B ++ [.node g k v l r] := by
        show (if 0 < B g then [] else _) = _
        rw [if_neg (by omega)]
      rw [e] at hu
      exact ⟨hu _ (List.mem_append_right _ List.mem_cons_self), MT.on_new hP h1 fun u h => hu u (List.mem_append_left _ (List.mem_append_left _ h)), MT.on_new hP h2 fun u h => hu u (List.mem_append_left _ (List.mem_append_right _ h))⟩
/-- The root that is not the newest one. -/
inductive Oth (cur : List (List Nat)) (keep N : Nat) : Prop
  | none : N = 0 → cur.getD ((N + 1) % 2) z64 = z64 → Oth cur keep N
  | root (rs : List Nat) : 0 < N → cur.getD ((N + 1) % 2) z64 = blkB (rootB keep (N - 1) rs) → 1 ≤ rs.length → rs.length ≤ keep + 1 → rs.length ≤ N → (∀ r ∈ rs, r ≤ 4096) → Oth cur keep N
/-- These versions stand on the disk. -/
structure StR (cur : List (List Nat)) (keep N : Nat) (vs : List (Nat × MT)) (B : Nat → Nat) : Prop where
  two : 2 ≤ cur.length
  le : cur.length ≤ 4096
  on : ∀ v ∈ vs, v.2.on cur B
  root : cur.getD (N % 2) z64 = blkB (rootB keep N (rtB B vs))
  oth : Oth cur keep N
theorem StR.kept {cur cur' : List (List Nat)} {keep N : Nat} {vs : List (Nat × MT)} {B : Nat → Nat} (h : StR cur keep N vs B) (hl : cur'.length = cur.length) (h01 : ∀ x, x < 2 → cur'.getD x z64 = cur.getD x z64) (hb : ∀ v ∈ vs, ∀ x ∈ v.2.blks B, cur'.getD x z64 = cur.getD x z64) : StR cur' keep N vs B := by
  refine ⟨by rw [hl]; exact h.two, by rw [hl]; exact h.le, fun v hv => MT.on_to hl (fun _ _ => rfl) (h.on v hv) (hb v hv), ?_, ?_⟩
  · rw [h01 _ (by omega)]; exact h.root
  · rcases h.oth with ⟨h1, h2⟩ | ⟨rs, h1, h2, h3, h4, h5, h6⟩
    · exact .none h1 (by rw [h01 _ (by omega)]; exact h2)
    · exact .root rs h1 (by rw [h01 _ (by omega)]; exact h2) h3 h4 h5 h6
/-- What is known of a Commit's tree. -/
structure CmK (bl : List (List (List Nat))) (keep N : Nat) (vs : List (Nat × MT)) (B : Nat → Nat) (t : MT) : Prop where
  st : StR (lastsB bl) keep N vs B
  one : ∀ k, (bl.getD k []).length ≤ 1
  ok : ∀ v ∈ vs, OkP v.2.er.prs
  bm : ∀ a, B a ≤ 4096
  v1 : 1 ≤ vs.length
  v2 : vs.length ≤ keep + 1
  v3 : vs.length ≤ N + 1
  mx : Mix B (SubV vs) t
  nd : (t.fr B).Pairwise (· ≠ ·)
  fit : (t.fr B).length ≤ (frF B vs (upB (bl.length - 2))).length
namespace CmK
variable {bl : List (List (List Nat))} {keep N : Nat} {vs : List (Nat × MT)} {B : Nat → Nat} {t : MT} {left : Nat}
theorem len (_ : CmK bl keep N vs B t) : (lastsB bl).length = bl.length := List.length_map _
theorem up (h : CmK bl keep N vs B t) : ∀ a, 0 < B a → (cmtOf keep N vs B bl left t).B a = B a := fun a ha => by
  show asg B (t.fr B) _ a = B a
  exact asg_not fun hm => by have := MT.fr_zero B t a hm; omega
theorem fst (h : CmK bl keep N vs B t) : ((cmtOf keep N vs B bl left t).ps).map (fun p => p.1) = (frF B vs (upB (bl.length - 2))).take (t.fr B).length := ps_fst h.nd h.fit
theorem fst_fs (h : CmK bl keep N vs B t) {p : Nat × List Nat} (hp : p ∈ (cmtOf keep N vs B bl left t).ps) : p.1 ∈ frF B vs (upB (bl.length - 2)) := by
  have : p.1 ∈ ((cmtOf keep N vs B bl left t).ps).map (fun p => p.1) := List.mem_map.2 ⟨p, hp, rfl⟩
  rw [h.fst] at this
  exact List.mem_of_mem_take this
theorem fst_nd (h : CmK bl keep N vs B t) : (((cmtOf keep N vs B bl left t).ps).map (fun p => p.1)).Pairwise (· ≠ ·) := by
  rw [h.fst]
  exact ((frF_up B vs bl.length).imp fun h => Nat.ne_of_lt h).sublist (List.take_sublist _ _)
theorem fst_2 (h : CmK bl keep N vs B t) {p : Nat × List Nat} (hp : p ∈ (cmtOf keep N vs B bl left t).ps) : 2 ≤ p.1 ∧ p.1 < bl.length := frF_mem B vs (h.fst_fs hp)
theorem fst_old (h : CmK bl keep N vs B t) {p : Nat × List Nat} (hp : p ∈ (cmtOf keep N vs B bl left t).ps) : ∀ v ∈ vs, p.1 ∉ v.2.blks B := free_on h.st.le h.st.on h.ok h.len.symm (h.fst_fs hp)
/-- What is not among the new nodes' blocks stands. -/
theorem crash1 (h : CmK bl keep N vs B t) (hd : (cmtOf keep N vs B bl left t).r1.dn = true) {cur' : List (List Nat)} (hr : Rst (cmtOf keep N vs B bl left t).r1.bl cur') : StR cur' keep N vs B := by
  have hl1 : (cmtOf keep N vs B bl left t).r1.bl.length = bl.length := wrA_len _ _ _
  have key : ∀ k, (∀ p ∈ (cmtOf keep N vs B bl left t).ps, p.1 ≠ k) → k < bl.length → cur'.getD k z64 = (lastsB bl).getD k z64 := fun k hk hkl => by
    rcases wrA_down _ _ _ hd k _ (hr.2 k (by rw [hl1]; exact hkl)) with h1 | ⟨p, hp, h1, _⟩
    · exact one_last h.one h1
    · exact absurd h1 (hk p hp)
  refine h.st.kept (by rw [hr.1, hl1, h.len]) (fun x hx => key x (fun p hp => ?_) ?_) fun v hv x hx => key x (fun p hp e => ?_) ?_
  · have := h.fst_2 hp; omega
  · have := h.st.two; rw [h.len] at this; omega
  · subst e; exact h.fst_old hp v hv hx
  · have := MT.on_blks (h.st.on v hv) x hx; rw [h.len] at this; exact this.2
/-- The disk behind write. -/
def cur2 (bl : List (List (List Nat))) (keep N : Nat) (vs : List (Nat × MT)) (B : Nat → Nat) (t : MT) (left : Nat) : List (List Nat) := putL (lastsB bl) (cmtOf keep N vs B bl left t).ps
theorem len2 (h : CmK bl keep N vs B t) : (cur2 bl keep N vs B t left).length = bl.length := (putL_len _ _).trans h.len
theorem old2 (h : CmK bl keep N vs B t) {k : Nat} (hk : ∀ p ∈ (cmtOf keep N vs B bl left t).ps, p.1 ≠ k) : (cur2 bl keep N vs B t left).getD k z64 = (lastsB bl).getD k z64 := putL_not hk
theorem old01 (h : CmK bl keep N vs B t) {x : Nat} (hx : x < 2) : (cur2 bl keep N vs B t left).getD x z64 = (lastsB bl).getD x z64 := h.old2 fun p hp => by have := h.fst_2 hp; omega
theorem oldB (h : CmK bl keep N vs B t) {v : Nat × MT} (hv : v ∈ vs) {x : Nat} (hx : x ∈ v.2.blks B) : (cur2 bl keep N vs B t left).getD x z64 = (lastsB bl).getD x z64 := h.old2 fun p hp e => by subst e; exact h.fst_old hp v hv hx
theorem kept2 (h : CmK bl keep N vs B t) {cur' : List (List Nat)} (hl : cur'.length = bl.length) (hc : ∀ k, k < bl.length → cur'.getD k z64 = (cur2 bl keep N vs B t left).getD k z64) : StR cur' keep N vs B :=
  h.st.kept (hl.trans h.len.symm) (fun x hx => (hc x (by have := h.st.two; rw [h.len] at this; omega)).trans (h.old01 hx)) fun v hv x hx => (hc x (by have := MT.on_blks (h.st.on v hv) x hx; rw [h.len] at this; exact this.2)).trans (h.oldB hv hx)
/-- The new root on it. -/
theorem new2 (h : CmK bl keep N vs B t) {cur' : List (List Nat)} (hl : cur'.length = bl.length) (hr : cur'.getD ((N + 1) % 2) z64 = blkB (rootB keep (N + 1) (rtB (cmtOf keep N vs B bl left t).B (cmtOf keep N vs B bl left t).vs))) (hc : ∀ k, k < bl.length → k ≠ (N + 1) % 2 → cur'.getD k z64 = (cur2 bl keep N vs B t left).getD k z64) :
    StR cur' keep (N + 1) (cmtOf keep N vs B bl left t).vs (cmtOf keep N vs B bl left t).B := by
  have hB := h.up (left := left)
  have htwo : 2 ≤ bl.length := by have := h.st.two; rw [h.len] at this; exact this
  have hold : ∀ v ∈ vs, v.2.on cur' (cmtOf keep N vs B bl left t).B := fun v hv => MT.on_to (hl.trans h.len.symm) hB (h.st.on v hv) fun x hx => by
    have h1 := MT.on_blks (h.st.on v hv) x hx
    rw [h.len] at h1
    exact (hc x h1.2 (by omega)).trans (h.oldB hv hx)
  refine ⟨by omega, by have := h.st.le; rw [h.len] at this; omega, fun v hv => ?_, hr, ?_⟩
  · rcases List.mem_cons.1 (List.mem_of_mem_take hv) with rfl | hv
    · refine MT.on_new (P := SubV vs) (fun u ⟨v, hv, hu⟩ => MT.on_sub hu (hold v hv)) h.mx fun u hu => ?_
      have hp : ptB (cmtOf keep N vs B bl left t).B u ∈ (cmtOf keep N vs B bl left t).ps := List.mem_map.2 ⟨u, hu, rfl⟩
      have h1 := h.fst_2 hp
      refine ⟨h1.1, by rw [hl]; exact h1.2, ?_⟩
      rw [hc _ h1.2 (by omega)]
      exact putL_at h.fst_nd _ hp (by rw [h.len]; exact h1.2)
    · exact hold v hv
  · have e : (N + 1 + 1) % 2 = N % 2 := by omega
    refine .root (rtB B vs) (by omega) ?_ (by unfold rtB; rw [List.length_map]; exact h.v1) (by unfold rtB; rw [List.length_map]; exact h.v2) (by unfold rtB; rw [List.length_map]; exact h.v3) fun r hr => ?_
    · rw [e, hc _ (by omega) (by omega), h.old01 (by omega), h.st.root]
      rfl
    · obtain ⟨v, _, rfl⟩ := List.mem_map.1 hr
      exact bk_le h.bm v.2
theorem last1 (h : CmK bl keep N vs B t) (hd : (cmtOf keep N vs B bl left t).r1.dn = false) : lastsB (cmtOf keep N vs B bl left t).r1.bl = cur2 bl keep N vs B t left ∧ ∃ b2, (cmtOf keep N vs B bl left t).r1.bl = safeB b2 := wrA_up _ _ _ hd
theorem crash2 (h : CmK bl keep N vs B t) (hd1 : (cmtOf keep N vs B bl left t).r1.dn = false) (hd : (cmtOf keep N vs B bl left t).r2.dn = true) {cur' : List (List Nat)} (hr : Rst (cmtOf keep N vs B bl left t).r2.bl cur') :
    StR cur' keep N vs B ∨ StR cur' keep (N + 1) (cmtOf keep N vs B bl left t).vs (cmtOf keep N vs B bl left t).B := by
  obtain ⟨h1, b2, h2⟩ := h.last1 hd1
  have hl1 : (cmtOf keep N vs B bl left t).r1.bl.length = bl.length := wrA_len _ _ _
  have hl2 : (cmtOf keep N vs B bl left t).r2.bl.length = bl.length := (wrA_len _ _ _).trans hl1
  have one1 : ∀ k, ((cmtOf keep N vs B bl left t).r1.bl.getD k []).length ≤ 1 := fun k => by rw [h2]; exact safeB_one b2 k
  have key : ∀ k, k < bl.length → cur'.getD k z64 = (cur2 bl keep N vs B t left).getD k z64 ∨ (k = (N + 1) % 2 ∧ cur'.getD k z64 = blkB (rootB keep (N + 1) (rtB (cmtOf keep N vs B bl left t).B (cmtOf keep N vs B bl left t).vs))) := fun k hk => by
    rcases wrA_down _ _ _ hd k _ (hr.2 k (by rw [hl2]; exact hk)) with h3 | ⟨p, hp, h3, h4⟩
    · left
      rw [← h1]
      exact one_last one1 h3
    · right
      rw [List.mem_singleton.1 hp] at h3 h4
      exact ⟨h3.symm, h4⟩
  rcases key ((N + 1) % 2) (by have := h.st.two; rw [h.len] at this; omega) with h3 | ⟨_, h3⟩
  · left
    refine h.kept2 (left := left) (by rw [hr.1, hl2]) fun k hk => ?_
    rcases key k hk with h4 | ⟨h4, _⟩
    · exact h4
    · rw [h4]; exact h3
  · right
    refine h.new2 (by rw [hr.1, hl2]) h3 fun k hk hne => ?_
    rcases key k hk with h4 | ⟨h4, _⟩
    · exact h4
    · exact absurd h4 hne
theorem done (h : CmK bl keep N vs B t) (hd1 : (cmtOf keep N vs B bl left t).r1.dn = false) (hd : (cmtOf keep N vs B bl left t).r2.dn = false) :
    StR (lastsB (cmtOf keep N vs B bl left t).r2.bl) keep (N + 1) (cmtOf keep N vs B bl left t).vs (cmtOf keep N vs B bl left t).B ∧ (∀ k, ((cmtOf keep N vs B bl left t).r2.bl.getD k []).length ≤ 1) ∧ (cmtOf keep N vs B bl left t).r2.bl.length = bl.length := by
  obtain ⟨h1, _⟩ := h.last1 hd1
  obtain ⟨h2, b2, h3⟩ := wrA_up _ _ _ hd
  have hl1 : (cmtOf keep N vs B bl left t).r1.bl.length = bl.length := wrA_len _ _ _
  have hl2 : (cmtOf keep N vs B bl left t).r2.bl.length = bl.length := (wrA_len _ _ _).trans hl1
  have h4 : lastsB (cmtOf keep N vs B bl left t).r2.bl = (cur2 bl keep N vs B t left).set ((N + 1) % 2) (blkB (rootB keep (N + 1) (rtB (cmtOf keep N vs B bl left t).B (cmtOf keep N vs B bl left t).vs))) := by
    rw [← h1]
    exact h2
  have htwo : 2 ≤ bl.length := by have := h.st.two; rw [h.len] at this; exact this
  have h3 : (cmtOf keep N vs B bl left t).r2.bl = safeB b2 := h3
  refine ⟨?_, fun k => by rw [h3]; exact safeB_one b2 k, hl2⟩
  rw [h4]
  exact h.new2 (by rw [List.length_set, h.len2]) (set_getD_eq _ _ (by rw [h.len2]; omega)) fun k _ hne => set_getD_ne _ _ hne
end CmK
/-- The disk holds these versions. -/
def Sdd (cur : List (List Nat)) (keep : Nat) (Vs : List (List Pr)) : Prop := ∃ vs B, StR cur keep (Vs.length - 1) vs B ∧ VsR keep vs Vs ∧ ∀ a, B a ≤ 4096
end Go.Proofs.Tb
