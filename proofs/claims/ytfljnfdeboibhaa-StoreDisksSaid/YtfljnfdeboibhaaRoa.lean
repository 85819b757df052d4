/- Plain: what stands on the disk: nodes on their blocks; the blocks that are free are none of theirs. -/
import Derived.Test.YtfljnfdeboibhaaTsj
set_option linter.unusedVariables false
set_option linter.unusedSimpArgs false
namespace Go.Proofs.Tb
open Go.RowKit

theorem beB_inj {n m k : Nat} (hn : n < 256 ^ k) (hm : m < 256 ^ k) (h : beB n k = beB m k) : n = m := by
  rw [← rdB_be n k hn, ← rdB_be m k hm, h]
theorem map_inj {α β : Type} {f : α → β} (hf : ∀ a b, f a = f b → a = b) : ∀ {x y : List α}, x.map f = y.map f → x = y
  | [], [], _ => rfl
  | [], _ :: _, h => by cases h
  | _ :: _, [], h => by cases h
  | a :: x, b :: y, h => by
    rw [List.map_cons, List.map_cons] at h
    injection h with h1 h2
    rw [hf a b h1, map_inj hf h2]
theorem strB_inj {s t : Str} (h : strB s = strB t) : s = t := str_ext (map_inj (fun _ _ e => UInt8.toNat_inj.1 e) h)
theorem txB_inj {s t : Str} {most : Nat} (hs : s.size ≤ most) (ht : t.size ≤ most) (hm : most < 256) (h : txB s most = txB t most) : s = t := by
  unfold txB at h
  rw [List.append_assoc, List.append_assoc] at h
  have h1 := List.append_inj h (by rw [beB_len, beB_len])
  have e : s.size = t.size := beB_inj (k := 1) (by rw [Nat.pow_one]; omega) (by rw [Nat.pow_one]; omega) h1.1
  have h2 := List.append_inj h1.2 (by rw [strB_len, strB_len, e])
  exact strB_inj h2.1
theorem nodB_inj {k k' v v' : Str} {l l' r r' h h' : Nat} (hk : k.size ≤ 12) (hk' : k'.size ≤ 12) (hv : v.size ≤ 24) (hv' : v'.size ≤ 24) (hl : l < 65536) (hl' : l' < 65536) (hr : r < 65536) (hr' : r' < 65536)
    (e : nodB k v l r h = nodB k' v' l' r' h') : k = k' ∧ v = v' ∧ l = l' ∧ r = r' := by
  unfold nodB at e
  have e1 := (List.append_inj e (by simp only [List.length_append, txB_len hk, txB_len hv, txB_len hk', txB_len hv', beB_len, List.length_cons, List.length_nil])).1
  have e2 := List.append_inj e1 (by simp only [List.length_append, txB_len hk, txB_len hv, txB_len hk', txB_len hv', beB_len, List.length_cons, List.length_nil])
  have e3 := List.append_inj e2.1 (by simp only [List.length_append, txB_len hk, txB_len hv, txB_len hk', txB_len hv', beB_len, List.length_cons, List.length_nil])
  have e4 := List.append_inj e3.1 (by simp only [List.length_append, txB_len hk, txB_len hk', List.length_cons, List.length_nil])
  have e5 := List.append_inj e4.1 (by simp only [List.length_cons, List.length_nil])
  exact ⟨txB_inj hk hk' (by omega) e5.2, txB_inj hv hv' (by omega) e4.2, beB_inj (k := 2) hl hl' e3.2, beB_inj (k := 2) hr hr' e2.2⟩
theorem blkB_pre {a b : List Nat} (hab : a.length = b.length) (h : blkB a = blkB b) : a = b := by
  unfold blkB endB at h
  have h1 := (List.append_inj' h (by rw [beB_len, beB_len])).1
  exact (List.append_inj h1 hab).1
/-- The nodes of a tree stand on their blocks. -/
def MT.on (cur : List (List Nat)) (B : Nat → Nat) : MT → Prop
  | .nil => True
  | .node g k v l r => (2 ≤ B g ∧ B g < cur.length ∧ cur.getD (B g) z64 = blkB (nodB k v (l.bk B) (r.bk B) (1 + max l.er.ht r.er.ht))) ∧ l.on cur B ∧ r.on cur B
/-- The blocks of a tree. -/
def MT.blks (B : Nat → Nat) : MT → List Nat
  | .nil => []
  | .node g _ _ l r => B g :: (l.blks B ++ r.blks B)
theorem OkP.left {a b : List Pr} {p : Pr} (h : OkP (a ++ p :: b)) : OkP a := fun x hx => h x (List.mem_append_left _ hx)
theorem OkP.right {a b : List Pr} {p : Pr} (h : OkP (a ++ p :: b)) : OkP b := fun x hx => h x (List.mem_append_right _ (List.mem_cons_of_mem _ hx))
theorem OkP.mid {a b : List Pr} {p : Pr} (h : OkP (a ++ p :: b)) : p.1.size ≤ 12 ∧ p.2.size ≤ 24 := h p (List.mem_append_right _ List.mem_cons_self)
theorem MT.bk_lt {cur : List (List Nat)} {B : Nat → Nat} (hc : cur.length ≤ 4096) : ∀ {t : MT}, t.on cur B → t.bk B < 65536
  | .nil, _ => by show 0 < 65536; omega
  | .node g _ _ _ _, h => by show B g < 65536; have := h.1.2.1; omega
/-- A block tells the tree that stands on it. -/
theorem MT.on_eq {cur : List (List Nat)} {B B' : Nat → Nat} (hc : cur.length ≤ 4096) : ∀ {t t' : MT}, t.on cur B → t'.on cur B' → OkP t.er.prs → OkP t'.er.prs → t.bk B = t'.bk B' → t.er = t'.er ∧ t.blks B = t'.blks B'
  | .nil, .nil, _, _, _, _, _ => ⟨rfl, rfl⟩
  | .nil, .node g _ _ _ _, _, h, _, _, e => by
    have h1 := h.1.1
    have e' : 0 = B' g := e
    omega
  | .node g _ _ _ _, .nil, h, _, _, _, e => by
    have h1 := h.1.1
    have e' : B g = 0 := e
    omega
  | .node g k v l r, .node g' k' v' l' r', h, h', ho, ho', e => by
    obtain ⟨⟨h1, h2, h3⟩, h4, h5⟩ := h
    obtain ⟨⟨i1, i2, i3⟩, i4, i5⟩ := h'
    have e' : B g = B' g' := e
    have ho1 : OkP (l.er.prs ++ (k, v) :: r.er.prs) := ho
    have ho2 : OkP (l'.er.prs ++ (k', v') :: r'.er.prs) := ho'
    rw [e', i3] at h3
    have hn := blkB_pre (by rw [nodB_len ho2.mid.1 ho2.mid.2, nodB_len ho1.mid.1 ho1.mid.2]) h3
    obtain ⟨rfl, rfl, e3, e4⟩ := nodB_inj ho2.mid.1 ho1.mid.1 ho2.mid.2 ho1.mid.2 (MT.bk_lt hc i4) (MT.bk_lt hc h4) (MT.bk_lt hc i5) (MT.bk_lt hc h5) hn
    obtain ⟨f1, f2⟩ := MT.on_eq hc h4 i4 ho1.left ho2.left e3.symm
    obtain ⟨f3, f4⟩ := MT.on_eq hc h5 i5 ho1.right ho2.right e4.symm
    exact ⟨by show Tr.node k' v' l.er r.er = Tr.node k' v' l'.er r'.er; rw [f1, f3], by show B g :: (l.blks B ++ r.blks B) = B' g' :: (l'.blks B' ++ r'.blks B'); rw [e', f2, f4]⟩
/-- What is known of the parts of the versions that stand. -/
structure OnS (cur : List (List Nat)) (B : Nat → Nat) (S : MT → Prop) : Prop where
  le : cur.length ≤ 4096
  ch : ∀ g k v l r, S (.node g k v l r) → S l ∧ S r
  on : ∀ u, S u → u.on cur B
  ok : ∀ u, S u → OkP u.er.prs
theorem OnS.sub {cur : List (List Nat)} {B : Nat → Nat} {S : MT → Prop} (h : OnS cur B S) : ∀ {t : MT}, S t → ∀ {x : Nat}, x ∈ t.blks B → ∃ u, S u ∧ u.bk B = x ∧ u.er.ht ≤ t.er.ht ∧ ∀ y ∈ u.blks B, y ∈ t.blks B
  | .nil, _, _, hx => by cases hx
  | .node g k v l r, hs, x, hx => by
    obtain ⟨h1, h2⟩ := h.ch _ _ _ _ _ hs
    rcases List.mem_cons.1 hx with rfl | hx
    · exact ⟨_, hs, rfl, Nat.le_refl _, fun y hy => hy⟩
    · rcases List.mem_append.1 hx with hx | hx
      · obtain ⟨u, a, b, c, d⟩ := h.sub h1 hx
        refine ⟨u, a, b, ?_, fun y hy => List.mem_cons_of_mem _ (List.mem_append_left _ (d y hy))⟩
        show u.er.ht ≤ 1 + max l.er.ht r.er.ht
        omega
      · obtain ⟨u, a, b, c, d⟩ := h.sub h2 hx
        refine ⟨u, a, b, ?_, fun y hy => List.mem_cons_of_mem _ (List.mem_append_right _ (d y hy))⟩
        show u.er.ht ≤ 1 + max l.er.ht r.er.ht
        omega
/-- What is not free any more has nothing free beneath it, up to some height. -/
def Shu (B : Nat → Nat) (S : MT → Prop) (m : Nat) (L : List Nat) : Prop := ∀ u, S u → u.er.ht ≤ m → u ≠ .nil → u.bk B ∉ L → ∀ x ∈ u.blks B, x ∉ L
theorem Shu.mono {B : Nat → Nat} {S : MT → Prop} {m m' : Nat} {L : List Nat} (h : Shu B S m L) (hm : m' ≤ m) : Shu B S m' L := fun u hu hh => h u hu (by omega)
theorem Shu.cut {cur : List (List Nat)} {B : Nat → Nat} {S : MT → Prop} (hs : OnS cur B S) {m : Nat} {L : List Nat} (h : Shu B S m L) {t : MT} (ht : S t) : Shu B S m (L.filter fun x => decide (x ∉ t.blks B)) := by
  intro u hu hm hn hb x hx hxl
  obtain ⟨h1, h2⟩ := List.mem_filter.1 hxl
  have h2 : x ∉ t.blks B := of_decide_eq_true h2
  by_cases hbl : u.bk B ∈ L
  · have hbt : u.bk B ∈ t.blks B := by
      apply Classical.byContradiction
      intro hc
      exact hb (List.mem_filter.2 ⟨hbl, decide_eq_true hc⟩)
    obtain ⟨u', a, b, _, d⟩ := hs.sub ht hbt
    obtain ⟨_, e⟩ := MT.on_eq hs.le (hs.on _ hu) (hs.on _ a) (hs.ok _ hu) (hs.ok _ a) b.symm
    rw [e] at hx
    exact h2 (d x hx)
  · exact h u hu hm hn hbl x hx h1
theorem unf_on {cur : List (List Nat)} {B : Nat → Nat} {S : MT → Prop} (hs : OnS cur B S) : ∀ (t : MT), S t → ∀ (L : List Nat), Shu B S t.er.ht L → t.unf B L = L.filter fun x => decide (x ∉ t.blks B)
  | .nil, _, L, _ => by
    show L = _
    rw [List.filter_eq_self.2 fun x _ => decide_eq_true (by intro h; cases h)]
  | .node g k v l r, ht, L, h => by
    obtain ⟨hl, hr⟩ := hs.ch _ _ _ _ _ ht
    have hht : (MT.node g k v l r).er.ht = 1 + max l.er.ht r.er.ht := rfl
    rw [hht] at h
    unfold MT.unf
    by_cases hg : B g ∈ L
    · rw [if_pos hg]
      have key : ∀ m, m ≤ max l.er.ht r.er.ht → Shu B S m (L.filter fun x => decide (x ≠ B g)) := by
        intro m hm u hu hhu hn hb x hx hxl
        obtain ⟨h1, h2⟩ := List.mem_filter.1 hxl
        by_cases hbl : u.bk B ∈ L
        · have hbg : u.bk B = B g := by
            apply Classical.byContradiction
            intro hc
            exact hb (List.mem_filter.2 ⟨hbl, decide_eq_true hc⟩)
          obtain ⟨e, _⟩ := MT.on_eq hs.le (hs.on _ hu) (hs.on _ ht) (hs.ok _ hu) (hs.ok _ ht) hbg
          rw [e, hht] at hhu
          omega
        · exact h u hu (by omega) hn hbl x hx h1
      have e1 := unf_on hs l hl _ (key l.er.ht (by omega))
      have e2 := unf_on hs r hr _ ((key r.er.ht (by omega)).cut hs hl)
      rw [e1, e2, List.filter_filter, List.filter_filter]
      apply List.filter_congr
      intro x _
      show (decide (x ∉ r.blks B) && decide (x ∉ l.blks B) && decide (x ≠ B g)) = decide (x ∉ B g :: (l.blks B ++ r.blks B))
      rw [Bool.eq_iff_iff]
      simp only [Bool.and_eq_true, decide_eq_true_eq, List.mem_cons, List.mem_append, not_or]
      constructor
      · rintro ⟨⟨a, b⟩, c⟩; exact ⟨c, b, a⟩
      · rintro ⟨c, b, a⟩; exact ⟨⟨a, b⟩, c⟩
    · rw [if_neg hg]
      have hno : ∀ x ∈ L, x ∉ (MT.node g k v l r).blks B := fun x hx hb => h (.node g k v l r) ht (Nat.le_refl _) (by intro e; cases e) hg x hb hx
      exact (List.filter_eq_self.2 fun x hx => decide_eq_true (hno x hx)).symm
theorem frF_on {cur : List (List Nat)} {B : Nat → Nat} {S : MT → Prop} (hs : OnS cur B S) : ∀ (vs : List (Nat × MT)), (∀ v ∈ vs, S v.2) → ∀ (L : List Nat), (∀ m, Shu B S m L) → ∀ x ∈ frF B vs L, x ∈ L ∧ ∀ v ∈ vs, x ∉ v.2.blks B
  | [], _, L, _, x, hx => ⟨hx, fun v hv => by cases hv⟩
  | v :: vs, hv, L, hL, x, hx => by
    have e : frF B (v :: vs) L = frF B vs (v.2.unf B L) := rfl
    have hv0 := hv v List.mem_cons_self
    rw [e, unf_on hs v.2 hv0 L (hL _)] at hx
    obtain ⟨h1, h2⟩ := frF_on hs vs (fun u hu => hv u (List.mem_cons_of_mem _ hu)) _ (fun m => (hL m).cut hs hv0) x hx
    obtain ⟨h3, h4⟩ := List.mem_filter.1 h1
    refine ⟨h3, fun u hu => ?_⟩
    rcases List.mem_cons.1 hu with rfl | hu
    · exact of_decide_eq_true h4
    · exact h2 u hu
theorem MT.on_sub {cur : List (List Nat)} {B : Nat → Nat} : ∀ {t u : MT}, u ∈ t.subs → t.on cur B → u.on cur B
  | .nil, u, h, ht => by
    rcases List.mem_cons.1 h with rfl | h
    · exact ht
    · cases h
  | .node g k v l r, u, h, ht => by
    rcases List.mem_cons.1 h with rfl | h
    · exact ht
    · rcases List.mem_append.1 h with h | h
      · exact MT.on_sub h ht.2.1
      · exact MT.on_sub h ht.2.2
theorem MT.ok_sub : ∀ {t u : MT}, u ∈ t.subs → OkP t.er.prs → OkP u.er.prs
  | .nil, u, h, ht => by
    rcases List.mem_cons.1 h with rfl | h
    · exact ht
    · cases h
  | .node g k v l r, u, h, ht => by
    have ht' : OkP (l.er.prs ++ (k, v) :: r.er.prs) := ht
    rcases List.mem_cons.1 h with rfl | h
    · exact ht
    · rcases List.mem_append.1 h with h | h
      · exact MT.ok_sub h ht'.left
      · exact MT.ok_sub h ht'.right
/-- The blocks that are free are none of the versions'. -/
theorem free_on {cur : List (List Nat)} {B : Nat → Nat} (hc : cur.length ≤ 4096) {vs : List (Nat × MT)} (hon : ∀ v ∈ vs, v.2.on cur B) (hok : ∀ v ∈ vs, OkP v.2.er.prs) {n : Nat} (hn : n = cur.length) {x : Nat} (hx : x ∈ frF B vs (upB (n - 2))) : ∀ v ∈ vs, x ∉ v.2.blks B := by
  have hs : OnS cur B (SubV vs) := ⟨hc, SubV.child vs, fun u ⟨v, hv, hu⟩ => MT.on_sub hu (hon v hv), fun u ⟨v, hv, hu⟩ => MT.ok_sub hu (hok v hv)⟩
  refine (frF_on hs vs (fun v hv => ⟨v, hv, v.2.subs_self⟩) _ ?_ x hx).2
  intro m u hu _ hne hb
  exfalso
  apply hb
  have h1 := hs.on _ hu
  cases u with
  | nil => exact absurd rfl hne
  | node g k v l r =>
    show B g ∈ List.range' 2 (n - 2)
    have h2 := h1.1.1
    have h3 := h1.1.2.1
    rw [List.mem_range'_1]
    omega
end Go.Proofs.Tb
