/- Lists of lists of integers in memory, as the call itself makes them. -/
import Derived.Test.YtcjddfhhofoidaaDoorTmb
set_option linter.unusedVariables false
set_option linter.unusedSimpArgs false
namespace Go.Proofs.Tb
open Go.RowKit

abbrev TSS : TypeId := 45
theorem is_info : (Tryd.prog.info? TIS).map (fun i => (i.zero, i.size, i.bytes)) = some (some (.slice none 0 0), 1, 24) := by kernel_rfl
def nlS : Value := .slice none 0 0
theorem nlS_own : nlS.ownBlock = none := rfl
theorem OwI.keepG {base : Nat} {w w' : World} {v : Value} {xs : List Int} (h : OwI base w v xs) (hk : ∀ g cs, v.ownBlock = some g → w.heap[g]? = some (.cells cs TIN (0, 0)) → w'.heap[g]? = w.heap[g]?) : OwI base w' v xs := by
  refine ⟨h.1, ?_⟩
  rcases h.2 with h | ⟨g, cap, cur, rfl, h1, h2, h3⟩
  · exact Or.inl h
  · exact Or.inr ⟨g, cap, cur, rfl, h1, (hk g cur rfl h2).trans h2, h3⟩
theorem OwI.size {base g : Nat} {w : World} {v : Value} {xs : List Int} (h : OwI base w v xs) (hg : v.ownBlock = some g) : g < w.heap.size := own_size h hg
theorem OwI.ilv {base n c : Nat} {A : Option Addr} {w : World} {xs : List Int} (h : OwI base w (.slice A n c) xs) : Il w A n c xs := by
  obtain ⟨A', c', e, il⟩ := h.il
  injection e with e1 e2 e3
  subst e1 e2 e3
  exact il
theorem OwI.lower {base b : Nat} {w : World} {v : Value} {xs : List Int} (h : OwI base w v xs) (hb : b ≤ base) : OwI b w v xs := by
  refine ⟨h.1, ?_⟩
  rcases h.2 with h | ⟨g, cap, cur, e, h1, h2⟩
  · exact Or.inl h
  · exact Or.inr ⟨g, cap, cur, e, Nat.le_trans hb h1, h2⟩
theorem OwI.lit1 {base : Nat} {w : World} {x : Int} (hb : base ≤ w.heap.size) : OwI base (w.alloc (.cells #[.int .i64 x] TIN)) (.slice (some ⟨w.heap.size, 0, none⟩) 1 1) [x] := World.ownsRow_lit w #[.int .i64 x] 1 hb (by unfold maxLen; omega) rfl
/-- A row of integers while a row of another type grows. -/
theorem OwI.grownT {base b0 k n : Nat} {T : TypeId} {w w' : World} {v z : Value} {xs : List Int} {zs : List Value} (h : OwI base w v xs) (hg : w.grownBy w' z.ownBlock) (hz : w.ownsRow b0 T k z n zs) (hT : T ≠ TIN) : OwI base w' v xs :=
  h.keepG fun g cs e hb => hg.block g (block_lt hb) (fun e' => own_tag hz hT g e'.symm _ _ hb)
/-- A row of integers while a row that lies further on grows. -/
theorem OwI.grownB {base b1 : Nat} {w w' : World} {v : Value} {row : Option Nat} {xs : List Int} (h : OwI base w v xs) (hlt : ∀ g, v.ownBlock = some g → g < b1) (hg : w.grownBy w' row) (hr : ∀ g, row = some g → b1 ≤ g) : OwI base w' v xs :=
  h.keepG fun g cs e hb => hg.block g (block_lt hb) (fun e' => by have h1 := hlt g e; have h2 := hr g e'.symm; omega)
theorem slc_one (A : Option Addr) (n c : Nat) : ∀ u, u ∈ [Value.slice A n c] → u.oneCell' = true := fun u hu => by
  rw [List.mem_singleton] at hu; subst hu; rfl
/-- v owns a row of rows. -/
def OwR2 (base b1 : Nat) (w : World) (v : Value) (vs : List Value) (xss : List (List Int)) : Prop :=
  w.ownsRow base TIS 1 v vs.length vs ∧ vs.length = xss.length ∧ (∀ j, OwI b1 w (vs.getD j nlS) (xss.getD j [])) ∧ ∀ i j g, i ≠ j → (vs.getD i nlS).ownBlock = some g → (vs.getD j nlS).ownBlock ≠ some g
def OwS (base b1 : Nat) (w : World) (v : Value) (xss : List (List Int)) : Prop := ∃ vs, OwR2 base b1 w v vs xss
theorem OwS.empty (b1 : Nat) (w : World) : OwS w.heap.size b1 (w.alloc (.cells #[] TIS)) (.slice (some ⟨w.heap.size, 0, none⟩) 0 0) [] :=
  ⟨[], World.ownsRow_lit w #[] 0 (Nat.le_refl _) (by unfold maxLen; omega) rfl, rfl, fun _ => OwI.nil _ _, fun i j g _ h => by simp [nlS, Value.ownBlock] at h⟩
theorem OwS.nil (base b1 : Nat) (w : World) : OwS base b1 w (.slice none 0 0) [] :=
  ⟨[], ⟨rfl, Or.inl ⟨rfl, rfl⟩⟩, rfl, fun _ => OwI.nil _ _, fun i j g _ h => by simp [nlS, Value.ownBlock] at h⟩
theorem OwR2.below {base b1 : Nat} {w w' : World} {v : Value} {vs : List Value} {xss : List (List Int)} (h : OwR2 base b1 w v vs xss) (hb : Below w.heap.size w w') : OwR2 base b1 w' v vs xss :=
  ⟨own_below h.1 hb, h.2.1, fun j => (h.2.2.1 j).below hb, h.2.2.2⟩
theorem OwS.below {base b1 : Nat} {w w' : World} {v : Value} {xss : List (List Int)} (h : OwS base b1 w v xss) (hb : Below w.heap.size w w') : OwS base b1 w' v xss := by
  obtain ⟨vs, h⟩ := h
  exact ⟨vs, h.below hb⟩
theorem getD_snoc {α : Type} (l : List α) (x d : α) (j : Nat) : (l ++ [x]).getD j d = if j = l.length then x else l.getD j d := by
  simp only [List.getD]
  by_cases h : j < l.length
  · rw [List.getElem?_append_left h, if_neg (by omega)]
  · by_cases e : j = l.length
    · subst e
      rw [if_pos rfl, List.getElem?_append_right (Nat.le_refl _)]
      simp
    · rw [if_neg e, List.getElem?_eq_none (by simp; omega), List.getElem?_eq_none (by omega)]
theorem getD_set' {α : Type} (l : List α) (x d : α) {i : Nat} (hi : i < l.length) (j : Nat) : (l.set i x).getD j d = if j = i then x else l.getD j d := by
  simp only [List.getD, List.getElem?_set]
  by_cases h : i = j
  · subst h; simp [hi]
  · rw [if_neg h, if_neg (fun e => h e.symm)]
/-- One more row behind the others: append of a row u to the outer row. -/
theorem OwR2.snoc {base b1 : Nat} {w w' : World} {v v' u : Value} {vs : List Value} {xss : List (List Int)} {ys : List Int} (h : OwR2 base b1 w v vs xss) (hu : OwI b1 w u ys) (hd : ∀ j g, u.ownBlock = some g → (vs.getD j nlS).ownBlock ≠ some g)
    (ho : w'.ownsRow base TIS 1 v' (vs.length + 1) (vs ++ [u])) (hg : w.grownBy w' v.ownBlock) : OwR2 base b1 w' v' (vs ++ [u]) (xss ++ [ys]) := by
  obtain ⟨h1, h2, h3, h4⟩ := h
  have hk : ∀ {z : Value} {zs : List Int}, OwI b1 w z zs → OwI b1 w' z zs := fun hz => hz.keepG fun g cs e hb => hg.block g (block_lt hb) (fun e' => own_tag h1 (show TIS ≠ TIN by decide) g e'.symm _ _ hb)
  refine ⟨by rw [List.length_append]; exact ho, by simp [h2], fun j => ?_, fun i j g hij e => ?_⟩
  · rw [getD_snoc, getD_snoc, h2]
    by_cases e : j = xss.length
    · rw [if_pos e, if_pos e]; exact hk hu
    · rw [if_neg e, if_neg e]; exact hk (h3 j)
  · rw [getD_snoc] at e ⊢
    by_cases ei : i = vs.length
    · rw [if_pos ei] at e
      rw [if_neg (by omega)]
      exact hd j g e
    · rw [if_neg ei] at e
      by_cases ej : j = vs.length
      · rw [if_pos ej]
        exact fun e' => hd i g e' e
      · rw [if_neg ej]
        exact h4 i j g hij e
/-- A row grows: append to the j-th row, and the new value stored in its place. -/
theorem OwR2.put {base b1 q n c : Nat} {w w2 : World} {vs : List Value} {xss : List (List Int)} (h : OwR2 base b1 w (.slice (some ⟨q, 0, none⟩) n c) vs xss) {j : Nat} (hj : j < xss.length) {u : Value} {ys : List Int} (hu : OwI b1 w2 u ys)
    (hg : w.grownBy w2 (vs.getD j nlS).ownBlock) (hd : u.ownBlock = (vs.getD j nlS).ownBlock ∨ u.ownBlock = some w.heap.size) : OwR2 base b1 (w2.setCell ⟨q, j, none⟩ u) (.slice (some ⟨q, 0, none⟩) n c) (vs.set j u) (xss.set j ys) := by
  obtain ⟨h1, h2, h3, h4⟩ := h
  have hjv : j < vs.length := by omega
  have hkO : w2.ownsRow base TIS 1 (.slice (some ⟨q, 0, none⟩) n c) vs.length vs := by
    refine ⟨h1.1, ?_⟩
    rcases h1.2 with h | ⟨g, cap, cur, e, hb, hh, h5⟩
    · exact Or.inl h
    · exact Or.inr ⟨g, cap, cur, e, hb, (hg.block g (block_lt hh) (fun e' => own_tag (h3 j) (show TIN ≠ TIS by decide) g e'.symm _ _ hh)).trans hh, h5⟩
  have hkI : ∀ i, i ≠ j → OwI b1 w2 (vs.getD i nlS) (xss.getD i []) := fun i hij => (h3 i).keepG fun g cs e hb => hg.block g (block_lt hb) (fun e' => h4 i j g hij e e'.symm)
  have hqI : ∀ {z : Value} {zs : List Int}, OwI b1 w2 z zs → OwI b1 (w2.setCell ⟨q, j, none⟩ u) z zs := fun hz => ownsRow_setCell_other hz (fun e => by
    rcases hkO.2 with ⟨e', _⟩ | ⟨g, cap, cur, e', hb, hh, h5⟩
    · cases e'
    · injection e' with e'
      injection e' with e'
      injection e' with e'
      subst e'
      exact own_tag hz (show TIN ≠ TIS by decide) q e _ _ hh) u
  refine ⟨?_, by simp [h2], fun i => ?_, fun i k g hik e => ?_⟩
  · rcases hkO.2 with ⟨e', _⟩ | ⟨g, cap, cur, e', hb, hh, hn, hm, hs, ht⟩
    · cases e'
    · injection e' with e1 e2 e3
      injection e1 with e1
      injection e1 with e1
      subst e1 e2 e3
      have hbk : Blk w2 q TIS cur := hh
      refine ⟨by simp, Or.inr ⟨q, c, cur.setIfInBounds j u, by rw [List.length_set], hb, hbk.set_ j _, by rw [List.length_set]; exact hn, hm, by rw [Array.size_setIfInBounds]; exact hs, ?_⟩⟩
      rw [List.length_set, Array.toList_setIfInBounds, List.take_set, ht]
  · rw [getD_set' vs u nlS hjv, getD_set' xss ys [] hj]
    by_cases e : i = j
    · rw [if_pos e, if_pos e]; exact hqI hu
    · rw [if_neg e, if_neg e]; exact hqI (hkI i e)
  · rw [getD_set' vs u nlS hjv] at e ⊢
    have hlt : ∀ {i g}, (vs.getD i nlS).ownBlock = some g → g < w.heap.size := fun {i g} e => (h3 i).size e
    by_cases ei : i = j
    · rw [if_pos ei] at e
      rw [if_neg (by omega)]
      rcases hd with hd | hd
      · rw [hd] at e
        exact h4 j k g (by omega) e
      · rw [hd] at e
        injection e with e
        intro e'
        have := hlt e'
        omega
    · rw [if_neg ei] at e
      by_cases ek : k = j
      · rw [if_pos ek]
        rcases hd with hd | hd
        · rw [hd]; exact h4 i j g (by omega) e
        · rw [hd]
          intro e'
          injection e' with e'
          have := hlt e
          omega
      · rw [if_neg ek]
        exact h4 i k g hik e
theorem OwR2.outer {base b1 : Nat} {w w2 : World} {v : Value} {vs : List Value} {xss : List (List Int)} (h : OwR2 base b1 w v vs xss) {j : Nat} (hg : w.grownBy w2 (vs.getD j nlS).ownBlock) : w2.ownsRow base TIS 1 v vs.length vs := by
  obtain ⟨h1, h2, h3, h4⟩ := h
  refine ⟨h1.1, ?_⟩
  rcases h1.2 with h | ⟨g, cap, cur, e, hb, hh, h5⟩
  · exact Or.inl h
  · exact Or.inr ⟨g, cap, cur, e, hb, (hg.block g (block_lt hh) (fun e' => own_tag (h3 j) (show TIN ≠ TIS by decide) g e'.symm _ _ hh)).trans hh, h5⟩
theorem row_cell {base q n c : Nat} {w : World} {vs : List Value} (h1 : w.ownsRow base TIS 1 (.slice (some ⟨q, 0, none⟩) n c) vs.length vs) {j : Nat} (hj : j < vs.length) : w.cell? ⟨q, j, none⟩ = some (vs.getD j nlS) := by
  rcases h1.2 with ⟨e, _⟩ | ⟨g, cap, cur, e, hb, hh, hn, hm, hs, ht⟩
  · cases e
  · injection e with e1 e2 e3
    injection e1 with e1
    injection e1 with e1
    subst e1
    rw [cell_of_row w q j cur TIS (0, 0) hh]
    have h5 : cur.toList[j]? = vs[j]? := by rw [← ht, List.getElem?_take, if_pos (by omega)]
    have h6 : vs[j]? = some (vs.getD j nlS) := by simp [List.getD, hj]
    rw [← h6, ← h5]
    simp
theorem row_free {base q n c : Nat} {w : World} {vs : List Value} (h1 : w.ownsRow base TIS 1 (.slice (some ⟨q, 0, none⟩) n c) vs.length vs) (j : Nat) : w.frozen? ⟨q, j, none⟩ = false := by
  obtain ⟨_, cur, hb⟩ := own_blk h1
  exact Blk.free hb j
/-- A slice of slices that reads as lists. -/
structure Gs (w : World) (A : Option Addr) (n c : Nat) (xss : List (List Int)) : Prop where
  len : xss.length = n
  le : n ≤ c
  cap : c ≤ 9223372036854775807
  at_ : 0 < n → ∃ b o, A = some ⟨b, o, none⟩ ∧ ∀ j, j < n → ∃ A' n' c', w.cell? ⟨b, o + j, none⟩ = some (.slice A' n' c') ∧ Il w A' n' c' (xss.getD j [])
theorem Gs.below {w w' : World} {A : Option Addr} {n c : Nat} {xss : List (List Int)} (h : Gs w A n c xss) (hb : Below w.heap.size w w') : Gs w' A n c xss := by
  refine ⟨h.len, h.le, h.cap, fun hn => ?_⟩
  obtain ⟨b, o, hA, hc⟩ := h.at_ hn
  refine ⟨b, o, hA, fun j hj => ?_⟩
  obtain ⟨A', n', c', h1, h2⟩ := hc j hj
  exact ⟨A', n', c', (hb.cell (p := ⟨b, o + j, none⟩) (World.block_lt_of_cell? w _ h1)).trans h1, h2.below hb⟩
theorem OwR2.cell {base b1 q n c : Nat} {w : World} {vs : List Value} {xss : List (List Int)} (h : OwR2 base b1 w (.slice (some ⟨q, 0, none⟩) n c) vs xss) {j : Nat} (hj : j < xss.length) : w.cell? ⟨q, j, none⟩ = some (vs.getD j nlS) := by
  obtain ⟨h1, h2, h3, h4⟩ := h
  rcases h1.2 with ⟨e, _⟩ | ⟨g, cap, cur, e, hb, hh, hn, hm, hs, ht⟩
  · cases e
  · injection e with e1 e2 e3
    injection e1 with e1
    injection e1 with e1
    subst e1
    rw [cell_of_row w q j cur TIS (0, 0) hh]
    have h5 : cur.toList[j]? = vs[j]? := by rw [← ht, List.getElem?_take, if_pos (by omega)]
    have h6 : vs[j]? = some (vs.getD j nlS) := by
      have : j < vs.length := by omega
      simp [List.getD, this]
    rw [← h6, ← h5]
    simp
theorem OwR2.free {base b1 q n c : Nat} {w : World} {vs : List Value} {xss : List (List Int)} (h : OwR2 base b1 w (.slice (some ⟨q, 0, none⟩) n c) vs xss) (j : Nat) : w.frozen? ⟨q, j, none⟩ = false := by
  obtain ⟨_, cur, hb⟩ := own_blk h.1
  exact Blk.free hb j
theorem OwR2.addr {base b1 n c : Nat} {A : Option Addr} {w : World} {vs : List Value} {xss : List (List Int)} (h : OwR2 base b1 w (.slice A n c) vs xss) (h0 : 0 < xss.length) : ∃ q, A = some ⟨q, 0, none⟩ := own_addr h.1 (by rw [h.2.1]; exact h0)
/-- The form of the value, and what it reads as. -/
theorem OwS.gs {base b1 : Nat} {w : World} {v : Value} {xss : List (List Int)} (h : OwS base b1 w v xss) : ∃ A c, v = .slice A xss.length c ∧ Gs w A xss.length c xss := by
  obtain ⟨vs, hh⟩ := h
  have h0 := hh
  obtain ⟨h1, h2, h3, h4⟩ := hh
  rcases h1.2 with ⟨rfl, hn⟩ | ⟨g, cap, cur, rfl, hb, hh, hn, hm, hs, ht⟩
  · rw [h2] at hn
    rw [hn]
    exact ⟨none, 0, rfl, ⟨hn, Nat.le_refl _, by omega, fun h => absurd h (by omega)⟩⟩
  · rw [h2] at h0 hn ⊢
    refine ⟨_, _, rfl, ⟨rfl, hn, by simpa [maxLen] using hm, fun hp => ⟨g, 0, rfl, fun j hj => ?_⟩⟩⟩
    obtain ⟨A', c', e, il⟩ := (h3 j).il
    exact ⟨A', _, c', by rw [Nat.zero_add, h0.cell hj, e], il⟩
end Go.Proofs.Tb
