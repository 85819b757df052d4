/- Rows of nodes that lie in the midst of a block: one more is appended; the library's sort of them. -/
import Derived.Test.YtcjddfhhofoidaaDoorQc
import Derived.Test.YtcjddfhhofoidaaDoorSrt
import Derived.Deep.AppendSrc
set_option linter.unusedVariables false
set_option linter.unusedSimpArgs false
namespace Go.Proofs.Tb
open Go.RowKit

/-- The pairs d lie in block g from cell o on; the block's further cells up to cap pairs are there too. -/
structure RoO (T : TypeId) (base : Nat) (w : World) (g o n cap : Nat) (d : List (Int × Value)) : Prop where
  base_ : base ≤ g
  len : d.length = n
  le : n ≤ cap
  capM : cap ≤ maxLen
  ex : ∃ cs, w.heap[g]? = some (.cells cs T (0, 0)) ∧ o + cap * 2 ≤ cs.size ∧ ∀ j u, (cel prE d)[j]? = some u → cs[o + j]? = some u
section
variable {T : TypeId} {base : Nat} {w w' : World} {g o n cap : Nat} {d : List (Int × Value)} {bs : List Tt}
theorem RoO.cell (h : RoO T base w g o n cap d) {j : Nat} {u : Value} (hj : (cel prE d)[j]? = some u) : w.cell? ⟨g, o + j, none⟩ = some u := by
  obtain ⟨cs, h1, _, h3⟩ := h.ex
  rw [cell_of_row w g (o + j) cs T (0, 0) h1]
  exact h3 j u hj
theorem RoO.lt (h : RoO T base w g o n cap d) : g < w.heap.size := by
  obtain ⟨cs, h1, _⟩ := h.ex
  exact block_lt h1
theorem RoO.block (h : RoO T base w g o n cap d) (hb : w'.heap[g]? = w.heap[g]?) : RoO T base w' g o n cap d := by
  obtain ⟨cs, h1, h2⟩ := h.ex
  exact ⟨h.base_, h.len, h.le, h.capM, cs, hb.trans h1, h2⟩
theorem RoO.below (h : RoO T base w g o n cap d) (hb : Below w.heap.size w w') : RoO T base w' g o n cap d := h.block (hb.block g h.lt)
theorem RoO.of_own (h : w.ownsRow base T 2 (.slice (some ⟨g, 0, none⟩) n cap) n (cel prE d)) (hd : d.length = n) : RoO T base w g 0 n cap d := by
  rcases h.2 with ⟨hv, _⟩ | ⟨g', cap', cur, hv, hb, hh, hn, hm, hs, ht⟩
  · cases hv
  · injection hv with h1 h2 h3
    injection h1 with h1
    injection h1 with h1 _ _
    subst h1 h3
    refine ⟨hb, hd, hn, hm, cur, hh, by rw [hs]; omega, fun j u hj => ?_⟩
    rw [← ht, List.getElem?_take] at hj
    split at hj
    · rw [Nat.zero_add]; simpa using hj
    · cases hj
/-- All but the first two. -/
theorem RoO.drop2 (h : RoO T base w g o n cap d) (hn : 2 ≤ n) : RoO T base w g (o + 4) (n - 2) (cap - 2) (d.drop 2) := by
  obtain ⟨cs, h1, h2, h3⟩ := h.ex
  have hl := h.len
  have hle := h.le
  refine ⟨h.base_, by rw [List.length_drop, hl], by omega, by have := h.capM; omega, cs, h1, by omega, fun j u hj => ?_⟩
  have e : cel prE d = cel prE (d.take 2) ++ cel prE (d.drop 2) := by rw [← cel_app, List.take_append_drop]
  have hl2 : (cel prE (d.take 2)).length = 4 := by rw [cel_len (prE_len _), List.length_take]; omega
  have := h3 (4 + j) u (by rw [e, List.getElem?_append_right (by omega), hl2, show 4 + j - 4 = j by omega]; exact hj)
  rwa [← Nat.add_assoc] at this
/-- append of one pair: in the spare room behind the row, or a new row. -/
theorem run_appO {P : Program} (TS : TypeId) (z : Value) (bytes : Nat) (ty : TypeId) (hinf : (P.info? T).map (fun i => (i.zero, i.size, i.bytes)) = some (some z, 2, bytes)) (hund : P.underlying TS = some (.slice T)) (hzs : z.cells.size = 2) (hby : bytes ≤ 1000)
    (h : RoO T base w g o n cap d) (hbase : base ≤ w.heap.size) (hn : n ≤ 1000000) (x : Int) (u : Value) (q c : Nat) (hq : Blk w q T #[.int .i64 x, u]) (hu : u.oneCell' = true) :
    ∃ v' w' g' o' cap', (Builtin.append_ #[TS, TS] ty #[.slice (some ⟨g, o, none⟩) n cap, .slice (some ⟨q, 0, none⟩) 1 c]).run P w = .ok v' w' ∧ v' = .slice (some ⟨g', o', none⟩) (n + 1) cap' ∧ RoO T base w' g' o' (n + 1) cap' (d ++ [(x, u)]) ∧
      Below base w w' ∧ (∀ b, b < w.heap.size → b ≠ g → w'.heap[b]? = w.heap[b]?) := by
  obtain ⟨i0, hi, hz0, hz1, hz2⟩ := info_parts hinf
  have hsrc : Src P i0.size TS (.slice (some ⟨q, 0, none⟩) 1 c) 1 [.int .i64 x, u] w := by
    rw [hz1]
    refine Src.ofSlice w hund ⟨q, 0, none⟩ 1 c _ rfl (fun j v hj => blk_cells hq j v hj) (fun v hv => ?_)
    rcases List.mem_cons.1 hv with rfl | hv
    · rfl
    · rw [List.mem_singleton] at hv; subst hv; exact hu
  obtain ⟨cs, h1, h2, h3⟩ := h.ex
  have hl := h.len
  have hle := h.le
  have hcl : (cel prE d).length = n * 2 := by rw [cel_len (prE_len d), hl]
  have hce : cel prE (d ++ [(x, u)]) = cel prE d ++ [.int .i64 x, u] := by rw [cel_app]; rfl
  by_cases hroom : n + 1 ≤ cap
  · have hsome : ∀ j, j < ([.int .i64 x, u] : List Value).length → (w.cell? ⟨g, o + n * i0.size + j, none⟩).isSome = true := fun j hj => by
      rw [hz1, cell_of_row w g _ cs T (0, 0) h1]
      simp only [List.length_cons, List.length_nil] at hj
      rw [Array.getElem?_eq_getElem (by omega)]
      rfl
    have hrun := run_append_room_src (P := P) w TS TS ty T i0 hund hi g o n cap (.slice (some ⟨q, 0, none⟩) 1 c) 1 [.int .i64 x, u] hsrc hroom hsome (fun j _ => Blk.free h1 _)
    have e1 : w.setCells g (o + n * i0.size) [.int .i64 x, u] = (w.setCell ⟨g, o + n * 2, none⟩ (.int .i64 x)).setCell ⟨g, o + n * 2 + 1, none⟩ u := by rw [hz1]; rfl
    rw [e1] at hrun
    have hb1 : Blk ((w.setCell ⟨g, o + n * 2, none⟩ (.int .i64 x)).setCell ⟨g, o + n * 2 + 1, none⟩ u) g T ((cs.setIfInBounds (o + n * 2) (.int .i64 x)).setIfInBounds (o + n * 2 + 1) u) := (Blk.set_ h1 _ _).set_ _ _
    refine ⟨_, _, g, o, cap, hrun, rfl, ⟨h.base_, by simp [hl], hroom, h.capM, _, hb1, by simp; omega, fun j v hj => ?_⟩, ((Below.refl _ _).setCell h.base_ _).setCell h.base_ _, fun b _ hbn => (Below.heap_setCell _ _ _ b hbn).trans (Below.heap_setCell _ _ _ b hbn)⟩
    rw [hce] at hj
    rw [Array.getElem?_setIfInBounds, Array.getElem?_setIfInBounds]
    by_cases hj1 : j < n * 2
    · rw [if_neg (by omega), if_neg (by omega)]
      rw [List.getElem?_append_left (by omega)] at hj
      exact h3 j v hj
    · rw [List.getElem?_append_right (by omega), hcl] at hj
      obtain e | e : j = n * 2 ∨ j = n * 2 + 1 := by
        rcases Nat.lt_or_ge (j - n * 2) 2 with hlt | hge
        · omega
        · rw [List.getElem?_eq_none (by simpa using hge)] at hj; cases hj
      · subst e
        rw [if_neg (by omega), if_pos rfl, if_pos (by omega)]
        rw [Nat.sub_self] at hj
        exact hj
      · subst e
        rw [if_pos (by omega), if_pos (by simp; omega)]
        rw [show n * 2 + 1 - n * 2 = 1 by omega] at hj
        exact hj
  · have hold : (Builtin.firstCells i0.size n (.slice (some ⟨g, o, none⟩) n cap)).run P w.drew = .ok (cel prE d).toArray w.drew := by
      rw [hz1]
      refine run_firstCells_some w.drew 2 n ⟨g, o, none⟩ n cap (cel prE d) hcl (fun j v hj => ?_)
      have e : (⟨g, o, none⟩ : Addr).add j = ⟨g, o + j, none⟩ := by simp only [Addr.add]; split <;> simp_all
      rw [e]
      exact h.cell hj
    have hfit : Builtin.nextslicecap (n + 1) cap * i0.bytes ≤ 281474976710656 := growslice_fits (by omega) (by
      rw [hz2]
      have : (n + 1) * bytes ≤ 1000001 * 1000 := Nat.mul_le_mul (by omega) hby
      omega)
    have hrun := run_append_grow_src (P := P) w TS TS ty T i0 z hund hi hz0 (some ⟨g, o, none⟩) n cap (cel prE d) hold (.slice (some ⟨q, 0, none⟩) 1 c) 1 [.int .i64 x, u] hsrc (by omega) (by omega) hfit
    have hge := grownCap_ge w (n + 1) cap T
    have hgm := grownCap_le_maxLen w (n + 1) cap T (by unfold maxLen; omega)
    obtain ⟨G, hG⟩ : ∃ G, grownCap w (n + 1) cap T = G := ⟨_, rfl⟩
    rw [hG] at hrun hge hgm
    have hLs : (cel prE d ++ [.int .i64 x, u]).length = (n + 1) * 2 := by rw [List.length_append, hcl]; simp; omega
    refine ⟨_, _, w.heap.size, 0, G, hrun, rfl, ⟨hbase, by simp [hl], hge, hgm, _, heap_alloc_new w.drew _, ?_, fun j v hj => ?_⟩, ((Below.refl _ _).drew).alloc hbase _, fun b hb _ => Below.heap_alloc w.drew _ b hb⟩
    · rw [Array.size_append, List.size_toArray, hLs, size_zeroCells, hzs]
      omega
    · rw [hce] at hj
      have hjl : j < (cel prE d ++ [.int .i64 x, u]).length := by
        rcases Nat.lt_or_ge j (cel prE d ++ [.int .i64 x, u]).length with h | h
        · exact h
        · rw [List.getElem?_eq_none h] at hj; cases hj
      rw [Nat.zero_add, Array.getElem?_append_left (by simpa using hjl)]
      simpa using hj
end
end Go.Proofs.Tb
