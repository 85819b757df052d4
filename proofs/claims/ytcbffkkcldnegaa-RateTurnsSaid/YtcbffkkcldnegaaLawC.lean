/- Two lists of readings that a call makes side by side. -/
import Derived.Test.YtcbffkkcldnegaaLawB
import Derived.StillTailTactics
namespace Go.Proofs.Tb
open Go.RowKit
attribute [local go_sem] cell_set_same

theorem bget {a w : World} (h : Below a.heap.size a w) {p : Addr} {v : Value} (hv : a.cell? p = some v) : w.cell? p = some v := (Below.cell h (World.block_lt_of_cell? a _ hv)).trans hv
/-- Two values do not share a block of their own. -/
def Apart (a b : Value) : Prop := ∀ k, a.ownBlock = some k → b.ownBlock ≠ some k
theorem Apart.two {a b : Nat} {n c n' c' : Nat} (h : a ≠ b) : Apart (.slice (some ⟨a, 0, none⟩) n c) (.slice (some ⟨b, 0, none⟩) n' c') := by
  intro k h1 h2
  injection h1 with h1
  injection h2 with h2
  exact h (h1.trans h2.symm)
theorem Apart.symm {a b : Value} (h : Apart a b) : Apart b a := fun k hb ha => h k ha hb
/-- append of one reading, where another list is kept. -/
theorem wp_app1R2 {ops : Array Oper} {rest : List Oper} {o : Oper} {a : Act} {Q : Exit → Act → World → Prop} {wr : World} (hgd : o.guard = none) (s x : Operand)
    (ho : o.op = .call { callee := .builtin .append, args := #[s, x], argTypes := #[TRS, TRS] }) (base : Nat) (v : Value) (xs : List Rdg) (hs : a.eval s = v) (hown : OwR base wr v xs)
    (v2 : Value) (xs2 : List Rdg) (hown2 : OwR base wr v2 xs2) (hap : Apart v v2)
    (u u' : Int) (hx : a.eval x = .slice (some ⟨wr.heap.size, 0, none⟩) 1 1) (hn : xs.length ≤ 1000000000000) (hbase : base ≤ wr.heap.size)
    (h : ∀ v' w', OwR base w' v' (xs ++ [(u, u')]) → OwR base w' v2 xs2 → Apart v' v2 → Below base wr w' → wpList Try.prog ops Q rest (a.put o.dst v') w') : wpList Try.prog ops Q (o :: rest) a (wr.alloc (.cells #[.int .i64 u, .int .i64 u'] TRD)) := by
  obtain ⟨i0, hi, hz0, hz1, hz2⟩ := info_parts rdg_info
  refine wpList_append_own_at (P := Try.prog) _ hgd s x TRS ho base TRD i0 (.agg #[.int .i64 0, .int .i64 0]) 2 16 Try.underlying22 hi hz0 hz1 hz2 rfl (by decide) v xs.length (rc xs) hs (hown.alloc _) ⟨wr.heap.size, 0, none⟩ 1 1 [.int .i64 u, .int .i64 u'] hx rfl (cell_two_new _ _ _ _) ?_ ?_ ?_ ?_ ?_
  · intro y hy
    simp only [List.mem_cons, List.not_mem_nil, or_false] at hy
    rcases hy with rfl | rfl <;> rfl
  · unfold maxLen; omega
  · omega
  · simp; omega
  · intro v' w' h1 h2 _ h3
    have hne : v2.ownBlock = none ∨ v2.ownBlock ≠ v.ownBlock := by
      cases hv2 : v2.ownBlock with
      | none => exact Or.inl rfl
      | some k => exact Or.inr (fun e => hap k e.symm hv2)
    refine h v' w' ?_ ?_ ?_ ?_
    · unfold OwR; rw [rc_append, List.length_append]; exact h1
    · exact World.ownsRow.kept (hown2.alloc _) h2 hne
    · intro k hk hk2
      rcases h3 with h3 | h3
      · exact hap k (h3 ▸ hk) hk2
      · rw [h3] at hk
        injection hk with hk
        have := (World.ownsRow.lt hown2 k hk2).2
        simp at hk
        omega
    · exact ((Below.refl _ _).alloc hbase _).grown h2 (by simp; omega) (own_geR hown)
theorem step_app1R2 {ops : Array Oper} {o : Oper} {a : Act} {K : Act → World → Prop} {Q : Exit → Act → World → Prop} {E : Prop} {wr : World} (hgd : o.guard = none) (s x : Operand)
    (ho : o.op = .call { callee := .builtin .append, args := #[s, x], argTypes := #[TRS, TRS] }) (base : Nat) (v : Value) (xs : List Rdg) (hs : a.eval s = v) (hown : OwR base wr v xs)
    (v2 : Value) (xs2 : List Rdg) (hown2 : OwR base wr v2 xs2) (hap : Apart v v2)
    (u u' : Int) (hx : a.eval x = .slice (some ⟨wr.heap.size, 0, none⟩) 1 1) (hn : xs.length ≤ 1000000000000) (hbase : base ≤ wr.heap.size)
    (h : ∀ g cap w', OwR base w' (.slice (some ⟨g, 0, none⟩) (xs.length + 1) cap) (xs ++ [(u, u')]) → OwR base w' v2 xs2 → Apart (.slice (some ⟨g, 0, none⟩) (xs.length + 1) cap) v2 → Below base wr w' → K (a.put o.dst (.slice (some ⟨g, 0, none⟩) (xs.length + 1) cap)) w') :
    if Region.wanted o (yielded ops a.tmps) = true then Oper.wp Try.prog o a ((wr.alloc (.cells #[.int .i64 u, .int .i64 u'] TRD)).drew) K Q else E := by
  obtain ⟨i0, hi, hz0, hz1, hz2⟩ := info_parts rdg_info
  have hown1 : ((wr.alloc (.cells #[.int .i64 u, .int .i64 u'] TRD)).drew).ownsRow base TRD 2 v xs.length (rc xs) := (hown.alloc _).drew
  refine step_append_lies _ hgd s x TRS ho base TRD i0 (.agg #[.int .i64 0, .int .i64 0]) 2 16 Try.underlying22 hi hz0 hz1 hz2 rfl (by decide) v xs.length (rc xs) hs hown1 ⟨wr.heap.size, 0, none⟩ 1 1 [.int .i64 u, .int .i64 u'] hx rfl (fun j y hy => cell_two_new wr _ _ TRD j y hy) ?_ (by omega) ?_ ?_ ?_ (wr.heap.size + 1) (by simp) ?_
  · intro y hy
    simp only [List.mem_cons, List.not_mem_nil, or_false] at hy
    rcases hy with rfl | rfl <;> rfl
  · unfold maxLen; omega
  · omega
  · simp; omega
  · intro g cap w' h1 h2 h3 h4
    have hne : v2.ownBlock = none ∨ v2.ownBlock ≠ v.ownBlock := by
      cases hv2 : v2.ownBlock with
      | none => exact Or.inl rfl
      | some k => exact Or.inr (fun e => hap k e.symm hv2)
    have h2' : (wr.alloc (.cells #[.int .i64 u, .int .i64 u'] TRD)).grownBy w' v.ownBlock := ⟨h2.os, h2.tape, h2.output, h2.size, h2.block⟩
    refine h g cap w' ?_ ?_ ?_ ?_
    · unfold OwR; rw [rc_append, List.length_append]; exact h1
    · exact World.ownsRow.kept (hown2.alloc _) h2' hne
    · intro k hk hk2
      have hgk : g = k := by simpa [Value.ownBlock] using hk
      subst hgk
      rcases h3 with h3 | h3
      · exact hap g h3 hk2
      · have := (World.ownsRow.lt hown2 g hk2).2
        omega
    · exact ((Below.refl _ _).alloc hbase _).grown h2' (by simp; omega) (own_geR hown)
/-- Readings seen from the other side; backwards in time. -/
def flipY (rs : List Rdg) : List Rdg := rs.map fun x => (x.1, -x.2)
def backT (rs : List Rdg) (k : Nat) : List Rdg := (List.range k).map fun i => (-(rs.getD (rs.length - 1 - i) (0, 0)).1, (rs.getD (rs.length - 1 - i) (0, 0)).2)
theorem flipY_succ (rs : List Rdg) (k : Nat) (h : k < rs.length) : flipY (rs.take (k + 1)) = flipY (rs.take k) ++ [((rs.getD k (0, 0)).1, -(rs.getD k (0, 0)).2)] := by
  have e : rs.getD k (0, 0) = rs[k] := by simp [List.getD, h]
  rw [e]; unfold flipY
  rw [List.take_succ_eq_append_getElem h, List.map_append]; rfl
theorem backT_succ (rs : List Rdg) (k : Nat) : backT rs (k + 1) = backT rs k ++ [(-(rs.getD (rs.length - 1 - k) (0, 0)).1, (rs.getD (rs.length - 1 - k) (0, 0)).2)] := by
  unfold backT; rw [List.range_succ, List.map_append]; rfl
theorem flipY_len (rs : List Rdg) : (flipY rs).length = rs.length := by simp [flipY]
theorem backT_len (rs : List Rdg) (k : Nat) : (backT rs k).length = k := by simp [backT]
end Go.Proofs.Tb
