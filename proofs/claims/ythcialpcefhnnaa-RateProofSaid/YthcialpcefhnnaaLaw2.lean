/- lives: what it asks of Least and Squares holds. (With what follows it, in one text.) -/
import Derived.Test.YthcialpcefhnnaaRate3
import Derived.Test.YthcialpcefhnnaaLaw1
import Derived.StillTailTactics
set_option linter.unusedVariables false
set_option linter.unusedSimpArgs false
/- lives: what it asks of Least and Squares holds. -/
namespace Go.Proofs.Tb
open Go.RowKit
attribute [local go_sem] cell_set_same

def rs0 : List Rdg := [(0, 0), (1, 1), (2, 0)]
theorem vld0 : Vld rs0 := by
  refine ⟨by decide, by decide, fun k hk => ?_⟩
  have : k = 0 ∨ k = 1 ∨ k = 2 := by have : rs0.length = 3 := rfl; omega
  unfold okAt rs0
  rcases this with rfl | rfl | rfl <;> simp
theorem half_eq : qv 1 2 = (1 : Rat) / 2 := by rw [qv_div]; rfl
theorem least0 : IsLeast rs0.length (tq rs0) (yq rs0) 0 (qv 1 2) (qv 1 2) := by
  have e0 : tq rs0 0 = 0 := rfl
  have e1 : tq rs0 1 = 1 := rfl
  have e2 : tq rs0 2 = 2 := rfl
  have f0 : yq rs0 0 = 0 := rfl
  have f1 : yq rs0 1 = 1 := rfl
  have f2 : yq rs0 2 = 0 := rfl
  rw [half_eq]
  refine ⟨fun i hi => ?_, Or.inr ⟨0, 1, 2, by omega, by omega, by decide, ?_, ?_, Or.inr ?_⟩⟩
  · have : i = 0 ∨ i = 1 ∨ i = 2 := by have : rs0.length = 3 := rfl; omega
    unfold er
    rcases this with rfl | rfl | rfl
    · rw [e0, f0]; grind
    · rw [e1, f1]; grind
    · rw [e2, f2]; grind
  · unfold er; rw [e0, f0, e1, f1]; grind
  · unfold er; rw [e0, f0, e2, f2]; grind
  · unfold er; rw [e0, f0]; grind
theorem fit_qv {p q : Int} (hq : 0 < q) (h1 : Lim (lown p q)) (h2 : Lim (lowd p q)) : fitQ (qv p q) := (okFrac_q hq).1 ⟨h1, h2⟩
theorem lo12 : lown 1 2 = 1 ∧ lowd 1 2 = 2 := by decide +kernel
theorem lo13 : lown 1 3 = 1 ∧ lowd 1 3 = 3 := by decide +kernel
theorem num12 : (qv 1 2).num = 1 ∧ ((qv 1 2).den : Int) = 2 := by rw [← lown_q (by omega), ← lowd_q (by omega)]; exact lo12
theorem num13 : (qv 1 3).num = 1 ∧ ((qv 1 3).den : Int) = 3 := by rw [← lown_q (by omega), ← lowd_q (by omega)]; exact lo13
theorem fit0 : fitQ 0 := ⟨by unfold Lim; decide, by unfold Lim; decide⟩
theorem fit12 : fitQ (qv 1 2) := by unfold fitQ; rw [num12.1, num12.2]; exact ⟨by unfold Lim; decide, by unfold Lim; decide⟩
theorem fit13 : fitQ (qv 1 3) := by unfold fitQ; rw [num13.1, num13.2]; exact ⟨by unfold Lim; decide, by unfold Lim; decide⟩
theorem leastR0 {v : Value} {w : World} (h : LeastR rs0 v w) : v = .tuple #[.agg #[.int .i64 0, .int .i64 1, .int .i64 1, .int .i64 2], .agg #[.int .i64 1, .int .i64 2], .int .i64 0] := by
  have h1 := ((LeastV.q vld0 (h.2 vld0)).det vld0 least0).1 ⟨fit0, fit12, fit12⟩
  rw [h1, num12.1, num12.2]; rfl
theorem squR0 {v : Value} {w : World} (h : SquR rs0 v w) : v = .tuple #[.agg #[.int .i64 0, .int .i64 1, .int .i64 1, .int .i64 3], .int .i64 0] := by
  obtain ⟨p, q, r, s, hq, hs, hl, e1, e2⟩ := h.2 vld0
  have hl := hl.q hq hs
  have g1 : qv p q = 0 := by
    rw [e1]
    have : sqN rs0.length (sm Go.Proofs.Tb.g1 rs0) (sm g2 rs0) (sm g4 rs0) = 0 := by decide
    rw [this]
    have : sqD rs0.length (sm Go.Proofs.Tb.g1 rs0) (sm g3 rs0) = 6 := by decide
    rw [this]
    rw [← qv_div, qv_zero (by omega)]
  have g2' : qv r s = qv 1 3 := by
    rw [e2, g1]
    have a : sm g2 rs0 = 1 := by decide
    have b : (rs0.length : Rat) = 3 := rfl
    rw [a, b, Rat.zero_mul, qv_div]
    have c : ((1 : Int) : Rat) = 1 := rfl
    have d : ((3 : Int) : Rat) = 3 := rfl
    rw [c, d]; grind
  rw [g1, g2'] at hl
  rw [hl.1 ⟨fit0, fit13⟩, num13.1, num13.2]; rfl

set_option maxHeartbeats 1600000 in
set_option maxRecDepth 100000 in
theorem lives_any (w : World) : Calls Try.prog 8 #[] w (Ret (fun v _ => v = .bool true) w) := by
  go_enter Try.func8, Try.ntmps8
  go_wp2_with fail
  obtain ⟨W0, hW0⟩ : ∃ W0, W0 = w.alloc (.cells #[.int .i64 0, .int .i64 0, .int .i64 1, .int .i64 1, .int .i64 2, .int .i64 0] TRD) := ⟨_, rfl⟩
  have b0 : Blk W0 w.heap.size TRD #[.int .i64 0, .int .i64 0, .int .i64 1, .int .i64 1, .int .i64 2, .int .i64 0] := by rw [hW0]; exact Blk.new_ _ _ rfl
  have hbw : Below w.heap.size w W0 := by rw [hW0]; go_grown
  rw [← hW0]
  clear hW0
  have hrd : Rd W0 (some ⟨w.heap.size, 0, none⟩) 3 3 rs0 := by
    have k := b0.cells
    simp only [cellsAre, Nat.zero_add, Nat.reduceAdd, and_true] at k
    refine ⟨rfl, Nat.le_refl _, by omega, fun _ => ⟨w.heap.size, 0, rfl, fun j hj => ?_⟩, ?_⟩
    · have : j = 0 ∨ j = 1 ∨ j = 2 := by omega
      rcases this with rfl | rfl | rfl
      · exact ⟨k.1, k.2.1⟩
      · exact ⟨k.2.2.1, k.2.2.2.1⟩
      · exact ⟨k.2.2.2.2.1, k.2.2.2.2.2⟩
    · intro x hx
      simp only [rs0, List.mem_cons, List.not_mem_nil, or_false] at hx
      rcases hx with rfl | rfl | rfl <;> simp
  have HRD := Lib.hid hrd
  have HBW := Lib.hid hbw
  clear b0 hrd hbw
  refine (rleast_any _ 3 3 rs0 _ HRD.out).mono ?_
  rintro e w1 ⟨v1, rfl, h1, hb1⟩
  have hv1 := leastR0 h1
  subst hv1
  clear h1
  have HB1 := Lib.hid hb1
  clear hb1
  go_wp2_with fail
  have hbx : Below w1.heap.size w1 ((w1.alloc (.cells #[.int .i64 0, .int .i64 1, .int .i64 1, .int .i64 2] TAL)).alloc (.cells #[.int .i64 1, .int .i64 2] TF)) := by go_grown
  have d2 : Blk ((w1.alloc (.cells #[.int .i64 0, .int .i64 1, .int .i64 1, .int .i64 2] TAL)).alloc (.cells #[.int .i64 1, .int .i64 2] TF)) w1.heap.size TAL #[.int .i64 0, .int .i64 1, .int .i64 1, .int .i64 2] := (Blk.new_ _ _ rfl).alloc _
  have d3 : Blk ((w1.alloc (.cells #[.int .i64 0, .int .i64 1, .int .i64 1, .int .i64 2] TAL)).alloc (.cells #[.int .i64 1, .int .i64 2] TF)) (w1.heap.size + 1) TF #[.int .i64 1, .int .i64 2] := Blk.new_ _ _ (by simp)
  refine (rsquares_any _ 3 3 rs0 _ ((HRD.out.below HB1.out).below hbx)).mono ?_
  rintro e w2 ⟨v2, rfl, h2, hb2⟩
  have hv2 := squR0 h2
  subst hv2
  have D2 := Lib.hid (d2.below hb2)
  have D3 := Lib.hid (d3.below hb2)
  have HB2 := Lib.hid (bt HBW.out (bt HB1.out (bt hbx hb2)))
  clear h2 d2 d3 hbx hb2
  go_upto_region 5 with fail
  refine wp_world (fun W5 => Blk W5 w2.heap.size TAL #[.int .i64 0, .int .i64 1, .int .i64 1, .int .i64 3] ∧ Blk W5 (w2.heap.size + 1) TF #[.int .i64 1, .int .i64 2] ∧ Below w2.heap.size w2 W5) (by exact ⟨(Blk.new_ _ _ rfl).alloc _, Blk.new_ _ _ (by simp), by go_grown⟩) ?_
  rintro W5 ⟨e5, e7, hb5⟩
  have k2 := (D2.out.below hb5).cells
  have k3 := (D3.out.below hb5).cells
  have k5 := e5.cells
  have k7 := e7.cells
  simp only [cellsAre, Nat.zero_add, Nat.reduceAdd, and_true] at k2 k3 k5 k7
  have HW5 := Lib.hid (bt HB2.out hb5)
  clear e5 e7 hb5
  go_wp2
  go_returns
  exact ⟨_, rfl, rfl, HW5.out⟩
end Go.Proofs.Tb
/- Two lists of readings that a call makes side by side. -/
namespace Go.Proofs.Tb
open Go.RowKit
attribute [local go_sem] cell_set_same

theorem bget {a w : World} (h : Below a.heap.size a w) {p : Addr} {v : Value} (hv : a.cell? p = some v) : w.cell? p = some v := (Below.cell h (World.block_lt_of_cell? a _ hv)).trans hv
/-- Two values do not share a block of their own. -/
def Apart (a b : Value) : Prop := ∀ k, a.ownBlock = some k → b.ownBlock ≠ some k
theorem Apart.two {a b : Nat} {n c n' c' : Nat} (h : a ≠ b) : Apart (.slice (some ⟨a, 0, none⟩) n c) (.slice (some ⟨b, 0, none⟩) n' c') := by
  intro k h1 h2
  injection h1 with h1
  injection h2 with h2
  exact h (h1.trans h2.symm)
theorem Apart.symm {a b : Value} (h : Apart a b) : Apart b a := fun k hb ha => h k ha hb
/-- append of one reading, where another list is kept. -/
theorem wp_app1R2 {ops : Array Oper} {rest : List Oper} {o : Oper} {a : Act} {Q : Exit → Act → World → Prop} {wr : World} (hgd : o.guard = none) (s x : Operand)
    (ho : o.op = .call { callee := .builtin .append, args := #[s, x], argTypes := #[TRS, TRS] }) (base : Nat) (v : Value) (xs : List Rdg) (hs : a.eval s = v) (hown : OwR base wr v xs)
    (v2 : Value) (xs2 : List Rdg) (hown2 : OwR base wr v2 xs2) (hap : Apart v v2)
    (u u' : Int) (hx : a.eval x = .slice (some ⟨wr.heap.size, 0, none⟩) 1 1) (hn : xs.length ≤ 1000000000000) (hbase : base ≤ wr.heap.size)
    (h : ∀ v' w', OwR base w' v' (xs ++ [(u, u')]) → OwR base w' v2 xs2 → Apart v' v2 → Below base wr w' → wpList Try.prog ops Q rest (a.put o.dst v') w') : wpList Try.prog ops Q (o :: rest) a (wr.alloc (.cells #[.int .i64 u, .int .i64 u'] TRD)) := by
  obtain ⟨i0, hi, hz0, hz1, hz2⟩ := info_parts rdg_info
  refine wpList_append_own_at (P := Try.prog) _ hgd s x TRS ho base TRD i0 (.agg #[.int .i64 0, .int .i64 0]) 2 16 Try.underlying22 hi hz0 hz1 hz2 rfl (by decide) v xs.length (rc xs) hs (hown.alloc _) ⟨wr.heap.size, 0, none⟩ 1 1 [.int .i64 u, .int .i64 u'] hx rfl (cell_two_new _ _ _ _) ?_ ?_ ?_ ?_ ?_
  · intro y hy
    simp only [List.mem_cons, List.not_mem_nil, or_false] at hy
    rcases hy with rfl | rfl <;> rfl
  · unfold maxLen; omega
  · omega
  · simp; omega
  · intro v' w' h1 h2 _ h3
    have hne : v2.ownBlock = none ∨ v2.ownBlock ≠ v.ownBlock := by
      cases hv2 : v2.ownBlock with
      | none => exact Or.inl rfl
      | some k => exact Or.inr (fun e => hap k e.symm hv2)
    refine h v' w' ?_ ?_ ?_ ?_
    · unfold OwR; rw [rc_append, List.length_append]; exact h1
    · exact World.ownsRow.kept (hown2.alloc _) h2 hne
    · intro k hk hk2
      rcases h3 with h3 | h3
      · exact hap k (h3 ▸ hk) hk2
      · rw [h3] at hk
        injection hk with hk
        have := (World.ownsRow.lt hown2 k hk2).2
        simp at hk
        omega
    · exact ((Below.refl _ _).alloc hbase _).grown h2 (by simp; omega) (own_geR hown)
theorem step_app1R2 {ops : Array Oper} {o : Oper} {a : Act} {K : Act → World → Prop} {Q : Exit → Act → World → Prop} {E : Prop} {wr : World} (hgd : o.guard = none) (s x : Operand)
    (ho : o.op = .call { callee := .builtin .append, args := #[s, x], argTypes := #[TRS, TRS] }) (base : Nat) (v : Value) (xs : List Rdg) (hs : a.eval s = v) (hown : OwR base wr v xs)
    (v2 : Value) (xs2 : List Rdg) (hown2 : OwR base wr v2 xs2) (hap : Apart v v2)
    (u u' : Int) (hx : a.eval x = .slice (some ⟨wr.heap.size, 0, none⟩) 1 1) (hn : xs.length ≤ 1000000000000) (hbase : base ≤ wr.heap.size)
    (h : ∀ g cap w', OwR base w' (.slice (some ⟨g, 0, none⟩) (xs.length + 1) cap) (xs ++ [(u, u')]) → OwR base w' v2 xs2 → Apart (.slice (some ⟨g, 0, none⟩) (xs.length + 1) cap) v2 → Below base wr w' → K (a.put o.dst (.slice (some ⟨g, 0, none⟩) (xs.length + 1) cap)) w') :
    if Region.wanted o (yielded ops a.tmps) = true then Oper.wp Try.prog o a ((wr.alloc (.cells #[.int .i64 u, .int .i64 u'] TRD)).drew) K Q else E := by
  obtain ⟨i0, hi, hz0, hz1, hz2⟩ := info_parts rdg_info
  have hown1 : ((wr.alloc (.cells #[.int .i64 u, .int .i64 u'] TRD)).drew).ownsRow base TRD 2 v xs.length (rc xs) := (hown.alloc _).drew
  refine step_append_lies _ hgd s x TRS ho base TRD i0 (.agg #[.int .i64 0, .int .i64 0]) 2 16 Try.underlying22 hi hz0 hz1 hz2 rfl (by decide) v xs.length (rc xs) hs hown1 ⟨wr.heap.size, 0, none⟩ 1 1 [.int .i64 u, .int .i64 u'] hx rfl (fun j y hy => cell_two_new wr _ _ TRD j y hy) ?_ (by omega) ?_ ?_ ?_ (wr.heap.size + 1) (by simp) ?_
  · intro y hy
    simp only [List.mem_cons, List.not_mem_nil, or_false] at hy
    rcases hy with rfl | rfl <;> rfl
  · unfold maxLen; omega
  · omega
  · simp; omega
  · intro g cap w' h1 h2 h3 h4
    have hne : v2.ownBlock = none ∨ v2.ownBlock ≠ v.ownBlock := by
      cases hv2 : v2.ownBlock with
      | none => exact Or.inl rfl
      | some k => exact Or.inr (fun e => hap k e.symm hv2)
    have h2' : (wr.alloc (.cells #[.int .i64 u, .int .i64 u'] TRD)).grownBy w' v.ownBlock := ⟨h2.os, h2.tape, h2.output, h2.size, h2.block⟩
    refine h g cap w' ?_ ?_ ?_ ?_
    · unfold OwR; rw [rc_append, List.length_append]; exact h1
    · exact World.ownsRow.kept (hown2.alloc _) h2' hne
    · intro k hk hk2
      have hgk : g = k := by simpa [Value.ownBlock] using hk
      subst hgk
      rcases h3 with h3 | h3
      · exact hap g h3 hk2
      · have := (World.ownsRow.lt hown2 g hk2).2
        omega
    · exact ((Below.refl _ _).alloc hbase _).grown h2' (by simp; omega) (own_geR hown)
/-- Readings seen from the other side; backwards in time. -/
def flipY (rs : List Rdg) : List Rdg := rs.map fun x => (x.1, -x.2)
def backT (rs : List Rdg) (k : Nat) : List Rdg := (List.range k).map fun i => (-(rs.getD (rs.length - 1 - i) (0, 0)).1, (rs.getD (rs.length - 1 - i) (0, 0)).2)
theorem flipY_succ (rs : List Rdg) (k : Nat) (h : k < rs.length) : flipY (rs.take (k + 1)) = flipY (rs.take k) ++ [((rs.getD k (0, 0)).1, -(rs.getD k (0, 0)).2)] := by
  have e : rs.getD k (0, 0) = rs[k] := by simp [List.getD, h]
  rw [e]; unfold flipY
  rw [List.take_succ_eq_append_getElem h, List.map_append]; rfl
theorem backT_succ (rs : List Rdg) (k : Nat) : backT rs (k + 1) = backT rs k ++ [(-(rs.getD (rs.length - 1 - k) (0, 0)).1, (rs.getD (rs.length - 1 - k) (0, 0)).2)] := by
  unfold backT; rw [List.range_succ, List.map_append]; rfl
theorem flipY_len (rs : List Rdg) : (flipY rs).length = rs.length := by simp [flipY]
theorem backT_len (rs : List Rdg) (k : Nat) : (backT rs k).length = k := by simp [backT]
end Go.Proofs.Tb
/- RateTurns. -/
namespace Go.Proofs.Tb
open Go.RowKit
attribute [local go_sem] cell_set_same

section
variable {n : Nat} {t y t' y' : Nat → Rat} {s h E : Rat}
theorem IsLeast.congr (k : IsLeast n t y s h E) (ht : ∀ i, i < n → t' i = t i) (hy : ∀ i, i < n → y' i = y i) : IsLeast n t' y' s h E := by
  have e : ∀ i, i < n → er t' y' s h i = er t y s h i := fun i hi => by unfold er; rw [ht i hi, hy i hi]
  refine ⟨fun i hi => by rw [e i hi]; exact k.le i hi, ?_⟩
  rcases k.alt with h0 | ⟨a, b, c, hab, hbc, hcn, eb, ec, ea⟩
  · exact Or.inl h0
  · exact Or.inr ⟨a, b, c, hab, hbc, hcn, by rw [e a (by omega), e b (by omega)]; exact eb, by rw [e a (by omega), e c hcn]; exact ec, by rw [e a (by omega)]; exact ea⟩
theorem IsLeast.flip (k : IsLeast n t y s h E) : IsLeast n t (fun i => -y i) (-s) (-h) E := by
  have e : ∀ i, er t (fun i => -y i) (-s) (-h) i = -er t y s h i := fun i => by unfold er; grind
  refine ⟨fun i hi => by rw [e i]; have := k.le i hi; grind, ?_⟩
  rcases k.alt with h0 | ⟨a, b, c, hab, hbc, hcn, eb, ec, ea⟩
  · exact Or.inl h0
  · exact Or.inr ⟨a, b, c, hab, hbc, hcn, by rw [e a, e b, eb], by rw [e a, e c, ec], by rw [e a]; grind⟩
theorem IsLeast.back (k : IsLeast n t y s h E) : IsLeast n (fun i => -t (n - 1 - i)) (fun i => y (n - 1 - i)) (-s) h E := by
  have e : ∀ i, er (fun i => -t (n - 1 - i)) (fun i => y (n - 1 - i)) (-s) h i = er t y s h (n - 1 - i) := fun i => by unfold er; grind
  refine ⟨fun i hi => by rw [e i]; exact k.le _ (by omega), ?_⟩
  rcases k.alt with h0 | ⟨a, b, c, hab, hbc, hcn, eb, ec, ea⟩
  · exact Or.inl h0
  · have fa : n - 1 - (n - 1 - a) = a := by omega
    have fb : n - 1 - (n - 1 - b) = b := by omega
    have fc : n - 1 - (n - 1 - c) = c := by omega
    exact Or.inr ⟨n - 1 - c, n - 1 - b, n - 1 - a, by omega, by omega, by omega, by rw [e, e, fb, fc, eb, ec], by rw [e, e, fa, fc, ec], by rw [e, fc, ec]; exact ea⟩
end
theorem LeastR.at {rs : List Rdg} {v : Value} {w : World} {s h E : Rat} (hv : Vld rs) (hsm : SmallR rs) (hl : LeastR rs v w) (hi : IsLeast rs.length (tq rs) (yq rs) s h E) :
    v = .tuple #[.agg #[.int .i64 s.num, .int .i64 (s.den : Int), .int .i64 h.num, .int .i64 (h.den : Int)], .agg #[.int .i64 E.num, .int .i64 (E.den : Int)], .int .i64 0] := by
  obtain ⟨s', h', E', hi', f1, f2, f3, hv'⟩ := hl.ok hv hsm
  obtain ⟨rfl, rfl, rfl⟩ := hi.uniq hv.tq_mono hv.1 hi'
  exact hv'
theorem Tame.small {most : Nat} {rs : List Rdg} (h : Tame most rs) (hm : most ≤ 64) : SmallR rs := by
  obtain ⟨h1, h2, h3⟩ := h
  intro k hk
  have := h3 k hk
  unfold TmAt at this
  unfold tm ofs
  omega
theorem flip_get (rs : List Rdg) (k : Nat) : (flipY rs).getD k (0, 0) = ((rs.getD k (0, 0)).1, -(rs.getD k (0, 0)).2) := by
  unfold flipY
  by_cases hk : k < rs.length
  · simp [List.getD, hk]
  · simp [List.getD, Nat.le_of_not_lt hk]
theorem back_get (rs : List Rdg) (n k : Nat) (hk : k < n) : (backT rs n).getD k (0, 0) = (-(rs.getD (rs.length - 1 - k) (0, 0)).1, (rs.getD (rs.length - 1 - k) (0, 0)).2) := by
  unfold backT
  simp [List.getD, hk]
theorem Tame.flip_ok {most : Nat} {rs : List Rdg} (h : Tame most rs) (hm : most ≤ 64) : Vld (flipY rs) ∧ SmallR (flipY rs) ∧ ∀ x, x ∈ flipY rs → rngI x.1 ∧ rngI x.2 := by
  obtain ⟨h1, h2, h3⟩ := h
  have hb : ∀ k, k < rs.length → TmAt rs k := h3
  refine ⟨⟨by rw [flipY_len]; exact h1, by rw [flipY_len]; omega, fun k hk => ?_⟩, fun k hk => ?_, fun x hx => ?_⟩
  · rw [flipY_len] at hk
    have := hb k hk
    unfold TmAt at this
    unfold okAt
    rw [flip_get, flip_get]
    refine ⟨by show -1000000 ≤ (rs.getD k (0, 0)).1; omega, by show (rs.getD k (0, 0)).1 ≤ 1000000; omega, by show -1000000 ≤ -(rs.getD k (0, 0)).2; omega, by show -(rs.getD k (0, 0)).2 ≤ 1000000; omega, this.2.2⟩
  · rw [flipY_len] at hk
    have := hb k hk
    unfold TmAt at this
    unfold tm ofs
    rw [flip_get]
    refine ⟨⟨by show -2000 ≤ (rs.getD k (0, 0)).1; omega, by show (rs.getD k (0, 0)).1 ≤ 2000; omega⟩, ⟨by show -100000 ≤ -(rs.getD k (0, 0)).2; omega, by show -(rs.getD k (0, 0)).2 ≤ 100000; omega⟩⟩
  · obtain ⟨k, hk, rfl⟩ := List.getElem_of_mem hx
    have e : (flipY rs)[k] = (flipY rs).getD k (0, 0) := by simp [List.getD, hk]
    rw [flipY_len] at hk
    have := hb k hk
    unfold TmAt at this
    rw [e, flip_get]
    exact ⟨⟨by show -9223372036854775808 ≤ (rs.getD k (0, 0)).1; omega, by show (rs.getD k (0, 0)).1 ≤ 9223372036854775807; omega⟩, ⟨by show -9223372036854775808 ≤ -(rs.getD k (0, 0)).2; omega, by show -(rs.getD k (0, 0)).2 ≤ 9223372036854775807; omega⟩⟩
theorem Tame.back_ok {most : Nat} {rs : List Rdg} (h : Tame most rs) (hm : most ≤ 64) : Vld (backT rs rs.length) ∧ SmallR (backT rs rs.length) ∧ ∀ x, x ∈ backT rs rs.length → rngI x.1 ∧ rngI x.2 := by
  obtain ⟨h1, h2, h3⟩ := h
  refine ⟨⟨by rw [backT_len]; exact h1, by rw [backT_len]; omega, fun k hk => ?_⟩, fun k hk => ?_, fun x hx => ?_⟩
  · rw [backT_len] at hk
    have := h3 (rs.length - 1 - k) (by omega)
    unfold TmAt at this
    unfold okAt
    rw [back_get _ _ _ hk]
    refine ⟨by show -1000000 ≤ -(rs.getD (rs.length - 1 - k) (0, 0)).1; omega, by show -(rs.getD (rs.length - 1 - k) (0, 0)).1 ≤ 1000000; omega, by show -1000000 ≤ (rs.getD (rs.length - 1 - k) (0, 0)).2; omega, by show (rs.getD (rs.length - 1 - k) (0, 0)).2 ≤ 1000000; omega, fun h0 => ?_⟩
    have h4 := h3 (rs.length - 1 - (k - 1)) (by omega)
    unfold TmAt at h4
    have h5 := h4.2.2 (by omega)
    rw [show rs.length - 1 - (k - 1) - 1 = rs.length - 1 - k by omega] at h5
    rw [back_get _ _ _ (by omega)]
    show -(rs.getD (rs.length - 1 - (k - 1)) (0, 0)).1 < -(rs.getD (rs.length - 1 - k) (0, 0)).1
    omega
  · rw [backT_len] at hk
    have := h3 (rs.length - 1 - k) (by omega)
    unfold TmAt at this
    unfold tm ofs
    rw [back_get _ _ _ hk]
    refine ⟨⟨by show -2000 ≤ -(rs.getD (rs.length - 1 - k) (0, 0)).1; omega, by show -(rs.getD (rs.length - 1 - k) (0, 0)).1 ≤ 2000; omega⟩, ⟨by show -100000 ≤ (rs.getD (rs.length - 1 - k) (0, 0)).2; omega, by show (rs.getD (rs.length - 1 - k) (0, 0)).2 ≤ 100000; omega⟩⟩
  · obtain ⟨k, hk, rfl⟩ := List.getElem_of_mem hx
    have e : (backT rs rs.length)[k] = (backT rs rs.length).getD k (0, 0) := by simp [List.getD, hk]
    rw [backT_len] at hk
    have := h3 (rs.length - 1 - k) (by omega)
    unfold TmAt at this
    rw [e, back_get _ _ _ hk]
    exact ⟨⟨by show -9223372036854775808 ≤ -(rs.getD (rs.length - 1 - k) (0, 0)).1; omega, by show -(rs.getD (rs.length - 1 - k) (0, 0)).1 ≤ 9223372036854775807; omega⟩, ⟨by show -9223372036854775808 ≤ (rs.getD (rs.length - 1 - k) (0, 0)).2; omega, by show (rs.getD (rs.length - 1 - k) (0, 0)).2 ≤ 9223372036854775807; omega⟩⟩
theorem least_flip {rs : List Rdg} {s h E : Rat} (k : IsLeast rs.length (tq rs) (yq rs) s h E) : IsLeast (flipY rs).length (tq (flipY rs)) (yq (flipY rs)) (-s) (-h) E := by
  rw [flipY_len]
  refine k.flip.congr (fun i _ => ?_) (fun i _ => ?_)
  · unfold tq tm; rw [flip_get]
  · unfold yq ofs; rw [flip_get]; exact Rat.intCast_neg _
theorem least_back {rs : List Rdg} {s h E : Rat} (k : IsLeast rs.length (tq rs) (yq rs) s h E) : IsLeast (backT rs rs.length).length (tq (backT rs rs.length)) (yq (backT rs rs.length)) (-s) h E := by
  rw [backT_len]
  refine k.back.congr (fun i hi => ?_) (fun i hi => ?_)
  · unfold tq tm; rw [back_get _ _ _ hi]; exact Rat.intCast_neg _
  · unfold yq ofs; rw [back_get _ _ _ hi]

end Go.Proofs.Tb

