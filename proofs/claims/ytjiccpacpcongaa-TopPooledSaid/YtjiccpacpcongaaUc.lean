/- Rows of numbers that are made; powers, same, each. -/
import Derived.Test.YtjiccpacpcongaaUb
import Derived.Laws.MakeOwn
set_option linter.unusedVariables false
set_option linter.unusedSimpArgs false
namespace Go.Proofs.Tb
open Go.RowKit Go.Lib
attribute [local go_sem] cell_set_same

theorem make_own (n : Nat) (w : World) (base : Nat) (hb : base ≤ w.heap.size) (hn : n ≤ 1000000) : ∃ w', (Instr.makeSlice TLI (.int .i64 0) (.int .i64 (n : Int))).run Try.prog w = .ok (.slice (some ⟨w.heap.size, 0, none⟩) 0 n) w' ∧ OwC base w' (.slice (some ⟨w.heap.size, 0, none⟩) 0 n) [] ∧ Ext w w' := by
  obtain ⟨i0, hi, hz0, hz1, hz2⟩ := info_parts int_info
  obtain ⟨w', h1, h2, h3⟩ := run_make_own (P := Try.prog) w base TLI TIN i0 _ 1 Try.underlying24 hi hz0 hz1 .i64 .i64 n (by rw [hz2]; omega) (by unfold maxLen; omega) hb
  exact ⟨w', h1, h2, (Below.refl _ _).grown h3 (Nat.le_refl _) fun k hk => by cases hk⟩
theorem made_rep (z : Value) (n : Nat) : madeCells #[z] n = (List.replicate n z).toArray := by
  apply Array.ext'
  rw [toList_madeCells_one]
theorem make_full (n : Nat) (w : World) (base : Nat) (hb : base ≤ w.heap.size) (hn : n ≤ 1000000) : ∃ w', (Instr.makeSlice TLI (.int .i64 (n : Int)) (.int .i64 (n : Int))).run Try.prog w = .ok (.slice (some ⟨w.heap.size, 0, none⟩) n n) w' ∧ OwC base w' (.slice (some ⟨w.heap.size, 0, none⟩) n n) (List.replicate n 0) ∧ Ext w w' := by
  obtain ⟨i0, hi, hz0, hz1, hz2⟩ := info_parts int_info
  obtain ⟨w', h1, h2, h3⟩ := run_make_full (P := Try.prog) w base TLI TIN i0 _ 1 Try.underlying24 hi hz0 hz1 .i64 .i64 n (by rw [hz2]; omega) (by unfold maxLen; omega) hb
  refine ⟨w', h1, ?_, (Below.refl _ _).grown h3 (Nat.le_refl _) fun k hk => by cases hk⟩
  have e : (madeCells (Value.int .i64 0).cells (n * 1)).toList = ci (List.replicate n 0) := by
    rw [Nat.mul_one]
    unfold ci
    rw [List.map_replicate]
    show (madeCells #[Value.int .i64 0] n).toList = _
    rw [made_rep]
  unfold OwC
  rw [List.length_replicate, ← e]
  exact h2
theorem wp_appC {o : Oper} {a : Act} {K : Act → World → Prop} {Q : Exit → Act → World → Prop} {w : World} (s x : Operand)
    (ho : o.op = .call { callee := .builtin .append, args := #[s, x], argTypes := #[TLI, TLI] }) (base : Nat) (v : Value) (l : List Int) (hs : a.eval s = v) (hown : OwC base w v l)
    (A : Option Addr) (m c : Nat) (l2 : List Int) (hx : a.eval x = .slice A m c) (hr : Rv w 1 A m c (ci l2)) (hn : l.length ≤ 1000000) (hm : m ≤ 1000000) (hbase : base ≤ w.heap.size)
    (h : ∀ A' n' c' w', OwC base w' (.slice A' n' c') (l ++ l2) → Below base w w' → w.grownBy w' v.ownBlock → K (a.put o.dst (.slice A' n' c')) w') : Oper.wp Try.prog o a w K Q := by
  have hml : l2.length = m := by have := hr.len; rw [ci_len, Nat.mul_one] at this; exact this
  refine wp_appR TLI TIN _ 1 8 int_info Try.underlying24 rfl (by omega) (by omega) s x ho base v l.length (ci l) hs hown A m c (ci l2) hx hr (ci_one _) hn hm hbase ?_
  intro v3 w3 hrow hgr hbel
  have hO : OwC base w3 v3 (l ++ l2) := by
    unfold OwC
    rw [List.length_append, hml, ci_app]
    exact hrow
  obtain ⟨A', c', e, _⟩ := own_rv hO
  subst e
  exact h _ _ _ _ hO hbel hgr
theorem wpl_appC {ops : Array Oper} {rest : List Oper} {o : Oper} {a : Act} {Q : Exit → Act → World → Prop} {w : World} (hgd : o.guard = none) (s x : Operand)
    (ho : o.op = .call { callee := .builtin .append, args := #[s, x], argTypes := #[TLI, TLI] }) (base : Nat) (v : Value) (l : List Int) (hs : a.eval s = v) (hown : OwC base w v l)
    (A : Option Addr) (m c : Nat) (l2 : List Int) (hx : a.eval x = .slice A m c) (hr : Rv w 1 A m c (ci l2)) (hn : l.length ≤ 1000000) (hm : m ≤ 1000000) (hbase : base ≤ w.heap.size)
    (h : ∀ A' n' c' w', OwC base w' (.slice A' n' c') (l ++ l2) → Below base w w' → w.grownBy w' v.ownBlock → wpList Try.prog ops Q rest (a.put o.dst (.slice A' n' c')) w') : wpList Try.prog ops Q (o :: rest) a w :=
  wpList_plain hgd fun _ hK => wp_appC s x ho base v l hs hown A m c l2 hx hr hn hm hbase fun A' n' c' w' h1 h2 h3 => hK _ _ (h A' n' c' w' h1 h2 h3)
theorem rv_one (w : World) (x : Int) : Rv (w.alloc (.cells #[.int .i64 x] TIN)) 1 (some ⟨w.heap.size, 0, none⟩) 1 1 (ci [x]) := rv_lit TIN 1 #[.int .i64 x] 1 (by omega) rfl
theorem OwC.len {base : Nat} {w : World} {A : Option Addr} {n c : Nat} {l : List Int} (h : OwC base w (.slice A n c) l) : l.length = n := by
  obtain ⟨A', c', e, _⟩ := h.form
  injection e with _ e _
  exact e.symm
theorem OwC.rv {base : Nat} {w : World} {A : Option Addr} {n c : Nat} {l : List Int} (h : OwC base w (.slice A n c) l) : Rv w 1 A n c (ci l) := own_rvv h
/-- An element is set. -/
theorem set_ro {l : List Int} {j : Nat} {x : Int} : ci (l.set j x) = (ci l).set j (.int .i64 x) := by unfold ci; rw [List.map_set]
theorem OwC.set_ {base : Nat} {w : World} {b n c : Nat} {l : List Int} (h : OwC base w (.slice (some ⟨b, 0, none⟩) n c) l) (j : Nat) (x : Int) : OwC base (w.setCell ⟨b, j, none⟩ (.int .i64 x)) (.slice (some ⟨b, 0, none⟩) n c) (l.set j x) := by
  have hn := h.len
  unfold OwC at h ⊢
  subst hn
  obtain ⟨s1, _⟩ := h.stored j (.int .i64 x)
  rw [List.length_set, set_ro]
  exact s1
theorem OwC.cell {base : Nat} {w : World} {A : Option Addr} {n c : Nat} {l : List Int} (h : OwC base w (.slice A n c) l) (h0 : 0 < n) : ∃ b, A = some ⟨b, 0, none⟩ ∧ base ≤ b ∧ (∀ j, w.frozen? ⟨b, j, none⟩ = false) ∧ ∀ j, j < n → w.cell? ⟨b, j, none⟩ = some (.int .i64 (ro l j)) := by
  have hn := h.len
  have h' := h
  unfold OwC at h'
  obtain ⟨b, cap, e⟩ := own_form0 h' (by omega)
  injection e with e1 e2 e3
  subst e1 e3
  subst hn
  refine ⟨b, rfl, own_geE h' b rfl, h'.frozenAt, fun j hj => ?_⟩
  obtain ⟨b', o', e', hc⟩ := h.rv.at_ h0
  injection e' with e'
  injection e' with e1 e2
  subst e1 e2
  have := hc j _ (ci_at hj)
  rw [Nat.zero_add] at this
  exact this
set_option maxHeartbeats 3200000 in
set_option maxRecDepth 100000 in
theorem rpowers_any {q : Nat} (hq : 1 < q) (hq2 : q ≤ 1000) {x : Int} (hx : 0 ≤ x ∧ x < (q : Int)) (cnt : Nat) (hc : cnt ≤ 1000) (sum : Int) (w : World) :
    Calls Try.prog 25 #[.int .i64 (q : Int), .int .i64 x, .int .i64 (cnt : Int), .int .i64 sum] w (Ret (fun z w' => OwC w.heap.size w' z ((List.range cnt).map (pwI (q : Int) x) ++ [sum])) w) := by
  have HM := Lib.hid (fun (k : Nat) (w' : World) => rmul_any (q := q) hq hq2 (a := pwI (q : Int) x k) (b := x) (pwI_in (by omega) x k) hx w')
  obtain ⟨w1, hmk, ho, hx1⟩ := make_own (cnt + 1) w w.heap.size (Nat.le_refl _) (by omega)
  obtain ⟨c1, hc1⟩ : ∃ c1, cnt + 1 = c1 := ⟨_, rfl⟩
  have p1 : IntKind.i64.wrap ((cnt : Int) + 1) = (c1 : Int) := by rw [IntWalk.i64_in _ (by omega), ← hc1]; rfl
  rw [hc1] at hmk ho
  clear hc1
  have HO := Lib.hid (And.intro ho hx1)
  clear ho hx1 hx
  go_enter Try.func25, Try.ntmps25
  go_wp2_with fail
  go_loopw [9, 10, 15] (fun v m i wr => ∃ (k : Nat) (A : Option Addr) (n c : Nat), k ≤ cnt ∧ v = .slice A n c ∧ OwC w.heap.size wr (.slice A n c) ((List.range k).map (pwI (q : Int) x)) ∧ m = .int .i64 (pwI (q : Int) x k) ∧ i = .int .i64 (k : Int) ∧ Ext w wr) (fun _ _ i _ => cnt - (intOf i).toNat)
  case atStart => exact ⟨0, _, _, _, by omega, rfl, HO.out.1, rfl, rfl, HO.out.2⟩
  case round =>
    clear HO hmk
    obtain ⟨k, A, n, c, hk, rfl, ho, rfl, rfl, hx⟩ := hrel
    have hlen := ho.len
    rw [List.length_map, List.length_range] at hlen
    subst hlen
    have HO := Lib.hid ho
    have HX := Lib.hid hx
    have hsz := Ext.size hx
    clear hx ho
    obtain ⟨W, rfl⟩ : ∃ W, W = wr := ⟨_, rfl⟩
    by_cases hkn : k < cnt
    · have pk : (k : Int) < (cnt : Int) := by omega
      have wk : IntKind.i64.wrap ((k : Int) + 1) = ((k + 1 : Nat) : Int) := by rw [IntWalk.i64_in _ (by omega)]; rfl
      go_upto_region 6 with (at_builtin; refine wpl_appC rfl _ _ rfl w.heap.size (.slice A k c) _ rfl (HO.out.below (Ext.allocR W (.cells #[.int .i64 (pwI (q : Int) x k)] TIN))) (some ⟨W.heap.size, 0, none⟩) 1 1 [pwI (q : Int) x k] rfl (rv_one W _) (by simp; omega) (by omega) (by simp; omega) ?_; intro A2 n2 c2 w2 o2 b2 g2; have HO2 := Lib.hid (And.intro o2 (show Ext w w2 from Below.trans (bt HX.out (Ext.allocR _ _)) b2)); clear o2 b2 g2)
      go_wp2_with fail
      refine (HM.out k w2).mono ?_
      rintro e w3 ⟨z, rfl, rfl, b3⟩
      have HO3 := Lib.hid (And.intro (HO2.out.1.below b3) (bt HO2.out.2 b3))
      clear b3
      go_wp2_with fail
      exact ⟨⟨k + 1, A2, n2, c2, by omega, rfl, by rw [List.range_succ, List.map_append]; exact HO3.out.1, rfl, by go_num, HO3.out.2⟩, by simp [intOf]; omega⟩
    · obtain rfl : k = cnt := by omega
      go_wp2_with (at_builtin; refine wpl_appC rfl _ _ rfl w.heap.size (.slice A k c) _ rfl (HO.out.below (Ext.allocR W (.cells #[.int .i64 sum] TIN))) (some ⟨W.heap.size, 0, none⟩) 1 1 [sum] rfl (rv_one W _) (by simp; omega) (by omega) (by simp; omega) ?_; intro A2 n2 c2 w2 o2 b2 g2; have HO2 := Lib.hid (And.intro o2 (show Ext w w2 from Below.trans (bt HX.out (Ext.allocR _ _)) b2)); clear o2 b2 g2)
      go_returns
      exact ⟨_, rfl, HO2.out.1, HO2.out.2⟩
end Go.Proofs.Tb
