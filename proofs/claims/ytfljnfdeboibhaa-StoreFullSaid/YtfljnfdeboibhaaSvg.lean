/- Contracts of slices.Grow and slices.Concat at versions. -/
import Derived.Test.YtfljnfdeboibhaaSvf
set_option linter.unusedVariables false
set_option linter.unusedSimpArgs false
namespace Go.Proofs.Tb
open Go.Maps Go.RowKit Go.Lib
attribute [local go_sem] cell_set_same neqMapL

abbrev TVV : TypeId := 144
theorem ve_info : (Try.prog.info? TVE).map (fun i => (i.zero, i.size, i.bytes)) = some (some (.agg #[.int .i64 0, .pointer none]), 2, 16) := by kernel_rfl
theorem own_take {base : Nat} {w : World} {T : TypeId} {k n c : Nat} {A : Option Addr} {xs : List Value} (h : w.ownsRow base T k (.slice A n c) n xs) {n' : Nat} (hn : n' ≤ n) : w.ownsRow base T k (.slice A n' c) n' (xs.take (n' * k)) := by
  have hm : n' * k ≤ n * k := Nat.mul_le_mul_right k hn
  refine ⟨by rw [List.length_take, h.1]; omega, ?_⟩
  rcases h.2 with ⟨e, h0⟩ | ⟨g, cap, cur, e, h1, h2, h3, h4, h5, h6⟩
  · injection e with e1 _ e3
    subst e1 e3 h0
    obtain rfl : n' = 0 := by omega
    exact Or.inl ⟨rfl, rfl⟩
  · injection e with e1 _ e3
    subst e1 e3
    exact Or.inr ⟨g, c, cur, rfl, h1, h2, by omega, h4, h5, by rw [← h6, List.take_take, Nat.min_eq_left hm]⟩
set_option maxHeartbeats 1600000 in
set_option maxRecDepth 100000 in
theorem rgrow_any (k : Nat) (hk : 1 ≤ k) (hk2 : k ≤ 100000) (w : World) :
    Calls Try.prog 84 #[.slice none 0 0, .int .i64 (k : Int)] w (Ret (fun v w' => ∃ A c, v = .slice A 0 c ∧ w'.ownsRow w.heap.size TVE 2 (.slice A 0 c) 0 []) w) := by
  obtain ⟨i0, hi, hz0, hz1, hz2⟩ := info_parts ve_info
  have hr := fun ty => run_append_nil_zeros (P := Try.prog) (ty := ty) w TVS TIN TVE i0 _ .i64 .i64 Try.underlying102 Try.underlying3 hi hz0 k hk (by rw [hz1]; omega) (by omega) (by rw [hz2]; omega)
  have hge := grownCap_ge w k 0 TVE
  have hcm : grownCap w k 0 TVE ≤ maxLen := grownCap_le_maxLen w k 0 TVE (by unfold maxLen; omega)
  obtain ⟨C, hC⟩ : ∃ C, grownCap w k 0 TVE = C := ⟨_, rfl⟩
  rw [hC] at hge hcm
  simp only [hC] at hr
  obtain ⟨cs, hcs⟩ : ∃ cs, Builtin.zeroCells (Value.agg #[.int .i64 0, .pointer none]).cells k ++ Builtin.zeroCells (Value.agg #[.int .i64 0, .pointer none]).cells (C - k) = cs := ⟨_, rfl⟩
  have hsz : cs.size = C * 2 := by
    rw [← hcs, Array.size_append, size_zeroCells, size_zeroCells]
    show k * 2 + (C - k) * 2 = _
    omega
  simp only [hcs] at hr
  have HO := Lib.hid (show (w.drew.alloc (.cells cs TVE)).ownsRow w.heap.size TVE 2 (.slice (some ⟨w.heap.size, 0, none⟩) 0 C) 0 [] from
    ⟨rfl, Or.inr ⟨w.heap.size, C, cs, rfl, Nat.le_refl _, heap_alloc_new w.drew _, Nat.zero_le _, hcm, hsz, by simp⟩⟩)
  have HX := Lib.hid (show Ext w (w.drew.alloc (.cells cs TVE)) from bt (Ext.drew w) (Ext.allocR _ _))
  unfold maxLen at hcm
  have p1 : ¬ (k : Int) < 0 := by omega
  have p2 : (0 : Int) < (k : Int) := by omega
  clear hC hcs hsz hi hz0 hz1 hz2
  go_enter Try.func84, Try.ntmps84
  go_wp2_with (at_builtin; refine Go.Lib.wpList_append_run _ rfl _ _ _ _ rfl (.slice none 0 0) (.int .i64 (k : Int)) rfl rfl _ _ (hr _) ?_)
  go_returns
  exact ⟨_, rfl, ⟨_, _, rfl, HO.out⟩, HX.out⟩
theorem vc_app (a b : List (Nat × MT)) : vc (a ++ b) = vc a ++ vc b := by unfold vc; rw [List.map_append, List.flatten_append]
theorem vc_one (l : List (Nat × MT)) : ∀ u ∈ vc l, u.oneCell' = true := fun u hu => by
  unfold vc at hu
  rw [List.mem_flatten] at hu
  obtain ⟨x, hx, hu⟩ := hu
  obtain ⟨p, _, rfl⟩ := List.mem_map.1 hx
  simp only [List.mem_cons, List.not_mem_nil, or_false] at hu
  rcases hu with rfl | rfl <;> rfl
/-- A row of versions. -/
def OwS (base : Nat) (w : World) (v : Value) (l : List (Nat × MT)) : Prop := w.ownsRow base TVE 2 v l.length (vc l)
theorem wpl_appV {ops : Array Oper} {rest : List Oper} {o : Oper} {a : Act} {Q : Exit → Act → World → Prop} {w : World} (hgd : o.guard = none) (s x : Operand)
    (ho : o.op = .call { callee := .builtin .append, args := #[s, x], argTypes := #[TVS, TVS] }) (base : Nat) (v : Value) (l : List (Nat × MT)) (hs : a.eval s = v) (hown : OwS base w v l)
    (A : Option Addr) (m c : Nat) (l2 : List (Nat × MT)) (hx : a.eval x = .slice A m c) (hr : Rv w 2 A m c (vc l2)) (hn : l.length ≤ 1000000) (hm : m ≤ 1000000) (hbase : base ≤ w.heap.size)
    (h : ∀ A' n' c' w', OwS base w' (.slice A' n' c') (l ++ l2) → Below base w w' → w.grownBy w' v.ownBlock → wpList Try.prog ops Q rest (a.put o.dst (.slice A' n' c')) w') : wpList Try.prog ops Q (o :: rest) a w := by
  have hml : l2.length = m := by have := hr.len; rw [vc_len] at this; omega
  refine wpl_appR TVS TVE _ 2 16 ve_info Try.underlying102 rfl (by omega) (by omega) hgd s x ho base v l.length (vc l) hs hown A m c (vc l2) hx hr (vc_one _) hn hm hbase ?_
  intro v3 w3 hrow hgr hbel
  have hO : OwS base w3 v3 (l ++ l2) := by
    unfold OwS
    rw [List.length_append, hml, vc_app]
    exact hrow
  obtain ⟨A', c', e, _⟩ := own_rv hO
  subst e
  exact h _ _ _ _ hO hbel hgr
def CnL (n1 n2 : Nat) (s i : Value) : Prop := (s = .int .i64 0 ∧ i = .int .i64 0) ∨ (s = .int .i64 (n1 : Int) ∧ i = .int .i64 1) ∨ (s = .int .i64 ((n1 + n2 : Nat) : Int) ∧ i = .int .i64 2)
def CnW (w wr : World) (v : Value) (l : List (Nat × MT)) : Prop := OwS w.heap.size wr v l ∧ Ext w wr
set_option maxHeartbeats 3200000 in
set_option maxRecDepth 100000 in
theorem rconcat_any (b o c : Nat) (A1 A2 : Option Addr) (n1 c1 n2 c2 : Nat) (l1 l2 : List (Nat × MT)) (w : World) (h : Rv w 1 (some ⟨b, o, none⟩) 2 c [.slice A1 n1 c1, .slice A2 n2 c2]) (h1 : Rv w 2 A1 n1 c1 (vc l1)) (h2 : Rv w 2 A2 n2 c2 (vc l2)) (hn : 1 ≤ n1) (hn1 : n1 ≤ 1000) (hn2 : n2 ≤ 1000) :
    Calls Try.prog 53 #[.slice (some ⟨b, o, none⟩) 2 c] w (Ret (fun v w' => OwS w.heap.size w' v (l1 ++ l2)) w) := by
  have hl1 : l1.length = n1 := by have := h1.len; rw [vc_len] at this; omega
  have hl2 : l2.length = n2 := by have := h2.len; rw [vc_len] at this; omega
  obtain ⟨b', o', e, hc⟩ := h.at_ (by omega)
  injection e with e
  injection e with e1 e2
  subst e1 e2
  have k0 := hc 0 _ rfl
  have k1 := hc 1 _ rfl
  rw [Nat.add_zero] at k0
  have hle := h.le
  have hcp := h.cap
  have H1 := Lib.hid h1
  have H2 := Lib.hid h2
  have HL1 := Lib.hid hl1
  have HL2 := Lib.hid hl2
  have K0 := Lib.hid k0
  have K1 := Lib.hid k1
  have hle1 := h1.le
  have hle2 := h2.le
  have hcp1 := h1.cap
  have hcp2 := h2.cap
  have w1 : IntKind.i64.wrap (n1 : Int) = (n1 : Int) := IntWalk.i64_in _ (by omega)
  clear h h1 h2 hl1 hl2 hc
  go_enter Try.func53, Try.ntmps53
  go_wp2_with fail
  go_loop [3, 11] (CnL n1 n2) (fun _ i => 2 - (intOf i).toNat)
  case atStart => exact Or.inl ⟨rfl, rfl⟩
  case round =>
    rcases hrel with ⟨rfl, rfl⟩ | ⟨rfl, rfl⟩ | ⟨rfl, rfl⟩
    · go_wp2_with fail
      go_round
      case rel => exact Or.inr (Or.inl ⟨rfl, rfl⟩)
      case measure => simp [intOf]
    · have w2 : IntKind.i64.wrap ((n1 : Int) + (n2 : Int)) = ((n1 + n2 : Nat) : Int) := by rw [IntWalk.i64_in _ (by omega)]; omega
      have p1 : ¬ ((n1 + n2 : Nat) : Int) < 0 := by omega
      go_wp2_with fail
      go_round
      case rel => exact Or.inr (Or.inr ⟨by go_num, rfl⟩)
      case measure => simp [intOf]
    · obtain ⟨q, hq⟩ : ∃ q, n1 + n2 = q := ⟨_, rfl⟩
      rw [hq]
      have hq1 : 1 ≤ q := by omega
      have hq2 : q ≤ 100000 := by omega
      clear hq
      go_wp2_with fail
      refine (rgrow_any q hq1 hq2 w).mono ?_
      rintro e w3 ⟨z3, rfl, ⟨A3, c3, rfl, ho3⟩, b3⟩
      have HO3 := Lib.hid (show OwS w.heap.size w3 (.slice A3 0 c3) [] from ho3)
      have HX3 := Lib.hid b3
      have hle3 := (own_rvv ho3).le
      have hcp3 := (own_rvv ho3).cap
      clear ho3 b3
      go_wp2_with fail
      go_loopw [6, 27] (fun v i wr => ∃ (j : Nat) (A : Option Addr) (n c : Nat), j ≤ 2 ∧ i = .int .i64 (j : Int) ∧ v = .slice A n c ∧ CnW w wr (.slice A n c) (([l1, l2].take j).flatten)) (fun _ i _ => 2 - (intOf i).toNat)
      case atStart => exact ⟨0, A3, 0, c3, by omega, rfl, rfl, HO3.out, HX3.out⟩
      case round =>
        clear HO3 HX3 hle3 hcp3 k0 k1
        obtain ⟨j, A6, n6, c6, hj, rfl, rfl, hw⟩ := hrel
        have hln := (own_rvv hw.1).len
        have hle6 := (own_rvv hw.1).le
        have hcp6 := (own_rvv hw.1).cap
        have HW := Lib.hid hw
        obtain rfl | rfl | rfl : j = 0 ∨ j = 1 ∨ j = 2 := by omega
        · have k0 := ext_cell hw.2 K0.out
          clear hw hln
          go_wp2_with (at_builtin; refine wpl_appV rfl _ _ rfl w.heap.size (.slice A6 n6 c6) [] rfl HW.out.1 A1 n1 c1 l1 rfl (H1.out.below HW.out.2) (by simp) (by omega) (Ext.size HW.out.2) ?_; intro A7 n7 c7 w7 o7 b7 g7; have HZ := Lib.hid (show CnW w w7 (.slice A7 n7 c7) (([l1, l2].take (0 + 1)).flatten) from ⟨by have e : ([l1, l2].take (0 + 1)).flatten = [] ++ l1 := (by simp); rw [e]; exact o7, Below.trans HW.out.2 b7⟩); clear o7 b7 g7)
          go_roundw
          case rel => exact ⟨1, A7, n7, c7, by omega, rfl, rfl, HZ.out⟩
          case measure => simp [intOf]
        · have k1 := ext_cell hw.2 K1.out
          clear hw hln
          go_wp2_with (at_builtin; refine wpl_appV rfl _ _ rfl w.heap.size (.slice A6 n6 c6) l1 rfl (by have h := HW.out.1; have e : ([l1, l2].take 1).flatten = l1 := (by simp); rw [e] at h; exact h) A2 n2 c2 l2 rfl (H2.out.below HW.out.2) (by have := HL1.out; omega) (by omega) (Ext.size HW.out.2) ?_; intro A7 n7 c7 w7 o7 b7 g7; have HZ := Lib.hid (show CnW w w7 (.slice A7 n7 c7) (([l1, l2].take (1 + 1)).flatten) from ⟨by have e : ([l1, l2].take (1 + 1)).flatten = l1 ++ l2 := (by simp); rw [e]; exact o7, Below.trans HW.out.2 b7⟩); clear o7 b7 g7)
          go_roundw
          case rel => exact ⟨2, A7, n7, c7, by omega, rfl, rfl, HZ.out⟩
          case measure => simp [intOf]
        · clear hw hln
          go_wp2_with fail
          go_returns
          exact ⟨_, rfl, by have h := HW.out.1; have e : ([l1, l2].take 2).flatten = l1 ++ l2 := (by simp); rw [e] at h; exact h, HW.out.2⟩
end Go.Proofs.Tb
