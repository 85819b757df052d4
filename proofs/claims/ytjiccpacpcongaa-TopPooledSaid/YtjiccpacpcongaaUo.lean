/- An append tells where its row lies. Prefix of an own row. -/
import Derived.Test.YtjiccpacpcongaaUf
import Derived.Test.YtjiccpacpcongaaUh
set_option linter.unusedVariables false
set_option linter.unusedSimpArgs false
namespace Go.Proofs.Tb
open Go.RowKit Go.Lib
attribute [local go_sem] cell_set_same

theorem app_fresh {w : World} {base g n cap : Nat} {ty : TypeId} {l : List Int} (hown : OwC base w (.slice (some ⟨g, 0, none⟩) n cap) l) {ad : Addr} {c : Nat} {y : Int} (hr : Rv w 1 (some ad) 1 c (ci [y])) (hn : n ≤ 1000000) {v' : Value} {w' : World}
    (hrun : (Builtin.append_ #[TLI, TLI] ty #[.slice (some ⟨g, 0, none⟩) n cap, .slice (some ad) 1 c]).run Try.prog w = .ok v' w') : ∀ g', v'.ownBlock = some g' → g' = g ∨ w.heap.size ≤ g' := by
  obtain ⟨i0, hi, hz0, hz1, hz2⟩ := info_parts int_info
  obtain ⟨g1, g2, g3⟩ := hr.news (by omega)
  have hlen := hown.len
  rcases hown.2 with ⟨e, _⟩ | ⟨g0, cap0, cur, e, hbg, hg, hnc, hcm, hcs, htake⟩
  · cases e
  injection e with e1 e2 e3
  injection e1 with e1
  injection e1 with e1
  subst e1 e3
  rw [hlen] at hnc
  have hsz : i0.size = 1 := hz1
  have hby : i0.bytes = 8 := hz2
  by_cases hroom : n + 1 ≤ cap
  · have hrr := run_append_room (P := Try.prog) w TLI ty TIN i0 Try.underlying24 hi g n cap cur hg ad 1 c (ci [y]) (by rw [hsz]; rfl) (g3 ad rfl) (ci_one _) hroom (by rw [hsz, hcs]; show n * 1 + 1 ≤ cap * 1; omega)
    rw [hrr] at hrun
    injection hrun with hv hw
    intro g' hg'
    rw [← hv] at hg'
    injection hg' with hg'
    exact Or.inl hg'.symm
  · have holds : ∀ j u, (ci l)[j]? = some u → w.cell? ((⟨g, 0, none⟩ : Addr).add j) = some u := World.ownsRow.cells hown (g := g) rfl
    have hrr := run_append_grow (P := Try.prog) w TLI ty TIN i0 _ Try.underlying24 hi hz0 ⟨g, 0, none⟩ n cap (ci l) (by rw [hsz, ci_len, hlen, Nat.mul_one]) holds ad 1 c (ci [y]) (by rw [hsz]; rfl) (g3 ad rfl) (by omega) (by omega) (growslice_fits (by omega) (by rw [hby]; omega))
    rw [hrr] at hrun
    injection hrun with hv hw
    intro g' hg'
    rw [← hv] at hg'
    injection hg' with hg'
    exact Or.inr (by rw [← hg']; exact Nat.le_refl _)
theorem wpl_appF {ops : Array Oper} {rest : List Oper} {o : Oper} {a : Act} {Q : Exit → Act → World → Prop} {w : World} (hgd : o.guard = none) (s x : Operand)
    (ho : o.op = .call { callee := .builtin .append, args := #[s, x], argTypes := #[TLI, TLI] }) (base : Nat) {g n cap : Nat} (l : List Int) (hs : a.eval s = .slice (some ⟨g, 0, none⟩) n cap) (hown : OwC base w (.slice (some ⟨g, 0, none⟩) n cap) l)
    (ad : Addr) (c : Nat) (y : Int) (hx : a.eval x = .slice (some ad) 1 c) (hr : Rv w 1 (some ad) 1 c (ci [y])) (hn : n ≤ 100000) (hbase : base ≤ w.heap.size)
    (h : ∀ g' c' w', OwC base w' (.slice (some ⟨g', 0, none⟩) (n + 1) c') (l ++ [y]) → Below base w w' → w.grownBy w' (some g) → (g' = g ∨ w.heap.size ≤ g') → wpList Try.prog ops Q rest (a.put o.dst (.slice (some ⟨g', 0, none⟩) (n + 1) c')) w') : wpList Try.prog ops Q (o :: rest) a w := by
  obtain ⟨g1, g2, g3⟩ := hr.news (by omega)
  have hlen := hown.len
  obtain ⟨v3, w3, hrun, hrow, hgr, hbel⟩ := run_appA (P := Try.prog) (w := w) TLI TIN _ 1 8 o.type int_info Try.underlying24 rfl (by omega) (by omega) base _ l.length (ci l) hown (some ad) 1 c (ci [y]) g1 g2 g3 (ci_one _) (by omega) (by omega) hbase
  have hO : OwC base w3 v3 (l ++ [y]) := by
    unfold OwC
    rw [List.length_append, ci_app]
    exact hrow
  obtain ⟨g', c', e⟩ := own_form0 hO (by rw [List.length_append]; simp)
  rw [List.length_append, hlen] at e
  simp only [List.length_singleton] at e
  subst e
  exact Go.Lib.wpList_append_run w hgd s x TLI TLI ho _ _ hs hx _ w3 hrun (h g' c' w3 hO hbel hgr (app_fresh hown hr (by omega) hrun g' rfl))
/-- A prefix of an own row. -/
theorem OwC.take {base g n cap m : Nat} {w : World} {l : List Int} (h : OwC base w (.slice (some ⟨g, 0, none⟩) n cap) l) (hm : m ≤ n) : OwC base w (.slice (some ⟨g, 0, none⟩) m cap) (l.take m) := by
  have hlen := h.len
  rcases h.2 with ⟨e, _⟩ | ⟨g0, cap0, cur, e, hbg, hg, hnc, hcm, hcs, htake⟩
  · cases e
  injection e with e1 e2 e3
  injection e1 with e1
  injection e1 with e1
  subst e1 e3
  have hl : (l.take m).length = m := by rw [List.length_take]; omega
  unfold OwC
  rw [hl]
  refine ⟨by rw [ci_len, hl, Nat.mul_one], Or.inr ⟨g, cap, cur, rfl, hbg, hg, by omega, hcm, hcs, ?_⟩⟩
  have h2 : ci (l.take m) = (ci l).take m := by unfold ci; rw [List.map_take]
  rw [h2, ← htake, List.take_take, Nat.mul_one, Nat.mul_one, hlen, Nat.min_eq_left hm]
theorem OwC.kept {base : Nat} {w w' : World} {v : Value} {l : List Int} {row : Option Nat} (h : OwC base w v l) (hg : w.grownBy w' row) (hne : v.ownBlock = none ∨ v.ownBlock ≠ row) : OwC base w' v l := World.ownsRow.kept h hg hne
theorem pad_es (ks : List Nat) {t : Nat} (h : ks.length ≤ t) : ∃ es : List Int, es.length = t ∧ ∀ x, x ∈ ks → (x : Int) ∈ es :=
  ⟨ks.map (fun (x : Nat) => (x : Int)) ++ List.replicate (t - ks.length) 0, by rw [List.length_append, List.length_map, List.length_replicate]; omega, fun x hx => List.mem_append.2 (Or.inl (List.mem_map.2 ⟨x, hx, rfl⟩))⟩
/-- The division's plain facts, out of a solution. -/
theorem sol_div {q P t : Nat} (hq : Q4 q) (hP : 2 * t + 2 ≤ P) (hPq : P ≤ q) {ks : List Nat} (hks : ks.length ≤ t) {d0 d1 : Int} (h0 : 0 ≤ d0 ∧ d0 < (q : Int)) (h1 : 0 ≤ d1 ∧ d1 < (q : Int)) {y : Nat → Int} (hy : ∀ x, x < P → x ∉ ks → (q : Int) ∣ y x - (d0 + d1 * (x : Int)))
    {l : List Int} (hl : l.length = 2 * t + 2) (hr : ∀ x ∈ l, 0 ≤ x ∧ x < (q : Int)) (hs : ∀ x, x < P → Sat (q : Int) (2 * t + 2) (rwX (q : Int) t (x : Int) (y x)) (ro l)) :
    ∃ pls ds, DvP (q : Int) t (l.drop (t + 2) ++ [1]) pls ds ∧ pls 2 = l.take (t + 2) ∧ qlS ds 0 = [d0, d1] := by
  have hqb : 5 ≤ q ∧ q ≤ 13 := by rcases hq with h | h | h | h <;> omega
  obtain ⟨hq5, hq13⟩ := hqb
  have hm := sol_mul hq.prm (by omega) hP (by omega) d0 d1 hks hy (fun x hx => (rwX_sat (ro l)).1 (hs x hx))
  obtain ⟨e1, e2, e3⟩ := div_ok (q := (q : Int)) (by omega) h0 h1 hl hr hm
  have hro : ∀ (m : List Int), (∀ z ∈ m, 0 ≤ z ∧ z < (q : Int)) → ∀ k, k < m.length → 0 ≤ ro m k ∧ ro m k < (q : Int) := fun m hmr k hk => by
    unfold ro
    rw [List.getD_eq_getElem?_getD, List.getElem?_eq_getElem hk]
    exact hmr _ (List.getElem_mem _)
  have hpl : (l.take (t + 2)).length = t + 2 := by rw [List.length_take]; omega
  have hbl : (l.drop (t + 2) ++ [1]).length = t + 1 := by rw [List.length_append, List.length_drop, List.length_singleton]; omega
  refine ⟨_, _, DvP.mk' (q := (q : Int)) (by omega) h0 h1 hpl (fun k hk => hro _ (fun z hz => hr z (List.mem_of_mem_take hz)) k (by omega)) hbl (fun k hk => hro _ (fun z hz => ?_) k (by omega)) e1 e2 e3, rfl, rfl⟩
  rcases List.mem_append.1 hz with h | h
  · exact hr z (List.mem_of_mem_drop h)
  · rw [List.mem_singleton.1 h]; omega
/-- What stands behind a place of an own row. -/
theorem OwC.rdrop {base b n c m : Nat} {w : World} {l : List Int} (h : OwC base w (.slice (some ⟨b, 0, none⟩) n c) l) (hm : m ≤ n) :
    ∃ og, (if c = m then some (⟨b, 0, none⟩ : Addr) else some ⟨b, m, none⟩) = some ⟨b, og, none⟩ ∧ Rv w 1 (some ⟨b, og, none⟩) (n - m) (c - m) (ci (l.drop m)) := by
  have hlen := h.len
  have hrv := h.rv
  have hle := hrv.le
  have hcp := hrv.cap
  by_cases hcm : c = m
  · refine ⟨0, by rw [if_pos hcm], ?_⟩
    have hn : n - m = 0 := by omega
    have hd : l.drop m = [] := List.drop_eq_nil_of_le (by omega)
    rw [hn, hd]
    exact ⟨rfl, by omega, by omega, fun h0 => absurd h0 (by omega)⟩
  · refine ⟨m, by rw [if_neg hcm], ?_⟩
    refine ⟨by rw [ci_len, List.length_drop]; omega, by omega, by omega, fun h0 => ⟨b, m, rfl, fun j u hj => ?_⟩⟩
    obtain ⟨b', o', e', hc⟩ := hrv.at_ (by omega)
    injection e' with e'
    injection e' with e1 e2
    subst e1 e2
    have hd : ci (l.drop m) = (ci l).drop m := by unfold ci; rw [List.map_drop]
    rw [hd, List.getElem?_drop] at hj
    have := hc (m + j) u hj
    rw [Nat.zero_add] at this
    exact this
end Go.Proofs.Tb
