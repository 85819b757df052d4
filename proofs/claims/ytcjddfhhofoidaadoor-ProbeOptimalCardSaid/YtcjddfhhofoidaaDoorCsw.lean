/- What tests cost: bounds. -/
import Derived.Test.YtcjddfhhofoidaaDoorOpa
import Derived.Test.YtcjddfhhofoidaaDoorRb
import Derived.Test.YtcjddfhhofoidaaDoorGb
set_option linter.unusedVariables false
set_option linter.unusedSimpArgs false
namespace Go.Proofs.Tb
open Go.RowKit

/-- Bounds of what the ends cost. -/
theorem wS_bd {ws l : List Int} (hw : ∀ j, 0 ≤ ws.getD j 0 ∧ ws.getD j 0 ≤ 1000) : 0 ≤ wS ws l ∧ wS ws l ≤ 1000 * l.length := by
  induction l with
  | nil => simp [wS]
  | cons x l ih =>
    have e : wS ws (x :: l) = ws.getD x.toNat 0 + wS ws l := by simp [wS]
    have h := hw x.toNat
    rw [e, List.length_cons]
    omega
theorem csW_bd {ts : List Tt} {l : List Int} (ht : ∀ j, 0 ≤ tC ts j ∧ tC ts j ≤ 1000) : 0 ≤ csW ts l ∧ csW ts l ≤ 1000 * l.length := by
  induction l with
  | nil => simp [csW]
  | cons x l ih =>
    have e : csW ts (x :: l) = tC ts x.toNat + csW ts l := by simp [csW]
    have h := ht x.toNat
    rw [e, List.length_cons]
    omega
theorem csW_take {ts : List Tt} {way : List Int} {j : Nat} (hj : j < way.length) : csW ts (way.take (j + 1)) = csW ts (way.take j) + tC ts (way.getD j 0).toNat := by
  rw [List.take_succ_eq_append_getElem hj, csW_snoc]
  simp [List.getD, hj]
theorem getD_in {α : Type} {l : List α} {d : α} {j : Nat} (h : j < l.length) : l.getD j d ∈ l := by
  rw [show l.getD j d = l[j] by simp [List.getD, h]]
  exact List.getElem_mem h
theorem cost_bd {ws : List Int} {ts : List Tt} (h : Cv ws ts) (j : Nat) : 0 ≤ tC ts j ∧ tC ts j ≤ 1000 := by
  by_cases hj : j < ts.length
  · exact (h.2.2 j hj).1
  · have e : tC ts j = 0 := by
      unfold tC
      rw [List.getD, List.getElem?_eq_none (by omega)]
      rfl
    omega
theorem SL.ilv {w : World} {A : Option Addr} {n c : Nat} {xs : List Int} (h : SL TIN w (.slice A n c) (ic xs)) : Il w A n c xs := by
  obtain ⟨A', c', e, il⟩ := h.il
  injection e with e1 e2 e3
  subst e1 e2 e3
  exact il
theorem add_addr (b o j : Nat) : ({ block := b, off := o, spot := none } : Addr).add j = ⟨b, o + j, none⟩ := by
  simp only [Addr.add]
  by_cases hj0 : j = 0
  · subst hj0; simp
  · simp [hj0]
/-- append of a slice, maybe nil, to a row that the call owns, as one operation. -/
theorem wp_appA {o : Oper} {a : Act} {K : Act → World → Prop} {Q : Exit → Act → World → Prop} {w : World} (TS T : TypeId) (z : Value) (k bytes : Nat) (hinf : (Tryd.prog.info? T).map (fun i => (i.zero, i.size, i.bytes)) = some (some z, k, bytes)) (hund : Tryd.prog.underlying TS = some (.slice T)) (hzs : z.cells.size = k) (h0 : 0 < k) (hby : bytes ≤ 1000)
    (s x : Operand) (ho : o.op = .call { callee := .builtin .append, args := #[s, x], argTypes := #[TS, TS] }) (base : Nat) (v : Value) (n : Nat) (xs : List Value) (hs : a.eval s = v) (hown : w.ownsRow base T k v n xs)
    (A : Option Addr) (m c : Nat) (news : List Value) (hx : a.eval x = .slice A m c) (hl : news.length = m * k) (hA : 0 < m → ∃ ad, A = some ad) (hnews : ∀ ad, A = some ad → ∀ j u, news[j]? = some u → w.cell? (ad.add j) = some u)
    (h1 : ∀ u ∈ news, u.oneCell' = true) (hn : n ≤ 1000000) (hm : m ≤ 1000000) (hbase : base ≤ w.heap.size)
    (h : ∀ v' w', w'.ownsRow base T k v' (n + m) (xs ++ news) → w.grownBy w' v.ownBlock → Below base w w' → K (a.put o.dst v') w') : Oper.wp Tryd.prog o a w K Q := by
  obtain ⟨v3, w3, hrun, hrow, hgr, hbel⟩ := run_appA (P := Tryd.prog) (w := w) TS T z k bytes o.type hinf hund hzs h0 hby base v n xs hown A m c news hl hA hnews h1 hn hm hbase
  exact Go.Lib.wp_append_run w s x TS TS ho v (.slice A m c) hs hx _ w3 hrun (h _ _ hrow hgr hbel)
/-- append of integers to integers. -/
theorem wp_appI {o : Oper} {a : Act} {K : Act → World → Prop} {Q : Exit → Act → World → Prop} {w : World} (s x : Operand)
    (ho : o.op = .call { callee := .builtin .append, args := #[s, x], argTypes := #[TIS, TIS] }) (base : Nat) (v : Value) (xs : List Int) (hs : a.eval s = v) (hown : OwI base w v xs)
    (A : Option Addr) (m c : Nat) (ys : List Int) (hx : a.eval x = .slice A m c) (hsl : Il w A m c ys) (hn : xs.length ≤ 1000) (hm : m ≤ 1000) (hbase : base ≤ w.heap.size)
    (h : ∀ A' n' c' w', OwI base w' (.slice A' n' c') (xs ++ ys) → Below base w w' → w.grownBy w' v.ownBlock → K (a.put o.dst (.slice A' n' c')) w') : Oper.wp Tryd.prog o a w K Q := by
  obtain ⟨g1, g2, g3⟩ := hsl.news
  refine wp_appA TIS TIN _ 1 8 int_info Tryd.underlying37 rfl (by omega) (by omega) s x ho base v xs.length (ic xs) hs hown A m c (ic ys) hx g1 g2 g3 (ic_one _) (by omega) (by omega) hbase ?_
  intro v3 w3 hrow hgr hbel
  have hO : OwI base w3 v3 (xs ++ ys) := by
    unfold OwI
    rw [List.length_append, hsl.len]
    have e : ic (xs ++ ys) = ic xs ++ ic ys := by unfold ic; rw [List.map_append]
    rw [e]
    exact hrow
  obtain ⟨A', n', c', e, _⟩ := hO.il3
  subst e
  exact h _ _ _ _ hO hbel hgr
theorem OwI.lit0 {base : Nat} {W : World} (hb : base ≤ W.heap.size) : OwI base (W.alloc (.cells #[] TIN)) (.slice (some ⟨W.heap.size, 0, none⟩) 0 0) [] := World.ownsRow_lit W #[] 0 hb (by unfold maxLen; omega) rfl
theorem flt_len {α : Type} (p : α → Bool) (l : List α) : (l.filter p).length + (l.filter fun x => !p x).length = l.length := by
  induction l with
  | nil => rfl
  | cons x l ih =>
    cases h : p x <;> simp [List.filter_cons, h] <;> omega
/-- The cheapest plan of so many faults is short. -/
theorem plL_short {ws : List Int} {ts : List Tt} (h : Cv ws ts) : ∀ s, s < 2 ^ ws.length → s ≠ 0 → (plL ws ts s).length + 1 ≤ 2 * (mems ws.length s).length := by
  intro s
  induction s using Nat.strongRecOn with
  | ind s ih =>
    intro hs h0
    have hm : (mems ws.length s).length ≠ 0 := fun h1 => h0 ((mems_nil hs).1 (List.eq_nil_of_length_eq_zero h1))
    by_cases hp : pT ws ts s = -1
    · rw [plL_end hp]
      simp only [List.length_cons, List.length_nil]
      omega
    · obtain ⟨i, hi, _, h1, h2, e⟩ := plL_test hp
      have ee : ((tsN ts).getD i (0, 0)).2 = shw ts i := by rw [tsN_get]; rfl
      have hlt := spl_lt (t := (tsN ts).getD i (0, 0)) (s := s) (by rw [spl, ee]; exact ⟨h1, h2⟩)
      rw [ee] at hlt
      have a := ih _ hlt.1 (by omega) h1
      have b := ih _ hlt.2 (by omega) h2
      have c := flt_len (fun f => shB (tS ts i) f) (mems ws.length s)
      rw [yes_mems h hi, no_mems h hi, ee] at c
      rw [e, List.length_cons, List.length_append]
      omega
end Go.Proofs.Tb
