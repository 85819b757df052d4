/- Rows of pairs and of changes, and rows of such rows. -/
import Derived.Test.YtfljnfdeboibhaaSvb
set_option linter.unusedVariables false
set_option linter.unusedSimpArgs false
namespace Go.Proofs.Tb
open Go.Maps Go.RowKit

abbrev TPA : TypeId := 62
abbrev TPS : TypeId := 47
abbrev TPV : TypeId := 26
abbrev TCG : TypeId := 37
abbrev TCS : TypeId := 23
theorem pa_info : (Try.prog.info? TPA).map (fun i => (i.zero, i.size, i.bytes)) = some (some (.agg #[.string ByteArray.empty, .string ByteArray.empty]), 2, 32) := by kernel_rfl
theorem ps_info : (Try.prog.info? TPS).map (fun i => (i.zero, i.size, i.bytes)) = some (some (.slice none 0 0), 1, 24) := by kernel_rfl
theorem cg_info : (Try.prog.info? TCG).map (fun i => (i.zero, i.size, i.bytes)) = some (some (.agg #[.string ByteArray.empty, .string ByteArray.empty, .bool false]), 3, 40) := by kernel_rfl
/-- The cells of pairs, and of changes. -/
def pcs (l : List Pr) : List Value := (l.map fun p => [Value.string p.1, .string p.2]).flatten
def ccs (l : List Cg) : List Value := (l.map fun c => [Value.string c.k, .string c.v, .bool c.gone]).flatten
theorem pcs_app (a b : List Pr) : pcs (a ++ b) = pcs a ++ pcs b := by unfold pcs; rw [List.map_append, List.flatten_append]
theorem ccs_app (a b : List Cg) : ccs (a ++ b) = ccs a ++ ccs b := by unfold ccs; rw [List.map_append, List.flatten_append]
theorem pcs_len : ∀ l : List Pr, (pcs l).length = l.length * 2
  | [] => rfl
  | p :: l => by
    have := pcs_len l
    show (Value.string p.1 :: .string p.2 :: pcs l).length = _
    simp only [List.length_cons]; omega
theorem ccs_len : ∀ l : List Cg, (ccs l).length = l.length * 3
  | [] => rfl
  | c :: l => by
    have := ccs_len l
    show (Value.string c.k :: .string c.v :: .bool c.gone :: ccs l).length = _
    simp only [List.length_cons]; omega
theorem pcs_one (l : List Pr) : ∀ u ∈ pcs l, u.oneCell' = true := fun u hu => by
  unfold pcs at hu
  rw [List.mem_flatten] at hu
  obtain ⟨x, hx, hu⟩ := hu
  obtain ⟨p, _, rfl⟩ := List.mem_map.1 hx
  simp only [List.mem_cons, List.not_mem_nil, or_false] at hu
  rcases hu with rfl | rfl <;> rfl
theorem ccs_one (l : List Cg) : ∀ u ∈ ccs l, u.oneCell' = true := fun u hu => by
  unfold ccs at hu
  rw [List.mem_flatten] at hu
  obtain ⟨x, hx, hu⟩ := hu
  obtain ⟨p, _, rfl⟩ := List.mem_map.1 hx
  simp only [List.mem_cons, List.not_mem_nil, or_false] at hu
  rcases hu with rfl | rfl | rfl <;> rfl
theorem pcs_at : ∀ (l : List Pr) (i : Nat) (hi : i < l.length), (pcs l)[i * 2]? = some (.string (l[i]).1) ∧ (pcs l)[i * 2 + 1]? = some (.string (l[i]).2)
  | p :: l, 0, _ => ⟨rfl, rfl⟩
  | p :: l, i + 1, hi => by
    have := pcs_at l i (by simpa using hi)
    have e : pcs (p :: l) = .string p.1 :: .string p.2 :: pcs l := rfl
    rw [e, show (i + 1) * 2 = i * 2 + 1 + 1 by omega, show i * 2 + 1 + 1 + 1 = (i * 2 + 1) + 1 + 1 by omega]
    simp only [List.getElem?_cons_succ, List.getElem_cons_succ]
    exact this
theorem ccs_at : ∀ (l : List Cg) (i : Nat) (hi : i < l.length), (ccs l)[i * 3]? = some (.string (l[i]).k) ∧ (ccs l)[i * 3 + 1]? = some (.string (l[i]).v) ∧ (ccs l)[i * 3 + 2]? = some (.bool (l[i]).gone)
  | p :: l, 0, _ => ⟨rfl, rfl, rfl⟩
  | p :: l, i + 1, hi => by
    have := ccs_at l i (by simpa using hi)
    have e : ccs (p :: l) = .string p.k :: .string p.v :: .bool p.gone :: ccs l := rfl
    rw [e, show (i + 1) * 3 = i * 3 + 1 + 1 + 1 by omega, show i * 3 + 1 + 1 + 1 + 1 = (i * 3 + 1) + 1 + 1 + 1 by omega, show i * 3 + 1 + 1 + 1 + 2 = (i * 3 + 2) + 1 + 1 + 1 by omega]
    simp only [List.getElem?_cons_succ, List.getElem_cons_succ]
    exact this
/-- A row of pairs, a row of changes: whole rows from their block's beginning on. -/
def OwP (base : Nat) (w : World) (v : Value) (l : List Pr) : Prop := w.ownsRow base TPA 2 v l.length (pcs l)
def OwC (base : Nat) (w : World) (v : Value) (l : List Cg) : Prop := w.ownsRow base TCG 3 v l.length (ccs l)
theorem wp_appP {o : Oper} {a : Act} {K : Act → World → Prop} {Q : Exit → Act → World → Prop} {w : World} (s x : Operand)
    (ho : o.op = .call { callee := .builtin .append, args := #[s, x], argTypes := #[TPS, TPS] }) (base : Nat) (v : Value) (l : List Pr) (hs : a.eval s = v) (hown : OwP base w v l)
    (A : Option Addr) (m c : Nat) (l2 : List Pr) (hx : a.eval x = .slice A m c) (hr : Rv w 2 A m c (pcs l2)) (hn : l.length ≤ 1000000) (hm : m ≤ 1000000) (hbase : base ≤ w.heap.size)
    (h : ∀ A' n' c' w', OwP base w' (.slice A' n' c') (l ++ l2) → Rv w' 2 A' n' c' (pcs (l ++ l2)) → Below base w w' → w.grownBy w' v.ownBlock → K (a.put o.dst (.slice A' n' c')) w') : Oper.wp Try.prog o a w K Q := by
  have hml : l2.length = m := by have := hr.len; rw [pcs_len] at this; omega
  refine wp_appR TPS TPA _ 2 32 pa_info Try.underlying47 rfl (by omega) (by omega) s x ho base v l.length (pcs l) hs hown A m c (pcs l2) hx hr (pcs_one _) hn hm hbase ?_
  intro v3 w3 hrow hgr hbel
  have hO : OwP base w3 v3 (l ++ l2) := by
    unfold OwP
    rw [List.length_append, hml, pcs_app]
    exact hrow
  obtain ⟨A', c', e, hr'⟩ := own_rv hO
  subst e
  exact h _ _ _ _ hO hr' hbel hgr
theorem wpl_appP {ops : Array Oper} {rest : List Oper} {o : Oper} {a : Act} {Q : Exit → Act → World → Prop} {w : World} (hgd : o.guard = none) (s x : Operand)
    (ho : o.op = .call { callee := .builtin .append, args := #[s, x], argTypes := #[TPS, TPS] }) (base : Nat) (v : Value) (l : List Pr) (hs : a.eval s = v) (hown : OwP base w v l)
    (A : Option Addr) (m c : Nat) (l2 : List Pr) (hx : a.eval x = .slice A m c) (hr : Rv w 2 A m c (pcs l2)) (hn : l.length ≤ 1000000) (hm : m ≤ 1000000) (hbase : base ≤ w.heap.size)
    (h : ∀ A' n' c' w', OwP base w' (.slice A' n' c') (l ++ l2) → Rv w' 2 A' n' c' (pcs (l ++ l2)) → Below base w w' → w.grownBy w' v.ownBlock → wpList Try.prog ops Q rest (a.put o.dst (.slice A' n' c')) w') : wpList Try.prog ops Q (o :: rest) a w := by
  have hml : l2.length = m := by have := hr.len; rw [pcs_len] at this; omega
  refine wpl_appR TPS TPA _ 2 32 pa_info Try.underlying47 rfl (by omega) (by omega) hgd s x ho base v l.length (pcs l) hs hown A m c (pcs l2) hx hr (pcs_one _) hn hm hbase ?_
  intro v3 w3 hrow hgr hbel
  have hO : OwP base w3 v3 (l ++ l2) := by
    unfold OwP
    rw [List.length_append, hml, pcs_app]
    exact hrow
  obtain ⟨A', c', e, hr'⟩ := own_rv hO
  subst e
  exact h _ _ _ _ hO hr' hbel hgr
theorem wpl_appC {ops : Array Oper} {rest : List Oper} {o : Oper} {a : Act} {Q : Exit → Act → World → Prop} {w : World} (hgd : o.guard = none) (s x : Operand)
    (ho : o.op = .call { callee := .builtin .append, args := #[s, x], argTypes := #[TCS, TCS] }) (base : Nat) (v : Value) (l : List Cg) (hs : a.eval s = v) (hown : OwC base w v l)
    (A : Option Addr) (m c : Nat) (l2 : List Cg) (hx : a.eval x = .slice A m c) (hr : Rv w 3 A m c (ccs l2)) (hn : l.length ≤ 1000000) (hm : m ≤ 1000000) (hbase : base ≤ w.heap.size)
    (h : ∀ A' n' c' w', OwC base w' (.slice A' n' c') (l ++ l2) → Rv w' 3 A' n' c' (ccs (l ++ l2)) → Below base w w' → w.grownBy w' v.ownBlock → wpList Try.prog ops Q rest (a.put o.dst (.slice A' n' c')) w') : wpList Try.prog ops Q (o :: rest) a w := by
  have hml : l2.length = m := by have := hr.len; rw [ccs_len] at this; omega
  refine wpl_appR TCS TCG _ 3 40 cg_info Try.underlying23 rfl (by omega) (by omega) hgd s x ho base v l.length (ccs l) hs hown A m c (ccs l2) hx hr (ccs_one _) hn hm hbase ?_
  intro v3 w3 hrow hgr hbel
  have hO : OwC base w3 v3 (l ++ l2) := by
    unfold OwC
    rw [List.length_append, hml, ccs_app]
    exact hrow
  obtain ⟨A', c', e, hr'⟩ := own_rv hO
  subst e
  exact h _ _ _ _ hO hr' hbel hgr
/-- The values of a row of rows of pairs. -/
def nlP : Value := .slice none 0 0
def RowsP (base : Nat) (w : World) (zs : List Value) (ls : List (List Pr)) : Prop := zs.length = ls.length ∧ ∀ i, i < ls.length → OwP base w (zs.getD i nlP) (ls.getD i [])
/-- A row of rows of pairs. -/
def OwV (base : Nat) (w : World) (v : Value) (ls : List (List Pr)) : Prop := ∃ zs, w.ownsRow base TPS 1 v ls.length zs ∧ RowsP base w zs ls
theorem OwP.chg {X : Nat → Obj → Prop} {base : Nat} {w w' : World} {v : Value} {l : List Pr} (h : OwP base w v l) (hc : Chg X w w') (hX : ∀ b cs, ¬ X b (.cells cs TPA (0, 0))) : OwP base w' v l := hc.own h fun b cs _ => hX b cs
theorem OwC.chg {X : Nat → Obj → Prop} {base : Nat} {w w' : World} {v : Value} {l : List Cg} (h : OwC base w v l) (hc : Chg X w w') (hX : ∀ b cs, ¬ X b (.cells cs TCG (0, 0))) : OwC base w' v l := hc.own h fun b cs _ => hX b cs
theorem OwV.chg {X : Nat → Obj → Prop} {base : Nat} {w w' : World} {v : Value} {ls : List (List Pr)} (h : OwV base w v ls) (hc : Chg X w w') (hX : ∀ b cs, ¬ X b (.cells cs TPA (0, 0))) (hX2 : ∀ b cs, ¬ X b (.cells cs TPS (0, 0))) : OwV base w' v ls := by
  obtain ⟨zs, h1, h2, h3⟩ := h
  exact ⟨zs, hc.own h1 fun b cs _ => hX2 b cs, h2, fun i hi => (h3 i hi).chg hc hX⟩
theorem OwV.ext {base : Nat} {w w' : World} {v : Value} {ls : List (List Pr)} (h : OwV base w v ls) (hc : Ext w w') : OwV base w' v ls := h.chg (X := fun _ _ => False) (Chg.ext hc) (fun _ _ h => h) fun _ _ h => h
theorem MF.pa {F : Nat → Prop} (b : Nat) (cs : Array Value) : ¬ MF F b (.cells cs TPA (0, 0)) := fun hx => by
  have : TPA = TDK ∨ TPA = TBY ∨ TPA = TSE := hx.2
  revert this
  decide
theorem MF.ps {F : Nat → Prop} (b : Nat) (cs : Array Value) : ¬ MF F b (.cells cs TPS (0, 0)) := fun hx => by
  have : TPS = TDK ∨ TPS = TBY ∨ TPS = TSE := hx.2
  revert this
  decide
theorem MF.cg {F : Nat → Prop} (b : Nat) (cs : Array Value) : ¬ MF F b (.cells cs TCG (0, 0)) := fun hx => by
  have : TCG = TDK ∨ TCG = TBY ∨ TCG = TSE := hx.2
  revert this
  decide
theorem MF.no {F : Nat → Prop} (b : Nat) (cs : Array Value) : ¬ MF F b (.cells cs TNO (0, 0)) := fun hx => by
  have : TNO = TDK ∨ TNO = TBY ∨ TNO = TSE := hx.2
  revert this
  decide
theorem TrW.chg {X : Nat → Obj → Prop} {w w' : World} {B : Nat → Nat} {Q : Nat → Prop} (hc : Chg X w w') (hX : ∀ b cs, ¬ X b (.cells cs TNO (0, 0))) : ∀ {t : MT}, TrW w B Q t → TrW w' B Q t
  | .nil, _ => trivial
  | .node _ _ _ _ _, ⟨h1, h2, h3, h4⟩ => ⟨hc.blk h1 (hX _ _), h2, h3.chg hc hX, h4.chg hc hX⟩
theorem OwP.lower {base b : Nat} {w : World} {v : Value} {l : List Pr} (h : OwP base w v l) (hb : b ≤ base) : OwP b w v l := own_lower h hb
theorem OwC.lower {base b : Nat} {w : World} {v : Value} {l : List Cg} (h : OwC base w v l) (hb : b ≤ base) : OwC b w v l := own_lower h hb
theorem OwP.rv {base : Nat} {w : World} {v : Value} {l : List Pr} (h : OwP base w v l) : ∃ A c, v = .slice A l.length c ∧ Rv w 2 A l.length c (pcs l) := own_rv h
theorem OwC.rv {base : Nat} {w : World} {v : Value} {l : List Cg} (h : OwC base w v l) : ∃ A c, v = .slice A l.length c ∧ Rv w 3 A l.length c (ccs l) := own_rv h
end Go.Proofs.Tb
