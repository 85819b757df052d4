/- Rows of numbers, and rows of rows of numbers. -/
import Derived.Test.YtjiccpacpcongaaStl
import Derived.Test.YtjiccpacpcongaaBrn
import Derived.Test.YtjiccpacpcongaaPlb
import Derived.Deep.DeepCutAuto
import Derived.Deep.CutBlock
set_option linter.unusedVariables false
set_option linter.unusedSimpArgs false
namespace Go.Proofs.Tb
open Go.RowKit Go.Lib
attribute [local go_sem] cell_set_same

abbrev TIN : TypeId := 3
abbrev TLI : TypeId := 24
abbrev TRI : TypeId := 50
theorem int_info : (Try.prog.info? TIN).map (fun i => (i.zero, i.size, i.bytes)) = some (some (.int .i64 0), 1, 8) := by kernel_rfl
theorem lin_info : (Try.prog.info? TLI).map (fun i => (i.zero, i.size, i.bytes)) = some (some (.slice none 0 0), 1, 24) := by kernel_rfl
theorem obj_lt {w : World} {b : Nat} {o : Obj} (h : w.heap[b]? = some o) : b < w.heap.size := by
  rcases Nat.lt_or_ge b w.heap.size with hlt | hge
  · exact hlt
  · rw [Array.getElem?_eq_none hge] at h; cases h
structure Chg (X : Nat → Obj → Prop) (w w' : World) : Prop where
  os : w'.os = w.os
  tape : w'.tape = w.tape
  output : w'.output = w.output
  size : w.heap.size ≤ w'.heap.size
  same : ∀ b o, w.heap[b]? = some o → ¬ X b o → w'.heap[b]? = some o
theorem Chg.refl (X : Nat → Obj → Prop) (w : World) : Chg X w w := ⟨rfl, rfl, rfl, Nat.le_refl _, fun _ _ h _ => h⟩
theorem Chg.trans {X : Nat → Obj → Prop} {a b c : World} (h : Chg X a b) (k : Chg X b c) : Chg X a c :=
  ⟨k.os.trans h.os, k.tape.trans h.tape, k.output.trans h.output, Nat.le_trans h.size k.size, fun i o hi hx => k.same i o (h.same i o hi hx) hx⟩
theorem Chg.mono {X Y : Nat → Obj → Prop} {w w' : World} (h : Chg X w w') (hXY : ∀ b o, X b o → Y b o) : Chg Y w w' := ⟨h.os, h.tape, h.output, h.size, fun b o hb hY => h.same b o hb fun hx => hY (hXY b o hx)⟩
theorem Chg.ext {X : Nat → Obj → Prop} {w w' : World} (h : Ext w w') : Chg X w w' :=
  ⟨Below.os h, Below.tape h, Below.output h, Below.size h, fun b _ hb _ => (Below.block h b (obj_lt hb)).trans hb⟩
theorem Chg.set_ {X : Nat → Obj → Prop} {w : World} {p : Addr} {o : Obj} (hp : w.heap[p.block]? = some o) (hX : X p.block o) (u : Value) : Chg X w (w.setCell p u) :=
  ⟨rfl, rfl, rfl, by simp [World.setCell], fun b o' hb hx => (Below.heap_setCell w p u b (fun e => by
    subst e
    rw [hp] at hb
    injection hb with hb
    subst hb
    exact hx hX)).trans hb⟩
theorem Chg.grow {X : Nat → Obj → Prop} {w w' : World} {r : Option Nat} (hg : w.grownBy w' r) (hX : ∀ b o, r = some b → w.heap[b]? = some o → X b o) : Chg X w w' :=
  ⟨hg.os, hg.tape, hg.output, hg.size, fun b o hb hx => (hg.block b (obj_lt hb) (fun e => hx (hX b o e.symm hb))).trans hb⟩
theorem Chg.below {X : Nat → Obj → Prop} {w w' : World} {base : Nat} (h : Chg X w w') (hX : ∀ b o, X b o → base ≤ b) (hb : base ≤ w.heap.size) : Below base w w' :=
  ⟨h.os, h.tape, h.output, h.size, fun b hlt => by
    have hbs : b < w.heap.size := by omega
    rw [Array.getElem?_eq_getElem hbs]
    exact h.same b _ (Array.getElem?_eq_getElem hbs) fun hx => by have := hX _ _ hx; omega⟩
theorem Chg.blk {X : Nat → Obj → Prop} {w w' : World} {g : Nat} {T : TypeId} {cs : Array Value} (h : Chg X w w') (hb : Blk w g T cs) (hX : ¬ X g (.cells cs T (0, 0))) : Blk w' g T cs := h.same g _ hb hX
theorem Chg.own {X : Nat → Obj → Prop} {w w' : World} {base k n : Nat} {T : TypeId} {v : Value} {xs : List Value} (h : Chg X w w') (ho : w.ownsRow base T k v n xs) (hX : ∀ b cs, v.ownBlock = some b → ¬ X b (.cells cs T (0, 0))) : w'.ownsRow base T k v n xs :=
  own_keep ho fun g cs hg _ hb => (h.same g _ hb (hX g cs hg)).trans hb.symm
theorem own_rvv {base : Nat} {w : World} {T : TypeId} {k n m c : Nat} {A : Option Addr} {xs : List Value} (h : w.ownsRow base T k (.slice A m c) n xs) : Rv w k A m c xs := by
  obtain ⟨A', c', e, r⟩ := own_rv h
  injection e with e1 e2 e3
  subst e1 e2 e3
  exact r
theorem ext_cell {w w' : World} (hh : Ext w w') {p : Addr} {v : Value} (hc : w.cell? p = some v) : w'.cell? p = some v := (Below.cell hh (World.block_lt_of_cell? w _ hc)).trans hc
theorem grow_blk {W w1 : World} {base k n b : Nat} {T T' : TypeId} {v : Value} {xs : List Value} {cs : Array Value} (hg : W.grownBy w1 v.ownBlock) (ho : W.ownsRow base T k v n xs) (hT : T ≠ T') (hb : W.heap[b]? = some (.cells cs T' (0, 0))) : w1.heap[b]? = some (.cells cs T' (0, 0)) :=
  (hg.block b (obj_lt hb) (fun e => own_tag ho hT b e.symm _ _ hb)).trans hb
theorem slc_one1 (A : Option Addr) (n c : Nat) : ∀ u ∈ [Value.slice A n c], u.oneCell' = true := fun u hu => by rw [List.mem_singleton.1 hu]; rfl
theorem own_lt' {w : World} {v : Value} {n k : Nat} {xs : List Value} {T : TypeId} (h : w.ownsRow 0 T k v n xs) {b : Nat} (hb : v.ownBlock = some b) : ∃ cs, w.heap[b]? = some (.cells cs T (0, 0)) := by
  rcases h.2 with ⟨rfl, _⟩ | ⟨q, cap, cur, rfl, _, h2, _⟩
  · simp [Value.ownBlock] at hb
  · simp [Value.ownBlock] at hb
    subst hb
    exact ⟨_, h2⟩
/-- The values of a row of numbers. -/
def ci (l : List Int) : List Value := l.map fun x => .int .i64 x
theorem ci_len (l : List Int) : (ci l).length = l.length := List.length_map _
theorem ci_app (a b : List Int) : ci (a ++ b) = ci a ++ ci b := List.map_append
theorem ci_one (l : List Int) : ∀ u ∈ ci l, u.oneCell' = true := fun u hu => by
  obtain ⟨b, _, rfl⟩ := List.mem_map.1 hu
  rfl
theorem ci_at {l : List Int} {j : Nat} (h : j < l.length) : (ci l)[j]? = some (.int .i64 (ro l j)) := by
  unfold ci ro
  rw [List.getElem?_map, List.getD_eq_getElem?_getD, List.getElem?_eq_getElem h]
  rfl
/-- A row of numbers of its own. -/
def OwC (base : Nat) (w : World) (v : Value) (l : List Int) : Prop := w.ownsRow base TIN 1 v l.length (ci l)
theorem OwC.form {base : Nat} {w : World} {v : Value} {l : List Int} (h : OwC base w v l) : ∃ A c, v = .slice A l.length c ∧ Rv w 1 A l.length c (ci l) := own_rv h
theorem OwC.below {base : Nat} {w w' : World} {v : Value} {l : List Int} (h : OwC base w v l) (b : Ext w w') : OwC base w' v l := own_below h b
theorem OwC.lower {base b : Nat} {w : World} {v : Value} {l : List Int} (h : OwC base w v l) (hb : b ≤ base) : OwC b w v l := own_lower h hb
def nlC : Value := .slice none 0 0
def RowsC (w : World) (zs : List Value) (M : List (List Int)) : Prop := zs.length = M.length ∧ ∀ i, i < M.length → OwC 0 w (zs.getD i nlC) (M.getD i [])
/-- A row of rows in a row of its own, the inner rows anywhere. -/
def OwM (base : Nat) (w : World) (v : Value) (M : List (List Int)) : Prop := ∃ zs, w.ownsRow base TLI 1 v M.length zs ∧ RowsC w zs M
theorem RowsC.ext {w w' : World} {zs : List Value} {M : List (List Int)} (h : RowsC w zs M) (hc : Ext w w') : RowsC w' zs M := ⟨h.1, fun i hi => own_below (h.2 i hi) hc⟩
theorem OwM.ext {base : Nat} {w w' : World} {v : Value} {M : List (List Int)} (h : OwM base w v M) (x : Ext w w') : OwM base w' v M := by
  obtain ⟨zs, h1, h2⟩ := h
  exact ⟨zs, own_below h1 x, h2.ext x⟩
theorem RowsC.snoc {w : World} {zs : List Value} {M : List (List Int)} (h : RowsC w zs M) {z : Value} {l : List Int} (hz : OwC 0 w z l) : RowsC w (zs ++ [z]) (M ++ [l]) := by
  refine ⟨by rw [List.length_append, List.length_append, h.1]; rfl, fun i hi => ?_⟩
  rw [List.length_append, List.length_singleton] at hi
  have e1 : zs.length = M.length := h.1
  by_cases hl : i < M.length
  · rw [List.getD_eq_getElem?_getD, List.getD_eq_getElem?_getD, List.getElem?_append_left (by omega), List.getElem?_append_left hl, ← List.getD_eq_getElem?_getD, ← List.getD_eq_getElem?_getD]
    exact h.2 i hl
  · obtain rfl : i = M.length := by omega
    rw [List.getD_eq_getElem?_getD, List.getD_eq_getElem?_getD, List.getElem?_append_right (by omega), List.getElem?_append_right (by omega), e1, Nat.sub_self]
    exact hz
theorem OwC.grown {w w' : World} {base n : Nat} {v z : Value} {zs : List Value} {l : List Int} (hz : OwC 0 w z l) (ho : w.ownsRow base TLI 1 v n zs) (g6 : w.grownBy w' v.ownBlock) : OwC 0 w' z l :=
  own_keep hz fun g cs _ _ hb => (grow_blk g6 ho (show TLI ≠ TIN by decide) hb).trans hb.symm
theorem OwM.push {base : Nat} {w w' : World} {v v' z : Value} {M : List (List Int)} {l : List Int} {zs : List Value} (ho : w.ownsRow base TLI 1 v M.length zs) (hr : RowsC w zs M) (hz : OwC 0 w z l) (o6 : w'.ownsRow base TLI 1 v' (M.length + 1) (zs ++ [z])) (g6 : w.grownBy w' v.ownBlock) : OwM base w' v' (M ++ [l]) :=
  ⟨zs ++ [z], by rw [List.length_append]; exact o6, RowsC.snoc ⟨hr.1, fun i hi => (hr.2 i hi).grown ho g6⟩ (hz.grown ho g6)⟩
theorem own_form0 {w : World} {base k n : Nat} {T : TypeId} {v : Value} {xs : List Value} (h : w.ownsRow base T k v n xs) (hn : 0 < n) : ∃ g cap, v = .slice (some ⟨g, 0, none⟩) n cap := by
  rcases h.2 with ⟨e, h0⟩ | ⟨q, cap, cu, e, _⟩
  · omega
  · exact ⟨q, cap, e⟩
theorem getD_setL {α : Type} (l : List α) (x d : α) {i : Nat} (hi : i < l.length) (j : Nat) : (l.set i x).getD j d = if j = i then x else l.getD j d := getD_set' l x d i j hi
/-- An element of the outer row is set. -/
theorem OwM.set_ {base : Nat} {w : World} {b n c k : Nat} {M : List (List Int)} {z : Value} {l : List Int} (h : OwM base w (.slice (some ⟨b, 0, none⟩) n c) M) (hn : n = M.length) (hk : k < n) (hz : OwC 0 w z l) : OwM base (w.setCell ⟨b, k, none⟩ z) (.slice (some ⟨b, 0, none⟩) n c) (M.set k l) ∧ w.grownBy (w.setCell ⟨b, k, none⟩ z) (some b) := by
  subst hn
  obtain ⟨zs, h1, h2⟩ := h
  obtain ⟨s1, s2⟩ := h1.stored k z
  refine ⟨⟨zs.set k z, by rw [List.length_set]; exact s1, by rw [List.length_set, List.length_set]; exact h2.1, fun i hi => ?_⟩, s2⟩
  rw [List.length_set] at hi
  have hzl : zs.length = M.length := h2.1
  rw [getD_setL _ _ _ (by omega), getD_setL _ _ _ hk]
  by_cases hik : i = k
  · rw [if_pos hik, if_pos hik]; exact hz.grown (v := .slice (some ⟨b, 0, none⟩) M.length c) h1 s2
  · rw [if_neg hik, if_neg hik]; exact (h2.2 i hi).grown (v := .slice (some ⟨b, 0, none⟩) M.length c) h1 s2
theorem OwM.at_ {base : Nat} {w : World} {A : Option Addr} {n c : Nat} {M : List (List Int)} (h : OwM base w (.slice A n c) M) {k : Nat} (hk : k < M.length) : ∃ b z, A = some ⟨b, 0, none⟩ ∧ w.cell? ⟨b, k, none⟩ = some z ∧ OwC 0 w z (M.getD k []) := by
  obtain ⟨zs, h1, h2⟩ := h
  obtain ⟨b, cap, e⟩ := own_form0 h1 (by omega)
  injection e with e1 e2 e3
  subst e1 e2 e3
  obtain ⟨b', o', e', hc⟩ := (own_rvv h1).at_ (by omega)
  injection e' with e'
  injection e' with e1 e2
  subst e1 e2
  have hkz : k < zs.length := by rw [h2.1]; exact hk
  have := hc k (zs.getD k nlC) (by rw [List.getD_eq_getElem?_getD, List.getElem?_eq_getElem hkz]; rfl)
  rw [Nat.zero_add] at this
  exact ⟨b, _, rfl, this, h2.2 k hk⟩
end Go.Proofs.Tb
