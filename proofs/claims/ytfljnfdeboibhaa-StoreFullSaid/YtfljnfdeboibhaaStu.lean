/- The disk in memory: its relation, what keeps it, and how it changes. -/
import Derived.Test.YtfljnfdeboibhaaStr
import Derived.Maps.AppendAt
set_option linter.unusedVariables false
set_option linter.unusedSimpArgs false
namespace Go.Proofs.Tb
open Go.Maps Go.RowKit

abbrev TDK : TypeId := 69
abbrev TSE : TypeId := 104
abbrev TBB : TypeId := 66
abbrev TLM : TypeId := 67
def nlB : Value := .slice none 0 0
def z64 : List Nat := List.replicate 64 0
def RH : Value → Option (DataW Value × List MemPlace) := fun v => some (.held v, [])
theorem by_info : (Try.prog.info? TBY).map (fun i => (i.zero, i.size, i.bytes)) = some (some (.slice none 0 0), 1, 24) := by kernel_rfl
/-- A block's value: nil, or a row of 64 bytes. -/
def SeesB (w : World) (v : Value) (bs : List Nat) : Prop := (v = nlB ∧ bs = z64) ∨ (OwB 0 w v bs ∧ bs.length = 64)
theorem SeesB.len {w : World} {v : Value} {bs : List Nat} (h : SeesB w v bs) : bs.length = 64 := by
  rcases h with ⟨_, rfl⟩ | ⟨_, h⟩
  · simp [z64]
  · exact h
theorem SeesB.one {w : World} {v : Value} {bs : List Nat} (h : SeesB w v bs) : v.oneCell' = true := by
  rcases h with ⟨rfl, _⟩ | ⟨h, _⟩
  · rfl
  · obtain ⟨A, c, rfl, _⟩ := own_rv h
    rfl

/-- What has changed: X alone. -/
structure Chg (X : Nat → Obj → Prop) (w w' : World) : Prop where
  os : w'.os = w.os
  tape : w'.tape = w.tape
  output : w'.output = w.output
  size : w.heap.size ≤ w'.heap.size
  same : ∀ b o, w.heap[b]? = some o → ¬ X b o → w'.heap[b]? = some o
theorem Chg.refl (X : Nat → Obj → Prop) (w : World) : Chg X w w := ⟨rfl, rfl, rfl, Nat.le_refl _, fun _ _ h _ => h⟩
theorem Chg.trans {X : Nat → Obj → Prop} {a b c : World} (h : Chg X a b) (k : Chg X b c) : Chg X a c :=
  ⟨k.os.trans h.os, k.tape.trans h.tape, k.output.trans h.output, Nat.le_trans h.size k.size, fun i o hi hx => k.same i o (h.same i o hi hx) hx⟩
theorem Chg.mono {X Y : Nat → Obj → Prop} {w w' : World} (h : Chg X w w') (hXY : ∀ b o, X b o → Y b o) : Chg Y w w' := ⟨h.os, h.tape, h.output, h.size, fun b o hb hY => h.same b o hb fun hx => hY (hXY b o hx)⟩
theorem obj_lt {w : World} {b : Nat} {o : Obj} (h : w.heap[b]? = some o) : b < w.heap.size := by
  rcases Nat.lt_or_ge b w.heap.size with hlt | hge
  · exact hlt
  · rw [Array.getElem?_eq_none hge] at h; cases h
theorem Chg.ext {X : Nat → Obj → Prop} {w w' : World} (h : Ext w w') : Chg X w w' :=
  ⟨Below.os h, Below.tape h, Below.output h, Below.size h, fun b _ hb _ => (Below.block h b (obj_lt hb)).trans hb⟩
theorem Chg.set_ {X : Nat → Obj → Prop} {w : World} {p : Addr} {o : Obj} (hp : w.heap[p.block]? = some o) (hX : X p.block o) (u : Value) : Chg X w (w.setCell p u) :=
  ⟨rfl, rfl, rfl, by simp [World.setCell], fun b o' hb hx => (Below.heap_setCell w p u b (fun e => by
    subst e
    rw [hp] at hb
    injection hb with hb
    subst hb
    exact hx hX)).trans hb⟩
theorem Chg.grow {X : Nat → Obj → Prop} {w w' : World} {r : Option Nat} (hg : w.grownBy w' r) (hX : ∀ b o, r = some b → w.heap[b]? = some o → X b o) : Chg X w w' :=
  ⟨hg.os, hg.tape, hg.output, hg.size, fun b o hb hx => (hg.block b (obj_lt hb) (fun e => hx (hX b o e.symm hb))).trans hb⟩
theorem Chg.below {X : Nat → Obj → Prop} {w w' : World} {base : Nat} (h : Chg X w w') (hX : ∀ b o, X b o → base ≤ b) (hb : base ≤ w.heap.size) : Below base w w' :=
  ⟨h.os, h.tape, h.output, h.size, fun b hlt => by
    have hbs : b < w.heap.size := by omega
    rw [Array.getElem?_eq_getElem hbs]
    exact h.same b _ (Array.getElem?_eq_getElem hbs) fun hx => by have := hX _ _ hx; omega⟩
theorem Chg.blk {X : Nat → Obj → Prop} {w w' : World} {g : Nat} {T : TypeId} {cs : Array Value} (h : Chg X w w') (hb : Blk w g T cs) (hX : ¬ X g (.cells cs T (0, 0))) : Blk w' g T cs := h.same g _ hb hX
theorem Chg.own {X : Nat → Obj → Prop} {w w' : World} {base k n : Nat} {T : TypeId} {v : Value} {xs : List Value} (h : Chg X w w') (ho : w.ownsRow base T k v n xs) (hX : ∀ b cs, v.ownBlock = some b → ¬ X b (.cells cs T (0, 0))) : w'.ownsRow base T k v n xs :=
  own_keep ho fun g cs hg _ hb => (h.same g _ hb (hX g cs hg)).trans hb.symm

/-- What a disk and a store are made of. -/
def MutK : Obj → Prop
  | .cells _ T _ => T = TDK ∨ T = TBY ∨ T = TSE
  | .map _ _ => True
  | _ => False
/-- The blocks of F that may change. -/
def MF (F : Nat → Prop) (b : Nat) (o : Obj) : Prop := F b ∧ MutK o
theorem MF.u8 {F : Nat → Prop} (b : Nat) (cs : Array Value) : ¬ MF F b (.cells cs TU8 (0, 0)) := fun hx => by
  have : TU8 = TDK ∨ TU8 = TBY ∨ TU8 = TSE := hx.2
  revert this
  decide
theorem SeesB.chg {X : Nat → Obj → Prop} {w w' : World} {v : Value} {bs : List Nat} (h : SeesB w v bs) (hc : Chg X w w') (hX : ∀ b cs, ¬ X b (.cells cs TU8 (0, 0))) : SeesB w' v bs := by
  rcases h with h | ⟨h, hl⟩
  · exact Or.inl h
  · exact Or.inr ⟨hc.own h fun b cs _ hx => hX b cs hx, hl⟩
theorem SeesB.ext {w w' : World} {v : Value} {bs : List Nat} (h : SeesB w v bs) (hc : Ext w w') : SeesB w' v bs := h.chg (X := fun _ _ => False) (Chg.ext hc) fun _ _ h => h
/-- How a disk lies in memory. -/
structure Dkg where
  m : Nat
  v : Value
  vs : List Value
  D : DataW Value
  Lv : Nat → Value
  us : Nat → List Value
  lo : Nat → Bool
def Dkg.fp (g : Dkg) (d n b : Nat) : Prop := b = d ∨ b = g.m ∨ g.v.ownBlock = some b ∨ ∃ k, k < n ∧ g.lo k = true ∧ (g.Lv k).ownBlock = some b
abbrev kI (k : Nat) : Lit := .int .i64 (k : Int)
structure DI (w : World) (d : Nat) (g : Dkg) (cur : List (List Nat)) (bl : List (List (List Nat))) (down : Bool) (left : Nat) : Prop where
  dk : Blk w d TDK #[g.v, .map (some g.m), .bool down, .int .i64 (left : Int)]
  lft : left ≤ 9223372036854775807
  row : w.ownsRow 0 TBY 1 g.v cur.length g.vs
  len : bl.length = cur.length
  few : cur.length ≤ 4096
  mp : w.ownsMap Try.prog TIN RH g.m (Maps.size g.D) g.D
  sees : ∀ k, k < cur.length → SeesB w (g.vs.getD k nlB) (cur.getD k z64)
  keys : ∀ l, Maps.has g.D l = true → ∃ k, k < cur.length ∧ l = kI k
  no : ∀ k, k < cur.length → g.lo k = false → Maps.has g.D (kI k) = false
  yes : ∀ k, k < cur.length → g.lo k = true → Maps.has g.D (kI k) = true ∧ (∀ z, g.D.atKey (kI k) z = .held (g.Lv k)) ∧ w.ownsRow 0 TBY 1 (g.Lv k) (bl.getD k []).length (g.us k) ∧ ∀ j, j < (bl.getD k []).length → SeesB w ((g.us k).getD j nlB) ((bl.getD k []).getD j z64)
  ne : ∀ k, k < cur.length → bl.getD k [] ≠ []
  apart : ∀ k, k < cur.length → g.lo k = true → ∀ b, (g.Lv k).ownBlock = some b → g.v.ownBlock ≠ some b ∧ ∀ j, j < cur.length → j ≠ k → g.lo j = true → (g.Lv j).ownBlock ≠ some b
/-- A disk, in F. -/
def DW (F : Nat → Prop) (w : World) (d : Nat) (bl : List (List (List Nat))) (down : Bool) (left : Nat) : Prop :=
  ∃ g, DI w d g (bl.map fun l => l.getLastD z64) bl down left ∧ (∀ k, k < bl.length → g.lo k = decide (2 ≤ (bl.getD k []).length)) ∧ ∀ b, g.fp d bl.length b → F b
theorem own_lt' {w : World} {v : Value} {n k : Nat} {xs : List Value} {T : TypeId} (h : w.ownsRow 0 T k v n xs) {b : Nat} (hb : v.ownBlock = some b) : ∃ cs, w.heap[b]? = some (.cells cs T (0, 0)) := by
  rcases h.2 with ⟨rfl, _⟩ | ⟨q, cap, cur, rfl, _, h2, _⟩
  · simp [Value.ownBlock] at hb
  · simp [Value.ownBlock] at hb
    subst hb
    exact ⟨_, h2⟩
theorem map_chg {X : Nat → Obj → Prop} {w w' : World} {H : Type} {P : Program} {k : TypeId} {R : Value → Option (DataW H × List MemPlace)} {b n : Nat} {D : DataW H} (h : w.ownsMap P k R b n D) (hc : Chg X w w') (hX : ∀ o, ¬ X b o) : w'.ownsMap P k R b n D := by
  obtain ⟨es, clock, hb, r⟩ := h
  exact ⟨es, clock, hc.same b _ hb (hX _), r⟩
theorem DI.chg {X : Nat → Obj → Prop} {w w' : World} {d : Nat} {g : Dkg} {cur : List (List Nat)} {bl : List (List (List Nat))} {down : Bool} {left : Nat} (h : DI w d g cur bl down left) (hc : Chg X w w') (h1 : ∀ b o, g.fp d cur.length b → ¬ X b o) (h2 : ∀ b cs, ¬ X b (.cells cs TU8 (0, 0))) : DI w' d g cur bl down left :=
  ⟨hc.blk h.dk (h1 d _ (Or.inl rfl)), h.lft, hc.own h.row fun b cs hb => h1 b _ (Or.inr (Or.inr (Or.inl hb))), h.len, h.few, map_chg h.mp hc fun o => h1 g.m o (Or.inr (Or.inl rfl)), fun k hk => (h.sees k hk).chg hc h2, h.keys, h.no, fun k hk hl => by
    obtain ⟨y1, y2, y3, y4⟩ := h.yes k hk hl
    exact ⟨y1, y2, hc.own y3 fun b cs hb => h1 b _ (Or.inr (Or.inr (Or.inr ⟨k, hk, hl, hb⟩))), fun j hj => (y4 j hj).chg hc h2⟩, h.ne, h.apart⟩
theorem DI.ext {w w' : World} {d : Nat} {g : Dkg} {cur : List (List Nat)} {bl : List (List (List Nat))} {down : Bool} {left : Nat} (h : DI w d g cur bl down left) (hc : Ext w w') : DI w' d g cur bl down left := h.chg (X := fun _ _ => False) (Chg.ext hc) (fun _ _ _ h => h) fun _ _ h => h
theorem DI.fp_lt {w : World} {d : Nat} {g : Dkg} {cur : List (List Nat)} {bl : List (List (List Nat))} {down : Bool} {left : Nat} (h : DI w d g cur bl down left) {b : Nat} (hb : g.fp d cur.length b) : ∃ o, w.heap[b]? = some o ∧ MutK o := by
  rcases hb with rfl | rfl | hb | ⟨k, hk, hl, hb⟩
  · exact ⟨_, h.dk, Or.inl rfl⟩
  · obtain ⟨es, clock, hb, _⟩ := h.mp
    exact ⟨_, hb, trivial⟩
  · obtain ⟨cs, hb⟩ := own_lt' h.row hb
    exact ⟨_, hb, Or.inr (Or.inl rfl)⟩
  · obtain ⟨cs, hb⟩ := own_lt' (h.yes k hk hl).2.2.1 hb
    exact ⟨_, hb, Or.inr (Or.inl rfl)⟩
theorem DW.ext {F : Nat → Prop} {w w' : World} {d : Nat} {bl : List (List (List Nat))} {down : Bool} {left : Nat} (h : DW F w d bl down left) (hc : Ext w w') : DW F w' d bl down left := by
  obtain ⟨g, h1, h2, h3⟩ := h
  exact ⟨g, h1.ext hc, h2, h3⟩
theorem DW.chg {F : Nat → Prop} {X : Nat → Obj → Prop} {w w' : World} {d : Nat} {bl : List (List (List Nat))} {down : Bool} {left : Nat} (h : DW F w d bl down left) (hc : Chg X w w') (h1 : ∀ b o, F b → MutK o → ¬ X b o) (h2 : ∀ b cs, ¬ X b (.cells cs TU8 (0, 0))) : DW F w' d bl down left := by
  obtain ⟨g, g1, g2, g3⟩ := h
  rw [← List.length_map (f := fun l : List (List Nat) => l.getLastD z64)] at g3
  refine ⟨g, g1.chg (X := fun b o => X b o ∧ ∃ o', w.heap[b]? = some o' ∧ o = o') ⟨hc.os, hc.tape, hc.output, hc.size, fun b o hb hx => hc.same b o hb fun hX => hx ⟨hX, o, hb, rfl⟩⟩ (fun b o hb => ?_) (fun b cs hx => h2 b cs hx.1), g2, by rw [← List.length_map (f := fun l : List (List Nat) => l.getLastD z64)]; exact g3⟩
  rintro ⟨hX, o', ho, rfl⟩
  obtain ⟨o2, ho2, hM⟩ := g1.fp_lt hb
  rw [ho] at ho2
  injection ho2 with ho2
  subst ho2
  exact h1 b o (g3 b hb) hM hX
end Go.Proofs.Tb
