/- Words on memory and small laws on them that all texts of this seat use: a slice that reads as a list of values, worlds that only grow, regions whose stores go to one block. No statement of the program stands here. (With what follows it, in one text.) -/
import Derived.WalkKit
import Derived.Handy
import Derived.Laws.OwnMore
import Derived.Deep.AppendLies
import Derived.Deep.Draws
import Derived.Deep.RegionHeld3
import Derived.Deep.QuietTactic
import Derived.BigQuiet
import Derived.Lib.Hide
import Derived.WalkSpells
import Derived.Deep.DeepFit
import Derived.Deep.DeepMust
import Derived.Maps.AppendAt
import Derived.Deep.LoopGhost
import Derived.Deep.DrawnRows
import Derived.OrdersHeld
import Derived.StillTail
import Derived.RegionTactic
set_option linter.unusedVariables false
set_option linter.unusedSimpArgs false
/- Words on memory and small laws on them that all texts of this seat use: a slice that reads as a list of values, worlds that only grow, regions whose stores go to one block. No statement of the program stands here. -/
namespace Go.Proofs.Tb
open Go.RowKit

/-- What a call ends in: it returns a value of which Phi holds in the world behind it; all that was there is as it was. -/
def Ret (Phi : Value → World → Prop) (w : World) (e : Ending) (w' : World) : Prop := ∃ v, e = .returned v ∧ Phi v w' ∧ Below w.heap.size w w'

theorem Ret.imp {Phi Psi : Value → World → Prop} {w w' : World} {e : Ending} (h : Ret Phi w e w') (hi : ∀ v w', Phi v w' → Psi v w') : Ret Psi w e w' := by
  obtain ⟨v, he, hp, hb⟩ := h
  exact ⟨v, he, hi _ _ hp, hb⟩

theorem bt {a b c : World} (h : Below a.heap.size a b) (k : Below b.heap.size b c) : Below a.heap.size a c := h.trans (k.mono h.size)
theorem below_drewN {a w : World} (h : Below a.heap.size a w) (n : Nat) : Below a.heap.size a (w.drewN n) := ⟨h.os, h.tape, h.output, h.size, h.block⟩

theorem quiet_add_same {P : Program} {f : FuncId} {args : Array Value} {w : World} {a n : Nat} {v : Value}
    (h : Calls P f args (w.drewN (a + n)) fun e w' => e = .returned v ∧ w' = w.drewN (a + n)) :
    Calls P f args (w.drewN (a + n)) fun e w'' => e = .returned v ∧ ∃ m, w'' = w.drewN (a + m) :=
  h.mono fun _ _ ⟨he, hm⟩ => ⟨he, n, hm⟩
/-- w has all that a has, as it was: the name keeps it whole where the walk rewrites. -/
def Ext (a w : World) : Prop := Below a.heap.size a w
theorem Ext.refl (a : World) : Ext a a := Below.refl _ _
theorem Ext.drew (a : World) : Ext a a.drew := (Below.refl _ _).drew

/-- The slice '.slice A n c' reads as the values xs (one cell each); its array's elements are of type T. -/
structure Sl (T : TypeId) (w : World) (A : Option Addr) (n c : Nat) (xs : List Value) : Prop where
  len : xs.length = n
  le : n ≤ c
  cap : c ≤ 9223372036854775807
  at_ : 0 < n → ∃ b o, A = some ⟨b, o, none⟩ ∧ (∃ cs fr, w.heap[b]? = some (.cells cs T fr)) ∧ ∀ j, j < n → w.cell? ⟨b, o + j, none⟩ = some (xs.getD j undef)
def SL (T : TypeId) (w : World) (v : Value) (xs : List Value) : Prop := ∃ A n c, v = .slice A n c ∧ Sl T w A n c xs
section
variable {T : TypeId} {w w' W0 : World} {A : Option Addr} {n c : Nat} {xs : List Value} {v : Value}
theorem Sl.toSL (h : Sl T w A n c xs) : SL T w (.slice A n c) xs := ⟨A, n, c, rfl, h⟩
/-- What keeps every block of element type T keeps the slice. -/
theorem Sl.keep (h : Sl T w A n c xs) (hk : ∀ (b : Nat) (cs : Array Value) (fr : Nat × Nat), w.heap[b]? = some (Obj.cells cs T fr) → w'.heap[b]? = w.heap[b]?) : Sl T w' A n c xs := by
  refine ⟨h.len, h.le, h.cap, fun hn => ?_⟩
  obtain ⟨b, o, hA, ⟨cs, fr, hT⟩, hc⟩ := h.at_ hn
  have hb := hk b cs fr hT
  refine ⟨b, o, hA, ⟨cs, fr, hb.trans hT⟩, fun j hj => ?_⟩
  rw [World.cell?_of_block (w := w) (a := ⟨b, o + j, none⟩) hb]
  exact hc j hj
theorem block_lt {b : Nat} {o : Obj} (h : w.heap[b]? = some o) : b < w.heap.size := by
  rcases Nat.lt_or_ge b w.heap.size with hlt | hge
  · exact hlt
  · rw [Array.getElem?_eq_none hge] at h; cases h
theorem Sl.below (h : Sl T w A n c xs) (hb : Below w.heap.size w w') : Sl T w' A n c xs := h.keep fun b _ _ hT => hb.block b (block_lt hT)
theorem SL.below (h : SL T w v xs) (hb : Below w.heap.size w w') : SL T w' v xs := by
  obtain ⟨A, n, c, hv, h⟩ := h
  exact ⟨A, n, c, hv, h.below hb⟩
theorem Sl.nil (T : TypeId) (w : World) : Sl T w none 0 0 [] := ⟨rfl, Nat.le_refl _, by omega, fun h => absurd h (by omega)⟩
theorem Sl.empty (T : TypeId) (w : World) (A : Option Addr) (c : Nat) (hc : c ≤ 9223372036854775807) : Sl T w A 0 c [] := ⟨rfl, by omega, hc, fun h => absurd h (by omega)⟩
/-- A slice cut at its end. -/
theorem Sl.take (h : Sl T w A n c xs) {k : Nat} (hk : k ≤ n) : Sl T w A k c (xs.take k) := by
  have hl := h.len
  have hle := h.le
  refine ⟨by simp; omega, by omega, h.cap, fun h0 => ?_⟩
  obtain ⟨b, o, hA, hT, hc⟩ := h.at_ (by omega)
  refine ⟨b, o, hA, hT, fun j hj => ?_⟩
  rw [hc j (by omega)]
  simp [List.getD, hj]
theorem Sl.of_own {base : Nat} (h : w.ownsRow base T 1 v n xs) : SL T w v xs := by
  obtain ⟨hl, h2⟩ := h
  rcases h2 with ⟨rfl, rfl⟩ | ⟨g, cap, cur, rfl, _, hh, hn, hm, hs, ht⟩
  · have : xs = [] := List.eq_nil_of_length_eq_zero (by simpa using hl)
    subst this
    exact ⟨_, _, _, rfl, Sl.nil T w⟩
  · refine ⟨_, _, _, rfl, ⟨by simpa using hl, hn, by simpa [maxLen] using hm, fun h0 => ⟨g, 0, rfl, ⟨_, _, hh⟩, fun j hj => ?_⟩⟩⟩
    have h1 : cur.size = cap := by simpa using hs
    rw [Nat.zero_add, cell_of_row w g j cur T (0, 0) hh, ← ht]
    have h2 : j < cur.size := by omega
    simp [List.getD, hj, h2]
end

/-- W is W0 with new blocks, and with writes to block R alone, which is k cells of element type T that may be written. -/
structure Held (R k : Nat) (T : TypeId) (W0 w : World) : Prop where
  g : W0.grownBy w (some R)
  r0 : ∃ cs, W0.heap[R]? = some (.cells cs T (0,0)) ∧ cs.size = k
  r : ∃ cs, w.heap[R]? = some (.cells cs T (0,0)) ∧ cs.size = k
section
variable {R k : Nat} {T T' : TypeId} {w w' W0 W1 : World}
theorem Held.lt (h : Held R k T W0 w) : R < w.heap.size := by
  obtain ⟨cs, h, _⟩ := h.r
  exact block_lt h
theorem Held.lt0 (h : Held R k T W0 w) : R < W0.heap.size := by
  obtain ⟨cs, h, _⟩ := h.r0
  exact block_lt h
theorem Held.some (h : Held R k T W0 w) {j : Nat} (hj : j < k) : ∃ u, w.cell? ⟨R, j, none⟩ = some u := by
  obtain ⟨cs, h, hs⟩ := h.r
  refine ⟨cs[j]'(by omega), ?_⟩
  simp [World.cell?, h]
theorem Held.free (h : Held R k T W0 w) (j : Nat) : w.frozen? ⟨R, j, none⟩ = false := by
  obtain ⟨cs, h, hs⟩ := h.r
  simp [World.frozen?, h]
theorem Held.trans_ (h : Held R k T W0 w) (hb : Below w.heap.size w w') : Held R k T W0 w' := by
  refine ⟨⟨hb.os.trans h.g.os, hb.tape.trans h.g.tape, hb.output.trans h.g.output, Nat.le_trans h.g.size hb.size, fun i hi hn => (hb.block i (Nat.lt_of_lt_of_le hi h.g.size)).trans (h.g.block i hi hn)⟩, h.r0, ?_⟩
  obtain ⟨cs, h1, hs⟩ := h.r
  exact ⟨cs, (hb.block R h.lt).trans h1, hs⟩
theorem Held.alloc (h : Held R k T W0 w) (o : Obj) : Held R k T W0 (w.alloc o) :=
  h.trans_ ((Below.refl _ _).alloc (Nat.le_refl _) o)
theorem Held.drewN (h : Held R k T W0 w) (n : Nat) : Held R k T W0 (w.drewN n) := ⟨⟨h.g.os, h.g.tape, h.g.output, h.g.size, h.g.block⟩, h.r0, h.r⟩
theorem Held.drew (h : Held R k T W0 w) : Held R k T W0 w.drew := ⟨⟨h.g.os, h.g.tape, h.g.output, h.g.size, h.g.block⟩, h.r0, h.r⟩
theorem Held.set_ (h : Held R k T W0 w) (j : Nat) (v : Value) : Held R k T W0 (w.setCell ⟨R, j, none⟩ v) := by
  refine ⟨⟨h.g.os, h.g.tape, h.g.output, by simpa using h.g.size, fun i hi hn => ?_⟩, h.r0, ?_⟩
  · rw [Below.heap_setCell _ _ _ _ (fun e => hn (by rw [e]))]
    exact h.g.block i hi hn
  · obtain ⟨cs, h1, hs⟩ := h.r
    refine ⟨cs.setIfInBounds j v, ?_, by simpa using hs⟩
    simp [World.setCell, Array.getElem?_modify, h1]
/-- From where it stands. -/
theorem Held.here (h : Held R k T W0 w) : Held R k T w w := ⟨⟨rfl, rfl, rfl, Nat.le_refl _, fun _ _ _ => rfl⟩, h.r, h.r⟩
theorem Held.trans2 (h : Held R k T W0 w) (h' : Held R k T w w') : Held R k T W0 w' :=
  ⟨⟨h'.g.os.trans h.g.os, h'.g.tape.trans h.g.tape, h'.g.output.trans h.g.output, Nat.le_trans h.g.size h'.g.size, fun i hi hn => (h'.g.block i (Nat.lt_of_lt_of_le hi h.g.size) hn).trans (h.g.block i hi hn)⟩, h.r0, h'.r⟩
theorem Held.below (h : Held R k T W0 w') (hb : Below w.heap.size w W0) (hR : w.heap.size ≤ R) : Below w.heap.size w w' :=
  ⟨h.g.os.trans hb.os, h.g.tape.trans hb.tape, h.g.output.trans hb.output, Nat.le_trans hb.size h.g.size, fun i hi => (h.g.block i (Nat.lt_of_lt_of_le hi hb.size) (fun e => by injection e; omega)).trans (hb.block i hi)⟩
/-- Blocks of another element type are kept. -/
theorem Held.other (h : Held R k T' W0 w) (hne : T ≠ T') {b : Nat} {cs : Array Value} {fr : Nat × Nat} (hb : W0.heap[b]? = .some (.cells cs T fr)) : w.heap[b]? = W0.heap[b]? := by
  refine h.g.block b (block_lt hb) (fun e => ?_)
  injection e with e
  subst e
  obtain ⟨cs', h1, _⟩ := h.r0
  rw [h1] at hb
  injection hb with hb
  injection hb with _ h2
  exact hne h2.symm
theorem Sl.held {A : Option Addr} {n c : Nat} {xs : List Value} (h : Sl T W0 A n c xs) (hh : Held R k T' W0 w) (hne : T ≠ T') : Sl T w A n c xs := h.keep fun _ _ _ hT => hh.other hne hT
theorem SL.held {v : Value} {xs : List Value} (h : SL T W0 v xs) (hh : Held R k T' W0 w) (hne : T ≠ T') : SL T w v xs := by
  obtain ⟨A, n, c, hv, h⟩ := h
  exact ⟨A, n, c, hv, h.held hh hne⟩
end

/-- As Held, with several blocks that may be written: their numbers, sizes and element types. -/
structure HeldM (Rs : List (Nat × Nat × TypeId)) (W0 w : World) : Prop where
  os : w.os = W0.os
  tape : w.tape = W0.tape
  output : w.output = W0.output
  size : W0.heap.size ≤ w.heap.size
  block : ∀ i, i < W0.heap.size → (∀ r, r ∈ Rs → i ≠ r.1) → w.heap[i]? = W0.heap[i]?
  r0 : ∀ r, r ∈ Rs → ∃ cs, W0.heap[r.1]? = some (.cells cs r.2.2 (0,0)) ∧ cs.size = r.2.1
  r : ∀ r, r ∈ Rs → ∃ cs, w.heap[r.1]? = some (.cells cs r.2.2 (0,0)) ∧ cs.size = r.2.1
section
variable {Rs : List (Nat × Nat × TypeId)} {T : TypeId} {w w' W0 : World}
theorem HeldM.trans_ (h : HeldM Rs W0 w) (hb : Below w.heap.size w w') : HeldM Rs W0 w' := by
  refine ⟨hb.os.trans h.os, hb.tape.trans h.tape, hb.output.trans h.output, Nat.le_trans h.size hb.size, fun i hi hn => (hb.block i (Nat.lt_of_lt_of_le hi h.size)).trans (h.block i hi hn), h.r0, fun r hr => ?_⟩
  obtain ⟨cs, h1, hs⟩ := h.r r hr
  exact ⟨cs, (hb.block r.1 (block_lt h1)).trans h1, hs⟩
theorem HeldM.drew (h : HeldM Rs W0 w) : HeldM Rs W0 w.drew := ⟨h.os, h.tape, h.output, h.size, h.block, h.r0, h.r⟩
theorem HeldM.drewN (h : HeldM Rs W0 w) (n : Nat) : HeldM Rs W0 (w.drewN n) := ⟨h.os, h.tape, h.output, h.size, h.block, h.r0, h.r⟩
theorem HeldM.alloc (h : HeldM Rs W0 w) (o : Obj) : HeldM Rs W0 (w.alloc o) := h.trans_ ((Below.refl _ _).alloc (Nat.le_refl _) o)
theorem HeldM.set_ (h : HeldM Rs W0 w) {R : Nat} (hR : ∃ r, r ∈ Rs ∧ r.1 = R) (j : Nat) (v : Value) : HeldM Rs W0 (w.setCell ⟨R, j, none⟩ v) := by
  obtain ⟨q, hq, rfl⟩ := hR
  refine ⟨h.os, h.tape, h.output, by simpa using h.size, fun i hi hn => ?_, h.r0, fun r hr => ?_⟩
  · rw [Below.heap_setCell _ _ _ _ (fun e => hn q hq e)]
    exact h.block i hi hn
  · obtain ⟨cs, h1, hs⟩ := h.r r hr
    by_cases he : q.1 = r.1
    · refine ⟨cs.setIfInBounds j v, ?_, by simpa using hs⟩
      simp [World.setCell, Array.getElem?_modify, he, h1]
    · exact ⟨cs, by rw [Below.heap_setCell _ _ _ _ (fun e => he e.symm)]; exact h1, hs⟩
theorem HeldM.here (h : HeldM Rs W0 w) : HeldM Rs w w := ⟨rfl, rfl, rfl, Nat.le_refl _, fun _ _ _ => rfl, h.r, h.r⟩
theorem HeldM.trans2 (h : HeldM Rs W0 w) (h' : HeldM Rs w w') : HeldM Rs W0 w' :=
  ⟨h'.os.trans h.os, h'.tape.trans h.tape, h'.output.trans h.output, Nat.le_trans h.size h'.size, fun i hi hn => (h'.block i (Nat.lt_of_lt_of_le hi h.size) hn).trans (h.block i hi hn), h.r0, h'.r⟩
theorem HeldM.below (h : HeldM Rs W0 w') (hb : Below w.heap.size w W0) (hR : ∀ r, r ∈ Rs → w.heap.size ≤ r.1) : Below w.heap.size w w' :=
  ⟨h.os.trans hb.os, h.tape.trans hb.tape, h.output.trans hb.output, Nat.le_trans hb.size h.size, fun i hi => (h.block i (Nat.lt_of_lt_of_le hi hb.size) (fun r hr e => by have := hR r hr; omega)).trans (hb.block i hi)⟩
theorem HeldM.other (h : HeldM Rs W0 w) (hne : ∀ r, r ∈ Rs → T ≠ r.2.2) {b : Nat} {cs : Array Value} {fr : Nat × Nat} (hb : W0.heap[b]? = .some (.cells cs T fr)) : w.heap[b]? = W0.heap[b]? := by
  refine h.block b (block_lt hb) (fun r hr e => ?_)
  subst e
  obtain ⟨cs', h1, _⟩ := h.r0 r hr
  rw [h1] at hb
  injection hb with hb
  injection hb with _ h2
  exact hne r hr h2.symm
theorem Sl.heldM {A : Option Addr} {n c : Nat} {xs : List Value} (h : Sl T W0 A n c xs) (hh : HeldM Rs W0 w) (hne : ∀ r, r ∈ Rs → T ≠ r.2.2) : Sl T w A n c xs := h.keep fun _ _ _ hT => hh.other hne hT
end
theorem stored_ok {P : Program} {w : World} {a : Addr} {v : Value} {m : Mode} (h : (w.cell? a).isSome = true) (hf : w.frozen? a = false) : stored P w a v m = .ok () (w.setCell a v) := by
  obtain ⟨u, hu⟩ := Option.isSome_iff_exists.1 h
  simp [stored, hu, hf]
theorem isSome_setCell (w : World) (a b : Addr) (v : Value) : ((w.setCell a v).cell? b).isSome = (w.cell? b).isSome := by
  simp only [World.cell?, World.setCell, Array.getElem?_modify]
  by_cases h : a.block = b.block
  · rw [if_pos h]
    rcases hh : w.heap[b.block]? with _ | o
    · rfl
    · cases o with
      | cells c e f =>
        simp only [Option.map_some]
        by_cases h1 : b.spot.isSome = true
        · simp [h1]
        · by_cases h2 : a.spot.isSome = true
          · simp [h1, h2]
          · simp [h1, h2]
            by_cases h3 : b.off < c.size
            · simp [h3]
            · simp [h3]
      | _ => rfl
  · rw [if_neg h]
theorem cell_set_same {w : World} {a : Addr} {v : Value} (h : (w.cell? a).isSome = true) : (w.setCell a v).cell? a = some v := by
  obtain ⟨u, hu⟩ := Option.isSome_iff_exists.1 h
  exact World.cell?_setCell_same w a v hu

/-- The cells of block b from o on are cs. -/
def cellsAre (w : World) (b : Nat) : Nat → List Value → Prop
  | _, [] => True
  | o, v :: cs => w.cell? ⟨b, o, none⟩ = some v ∧ cellsAre w b (o + 1) cs
/-- Block g is just the cells cs of element type t; none is frozen. -/
def Blk (w : World) (g : Nat) (t : TypeId) (cs : Array Value) : Prop := w.heap[g]? = some (.cells cs t (0, 0))
theorem Blk.lt {w : World} {g : Nat} {t : TypeId} {cs : Array Value} (h : Blk w g t cs) : g < w.heap.size := by
  rcases Nat.lt_or_ge g w.heap.size with hlt | hge
  · exact hlt
  · unfold Blk at h; rw [Array.getElem?_eq_none hge] at h; cases h
theorem Blk.new_ {w : World} {g : Nat} (t : TypeId) (cs : Array Value) (h : w.heap.size = g) : Blk (w.alloc (.cells cs t)) g t cs := by subst h; exact heap_alloc_new w _
theorem Blk.alloc {w : World} {g : Nat} {t : TypeId} {cs : Array Value} (h : Blk w g t cs) (o : Obj) : Blk (w.alloc o) g t cs := (Below.heap_alloc w o g h.lt).trans h
theorem Blk.drew {w : World} {g : Nat} {t : TypeId} {cs : Array Value} (h : Blk w g t cs) : Blk w.drew g t cs := h
theorem Blk.drewN {w : World} {g : Nat} {t : TypeId} {cs : Array Value} (h : Blk w g t cs) (n : Nat) : Blk (w.drewN n) g t cs := h
theorem Blk.below {w w' : World} {g : Nat} {t : TypeId} {cs : Array Value} (h : Blk w g t cs) (hb : Below w.heap.size w w') : Blk w' g t cs := (hb.block g h.lt).trans h
theorem Blk.held {W0 w : World} {g R k : Nat} {t T : TypeId} {cs : Array Value} (h : Blk W0 g t cs) (hh : Held R k T W0 w) (hn : g ≠ R) : Blk w g t cs := (hh.g.block g h.lt (fun e => hn (by injection e))).trans h
theorem Blk.set_ {w : World} {g : Nat} {t : TypeId} {cs : Array Value} (h : Blk w g t cs) (i : Nat) (u : Value) : Blk (w.setCell ⟨g, i, none⟩ u) g t (cs.setIfInBounds i u) := by
  unfold Blk at h ⊢
  simp [World.setCell, Array.getElem?_modify, h]
theorem Blk.far {w : World} {g : Nat} {t : TypeId} {cs : Array Value} (h : Blk w g t cs) {p : Addr} (hp : g ≠ p.block) (u : Value) : Blk (w.setCell p u) g t cs := (Below.heap_setCell w p u g hp).trans h
theorem cellsAre_mk (w : World) (b : Nat) (cs : List Value) : ∀ (o : Nat), (∀ j, j < cs.length → w.cell? ⟨b, o + j, none⟩ = some (cs.getD j undef)) → cellsAre w b o cs := by
  induction cs with
  | nil => intro _ _; trivial
  | cons v cs ih =>
    intro o h
    refine ⟨by simpa using h 0 (by simp), ih (o + 1) (fun j hj => ?_)⟩
    have h1 := h (j + 1) (by simp; omega)
    rw [show o + 1 + j = o + (j + 1) by omega, h1]
    simp
theorem Blk.cells {w : World} {g : Nat} {t : TypeId} {cs : Array Value} (h : Blk w g t cs) : cellsAre w g 0 cs.toList := by
  refine cellsAre_mk w g cs.toList 0 (fun j hj => ?_)
  have h' : w.heap[g]? = some (.cells cs t (0, 0)) := h
  have hj' : j < cs.size := by simpa using hj
  simp [World.cell?, h', List.getD, hj']
theorem Blk.free {w : World} {g : Nat} {t : TypeId} {cs : Array Value} (h : Blk w g t cs) (j : Nat) : w.frozen? ⟨g, j, none⟩ = false := by
  have h' : w.heap[g]? = some (.cells cs t (0, 0)) := h
  simp [World.frozen?, h']
theorem Blk.heldS {w : World} {g : Nat} {t : TypeId} {cs : Array Value} (h : Blk w g t cs) : Held g cs.size t w w := ⟨⟨rfl, rfl, rfl, Nat.le_refl _, fun _ _ _ => rfl⟩, ⟨cs, h, rfl⟩, ⟨cs, h, rfl⟩⟩
/-- What cell j of block R holds. -/
def cnt (w : World) (R j : Nat) : Value := (w.cell? ⟨R, j, none⟩).getD undef
/-- The rules of a region whose stores go to block R alone. -/
structure Rules (R k : Nat) (T : TypeId) (W0 : World) : Prop where
  some : ∀ w', Held R k T W0 w' → ∀ j, j < k → w'.cell? ⟨R, j, none⟩ = some (cnt w' R j)
  free : ∀ w', Held R k T W0 w' → ∀ j, w'.frozen? ⟨R, j, none⟩ = false
theorem rules (R k : Nat) (T : TypeId) (W0 : World) : Rules R k T W0 :=
  ⟨fun _ hh _ hj => by obtain ⟨u, hu⟩ := hh.some hj; unfold cnt; rw [hu]; rfl, fun _ hh j => hh.free j⟩
theorem rulesM_cell (Rs : List (Nat × Nat × TypeId)) (W0 : World) (R k : Nat) (T : TypeId) (hr : (R, k, T) ∈ Rs) : ∀ w', HeldM Rs W0 w' → ∀ j, j < k → w'.cell? ⟨R, j, none⟩ = some (cnt w' R j) := fun w' hh j hj => by
  obtain ⟨cs, h, hs⟩ := hh.r _ hr
  have hj' : j < cs.size := by simpa [hs] using hj
  have : w'.cell? ⟨R, j, none⟩ = some (cs[j]'hj') := by simp [World.cell?, h]
  unfold cnt; rw [this]; rfl
theorem rulesM_free (Rs : List (Nat × Nat × TypeId)) (W0 : World) (R k : Nat) (T : TypeId) (hr : (R, k, T) ∈ Rs) : ∀ w', HeldM Rs W0 w' → ∀ j, w'.frozen? ⟨R, j, none⟩ = false := fun w' hh j => by
  obtain ⟨cs, h, hs⟩ := hh.r _ hr
  simp [World.frozen?, h]
theorem Blk.heldM {Rs : List (Nat × Nat × TypeId)} {W0 w : World} {g : Nat} {t : TypeId} {cs : Array Value} (h : Blk W0 g t cs) (hh : HeldM Rs W0 w) (hn : ∀ r, r ∈ Rs → g ≠ r.1) : Blk w g t cs := (hh.block g h.lt hn).trans h
/-- The world of a goal under a name, with what is known of it. -/
theorem wp_world {P : Program} {c : Code} {Q : Exit → Act → World → Prop} {a : Act} {W : World} (F : World → Prop) (hF : F W) (h : ∀ W0 : World, F W0 → c.wp P Q a W0) : c.wp P Q a W := h W hF
attribute [go_sem] isSome_setCell
end Go.Proofs.Tb
/- Plain laws on digits: a natural number and the list of its digits in base B, the lowest first. No program stands here. -/
namespace Go.Proofs.Tb
/-- The value of a list of digits. -/
def val (B : Nat) : List Nat → Nat
  | [] => 0
  | x :: xs => x + B * val B xs
def digsF (B : Nat) : Nat → Nat → List Nat
  | 0, _ => []
  | f + 1, m => if m = 0 then [] else m % B :: digsF B f (m / B)
/-- The digits of m. -/
def digs (B m : Nat) : List Nat := digsF B m m
/-- All are digits. -/
def Dg (B : Nat) (xs : List Nat) : Prop := ∀ x ∈ xs, x < B
/-- How many digits m has. -/
def dl (B m : Nat) : Nat := (digs B m).length

theorem digsF_fuel (B : Nat) (hB : 2 ≤ B) : ∀ (f g m : Nat), m ≤ f → m ≤ g → digsF B f m = digsF B g m
  | 0, g, m, hf, _ => by
    have : m = 0 := by omega
    subst this
    cases g <;> simp [digsF]
  | f + 1, 0, m, _, hg => by
    have : m = 0 := by omega
    subst this
    simp [digsF]
  | f + 1, g + 1, m, hf, hg => by
    simp only [digsF]
    by_cases h : m = 0
    · simp [h]
    · rw [if_neg h, if_neg h]
      have hlt : m / B < m := Nat.div_lt_self (by omega) (by omega)
      rw [digsF_fuel B hB f g (m / B) (by omega) (by omega)]
theorem digs_zero (B : Nat) : digs B 0 = [] := rfl
theorem digs_pos (B m : Nat) (hB : 2 ≤ B) (h : m ≠ 0) : digs B m = m % B :: digs B (m / B) := by
  unfold digs
  obtain ⟨k, rfl⟩ : ∃ k, m = k + 1 := ⟨m - 1, by omega⟩
  have hlt : (k + 1) / B < k + 1 := Nat.div_lt_self (by omega) (by omega)
  rw [digsF, if_neg h, digsF_fuel B hB k ((k + 1) / B) _ (by omega) (Nat.le_refl _)]
theorem val_digs (B : Nat) (hB : 2 ≤ B) (m : Nat) : val B (digs B m) = m := by
  induction m using Nat.strongRecOn with
  | _ m ih =>
    by_cases h : m = 0
    · subst h; rfl
    · rw [digs_pos B m hB h, val, ih _ (Nat.div_lt_self (by omega) (by omega))]
      exact Nat.mod_add_div m B
theorem digs_dg (B : Nat) (hB : 2 ≤ B) (m : Nat) : Dg B (digs B m) := by
  induction m using Nat.strongRecOn with
  | _ m ih =>
    by_cases h : m = 0
    · subst h; intro x hx; cases hx
    · rw [digs_pos B m hB h]
      intro x hx
      rcases List.mem_cons.1 hx with rfl | hx
      · exact Nat.mod_lt _ (by omega)
      · exact ih _ (Nat.div_lt_self (by omega) (by omega)) x hx
theorem digs_eq_nil (B m : Nat) (hB : 2 ≤ B) : digs B m = [] ↔ m = 0 := by
  constructor
  · intro h
    have := val_digs B hB m
    rw [h] at this
    exact this.symm
  · rintro rfl; rfl
theorem dl_pos (B m : Nat) (hB : 2 ≤ B) : 0 < dl B m ↔ 0 < m := by
  unfold dl
  have h := digs_eq_nil B m hB
  constructor
  · intro hl
    rcases Nat.eq_zero_or_pos m with h0 | h0
    · rw [h.2 h0] at hl; simp at hl
    · exact h0
  · intro hm
    rcases Nat.eq_zero_or_pos (digs B m).length with h0 | h0
    · have := h.1 (List.eq_nil_of_length_eq_zero h0); omega
    · exact h0
theorem val_append (B : Nat) (xs ys : List Nat) : val B (xs ++ ys) = val B xs + B ^ xs.length * val B ys := by
  induction xs with
  | nil => simp [val]
  | cons x xs ih =>
    simp only [List.cons_append, val, ih, List.length_cons, Nat.pow_succ]
    rw [Nat.mul_add, Nat.mul_comm (B ^ xs.length) B, Nat.mul_assoc, Nat.add_assoc]
theorem val_lt (B : Nat) (xs : List Nat) (h : Dg B xs) : val B xs < B ^ xs.length := by
  induction xs with
  | nil => simp [val]
  | cons x xs ih =>
    have h1 : x < B := h x (by simp)
    have h2 := ih (fun y hy => h y (by simp [hy]))
    simp only [val, List.length_cons, Nat.pow_succ]
    have h3 : B * (val B xs + 1) ≤ B * B ^ xs.length := Nat.mul_le_mul_left _ h2
    rw [Nat.mul_comm (B ^ xs.length) B]
    rw [Nat.mul_add] at h3
    omega
/-- A list of digits that does not end in 0 is the list of its value's digits. -/
theorem digs_val (B : Nat) (hB : 2 ≤ B) (xs : List Nat) (h : Dg B xs) (hl : xs.getLast? ≠ some 0) : digs B (val B xs) = xs := by
  induction xs with
  | nil => rfl
  | cons x xs ih =>
    have hx : x < B := h x (by simp)
    have hd : Dg B xs := fun y hy => h y (by simp [hy])
    have hl' : xs.getLast? ≠ some 0 := by
      cases xs with
      | nil => simp
      | cons y ys => simpa using hl
    have ih' := ih hd hl'
    have hne : val B (x :: xs) ≠ 0 := by
      simp only [val]
      intro h0
      have hx0 : x = 0 := by omega
      have hv : B * val B xs = 0 := by omega
      have hv0 : val B xs = 0 := by
        rcases Nat.mul_eq_zero.1 hv with h1 | h1
        · omega
        · exact h1
      rw [hv0] at ih'
      have : xs = [] := ih'.symm
      subst this
      subst hx0
      simp at hl
    rw [digs_pos B _ hB hne]
    have h1 : val B (x :: xs) % B = x := by
      simp only [val]
      rw [Nat.add_mul_mod_self_left]
      exact Nat.mod_eq_of_lt hx
    have h2 : val B (x :: xs) / B = val B xs := by
      simp only [val]
      rw [Nat.add_mul_div_left _ _ (by omega), Nat.div_eq_of_lt hx, Nat.zero_add]
    rw [h1, h2, ih']
theorem digs_last (B : Nat) (hB : 2 ≤ B) (m : Nat) : (digs B m).getLast? ≠ some 0 := by
  induction m using Nat.strongRecOn with
  | _ m ih =>
    by_cases h : m = 0
    · subst h; simp [digs_zero]
    · rw [digs_pos B m hB h]
      have hlt : m / B < m := Nat.div_lt_self (by omega) (by omega)
      have ih' := ih _ hlt
      by_cases h0 : m / B = 0
      · rw [h0, digs_zero]
        simp
        have h1 : m < B := by
          rcases Nat.lt_or_ge m B with h1 | h1
          · exact h1
          · have := Nat.div_pos h1 (by omega); omega
        rw [Nat.mod_eq_of_lt h1]
        exact h
      · cases hd : digs B (m / B) with
        | nil => exact absurd ((digs_eq_nil B _ hB).1 hd) h0
        | cons y ys => rw [hd] at ih'; simpa using ih'
theorem val_zeros (B : Nat) (k : Nat) : val B (List.replicate k 0) = 0 := by
  induction k with
  | zero => rfl
  | succ k ih => simp [List.replicate_succ, val, ih]
/-- Zeros at the end do not count. -/
theorem val_strip (B : Nat) (xs : List Nat) (h : xs.getLast? = some 0) : val B xs = val B xs.dropLast := by
  have hx : xs = xs.dropLast ++ [0] := by
    obtain ⟨ys, hy⟩ := List.getLast?_eq_some_iff.1 h
    rw [hy]; simp
  rw [hx, val_append]
  simp [val]
theorem dl_le (B : Nat) (hB : 2 ≤ B) (k m : Nat) (h : m < B ^ k) : dl B m ≤ k := by
  unfold dl
  induction k generalizing m with
  | zero => have : m = 0 := by simpa using h
            subst this; simp [digs_zero]
  | succ k ih =>
    by_cases h0 : m = 0
    · subst h0; simp [digs_zero]
    · rw [digs_pos B m hB h0]
      have : m / B < B ^ k := by
        rw [Nat.pow_succ] at h
        exact Nat.div_lt_of_lt_mul (by rw [Nat.mul_comm]; exact h)
      have := ih _ this
      simp; omega
theorem lt_pow_dl (B : Nat) (hB : 2 ≤ B) (m : Nat) : m < B ^ dl B m := by
  have h := val_lt B _ (digs_dg B hB m)
  rw [val_digs B hB] at h
  exact h
theorem pow_le_of_dl (B : Nat) (hB : 2 ≤ B) (m k : Nat) (h : k < dl B m) : B ^ k ≤ m := by
  rcases Nat.lt_or_ge m (B ^ k) with h1 | h1
  · have := dl_le B hB k m h1; omega
  · exact h1
theorem dl_mono (B : Nat) (hB : 2 ≤ B) (m k : Nat) (h : m ≤ k) : dl B m ≤ dl B k := dl_le B hB _ _ (Nat.lt_of_le_of_lt h (lt_pow_dl B hB k))
theorem dl_add (B : Nat) (hB : 2 ≤ B) (m k s : Nat) (h : dl B m ≤ s) (h' : dl B k ≤ s) : dl B (m + k) ≤ s + 1 := by
  refine dl_le B hB _ _ ?_
  have h1 := Nat.lt_of_lt_of_le (lt_pow_dl B hB m) (Nat.pow_le_pow_right (by omega) h)
  have h2 := Nat.lt_of_lt_of_le (lt_pow_dl B hB k) (Nat.pow_le_pow_right (by omega) h')
  rw [Nat.pow_succ]
  have : B ^ s * 2 ≤ B ^ s * B := Nat.mul_le_mul_left _ hB
  omega
theorem dl_mul (B : Nat) (hB : 2 ≤ B) (m k : Nat) : dl B (m * k) ≤ dl B m + dl B k := by
  refine dl_le B hB _ _ ?_
  rw [Nat.pow_add]
  exact Nat.mul_lt_mul'' (lt_pow_dl B hB m) (lt_pow_dl B hB k)
/-- Fewer digits: the lesser number. -/
theorem lt_of_dl_lt (B : Nat) (hB : 2 ≤ B) (m k : Nat) (h : dl B m < dl B k) : m < k :=
  Nat.lt_of_lt_of_le (lt_pow_dl B hB m) (pow_le_of_dl B hB k _ h)
theorem val_take_succ (B : Nat) (xs : List Nat) (k : Nat) (h : k < xs.length) : val B (xs.take (k + 1)) = val B (xs.take k) + B ^ k * xs.getD k 0 := by
  rw [List.take_succ_eq_append_getElem h, val_append]
  simp [val, List.getD, h, Nat.min_eq_left (Nat.le_of_lt h)]
theorem val_drop (B : Nat) (xs : List Nat) (k : Nat) (h : k < xs.length) : val B (xs.drop k) = xs.getD k 0 + B * val B (xs.drop (k + 1)) := by
  rw [List.drop_eq_getElem_cons h, val]
  simp [List.getD, h]
theorem Dg.take {B : Nat} {xs : List Nat} (h : Dg B xs) (k : Nat) : Dg B (xs.take k) := fun x hx => h x (List.mem_of_mem_take hx)
theorem Dg.drop {B : Nat} {xs : List Nat} (h : Dg B xs) (k : Nat) : Dg B (xs.drop k) := fun x hx => h x (List.mem_of_mem_drop hx)
theorem Dg.getD {B : Nat} (hB : 0 < B) {xs : List Nat} (h : Dg B xs) (k : Nat) : xs.getD k 0 < B := by
  by_cases hk : k < xs.length
  · simp [List.getD, hk]; exact h _ (List.getElem_mem hk)
  · simp [List.getD, Nat.le_of_not_lt hk]; exact hB
theorem Dg.append {B : Nat} {xs ys : List Nat} (h : Dg B xs) (h' : Dg B ys) : Dg B (xs ++ ys) := fun x hx => (List.mem_append.1 hx).elim (h x) (h' x)
theorem Dg.set_ {B : Nat} {xs : List Nat} (h : Dg B xs) (k v : Nat) (hv : v < B) : Dg B (xs.set k v) := fun x hx => (List.mem_or_eq_of_mem_set hx).elim (h x) (fun e => e ▸ hv)
theorem Dg.replicate {B : Nat} (hB : 0 < B) (k : Nat) : Dg B (List.replicate k 0) := fun x hx => by rw [(List.mem_replicate.1 hx).2]; exact hB
theorem Dg.one {B v : Nat} (hv : v < B) : Dg B [v] := fun x hx => by rw [List.mem_singleton.1 hx]; exact hv
end Go.Proofs.Tb
/- Plain laws: fractions as rational numbers. No program stands here. -/
namespace Go.Proofs.Tb
/-- p/q as a rational number. -/
def qv (p q : Int) : Rat := Rat.divInt p q
theorem qv_div (p q : Int) : qv p q = (p : Rat) / (q : Rat) := Rat.divInt_eq_div p q
theorem qv_one (p : Int) : qv p 1 = (p : Rat) := by rw [qv_div]; grind
theorem qv_add {p q r s : Int} (hq : q ≠ 0) (hs : s ≠ 0) : qv (p * s + r * q) (q * s) = qv p q + qv r s := (Rat.divInt_add_divInt p r hq hs).symm
theorem qv_sub {p q r s : Int} (hq : q ≠ 0) (hs : s ≠ 0) : qv (p * s + -(r * q)) (q * s) = qv p q - qv r s := by
  rw [← Int.sub_eq_add_neg]; exact (Rat.divInt_sub_divInt p r hq hs).symm
theorem qv_mul (p q r s : Int) : qv (p * r) (q * s) = qv p q * qv r s := (Rat.divInt_mul_divInt p r).symm
theorem qv_neg (p q : Int) : qv (-p) q = -qv p q := (Rat.neg_divInt p q).symm
theorem qv_negneg (p q : Int) : qv (-p) (-q) = qv p q := Rat.neg_divInt_neg p q
theorem qv_inv (p q : Int) : qv q p = (qv p q)⁻¹ := (Rat.inv_divInt p q).symm
theorem qv_quo (p q r s : Int) : qv (p * s) (q * r) = qv p q / qv r s := by
  rw [qv_mul, qv_inv r s, Rat.div_def]
theorem cast_pos {q : Int} (h : 0 < q) : (0 : Rat) < (q : Rat) := Rat.intCast_pos.2 h
theorem qv_lt {p q r s : Int} (hq : 0 < q) (hs : 0 < s) : qv p q < qv r s ↔ p * s < r * q := by
  have h1 := cast_pos hq
  have h2 := cast_pos hs
  rw [qv_div, qv_div, Rat.div_lt_iff h1]
  have e : (r : Rat) / (s : Rat) * (q : Rat) = (r * q) / (s : Rat) := by
    rw [Rat.div_def, Rat.div_def, Rat.mul_assoc, Rat.mul_assoc, Rat.mul_comm (q : Rat)]
  rw [e, Rat.lt_div_iff h2, ← Rat.intCast_mul, ← Rat.intCast_mul, Rat.intCast_lt_intCast]
theorem qv_eq {p q r s : Int} (hq : q ≠ 0) (hs : s ≠ 0) : qv p q = qv r s ↔ p * s = r * q := Rat.divInt_eq_divInt_iff hq hs
theorem qv_le {p q r s : Int} (hq : 0 < q) (hs : 0 < s) : qv p q ≤ qv r s ↔ p * s ≤ r * q := by
  rw [← Rat.not_lt, qv_lt hs hq]; omega
theorem qv_pos {p q : Int} (hq : 0 < q) : 0 < qv p q ↔ 0 < p := by
  have h := qv_lt (p := 0) (q := 1) (r := p) (s := q) (by omega) hq
  rw [qv_one] at h
  simpa using h
theorem qv_zero {p q : Int} (hq : q ≠ 0) : qv p q = 0 ↔ p = 0 := by
  have h := qv_eq (p := p) (q := q) (r := 0) (s := 1) hq (by omega)
  rw [qv_one] at h
  simpa using h
/-- The absolute value. -/
def rab (x : Rat) : Rat := if x < 0 then -x else x
theorem qv_neg_iff {p q : Int} (hq : 0 < q) : qv p q < 0 ↔ p < 0 := by
  have h := qv_lt (p := p) (q := q) (r := 0) (s := 1) hq (by omega)
  rw [qv_one] at h
  simpa using h
theorem qv_abs {p q : Int} (hq : 0 < q) : qv (p.natAbs : Int) q = rab (qv p q) := by
  unfold rab
  by_cases h : p < 0
  · rw [if_pos ((qv_neg_iff hq).2 h), ← qv_neg]; congr 1; omega
  · rw [if_neg (fun h' => h ((qv_neg_iff hq).1 h'))]; congr 1; omega
theorem rab_nonneg (x : Rat) : 0 ≤ rab x := by unfold rab; split <;> grind
theorem rab_neg (x : Rat) : rab (-x) = rab x := by unfold rab; split <;> split <;> grind
/-- How two rational numbers compare: -1, 0 or 1. -/
def cmpR (x y : Rat) : Int := if x < y then -1 else if y < x then 1 else 0
theorem cmpR_lt {x y : Rat} : cmpR x y < 0 ↔ x < y := by unfold cmpR; split <;> (try split) <;> grind
theorem cmpR_gt {x y : Rat} : 0 < cmpR x y ↔ y < x := by unfold cmpR; split <;> (try split) <;> grind
theorem cmpR_eq {x y : Rat} : cmpR x y = 0 ↔ x = y := by unfold cmpR; split <;> (try split) <;> grind
theorem sign_cmp {p q r s : Int} (hq : 0 < q) (hs : 0 < s) : Int.sign (p * s + -(r * q)) = cmpR (qv p q) (qv r s) := by
  unfold cmpR
  by_cases h1 : p * s < r * q
  · rw [if_pos ((qv_lt hq hs).2 h1), Int.sign_eq_neg_one_of_neg (by omega)]
  · rw [if_neg (fun h => h1 ((qv_lt hq hs).1 h))]
    by_cases h2 : r * q < p * s
    · rw [if_pos ((qv_lt hs hq).2 h2), Int.sign_eq_one_of_pos (by omega)]
    · rw [if_neg (fun h => h2 ((qv_lt hs hq).1 h)), show p * s + -(r * q) = 0 by omega]; rfl
theorem qv_num {p q : Int} (hq : 0 < q) : (qv p q).num = p / (Int.gcd p q : Int) := by
  unfold qv
  rw [Rat.num_divInt, Int.sign_eq_one_of_pos hq, Int.one_mul, Int.gcd_comm]
theorem qv_den {p q : Int} (hq : 0 < q) : ((qv p q).den : Int) = q / (Int.gcd p q : Int) := by
  unfold qv
  rw [Rat.den_divInt, if_neg (by omega), Int.gcd_comm]
  have : ((q.natAbs / Int.gcd p q : Nat) : Int) = (q.natAbs : Int) / (Int.gcd p q : Int) := by simp
  rw [this]; congr 1; omega
theorem qv_self (x : Rat) : qv x.num x.den = x := Rat.num_divInt_den x
theorem den_pos' (x : Rat) : (0 : Int) < (x.den : Int) := by have := x.den_pos; omega
end Go.Proofs.Tb
/- Plain law: a line whose errors at three readings are of one size with signs that alternate is the best one if no other three readings bend more; there is just one such line. No program stands here. -/
namespace Go.Proofs.Tb
theorem alt_up {ti tj tk fi fj fk E : Rat} (h1 : ti < tj) (h2 : tj < tk) (a : E ≤ fi) (b : fj ≤ -E) (c : E ≤ fk) (s : E < fi ∨ fj < -E ∨ E < fk) :
    fj * (tk - ti) - fi * (tk - tj) - fk * (tj - ti) < -(2 * E * (tk - ti)) := by
  have p1 : 0 ≤ (fi - E) * (tk - tj) := Rat.mul_nonneg (by grind) (by grind)
  have p2 : 0 ≤ (-E - fj) * (tk - ti) := Rat.mul_nonneg (by grind) (by grind)
  have p3 : 0 ≤ (fk - E) * (tj - ti) := Rat.mul_nonneg (by grind) (by grind)
  rcases s with s | s | s
  · have : 0 < (fi - E) * (tk - tj) := Rat.mul_pos (by grind) (by grind)
    grind
  · have : 0 < (-E - fj) * (tk - ti) := Rat.mul_pos (by grind) (by grind)
    grind
  · have : 0 < (fk - E) * (tj - ti) := Rat.mul_pos (by grind) (by grind)
    grind
theorem alt_dn {ti tj tk fi fj fk E : Rat} (h1 : ti < tj) (h2 : tj < tk) (a : fi ≤ -E) (b : E ≤ fj) (c : fk ≤ -E) (s : fi < -E ∨ E < fj ∨ fk < -E) :
    2 * E * (tk - ti) < fj * (tk - ti) - fi * (tk - tj) - fk * (tj - ti) := by
  have h := alt_up (fi := -fi) (fj := -fj) (fk := -fk) (E := E) h1 h2 (by grind) (by grind) (by grind) (by rcases s with s | s | s; exact Or.inl (by grind); exact Or.inr (Or.inl (by grind)); exact Or.inr (Or.inr (by grind)))
  grind
/-- The bend of three values, times the outer distance. -/
def bd3 (t f : Nat → Rat) (i j k : Nat) : Rat := f j * (t k - t i) - f i * (t k - t j) - f k * (t j - t i)
theorem cheb (n : Nat) (t f : Nat → Rat) (mono : ∀ i j, i < j → j < n → t i < t j) (E : Rat) (hE : 0 < E) (a b c : Nat) (hab : a < b) (hbc : b < c) (hcn : c < n)
    (fa : f a = E) (fb : f b = -E) (fc : f c = E) (B : ∀ i j k, i < j → j < k → k < n → -(2 * E * (t k - t i)) ≤ bd3 t f i j k ∧ bd3 t f i j k ≤ 2 * E * (t k - t i)) :
    ∀ m, m < n → -E ≤ f m ∧ f m ≤ E := by
  intro m hm
  have up : ∀ i j k, i < j → j < k → k < n → E ≤ f i → f j ≤ -E → E ≤ f k → (E < f i ∨ f j < -E ∨ E < f k) → False := by
    intro i j k h1 h2 h3 g1 g2 g3 g4
    have := alt_up (mono i j h1 (by omega)) (mono j k h2 h3) g1 g2 g3 g4
    have hB := (B i j k h1 h2 h3).1
    unfold bd3 at hB
    exact absurd this (Rat.not_lt.2 hB)
  have dn : ∀ i j k, i < j → j < k → k < n → f i ≤ -E → E ≤ f j → f k ≤ -E → (f i < -E ∨ E < f j ∨ f k < -E) → False := by
    intro i j k h1 h2 h3 g1 g2 g3 g4
    have := alt_dn (mono i j h1 (by omega)) (mono j k h2 h3) g1 g2 g3 g4
    have hB := (B i j k h1 h2 h3).2
    unfold bd3 at hB
    exact absurd this (Rat.not_lt.2 hB)
  constructor
  · rcases Rat.le_total (a := -E) (b := f m) with h | h
    · exact h
    by_cases he : f m = -E
    · rw [he]; exact Rat.le_refl
    have hlt : f m < -E := Rat.lt_of_le_of_ne h he
    exfalso
    by_cases h1 : m < a
    · exact dn m a b h1 hab (by omega) h (by grind) (by grind) (Or.inl hlt)
    by_cases h2 : m = a
    · subst h2; grind
    by_cases h3 : m < b
    · exact up a m c (by omega) (by omega) hcn (by grind) h (by grind) (Or.inr (Or.inl hlt))
    by_cases h4 : m = b
    · subst h4; grind
    by_cases h5 : m < c
    · exact up a m c (by omega) h5 hcn (by grind) h (by grind) (Or.inr (Or.inl hlt))
    by_cases h6 : m = c
    · subst h6; grind
    · exact dn b c m hbc (by omega) hm (by grind) (by grind) h (Or.inr (Or.inr hlt))
  · rcases Rat.le_total (a := f m) (b := E) with h | h
    · exact h
    by_cases he : f m = E
    · rw [he]; exact Rat.le_refl
    have hlt : E < f m := Rat.lt_of_le_of_ne h (fun e => he e.symm)
    exfalso
    by_cases h1 : m < a
    · exact up m b c (by omega) hbc hcn h (by grind) (by grind) (Or.inl hlt)
    by_cases h2 : m = a
    · subst h2; grind
    by_cases h3 : m < b
    · exact up m b c h3 hbc hcn h (by grind) (by grind) (Or.inl hlt)
    by_cases h4 : m = b
    · subst h4; grind
    by_cases h5 : m < c
    · exact up a b m hab (by omega) hm (by grind) (by grind) h (Or.inr (Or.inr hlt))
    by_cases h6 : m = c
    · subst h6; grind
    · exact up a b m hab (by omega) hm (by grind) (by grind) h (Or.inr (Or.inr hlt))
/-- Values on a line that are from 0 up, up to 0 and from 0 up are 0 at the outer two. -/
theorem three_zero {da db dc ta tb tc : Rat} (h1 : ta < tb) (h2 : tb < tc) (hid : db * (tc - ta) = da * (tc - tb) + dc * (tb - ta)) (ha : 0 ≤ da) (hb : db ≤ 0) (hc : 0 ≤ dc) : da = 0 ∧ dc = 0 := by
  have p1 : 0 ≤ da * (tc - tb) := Rat.mul_nonneg ha (by grind)
  have p2 : 0 ≤ dc * (tb - ta) := Rat.mul_nonneg hc (by grind)
  have p3 : 0 ≤ (-db) * (tc - ta) := Rat.mul_nonneg (by grind) (by grind)
  have e1 : da * (tc - tb) = 0 := by grind
  have e2 : dc * (tb - ta) = 0 := by grind
  constructor
  · rcases Rat.mul_eq_zero.1 e1 with h | h
    · exact h
    · grind
  · rcases Rat.mul_eq_zero.1 e2 with h | h
    · exact h
    · grind
/-- The error of a line at a reading. -/
def er (t y : Nat → Rat) (s h : Rat) (i : Nat) : Rat := y i - (s * t i + h)
/-- The line s, h is the best one, and E its greatest error. -/
structure IsLeast (n : Nat) (t y : Nat → Rat) (s h E : Rat) : Prop where
  le : ∀ i, i < n → -E ≤ er t y s h i ∧ er t y s h i ≤ E
  alt : E = 0 ∨ ∃ a b c, a < b ∧ b < c ∧ c < n ∧ er t y s h b = -er t y s h a ∧ er t y s h c = er t y s h a ∧ (er t y s h a = E ∨ er t y s h a = -E)
section
variable {n : Nat} {t y : Nat → Rat} {s h E s' h' E' : Rat}
theorem IsLeast.nonneg (hn : 0 < n) (k : IsLeast n t y s h E) : 0 ≤ E := by have := k.le 0 hn; grind
theorem same_two {ta tb s s' h h' : Rat} (hlt : ta < tb) (e1 : s * ta + h = s' * ta + h') (e2 : s * tb + h = s' * tb + h') : s = s' ∧ h = h' := by
  have e : (s - s') * (tb - ta) = 0 := by grind
  rcases Rat.mul_eq_zero.1 e with g | g
  · constructor <;> grind
  · grind
theorem IsLeast.uniq_le (mono : ∀ i j, i < j → j < n → t i < t j) (hn : 2 ≤ n) (k : IsLeast n t y s h E) (k' : IsLeast n t y s' h' E') (hle : E' ≤ E) : s = s' ∧ h = h' ∧ E = E' := by
  have n0 := k.nonneg (by omega)
  have n0' := k'.nonneg (by omega)
  rcases k.alt with h0 | ⟨a, b, c, hab, hbc, hcn, eb, ec, ea⟩
  · have e0 : E' = 0 := by grind
    have a0 := k.le 0 (by omega)
    have a1 := k.le 1 (by omega)
    have b0 := k'.le 0 (by omega)
    have b1 := k'.le 1 (by omega)
    unfold er at a0 a1 b0 b1
    have := same_two (ta := t 0) (tb := t 1) (s := s) (s' := s') (h := h) (h' := h') (mono 0 1 (by omega) (by omega)) (by grind) (by grind)
    exact ⟨this.1, this.2, by grind⟩
  · have ma := mono a b hab (by omega)
    have mc := mono b c hbc hcn
    have la := k'.le a (by omega)
    have lb := k'.le b (by omega)
    have lc := k'.le c hcn
    have key : er t y s h a = er t y s' h' a ∧ er t y s h c = er t y s' h' c := by
      rcases ea with ea | ea
      · have := three_zero (da := er t y s h a - er t y s' h' a) (db := er t y s h b - er t y s' h' b) (dc := er t y s h c - er t y s' h' c) ma mc (by unfold er; grind) (by grind) (by grind) (by grind)
        constructor <;> grind
      · have := three_zero (da := er t y s' h' a - er t y s h a) (db := er t y s' h' b - er t y s h b) (dc := er t y s' h' c - er t y s h c) ma mc (by unfold er; grind) (by grind) (by grind) (by grind)
        constructor <;> grind
    have := same_two (ta := t a) (tb := t c) (s := s) (s' := s') (h := h) (h' := h') (mono a c (by omega) hcn) (by have := key.1; unfold er at this; grind) (by have := key.2; unfold er at this; grind)
    exact ⟨this.1, this.2, by grind⟩
theorem IsLeast.uniq (mono : ∀ i j, i < j → j < n → t i < t j) (hn : 2 ≤ n) (k : IsLeast n t y s h E) (k' : IsLeast n t y s' h' E') : s = s' ∧ h = h' ∧ E = E' := by
  rcases Rat.le_total (a := E') (b := E) with hle | hle
  · exact k.uniq_le mono hn k' hle
  · obtain ⟨a, b, c⟩ := k'.uniq_le mono hn k hle
    exact ⟨a.symm, b.symm, c.symm⟩
/-- No line has a lesser greatest error. -/
theorem IsLeast.best (mono : ∀ i j, i < j → j < n → t i < t j) (hn : 2 ≤ n) (k : IsLeast n t y s h E) (hl : ∀ i, i < n → -E' ≤ er t y s' h' i ∧ er t y s' h' i ≤ E') : E ≤ E' := by
  have n0' : 0 ≤ E' := by have := hl 0 (by omega); grind
  rcases k.alt with h0 | ⟨a, b, c, hab, hbc, hcn, eb, ec, ea⟩
  · rw [h0]; exact n0'
  · have ma := mono a b hab (by omega)
    have mc := mono b c hbc hcn
    have la := hl a (by omega)
    have lb := hl b (by omega)
    have lc := hl c hcn
    rcases Rat.le_total (a := E) (b := E') with hle | hle
    · exact hle
    rcases ea with ea | ea
    · have := three_zero (da := er t y s h a - er t y s' h' a) (db := er t y s h b - er t y s' h' b) (dc := er t y s h c - er t y s' h' c) ma mc (by unfold er; grind) (by grind) (by grind) (by grind)
      grind
    · have := three_zero (da := er t y s' h' a - er t y s h a) (db := er t y s' h' b - er t y s h b) (dc := er t y s' h' c - er t y s h c) ma mc (by unfold er; grind) (by grind) (by grind) (by grind)
      grind
/-- The bends of the errors are those of the readings. -/
theorem bd3_er (i j k : Nat) : bd3 t (er t y s h) i j k = bd3 t y i j k := by unfold bd3 er; grind
/-- The line of the three readings that bend most. -/
theorem IsLeast.of_max (mono : ∀ i j, i < j → j < n → t i < t j) (a b c : Nat) (hab : a < b) (hbc : b < c) (hcn : c < n) (g : Rat) (hg : g ≠ 0)
    (ea : er t y s h a = -g) (eb : er t y s h b = g) (ec : er t y s h c = -g)
    (B : ∀ i j k, i < j → j < k → k < n → -(2 * rab g * (t k - t i)) ≤ bd3 t y i j k ∧ bd3 t y i j k ≤ 2 * rab g * (t k - t i)) : IsLeast n t y s h (rab g) := by
  unfold rab at *
  by_cases hg0 : g < 0
  · rw [if_pos hg0] at B ⊢
    refine ⟨?_, Or.inr ⟨a, b, c, hab, hbc, hcn, by grind, by grind, by grind⟩⟩
    exact cheb n t (er t y s h) mono (-g) (by grind) a b c hab hbc hcn (by grind) (by grind) (by grind) (fun i j k h1 h2 h3 => by rw [bd3_er]; exact B i j k h1 h2 h3)
  · rw [if_neg hg0] at B ⊢
    refine ⟨?_, Or.inr ⟨a, b, c, hab, hbc, hcn, by grind, by grind, by grind⟩⟩
    have hc := cheb n t (fun i => -er t y s h i) mono g (by grind) a b c hab hbc hcn (by grind) (by grind) (by grind) (fun i j k h1 h2 h3 => by
      have e : bd3 t (fun i => -er t y s h i) i j k = -bd3 t y i j k := by have h0 := bd3_er (t := t) (y := y) (s := s) (h := h) i j k; unfold bd3 at h0 ⊢; grind
      rw [e]; have := B i j k h1 h2 h3; grind)
    intro m hm
    have := hc m hm
    grind
/-- The line through the first and the last reading, if nothing bends. -/
theorem IsLeast.of_flat (mono : ∀ i j, i < j → j < n → t i < t j) (hn : 2 ≤ n) (e0 : er t y s h 0 = 0) (el : er t y s h (n - 1) = 0) (B : ∀ i j k, i < j → j < k → k < n → bd3 t y i j k = 0) : IsLeast n t y s h 0 := by
  refine ⟨fun i hi => ?_, Or.inl rfl⟩
  have : er t y s h i = 0 := by
    by_cases h1 : i = 0
    · rw [h1]; exact e0
    by_cases h2 : i = n - 1
    · rw [h2]; exact el
    have hb := B 0 i (n - 1) (by omega) (by omega) (by omega)
    rw [← bd3_er (s := s) (h := h)] at hb
    unfold bd3 at hb
    rw [e0, el] at hb
    have hm := mono 0 (n - 1) (by omega) (by omega)
    have : er t y s h i * (t (n - 1) - t 0) = 0 := by grind
    rcases Rat.mul_eq_zero.1 this with g | g
    · exact g
    · grind
  rw [this]; constructor <;> grind
end
end Go.Proofs.Tb
/- A law on regions that draw their order: new blocks that no other operation of the region looks at need not be branched over. No statement of the program stands here. -/
namespace Go.Proofs.Tb
open Go.RowKit

theorem Ext.trans {a b c : World} (h : Ext a b) (k : Ext b c) : Ext a c := bt h k
theorem Ext.size {a b : World} (h : Ext a b) : a.heap.size ≤ b.heap.size := Below.size h
theorem Ext.allocR (a : World) (o : Obj) : Ext a (a.alloc o) := (Below.refl _ _).alloc (Nat.le_refl _) o
def ptr (R : Nat) : Value := .pointer (some ⟨R, 0, none⟩)

section
variable {P : Program} {ops : Array Oper} {Q : Exit → Act → World → Prop} {md : Region.Mode} {S : World → Prop}

def allB (ops : Array Oper) (listed : Array Bool) : Prop := ∀ i, i < ops.size → listed.getD i false = true
/-- Whatever order is picked, and whatever new blocks come up between. -/
def wpAdv (P : Program) (md : Region.Mode) (ops : Array Oper) (Q : Exit → Act → World → Prop) (K : Act → World → Prop) : Nat → Array Bool → Act → World → Prop
  | 0, listed, a, w => allB ops listed ∧ K a w
  | f + 1, listed, a, w => (allB ops listed → K a w) ∧ ∀ i ∈ Region.ready md ops listed, wpOp P ops Q i (fun a' w' => Ext w w' ∧ ∀ w'', Ext w' w'' → wpAdv P md ops Q K f (listed.setIfInBounds i true) a' w'') a w
theorem not_ready_all {listed : Array Bool} (h : allB ops listed) {i : Nat} (hi : i ∈ Region.ready md ops listed) : False := by
  obtain ⟨h1, o, ho, _⟩ := mem_ready.1 hi
  have := h i (Array.getElem?_eq_some_iff.1 ho).1
  rw [getD_both h1] at this
  cases this
theorem allB_set {listed : Array Bool} (h : allB ops listed) (i : Nat) : allB ops (listed.setIfInBounds i true) := fun j hj => getD_set_true (h j hj)

theorem wpAdv_first {K : Act → World → Prop} {i : Nat} {oi : Oper} {v : Value} (hi : ops[i]? = some oi) (hsel : ∀ (j : Nat) (o : Oper) cs b, ops[j]? = some o → o.op ≠ .select cs b)
    (hQ : ∀ c a w, Q (.panic c) (a.put oi.dst v) w → Q (.panic c) a w) (hSE : ∀ w w', S w → Ext w w' → S w') :
    ∀ (fuel : Nat) (listed : Array Bool) (a : Act) (w : World),
      (∀ j oj, ops[j]? = some oj → j ≠ i → listed.getD j true = false → (∀ e ∈ oj.after, Region.binds md e = true → e.on ≠ i) → oi.apart ops oj = true) →
      i ∈ Region.ready md ops listed → YieldsIf P ops S oi v a → S w →
      (∀ w', Ext w w' → wpAdv P md ops Q K fuel (listed.setIfInBounds i true) (a.put oi.dst v) w') → wpAdv P md ops Q K (fuel + 1) listed a w := by
  intro fuel
  induction fuel with
  | zero =>
    intro listed a w _ hr hy hS H
    refine ⟨fun h => (not_ready_all h hr).elim, fun j hj => ?_⟩
    by_cases hji : j = i
    · subst hji; exact hy.wpOp hi hS ⟨Ext.refl w, H⟩
    · exact (not_ready_all (H w (Ext.refl w)).1 (ready_mono hj hji)).elim
  | succ fuel ih =>
    intro listed a w hfree hr hy hS H
    refine ⟨fun h => (not_ready_all h hr).elim, fun j hj => ?_⟩
    by_cases hji : j = i
    · subst hji; exact hy.wpOp hi hS ⟨Ext.refl w, H⟩
    · have h1 := (H w (Ext.refl w)).2 j (ready_mono hj hji)
      obtain ⟨hjun, oj, hoj, hall⟩ := mem_ready.1 hj
      have hnot : ∀ e ∈ oj.after, Region.binds md e = true → e.on ≠ i := fun e he hb heq => by
        have h1 := hall e he hb
        have h0 := (mem_ready.1 hr).1
        rw [heq, getD_both h0] at h1
        cases h1
      have h2 := wpOp_putIf hoj (hfree j oj hoj hji hjun hnot) (fun cs b => hsel i oi cs b hi) (fun cs b => hsel j oj cs b hoj) hQ hy h1
      have hfree' : ∀ k ok, ops[k]? = some ok → k ≠ i → (listed.setIfInBounds j true).getD k true = false →
          (∀ e ∈ ok.after, Region.binds md e = true → e.on ≠ i) → oi.apart ops ok = true := fun k ok hk hki hun hno => by
        refine hfree k ok hk hki ?_ hno
        by_cases hjk : j = k
        · subst hjk; exact hjun
        · rw [getD_set_ne true hjk] at hun; exact hun
      refine wpOp_mono (fun a' w' h3 => ⟨h3.2.1, fun w'' hx => ih (listed.setIfInBounds j true) a' w'' hfree' (ready_mono hr (Ne.symm hji)) h3.1 (hSE _ _ hS (h3.2.1.trans hx)) fun w3 hx3 => ?_⟩) h2
      rw [Array.setIfInBounds_comm _ _ hji]
      exact h3.2.2 w3 (hx.trans hx3)

/-- The order in which the operations are walked: those that may be taken first, and the others one at a time. -/
def seqOk (md : Region.Mode) (ops : Array Oper) : List (Nat × Bool) → Array Bool → Bool
  | [], listed => (List.range ops.size).all fun i => listed.getD i false
  | (i, true) :: is, listed => Region.free md ops listed i && (Region.ready md ops listed).contains i && seqOk md ops is (listed.setIfInBounds i true)
  | (i, false) :: is, listed => decide (Region.ready md ops listed = [i]) && seqOk md ops is (listed.setIfInBounds i true)
def wpSeq (P : Program) (ops : Array Oper) (Q : Exit → Act → World → Prop) (S : World → Prop) (K : Act → World → Prop) : List (Nat × Bool) → Act → World → Prop
  | [], a, w => ∀ w', Ext w w' → S w' → K a w'
  | (i, true) :: is, a, w => ∃ oi v, ops[i]? = some oi ∧ YieldsIf P ops S oi v a ∧ wpSeq P ops Q S K is (a.put oi.dst v) w
  | (i, false) :: is, a, w => ∀ w', Ext w w' → S w' → wpOp P ops Q i (fun a' w'' => Ext w' w'' ∧ wpSeq P ops Q S K is a' w'') a w'
theorem wpSeq_ext {K : Act → World → Prop} : ∀ (is : List (Nat × Bool)) (a : Act) (w w' : World), wpSeq P ops Q S K is a w → Ext w w' → wpSeq P ops Q S K is a w'
  | [], _, _, _, h, hx => fun w'' hx' => h w'' (hx.trans hx')
  | (i, true) :: is, a, w, w', ⟨oi, v, h1, h2, h3⟩, hx => ⟨oi, v, h1, h2, wpSeq_ext is _ w w' h3 hx⟩
  | (i, false) :: is, _, _, _, h, hx => fun w'' hx' => h w'' (hx.trans hx')
theorem wpAdv_of_seq {K : Act → World → Prop} (hsel : Region.noSelect ops = true) (hQ : ∀ c a d v w, Q (.panic c) (a.put d v) w → Q (.panic c) a w) (hSE : ∀ w w', S w → Ext w w' → S w') :
    ∀ (is : List (Nat × Bool)) (listed : Array Bool) (a : Act) (w : World), seqOk md ops is listed = true → S w → wpSeq P ops Q S K is a w → wpAdv P md ops Q K is.length listed a w
  | [], listed, a, w, hB, hS, h => ⟨fun i hi => by simp only [seqOk, List.all_eq_true, List.mem_range] at hB; exact hB i hi, h w (Ext.refl w) hS⟩
  | (i, true) :: is, listed, a, w, hB, hS, ⟨oi, v, h1, h2, h3⟩ => by
    simp only [seqOk, Bool.and_eq_true] at hB
    exact wpAdv_first h1 (Region.noSelect_spec hsel) (fun c a w => hQ c a _ _ w) hSE is.length listed a w (Region.free_spec h1 hB.1.1) (by simpa using hB.1.2) h2 hS
      (fun w' hx => wpAdv_of_seq hsel hQ hSE is _ _ w' hB.2 (hSE _ _ hS hx) (wpSeq_ext is _ _ _ h3 hx))
  | (i, false) :: is, listed, a, w, hB, hS, h => by
    simp only [seqOk, Bool.and_eq_true, decide_eq_true_eq] at hB
    refine ⟨fun h0 => (not_ready_all h0 (md := md) (i := i) (by rw [hB.1]; simp)).elim, fun j hj => ?_⟩
    rw [hB.1] at hj
    have hji : j = i := by simpa using hj
    subst hji
    exact wpOp_mono (fun a' w' h' => ⟨h'.1, fun w'' hx => wpAdv_of_seq hsel hQ hSE is _ _ w'' hB.2 (hSE _ _ hS (h'.1.trans hx)) (wpSeq_ext is _ _ _ h'.2 hx)⟩) (h w (Ext.refl w) hS)

/-- An operation, whether or not a temporary that it does not look at is laid. -/
theorem wpOp_putF {j : Nat} {oj : Oper} {d : Tmp} {v : Value} (hj : ops[j]? = some oj) (h1 : d ∉ oj.looksAt ops) (h2 : oj.dst ≠ some d) (hsj : ∀ cs b, oj.op ≠ .select cs b)
    (hQ : ∀ c a w, Q (.panic c) a w → Q (.panic c) (a.put (some d) v) w) {K : Act → World → Prop} {a : Act} {w : World} (h : wpOp P ops Q j K a w) :
    wpOp P ops Q j (fun a' w' => ∃ b, a' = b.put (some d) v ∧ K b w') (a.put (some d) v) w := by
  have h1' : ∀ d', some d = some d' → d' ∉ oj.looksAt ops := fun d' hd => by injection hd with hd; subst hd; exact h1
  have h2' : ∀ d', some d = some d' → oj.dst ≠ some d' := fun d' hd => by injection hd with hd; subst hd; exact h2
  unfold wpOp at *
  simp only [hj] at *
  rw [wanted_put oj a (some d) v h1']
  split
  · rename_i hw
    simp only [hw, if_true] at h
    rcases h with h | ⟨hasks, hlets⟩
    case inr => exact .inr ⟨by unfold Oper.asks at *; rw [execOp_put oj hsj a (some d) v h1']; exact hasks, hlets⟩
    refine .inl ?_
    unfold Oper.wp at *
    rw [execOp_put oj hsj a (some d) v h1']
    generalize (execOp a.eval oj).run P w = r at *
    cases r with
    | ok n w' =>
      cases n <;> simp only [Oper.upon] at h ⊢
      case value u => exact ⟨_, Act.put_comm a v u h2', h⟩
      case skip => exact ⟨_, Act.put_comm a v undef h2', h⟩
      case defer x =>
        refine ⟨_, ?_, h⟩
        rw [← Act.put_comm _ v undef h2']
        exact congrArg (fun b => Act.put b oj.dst undef) (Act.put_defers a (some d) v x)
      case enter f args =>
        refine Calls.mono h fun e w'' he => ?_
        cases e with
        | returned u => exact ⟨_, Act.put_comm a v u h2', he⟩
        | panicked c => exact hQ _ _ _ he
        | outgrown => exact he
      case row row args => exact Rows.mono h fun u w'' he => ⟨_, Act.put_comm a v u h2', he⟩
    | halt x w' =>
      cases x <;> simp only [Oper.upon] at h ⊢
      case panic u => exact hQ _ _ _ h
  · rename_i hw
    simp only [hw] at h
    exact ⟨_, Act.put_comm a v undef h2', h⟩

/-- A new block of the region: its operation's number, its temporary, its element type and cells. -/
structure AJ where
  i : Nat
  d : Tmp
  T : TypeId
  zs : Array Value
/-- The temporaries of the new blocks that are there. -/
def putJ (R : Nat → Option Nat) : List AJ → Act → Act
  | [], a => a
  | it :: J, a => putJ R J (match R it.i with | some r => a.put (some it.d) (ptr r) | none => a)
def upd (R : Nat → Option Nat) (i r : Nat) : Nat → Option Nat := fun j => if j = i then some r else R j
theorem upd_same (R : Nat → Option Nat) (i r : Nat) : upd R i r i = some r := if_pos rfl
theorem upd_ne (R : Nat → Option Nat) {i j : Nat} (r : Nat) (h : j ≠ i) : upd R i r j = R j := if_neg h
theorem putJ_put (R : Nat → Option Nat) (d : Tmp) (v : Value) : ∀ (J : List AJ) (a : Act), (∀ it ∈ J, it.d ≠ d) → putJ R J (a.put (some d) v) = (putJ R J a).put (some d) v
  | [], _, _ => rfl
  | it :: J, a, h => by
    have h0 := h it List.mem_cons_self
    show putJ R J (match R it.i with | some r => (a.put (some d) v).put (some it.d) (ptr r) | none => a.put (some d) v) = (putJ R J (match R it.i with | some r => a.put (some it.d) (ptr r) | none => a)).put (some d) v
    cases R it.i with
    | none => exact putJ_put R d v J a (fun x hx => h x (List.mem_cons_of_mem _ hx))
    | some r =>
      show putJ R J ((a.put (some d) v).put (some it.d) (ptr r)) = (putJ R J (a.put (some it.d) (ptr r))).put (some d) v
      rw [Act.put_comm a v (ptr r) (x := some d) (y := some it.d) (fun d' hd => by injection hd with hd; subst hd; intro he; injection he with he; exact h0 he)]
      exact putJ_put R d v J _ (fun x hx => h x (List.mem_cons_of_mem _ hx))
theorem putJ_congr {R R' : Nat → Option Nat} : ∀ (J : List AJ) (a : Act), (∀ it ∈ J, R it.i = R' it.i) → putJ R J a = putJ R' J a
  | [], _, _ => rfl
  | it :: J, a, h => by
    show putJ R J (match R it.i with | some r => a.put (some it.d) (ptr r) | none => a) = putJ R' J (match R' it.i with | some r => a.put (some it.d) (ptr r) | none => a)
    rw [h it List.mem_cons_self]
    exact putJ_congr J _ (fun x hx => h x (List.mem_cons_of_mem _ hx))
def PwJ (J : List AJ) : Prop := J.Pairwise fun x y => x.i ≠ y.i ∧ x.d ≠ y.d
theorem putJ_upd {R : Nat → Option Nat} {it : AJ} (r : Nat) : ∀ (J : List AJ) (a : Act), PwJ J → it ∈ J → R it.i = none → putJ (upd R it.i r) J a = (putJ R J a).put (some it.d) (ptr r)
  | [], _, _, h, _ => by cases h
  | x :: J, a, hp, h, hn => by
    obtain ⟨hx, hp'⟩ := List.pairwise_cons.1 hp
    rcases List.mem_cons.1 h with rfl | h
    · show putJ (upd R it.i r) J (match upd R it.i r it.i with | some r => a.put (some it.d) (ptr r) | none => a) = (putJ R J (match R it.i with | some r => a.put (some it.d) (ptr r) | none => a)).put (some it.d) (ptr r)
      rw [upd_same, hn]
      show putJ (upd R it.i r) J (a.put (some it.d) (ptr r)) = (putJ R J a).put (some it.d) (ptr r)
      rw [putJ_put _ _ _ J a (fun y hy => ((hx y hy).2).symm), putJ_congr J a (fun y hy => upd_ne R r ((hx y hy).1).symm)]
    · have hne := (hx it h).1
      show putJ (upd R it.i r) J (match upd R it.i r x.i with | some r => a.put (some x.d) (ptr r) | none => a) = (putJ R J (match R x.i with | some r => a.put (some x.d) (ptr r) | none => a)).put (some it.d) (ptr r)
      rw [upd_ne R r hne]
      exact putJ_upd r J _ hp' h hn
def cntJ (R : Nat → Option Nat) : List AJ → Nat
  | [] => 0
  | it :: J => (match R it.i with | some _ => 0 | none => 1) + cntJ R J
theorem cntJ_congr {R R' : Nat → Option Nat} : ∀ (J : List AJ), (∀ it ∈ J, R it.i = R' it.i) → cntJ R J = cntJ R' J
  | [], _ => rfl
  | it :: J, h => by
    unfold cntJ
    rw [h it List.mem_cons_self, cntJ_congr J (fun x hx => h x (List.mem_cons_of_mem _ hx))]
theorem cntJ_upd {R : Nat → Option Nat} {it : AJ} (r : Nat) : ∀ (J : List AJ), PwJ J → it ∈ J → R it.i = none → cntJ R J = cntJ (upd R it.i r) J + 1
  | [], _, h, _ => by cases h
  | x :: J, hp, h, hn => by
    obtain ⟨hx, hp'⟩ := List.pairwise_cons.1 hp
    unfold cntJ
    rcases List.mem_cons.1 h with rfl | h
    · rw [upd_same, hn, cntJ_congr J (fun y hy => upd_ne R r ((hx y hy).1).symm)]
      simp only []
      omega
    · rw [upd_ne R r ((hx it h).1), cntJ_upd r J hp' h hn]
      omega
theorem cntJ_none (R : Nat → Option Nat) : ∀ (J : List AJ), cntJ R J = 0 → ∀ it ∈ J, ∃ r, R it.i = some r
  | [], _, _, h => by cases h
  | x :: J, h0, it, h => by
    unfold cntJ at h0
    cases hx : R x.i with
    | none => rw [hx] at h0; simp only [] at h0; omega
    | some r =>
      rw [hx] at h0
      rcases List.mem_cons.1 h with rfl | h
      · exact ⟨r, hx⟩
      · exact cntJ_none R J (by simp only [] at h0; omega) it h
/-- What has to be shown behind the region: for any new blocks. -/
def endJ (base : Nat) (Kt : Act → World → Prop) : List AJ → List Nat → Act → World → Prop
  | [], _, a, w => Kt a w
  | it :: J, used, a, w => ∀ R, base ≤ R → R ∉ used → Blk w R it.T it.zs → endJ base Kt J (R :: used) (a.put (some it.d) (ptr R)) w
theorem endJ_use {base : Nat} {Kt : Act → World → Prop} {R : Nat → Option Nat} {w : World} : ∀ (J : List AJ) (used : List Nat) (a : Act), PwJ J → (∀ it ∈ J, ∃ r, R it.i = some r) →
    (∀ it ∈ J, ∀ r, R it.i = some r → base ≤ r ∧ r ∉ used ∧ Blk w r it.T it.zs) → (∀ x ∈ J, ∀ y ∈ J, x.i ≠ y.i → R x.i ≠ R y.i) → endJ base Kt J used a w → Kt (putJ R J a) w
  | [], _, _, _, _, _, _, h => h
  | it :: J, used, a, hp, hs, hf, hd, h => by
    obtain ⟨hx, hp'⟩ := List.pairwise_cons.1 hp
    obtain ⟨r, hr⟩ := hs it List.mem_cons_self
    obtain ⟨g1, g2, g3⟩ := hf it List.mem_cons_self r hr
    show Kt (putJ R J (match R it.i with | some r => a.put (some it.d) (ptr r) | none => a)) w
    rw [hr]
    refine endJ_use J (r :: used) _ hp' (fun x hx => hs x (List.mem_cons_of_mem _ hx)) (fun x hxJ r' hr' => ?_) (fun x hx y hy => hd x (List.mem_cons_of_mem _ hx) y (List.mem_cons_of_mem _ hy)) (h r g1 g2 g3)
    obtain ⟨f1, f2, f3⟩ := hf x (List.mem_cons_of_mem _ hxJ) r' hr'
    refine ⟨f1, fun hm => ?_, f3⟩
    rcases List.mem_cons.1 hm with rfl | hm
    · exact hd it List.mem_cons_self x (List.mem_cons_of_mem _ hxJ) (hx x hxJ).1 (by rw [hr, hr'])
    · exact f2 hm
/-- An operation whose temporaries are apart from those of the new blocks. -/
theorem wpOp_putJ {j : Nat} {oj : Oper} (hj : ops[j]? = some oj) (hsj : ∀ cs b, oj.op ≠ .select cs b) (hQ : ∀ c a d v w, Q (.panic c) a w → Q (.panic c) (a.put d v) w) (R : Nat → Option Nat) :
    ∀ (J : List AJ) (K : Act → World → Prop) (a : Act) (w : World), (∀ it ∈ J, it.d ∉ oj.looksAt ops ∧ oj.dst ≠ some it.d) → wpOp P ops Q j K a w →
      wpOp P ops Q j (fun a' w' => ∃ b, a' = putJ R J b ∧ K b w') (putJ R J a) w
  | [], K, a, w, _, h => wpOp_mono (fun a' w' h' => ⟨a', rfl, h'⟩) h
  | it :: J, K, a, w, hap, h => by
    have h0 := hap it List.mem_cons_self
    show wpOp P ops Q j _ (putJ R J (match R it.i with | some r => a.put (some it.d) (ptr r) | none => a)) w
    have e : ∀ b : Act, putJ R (it :: J) b = putJ R J (match R it.i with | some r => b.put (some it.d) (ptr r) | none => b) := fun _ => rfl
    cases hr : R it.i with
    | none =>
      refine wpOp_mono (fun a' w' h' => ?_) (wpOp_putJ hj hsj hQ R J K a w (fun x hx => hap x (List.mem_cons_of_mem _ hx)) h)
      obtain ⟨b, hb, hk⟩ := h'
      exact ⟨b, by rw [e, hr]; exact hb, hk⟩
    | some r =>
      have h1 := wpOp_putF hj h0.1 h0.2 hsj (fun c a w => hQ c a _ (ptr r) w) h
      refine wpOp_mono (fun a' w' h' => ?_) (wpOp_putJ hj hsj hQ R J _ (a.put (some it.d) (ptr r)) w (fun x hx => hap x (List.mem_cons_of_mem _ hx)) h1)
      obtain ⟨b, hb, ⟨b', hb', hk⟩⟩ := h'
      subst hb'
      exact ⟨b', by rw [e, hr]; exact hb, hk⟩
theorem wpAny_more : ∀ (f : Nat) (listed : Array Bool) (a : Act) (w : World), wpAny P md ops Q f listed a w → wpAny P md ops Q (f + 1) listed a w
  | 0, _, _, _, ⟨h1, h2⟩ => ⟨fun _ => h2, fun i hi => by rw [h1] at hi; cases hi⟩
  | f + 1, _, _, _, ⟨h1, h2⟩ => ⟨h1, fun i hi => wpOp_mono (fun a' w' h' => wpAny_more f _ a' w' h') (h2 i hi)⟩
theorem wpAny_add (g : Nat) {f : Nat} {listed : Array Bool} {a : Act} {w : World} (h : wpAny P md ops Q f listed a w) : wpAny P md ops Q (g + f) listed a w := by
  induction g with
  | zero => rw [Nat.zero_add]; exact h
  | succ g ih => rw [show g + 1 + f = g + f + 1 by omega]; exact wpAny_more _ _ _ _ ih

def backB (md : Region.Mode) (ops : Array Oper) : Bool :=
  (List.range ops.size).all fun i => match ops[i]? with | some o => o.after.all fun e => !Region.binds md e || decide (e.on < i) | none => true
def tailB (md : Region.Mode) (ops : Array Oper) (n : Nat) : Bool := decide (n = ops.size) || Region.sinkB md ops n && Region.chainB md ops n
theorem tail_head {n : Nat} (h : tailB md ops n = true) (hnn : n ≤ ops.size) {listed : Array Bool} (inv : HeadInv md ops n listed) {u i : Nat} (hu : u < n) (hun : listed.getD u false = false) (hi : i ∈ Region.ready md ops listed) : i < n := by
  have his : i < ops.size := by obtain ⟨_, o, ho, _⟩ := mem_ready.1 hi; exact (Array.getElem?_eq_some_iff.1 ho).1
  simp only [tailB, Bool.or_eq_true, decide_eq_true_eq, Bool.and_eq_true] at h
  rcases h with h | ⟨h1, h2⟩
  · omega
  · by_cases hn : n < ops.size
    · rcases Nat.lt_or_ge i n with h | h
      · exact h
      · exact absurd hi (tail_waits h1 h2 hn inv _ u rfl hu (getD_in (by rw [inv.size]; omega) hun) i h)
    · omega
theorem some_ready (hb : backB md ops = true) {listed : Array Bool} (hs : listed.size = ops.size) : ∀ (k i : Nat), i ≤ k → i < ops.size → listed.getD i false = false → Region.ready md ops listed ≠ [] := by
  intro k
  induction k with
  | zero =>
    intro i hik hi hu h0
    have hr : i ∈ Region.ready md ops listed := by
      rw [mem_ready]
      refine ⟨getD_in (by omega) hu, ops[i], by simp [hi], fun e he hbe => ?_⟩
      have := List.all_eq_true.1 hb i (List.mem_range.2 hi)
      simp only [hi, getElem?_pos] at this
      have := Array.all_eq_true_iff_forall_mem.1 this e he
      rw [hbe] at this
      simp at this
      omega
    rw [h0] at hr
    cases hr
  | succ k ih =>
    intro i hik hi hu
    by_cases hall : ∀ e ∈ (ops[i]).after, Region.binds md e = true → listed.getD e.on false = true
    · intro h0
      have hr : i ∈ Region.ready md ops listed := by
        rw [mem_ready]
        exact ⟨getD_in (by omega) hu, ops[i], by simp [hi], hall⟩
      rw [h0] at hr
      cases hr
    · have : ∃ e ∈ (ops[i]).after, Region.binds md e = true ∧ listed.getD e.on false ≠ true := by
        apply Classical.byContradiction
        intro hno
        exact hall (fun e he hbe => Classical.byContradiction fun hl => hno ⟨e, he, hbe, hl⟩)
      obtain ⟨e, he, hbe, hl⟩ := this
      have h1 := List.all_eq_true.1 hb i (List.mem_range.2 hi)
      simp only [hi, getElem?_pos] at h1
      have h2 := Array.all_eq_true_iff_forall_mem.1 h1 e he
      rw [hbe] at h2
      simp at h2
      exact ih e.on (by omega) (by omega) (by simpa using hl)

/-- What is asked of a new block's operation. -/
structure OkJ (P : Program) (md : Region.Mode) (ops : Array Oper) (n : Nat) (it : AJ) : Prop where
  lt : it.i < n
  op : ∃ o, ops[it.i]? = some o ∧ o.dst = some it.d ∧ (∀ y, Region.wanted o y = true) ∧ (∀ e ∈ o.after, Region.binds md e = true → False) ∧
    ∀ (ev : Operand → Value) (w : World), (execOp ev o).run P w = .ok (.value (ptr w.heap.size)) (w.alloc (.cells it.zs it.T))
  ap : ∀ j oj, ops[j]? = some oj → j ≠ it.i → j < n → it.d ∉ oj.looksAt ops ∧ oj.dst ≠ some it.d

theorem adv_main {n : Nat} {J : List AJ} {Kt : Act → World → Prop} {base : Nat} (hsel : Region.noSelect ops = true) (hback : backB md ops = true) (htail : tailB md ops n = true) (hnn : n ≤ ops.size)
    (hQ : ∀ c a d v w, Q (.panic c) a w → Q (.panic c) (a.put d v) w) (hJ : ∀ it ∈ J, OkJ P md ops n it) (hp : PwJ J)
    (hend : ∀ listed a w, listed.size = ops.size → (∀ i, i < ops.size → listed.getD i false = decide (i < n)) → Kt a w → wpAny P md ops Q (ops.size - n) listed a w) :
    ∀ (f fM : Nat) (R : Nat → Option Nat) (listed listedX : Array Bool) (a : Act) (w : World),
      HeadInv md ops n listed → listedX.size = ops.size →
      (∀ i, i < ops.size → (listedX.getD i false = true ↔ (listed.getD i false = true ∨ (∃ it ∈ J, it.i = i) ∨ n ≤ i))) →
      (∀ it ∈ J, listed.getD it.i false = true ↔ ∃ r, R it.i = some r) →
      (∀ it ∈ J, ∀ r, R it.i = some r → base ≤ r ∧ r < w.heap.size ∧ Blk w r it.T it.zs) → (∀ x ∈ J, ∀ y ∈ J, x.i ≠ y.i → ∀ r, R x.i = some r → R y.i ≠ some r) →
      base ≤ w.heap.size → f = fM + cntJ R J → (∀ w', Ext w w' → wpAdv P md ops Q (endJ base Kt J []) fM listedX a w') →
      wpAny P md ops Q (f + (ops.size - n)) listed (putJ R J a) w := by
  intro f
  induction f with
  | zero =>
    intro fM R listed listedX a w inv hsx hrel hRl hRf hRd hbw hf hX
    have hs := inv.size
    have ht : ∀ t, n ≤ t → t < ops.size → listed.getD t false = false := fun t h1 h2 => getD_both (inv.tail t h1 h2)
    have hc : cntJ R J = 0 := by omega
    have hfm : fM = 0 := by omega
    subst hfm
    obtain ⟨hall, hk⟩ := hX w (Ext.refl w)
    have hsome := cntJ_none R J hc
    have hfin : ∀ i, i < ops.size → listed.getD i false = decide (i < n) := by
      intro i hi
      by_cases hin : i < n
      · rw [decide_eq_true hin]
        rcases (hrel i hi).1 (hall i hi) with h | ⟨it, hit, rfl⟩ | h
        · exact h
        · exact (hRl it hit).2 (hsome it hit)
        · omega
      · rw [decide_eq_false hin]; exact ht i (by omega) hi
    rw [Nat.zero_add]
    exact hend listed _ w hs hfin (endJ_use J [] a hp hsome (fun it hit r hr => ⟨(hRf it hit r hr).1, by simp, (hRf it hit r hr).2.2⟩) (fun x hx y hy hne he => by
      obtain ⟨r, hr⟩ := hsome x hx
      exact hRd x hx y hy hne r hr (by rw [← he]; exact hr)) hk)
  | succ f ih =>
    intro fM R listed listedX a w inv hsx hrel hRl hRf hRd hbw hf hX
    have hs := inv.size
    have ht : ∀ t, n ≤ t → t < ops.size → listed.getD t false = false := fun t h1 h2 => getD_both (inv.tail t h1 h2)
    by_cases hdone : ∀ i, i < n → listed.getD i false = true
    · -- all but the tail have come up
      have hsome : ∀ it ∈ J, ∃ r, R it.i = some r := fun it hit => (hRl it hit).1 (hdone it.i (hJ it hit).lt)
      have hall : allB ops listedX := fun i hi => (hrel i hi).2 (by
        by_cases hin : i < n
        · exact Or.inl (hdone i hin)
        · exact Or.inr (Or.inr (by omega)))
      have hk : endJ base Kt J [] a w := by
        have := hX w (Ext.refl w)
        cases fM with
        | zero => exact this.2
        | succ g => exact this.1 hall
      have hfin : ∀ i, i < ops.size → listed.getD i false = decide (i < n) := by
        intro i hi
        by_cases hin : i < n
        · rw [decide_eq_true hin]; exact hdone i hin
        · rw [decide_eq_false hin]; exact ht i (by omega) hi
      exact wpAny_add (f + 1) (hend listed _ w hs hfin (endJ_use J [] a hp hsome (fun it hit r hr => ⟨(hRf it hit r hr).1, by simp, (hRf it hit r hr).2.2⟩) (fun x hx y hy hne he => by
        obtain ⟨r, hr⟩ := hsome x hx
        exact hRd x hx y hy hne r hr (by rw [← he]; exact hr)) hk))
    · have hun : ∃ i, i < n ∧ listed.getD i false = false := by
        apply Classical.byContradiction
        intro hno
        exact hdone (fun i hi => Classical.byContradiction fun hl => hno ⟨i, hi, by simpa using hl⟩)
      obtain ⟨u, hun1, hun2⟩ := hun
      rw [show f + 1 + (ops.size - n) = (f + (ops.size - n)) + 1 by omega]
      refine ⟨fun h0 => absurd h0 (some_ready hback hs u u (Nat.le_refl _) (by omega) hun2), fun i hi => ?_⟩
      obtain ⟨hiu, oi, hoi, hall⟩ := mem_ready.1 hi
      have his : i < ops.size := (Array.getElem?_eq_some_iff.1 hoi).1
      have hin : i < n := tail_head htail hnn inv hun1 hun2 hi
      by_cases hiJ : ∃ it ∈ J, it.i = i
      · obtain ⟨it, hit, rfl⟩ := hiJ
        obtain ⟨o, ho, hod, how, hoa, hor⟩ := (hJ it hit).op
        have : o = oi := Option.some.inj (ho.symm.trans hoi)
        subst this
        have hRn : R it.i = none := by
          cases hr : R it.i with
          | none => rfl
          | some r =>
            have := (hRl it hit).2 ⟨r, hr⟩
            rw [getD_both hiu] at this
            cases this
        have hcn := cntJ_upd (R := R) w.heap.size J hp hit hRn
        unfold wpOp
        simp only [ho]
        rw [if_pos (how _)]
        refine .inl ?_
        unfold Oper.wp
        rw [hor]
        simp only [Oper.upon, hod]
        rw [← putJ_upd w.heap.size J a hp hit hRn]
        have hE : Ext w (w.alloc (.cells it.zs it.T)) := Ext.allocR w _
        refine ih fM (upd R it.i w.heap.size) (listed.setIfInBounds it.i true) listedX a _ (inv.set hi hin) hsx ?_ ?_ ?_ ?_ (Nat.le_trans hbw hE.size) (by omega) (fun w' hx => hX w' (hE.trans hx))
        · intro k hk
          rw [hrel k hk]
          by_cases hki : k = it.i
          · subst hki
            exact ⟨fun _ => Or.inr (Or.inl ⟨it, hit, rfl⟩), fun _ => Or.inr (Or.inl ⟨it, hit, rfl⟩)⟩
          · rw [getD_set_ne false (Ne.symm hki)]
        · intro x hx
          by_cases hxi : x.i = it.i
          · rw [hxi, upd_same]
            exact ⟨fun _ => ⟨_, rfl⟩, fun _ => by simp [hs, his]⟩
          · rw [getD_set_ne false (Ne.symm hxi), upd_ne R _ hxi]
            exact hRl x hx
        · intro x hx r hr
          by_cases hxi : x.i = it.i
          · have hxe : x = it := by
              apply Classical.byContradiction
              intro hne
              have key : ∀ (L : List AJ), PwJ L → x ∈ L → it ∈ L → False := by
                intro L
                induction L with
                | nil => intro _ h _; cases h
                | cons y L ihL =>
                  intro hpl h1 h2
                  obtain ⟨g1, g2⟩ := List.pairwise_cons.1 hpl
                  rcases List.mem_cons.1 h1 with k1 | k1 <;> rcases List.mem_cons.1 h2 with k2 | k2
                  · exact hne (k1.trans k2.symm)
                  · rw [← k1] at g1; exact (g1 it k2).1 hxi
                  · rw [← k2] at g1; exact (g1 x k1).1 hxi.symm
                  · exact ihL g2 k1 k2
              exact key J hp hx hit
            subst hxe
            rw [upd_same] at hr
            injection hr with hr
            subst hr
            exact ⟨hbw, by simp, Blk.new_ _ _ rfl⟩
          · rw [upd_ne R _ hxi] at hr
            obtain ⟨g1, g2, g3⟩ := hRf x hx r hr
            exact ⟨g1, by simp; omega, g3.alloc _⟩
        · intro x hx y hy hxy r hr
          by_cases hxi : x.i = it.i
          · rw [hxi, upd_same] at hr
            injection hr with hr
            subst hr
            rw [upd_ne R _ (fun h => hxy (hxi.trans h.symm))]
            intro hc
            have := (hRf y hy _ hc).2.1
            omega
          · rw [upd_ne R _ hxi] at hr
            by_cases hyi : y.i = it.i
            · rw [hyi, upd_same]
              intro hc
              injection hc with hc
              have := (hRf x hx r hr).2.1
              omega
            · rw [upd_ne R _ hyi]
              exact hRd x hx y hy hxy r hr
      · -- one of the others
        have hXu : listedX.getD i false = false := by
          cases h : listedX.getD i false with
          | false => rfl
          | true =>
            rcases (hrel i his).1 h with h1 | h1 | h1
            · rw [getD_both hiu] at h1; cases h1
            · exact absurd h1 hiJ
            · omega
        have hrX : i ∈ Region.ready md ops listedX := by
          rw [mem_ready]
          refine ⟨getD_in (by omega) hXu, oi, hoi, fun e he hb => ?_⟩
          have h1 := hall e he hb
          have hes : e.on < ops.size := by
            rw [← hs]
            rcases Nat.lt_or_ge e.on listed.size with h | h
            · exact h
            · simp [Array.getElem?_eq_none h] at h1
          exact (hrel e.on hes).2 (Or.inl h1)
        cases fM with
        | zero =>
          have := (hX w (Ext.refl w)).1 i his
          rw [hXu] at this
          cases this
        | succ g =>
          have h1 := (hX w (Ext.refl w)).2 i hrX
          have h2 := wpOp_putJ hoi (fun cs b => Region.noSelect_spec hsel i oi cs b hoi) hQ R J _ a w (fun it hit => (hJ it hit).ap i oi hoi (fun h => hiJ ⟨it, hit, h.symm⟩) hin) h1
          refine wpOp_mono (fun a' w' h' => ?_) h2
          obtain ⟨b, rfl, hE, hK⟩ := h'
          refine ih g R (listed.setIfInBounds i true) (listedX.setIfInBounds i true) b w' (inv.set hi hin) (by simp [hsx]) ?_ ?_ ?_ hRd (Nat.le_trans hbw hE.size) (by omega) hK
          · intro k hk
            by_cases hki : k = i
            · subst hki
              exact ⟨fun _ => Or.inl (by simp [hs, his]), fun _ => by simp [hsx, his]⟩
            · rw [getD_set_ne false (Ne.symm hki), getD_set_ne false (Ne.symm hki)]
              exact hrel k hk
          · intro it hit
            rw [getD_set_ne false (fun h => hiJ ⟨it, hit, h.symm⟩)]
            exact hRl it hit
          · intro it hit r hr
            obtain ⟨g1, g2, g3⟩ := hRf it hit r hr
            exact ⟨g1, Nat.lt_of_lt_of_le g2 hE.size, g3.below hE⟩

def maskB (m n : Nat) : Array Bool := ((List.range m).map fun i => decide (i < n)).toArray
def maskX (m n : Nat) (J : List Nat) : Array Bool := ((List.range m).map fun i => J.contains i || decide (n ≤ i)).toArray
/-- All that is asked of the region itself. -/
def advB (md : Region.Mode) (ops : Array Oper) (n : Nat) (J : List (Nat × Tmp)) (is : List (Nat × Bool)) : Bool :=
  Region.noSelect ops && backB md ops && tailB md ops n && decide (n ≤ ops.size ∧ is.length + J.length = n) && Region.seqB md ops (ops.size - n) n (maskB ops.size n) && seqOk md ops is (maskX ops.size n (J.map (·.1))) &&
    J.all fun x => decide (x.1 < n) && (match ops[x.1]? with | some o => o.guard.isNone && o.dst == some x.2 && o.after.all (fun e => !Region.binds md e) | none => false) &&
      (List.range n).all fun j => j == x.1 || match ops[j]? with | some oj => !(oj.looksAt ops).contains x.2 && oj.dst != some x.2 | none => true
def pwB : List (Nat × Tmp) → Bool
  | [] => true
  | x :: J => (J.all fun y => x.1 != y.1 && x.2 != y.2) && pwB J
theorem pw_of : ∀ (J : List AJ), pwB (J.map fun x => (x.i, x.d)) = true → PwJ J
  | [], _ => List.Pairwise.nil
  | x :: J, h => by
    simp only [List.map_cons, pwB, Bool.and_eq_true, List.all_eq_true] at h
    refine List.pairwise_cons.2 ⟨fun y hy => ?_, pw_of J h.2⟩
    have := h.1 (y.i, y.d) (List.mem_map.2 ⟨y, hy, rfl⟩)
    simpa using this
theorem maskB_get (m n i : Nat) (hi : i < m) : (maskB m n).getD i false = decide (i < n) := by simp [maskB, hi]
theorem maskX_get (m n i : Nat) (J : List Nat) (hi : i < m) : (maskX m n J).getD i false = (J.contains i || decide (n ≤ i)) := by simp [maskX, hi]
theorem wanted_none {o : Oper} (h : o.guard = none) (y : Nat → Option Bool) : Region.wanted o y = true := by simp [Region.wanted, h]

/-- A region that draws its order: its operations in one order, with whatever new blocks come up between; its own new blocks; its tail. -/
theorem wp_region_adv {id : Nat} {Q : Exit → Act → World → Prop} {a : Act} {w : World} {l : List Oper} (n : Nat) (J : List AJ) (is : List (Nat × Bool)) (hm : P.follows .mixedOrders = true)
    (hB : advB .any l.toArray n (J.map fun x => (x.i, x.d)) is = true) (hpw : pwB (J.map fun x => (x.i, x.d)) = true)
    (hJ : ∀ it ∈ J, ∀ o, l.toArray[it.i]? = some o → ∀ (ev : Operand → Value) (w : World), (execOp ev o).run P w = .ok (.value (ptr w.heap.size)) (w.alloc (.cells it.zs it.T)))
    (hQ0 : ∀ c a (d : Tmp) v w, Q (.panic c) (a.put (some d) v) w ↔ Q (.panic c) a w) {W0 : World} (hW0 : Ext W0 w.drew)
    (h : wpSeq P l.toArray Q (Ext W0) (endJ w.heap.size (fun a' w' => wpList P l.toArray Q (l.drop n) a' w') J []) is a w.drew) : (Code.region id l.toArray true).wp P Q a w := by
  have hQ : ∀ c a d v w, Q (.panic c) (a.put d v) w ↔ Q (.panic c) a w := fun c a d v w => by
    cases d with
    | none => exact Iff.rfl
    | some d => exact hQ0 c a d v w
  have hp := pw_of J hpw
  simp only [advB, Bool.and_eq_true, decide_eq_true_eq] at hB
  obtain ⟨⟨⟨⟨⟨⟨hsel, hback⟩, htail⟩, hnn, hlen⟩, hseq⟩, hok⟩, hj⟩ := hB
  rw [List.length_map] at hlen
  rw [List.map_map] at hok
  have hOk : ∀ it ∈ J, OkJ P .any l.toArray n it := by
    intro it hit
    have h1 := List.all_eq_true.1 hj (it.i, it.d) (List.mem_map.2 ⟨it, hit, rfl⟩)
    simp only [Bool.and_eq_true, decide_eq_true_eq] at h1
    obtain ⟨⟨h1, h2⟩, h3⟩ := h1
    cases ho : l.toArray[it.i]? with
    | none => rw [ho] at h2; simp at h2
    | some o =>
      rw [ho] at h2
      simp only [Bool.and_eq_true, Option.isNone_iff_eq_none, beq_iff_eq] at h2
      refine ⟨h1, ⟨o, ho, h2.1.2, wanted_none h2.1.1, fun e he hb => ?_, hJ it hit o ho⟩, fun j oj hoj hji hjn => ?_⟩
      · have := Array.all_eq_true_iff_forall_mem.1 h2.2 e he
        rw [hb] at this
        cases this
      · have h4 := List.all_eq_true.1 h3 j (List.mem_range.2 hjn)
        rw [hoj] at h4
        simp only [Bool.or_eq_true, beq_iff_eq, Bool.and_eq_true, bne_iff_ne, ne_eq] at h4
        rcases h4 with h4 | h4
        · exact absurd h4 hji
        · exact ⟨by simpa using h4.1, h4.2⟩
  have hA := wpAdv_of_seq (P := P) (md := .any) (K := endJ w.heap.size (fun a' w' => wpList P l.toArray Q (l.drop n) a' w') J []) hsel (fun c a d v w h => (hQ c a d v w).1 h) (S := Ext W0) (fun w1 w2 h1 h2 => h1.trans h2)
    is (maskX l.toArray.size n (J.map (·.i))) a
  refine wp_region_any hm ?_
  have hend : ∀ (listed : Array Bool) (a : Act) (w : World), listed.size = l.toArray.size → (∀ i, i < l.toArray.size → listed.getD i false = decide (i < n)) → wpList P l.toArray Q (l.drop n) a w → wpAny P .any l.toArray Q (l.toArray.size - n) listed a w := by
    intro listed a w hs hfin hk
    have he : listed = maskB l.toArray.size n := by
      apply Array.ext
      · rw [hs]; simp [maskB]
      · intro i h1 h2
        have h3 : listed[i] = decide (i < n) := by have := hfin i (by omega); simpa [h1] using this
        rw [h3]; simp [maskB]
    have hdl : (l.drop n).length = l.toArray.size - n := by simp
    have := wpAny_of_seq (md := .any) (Q' := Q) (l.drop n) n listed a w (fun j => by simp [List.getElem?_drop]) (by rw [hdl, he]; exact hseq) hk
    rwa [hdl] at this
  have hcnt : ∀ (L : List AJ), cntJ (fun _ => none) L = L.length := by
    intro L
    induction L with
    | nil => rfl
    | cons x L ih => unfold cntJ; rw [ih]; simp only [List.length_cons]; omega
  have hput : ∀ (L : List AJ) (a : Act), putJ (fun _ => none) L a = a := by
    intro L
    induction L with
    | nil => intro _; rfl
    | cons x L ih => intro a; exact ih a
  have hmain := adv_main (md := .any) (Kt := fun a' w' => wpList P l.toArray Q (l.drop n) a' w') (base := w.heap.size) hsel hback htail hnn (fun c a d v w h => (hQ c a d v w).2 h) hOk hp hend (is.length + J.length) is.length (fun _ => none)
    (Array.replicate l.toArray.size false) (maskX l.toArray.size n (J.map (·.i))) a w.drew ⟨by simp, fun j oj _ hl => (by rw [getD_replicate_false] at hl; cases hl), fun t _ ht => getD_in (by simpa using ht) (getD_replicate_false _ _)⟩ (by simp [maskX])
    (fun i hi => by
      rw [maskX_get _ _ _ _ hi, getD_replicate_false]
      simp only [Bool.or_eq_true, decide_eq_true_eq, List.contains_iff_mem, List.mem_map]
      simp) (fun it hit => by rw [getD_replicate_false]; simp) (fun it hit r hr => by cases hr) (fun x hx y hy hne r hr => by cases hr) (Nat.le_refl _) (by rw [hcnt])
    (fun w' hx => hA w' hok (hW0.trans hx) (wpSeq_ext is _ _ _ h hx))
  rw [hput] at hmain
  rw [show is.length + J.length + (l.toArray.size - n) = l.toArray.size by omega] at hmain
  exact hmain

/-- One operation that may be taken first. -/
theorem wpSeq_pure {K : Act → World → Prop} {i : Nat} {is : List (Nat × Bool)} {a : Act} {w : World} {oi : Oper} {v : Value} (hi : ops[i]? = some oi) (hw : Region.wanted oi (yielded ops a.tmps) = true)
    (hy : ∀ w, S w → (execOp a.eval oi).run P w = .ok (.value v) w) (h : wpSeq P ops Q S K is (a.put oi.dst v) w) : wpSeq P ops Q S K ((i, true) :: is) a w := ⟨oi, v, hi, Or.inl ⟨hw, hy⟩, h⟩
/-- One that is not wanted. -/
theorem wpSeq_off {K : Act → World → Prop} {i : Nat} {is : List (Nat × Bool)} {a : Act} {w : World} {oi : Oper} (hi : ops[i]? = some oi) (hw : Region.wanted oi (yielded ops a.tmps) = false)
    (h : wpSeq P ops Q S K is (a.put oi.dst undef) w) : wpSeq P ops Q S K ((i, true) :: is) a w := ⟨oi, undef, hi, Or.inr ⟨hw, rfl⟩, h⟩
/-- A call, or what makes a block. -/
theorem wpSeq_step {K : Act → World → Prop} {i : Nat} {is : List (Nat × Bool)} {a : Act} {w : World} {o : Oper} (hi : ops[i]? = some o)
    (h : ∀ w', Ext w w' → S w' → ∀ K' : Act → World → Prop, Shut (∀ a' w'', Ext w' w'' → wpSeq P ops Q S K is a' w'' → K' a' w'') → if Region.wanted o (yielded ops a.tmps) = true then Oper.wp P o a w' K' Q else K' (a.put o.dst undef) w') :
    wpSeq P ops Q S K ((i, false) :: is) a w := fun w' hx hS => wpOp_step hi fun K' hK => h w' hx hS K' fun a' w'' h1 h2 => hK a' w'' ⟨h1, h2⟩
end
end Go.Proofs.Tb

