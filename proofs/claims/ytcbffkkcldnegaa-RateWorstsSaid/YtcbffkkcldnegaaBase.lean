/- Words on memory and small laws on them that all texts of this seat use: a slice that reads as a list of values, worlds that only grow, regions whose stores go to one block. No statement of the program stands here. -/
import Derived.WalkKit
import Derived.Handy
import Derived.Laws.OwnMore
import Derived.Deep.AppendLies
import Derived.Deep.Draws
import Derived.Deep.RegionHeld3
import Derived.Deep.QuietTactic
import Derived.BigQuiet
import Derived.Lib.Hide
import Derived.WalkSpells
import Derived.Deep.DeepFit
import Derived.Deep.DeepMust
import Derived.Maps.AppendAt
import Derived.Deep.LoopGhost
import Derived.Deep.DrawnRows
set_option linter.unusedVariables false
set_option linter.unusedSimpArgs false
namespace Go.Proofs.Tb
open Go.RowKit

/-- What a call ends in: it returns a value of which Phi holds in the world behind it; all that was there is as it was. -/
def Ret (Phi : Value → World → Prop) (w : World) (e : Ending) (w' : World) : Prop := ∃ v, e = .returned v ∧ Phi v w' ∧ Below w.heap.size w w'

theorem Ret.imp {Phi Psi : Value → World → Prop} {w w' : World} {e : Ending} (h : Ret Phi w e w') (hi : ∀ v w', Phi v w' → Psi v w') : Ret Psi w e w' := by
  obtain ⟨v, he, hp, hb⟩ := h
  exact ⟨v, he, hi _ _ hp, hb⟩

theorem bt {a b c : World} (h : Below a.heap.size a b) (k : Below b.heap.size b c) : Below a.heap.size a c := h.trans (k.mono h.size)
theorem below_drewN {a w : World} (h : Below a.heap.size a w) (n : Nat) : Below a.heap.size a (w.drewN n) := ⟨h.os, h.tape, h.output, h.size, h.block⟩

theorem quiet_add_same {P : Program} {f : FuncId} {args : Array Value} {w : World} {a n : Nat} {v : Value}
    (h : Calls P f args (w.drewN (a + n)) fun e w' => e = .returned v ∧ w' = w.drewN (a + n)) :
    Calls P f args (w.drewN (a + n)) fun e w'' => e = .returned v ∧ ∃ m, w'' = w.drewN (a + m) :=
  h.mono fun _ _ ⟨he, hm⟩ => ⟨he, n, hm⟩
/-- w has all that a has, as it was: the name keeps it whole where the walk rewrites. -/
def Ext (a w : World) : Prop := Below a.heap.size a w
theorem Ext.refl (a : World) : Ext a a := Below.refl _ _
theorem Ext.drew (a : World) : Ext a a.drew := (Below.refl _ _).drew

/-- The slice '.slice A n c' reads as the values xs (one cell each); its array's elements are of type T. -/
structure Sl (T : TypeId) (w : World) (A : Option Addr) (n c : Nat) (xs : List Value) : Prop where
  len : xs.length = n
  le : n ≤ c
  cap : c ≤ 9223372036854775807
  at_ : 0 < n → ∃ b o, A = some ⟨b, o, none⟩ ∧ (∃ cs fr, w.heap[b]? = some (.cells cs T fr)) ∧ ∀ j, j < n → w.cell? ⟨b, o + j, none⟩ = some (xs.getD j undef)
def SL (T : TypeId) (w : World) (v : Value) (xs : List Value) : Prop := ∃ A n c, v = .slice A n c ∧ Sl T w A n c xs
section
variable {T : TypeId} {w w' W0 : World} {A : Option Addr} {n c : Nat} {xs : List Value} {v : Value}
theorem Sl.toSL (h : Sl T w A n c xs) : SL T w (.slice A n c) xs := ⟨A, n, c, rfl, h⟩
/-- What keeps every block of element type T keeps the slice. -/
theorem Sl.keep (h : Sl T w A n c xs) (hk : ∀ (b : Nat) (cs : Array Value) (fr : Nat × Nat), w.heap[b]? = some (Obj.cells cs T fr) → w'.heap[b]? = w.heap[b]?) : Sl T w' A n c xs := by
  refine ⟨h.len, h.le, h.cap, fun hn => ?_⟩
  obtain ⟨b, o, hA, ⟨cs, fr, hT⟩, hc⟩ := h.at_ hn
  have hb := hk b cs fr hT
  refine ⟨b, o, hA, ⟨cs, fr, hb.trans hT⟩, fun j hj => ?_⟩
  rw [World.cell?_of_block (w := w) (a := ⟨b, o + j, none⟩) hb]
  exact hc j hj
theorem block_lt {b : Nat} {o : Obj} (h : w.heap[b]? = some o) : b < w.heap.size := by
  rcases Nat.lt_or_ge b w.heap.size with hlt | hge
  · exact hlt
  · rw [Array.getElem?_eq_none hge] at h; cases h
theorem Sl.below (h : Sl T w A n c xs) (hb : Below w.heap.size w w') : Sl T w' A n c xs := h.keep fun b _ _ hT => hb.block b (block_lt hT)
theorem SL.below (h : SL T w v xs) (hb : Below w.heap.size w w') : SL T w' v xs := by
  obtain ⟨A, n, c, hv, h⟩ := h
  exact ⟨A, n, c, hv, h.below hb⟩
theorem Sl.nil (T : TypeId) (w : World) : Sl T w none 0 0 [] := ⟨rfl, Nat.le_refl _, by omega, fun h => absurd h (by omega)⟩
theorem Sl.empty (T : TypeId) (w : World) (A : Option Addr) (c : Nat) (hc : c ≤ 9223372036854775807) : Sl T w A 0 c [] := ⟨rfl, by omega, hc, fun h => absurd h (by omega)⟩
/-- A slice cut at its end. -/
theorem Sl.take (h : Sl T w A n c xs) {k : Nat} (hk : k ≤ n) : Sl T w A k c (xs.take k) := by
  have hl := h.len
  have hle := h.le
  refine ⟨by simp; omega, by omega, h.cap, fun h0 => ?_⟩
  obtain ⟨b, o, hA, hT, hc⟩ := h.at_ (by omega)
  refine ⟨b, o, hA, hT, fun j hj => ?_⟩
  rw [hc j (by omega)]
  simp [List.getD, hj]
theorem Sl.of_own {base : Nat} (h : w.ownsRow base T 1 v n xs) : SL T w v xs := by
  obtain ⟨hl, h2⟩ := h
  rcases h2 with ⟨rfl, rfl⟩ | ⟨g, cap, cur, rfl, _, hh, hn, hm, hs, ht⟩
  · have : xs = [] := List.eq_nil_of_length_eq_zero (by simpa using hl)
    subst this
    exact ⟨_, _, _, rfl, Sl.nil T w⟩
  · refine ⟨_, _, _, rfl, ⟨by simpa using hl, hn, by simpa [maxLen] using hm, fun h0 => ⟨g, 0, rfl, ⟨_, _, hh⟩, fun j hj => ?_⟩⟩⟩
    have h1 : cur.size = cap := by simpa using hs
    rw [Nat.zero_add, cell_of_row w g j cur T (0, 0) hh, ← ht]
    have h2 : j < cur.size := by omega
    simp [List.getD, hj, h2]
end

/-- W is W0 with new blocks, and with writes to block R alone, which is k cells of element type T that may be written. -/
structure Held (R k : Nat) (T : TypeId) (W0 w : World) : Prop where
  g : W0.grownBy w (some R)
  r0 : ∃ cs, W0.heap[R]? = some (.cells cs T (0,0)) ∧ cs.size = k
  r : ∃ cs, w.heap[R]? = some (.cells cs T (0,0)) ∧ cs.size = k
section
variable {R k : Nat} {T T' : TypeId} {w w' W0 W1 : World}
theorem Held.lt (h : Held R k T W0 w) : R < w.heap.size := by
  obtain ⟨cs, h, _⟩ := h.r
  exact block_lt h
theorem Held.lt0 (h : Held R k T W0 w) : R < W0.heap.size := by
  obtain ⟨cs, h, _⟩ := h.r0
  exact block_lt h
theorem Held.some (h : Held R k T W0 w) {j : Nat} (hj : j < k) : ∃ u, w.cell? ⟨R, j, none⟩ = some u := by
  obtain ⟨cs, h, hs⟩ := h.r
  refine ⟨cs[j]'(by omega), ?_⟩
  simp [World.cell?, h]
theorem Held.free (h : Held R k T W0 w) (j : Nat) : w.frozen? ⟨R, j, none⟩ = false := by
  obtain ⟨cs, h, hs⟩ := h.r
  simp [World.frozen?, h]
theorem Held.trans_ (h : Held R k T W0 w) (hb : Below w.heap.size w w') : Held R k T W0 w' := by
  refine ⟨⟨hb.os.trans h.g.os, hb.tape.trans h.g.tape, hb.output.trans h.g.output, Nat.le_trans h.g.size hb.size, fun i hi hn => (hb.block i (Nat.lt_of_lt_of_le hi h.g.size)).trans (h.g.block i hi hn)⟩, h.r0, ?_⟩
  obtain ⟨cs, h1, hs⟩ := h.r
  exact ⟨cs, (hb.block R h.lt).trans h1, hs⟩
theorem Held.alloc (h : Held R k T W0 w) (o : Obj) : Held R k T W0 (w.alloc o) :=
  h.trans_ ((Below.refl _ _).alloc (Nat.le_refl _) o)
theorem Held.drewN (h : Held R k T W0 w) (n : Nat) : Held R k T W0 (w.drewN n) := ⟨⟨h.g.os, h.g.tape, h.g.output, h.g.size, h.g.block⟩, h.r0, h.r⟩
theorem Held.drew (h : Held R k T W0 w) : Held R k T W0 w.drew := ⟨⟨h.g.os, h.g.tape, h.g.output, h.g.size, h.g.block⟩, h.r0, h.r⟩
theorem Held.set_ (h : Held R k T W0 w) (j : Nat) (v : Value) : Held R k T W0 (w.setCell ⟨R, j, none⟩ v) := by
  refine ⟨⟨h.g.os, h.g.tape, h.g.output, by simpa using h.g.size, fun i hi hn => ?_⟩, h.r0, ?_⟩
  · rw [Below.heap_setCell _ _ _ _ (fun e => hn (by rw [e]))]
    exact h.g.block i hi hn
  · obtain ⟨cs, h1, hs⟩ := h.r
    refine ⟨cs.setIfInBounds j v, ?_, by simpa using hs⟩
    simp [World.setCell, Array.getElem?_modify, h1]
/-- From where it stands. -/
theorem Held.here (h : Held R k T W0 w) : Held R k T w w := ⟨⟨rfl, rfl, rfl, Nat.le_refl _, fun _ _ _ => rfl⟩, h.r, h.r⟩
theorem Held.trans2 (h : Held R k T W0 w) (h' : Held R k T w w') : Held R k T W0 w' :=
  ⟨⟨h'.g.os.trans h.g.os, h'.g.tape.trans h.g.tape, h'.g.output.trans h.g.output, Nat.le_trans h.g.size h'.g.size, fun i hi hn => (h'.g.block i (Nat.lt_of_lt_of_le hi h.g.size) hn).trans (h.g.block i hi hn)⟩, h.r0, h'.r⟩
theorem Held.below (h : Held R k T W0 w') (hb : Below w.heap.size w W0) (hR : w.heap.size ≤ R) : Below w.heap.size w w' :=
  ⟨h.g.os.trans hb.os, h.g.tape.trans hb.tape, h.g.output.trans hb.output, Nat.le_trans hb.size h.g.size, fun i hi => (h.g.block i (Nat.lt_of_lt_of_le hi hb.size) (fun e => by injection e; omega)).trans (hb.block i hi)⟩
/-- Blocks of another element type are kept. -/
theorem Held.other (h : Held R k T' W0 w) (hne : T ≠ T') {b : Nat} {cs : Array Value} {fr : Nat × Nat} (hb : W0.heap[b]? = .some (.cells cs T fr)) : w.heap[b]? = W0.heap[b]? := by
  refine h.g.block b (block_lt hb) (fun e => ?_)
  injection e with e
  subst e
  obtain ⟨cs', h1, _⟩ := h.r0
  rw [h1] at hb
  injection hb with hb
  injection hb with _ h2
  exact hne h2.symm
theorem Sl.held {A : Option Addr} {n c : Nat} {xs : List Value} (h : Sl T W0 A n c xs) (hh : Held R k T' W0 w) (hne : T ≠ T') : Sl T w A n c xs := h.keep fun _ _ _ hT => hh.other hne hT
theorem SL.held {v : Value} {xs : List Value} (h : SL T W0 v xs) (hh : Held R k T' W0 w) (hne : T ≠ T') : SL T w v xs := by
  obtain ⟨A, n, c, hv, h⟩ := h
  exact ⟨A, n, c, hv, h.held hh hne⟩
end

/-- As Held, with several blocks that may be written: their numbers, sizes and element types. -/
structure HeldM (Rs : List (Nat × Nat × TypeId)) (W0 w : World) : Prop where
  os : w.os = W0.os
  tape : w.tape = W0.tape
  output : w.output = W0.output
  size : W0.heap.size ≤ w.heap.size
  block : ∀ i, i < W0.heap.size → (∀ r, r ∈ Rs → i ≠ r.1) → w.heap[i]? = W0.heap[i]?
  r0 : ∀ r, r ∈ Rs → ∃ cs, W0.heap[r.1]? = some (.cells cs r.2.2 (0,0)) ∧ cs.size = r.2.1
  r : ∀ r, r ∈ Rs → ∃ cs, w.heap[r.1]? = some (.cells cs r.2.2 (0,0)) ∧ cs.size = r.2.1
section
variable {Rs : List (Nat × Nat × TypeId)} {T : TypeId} {w w' W0 : World}
theorem HeldM.trans_ (h : HeldM Rs W0 w) (hb : Below w.heap.size w w') : HeldM Rs W0 w' := by
  refine ⟨hb.os.trans h.os, hb.tape.trans h.tape, hb.output.trans h.output, Nat.le_trans h.size hb.size, fun i hi hn => (hb.block i (Nat.lt_of_lt_of_le hi h.size)).trans (h.block i hi hn), h.r0, fun r hr => ?_⟩
  obtain ⟨cs, h1, hs⟩ := h.r r hr
  exact ⟨cs, (hb.block r.1 (block_lt h1)).trans h1, hs⟩
theorem HeldM.drew (h : HeldM Rs W0 w) : HeldM Rs W0 w.drew := ⟨h.os, h.tape, h.output, h.size, h.block, h.r0, h.r⟩
theorem HeldM.drewN (h : HeldM Rs W0 w) (n : Nat) : HeldM Rs W0 (w.drewN n) := ⟨h.os, h.tape, h.output, h.size, h.block, h.r0, h.r⟩
theorem HeldM.alloc (h : HeldM Rs W0 w) (o : Obj) : HeldM Rs W0 (w.alloc o) := h.trans_ ((Below.refl _ _).alloc (Nat.le_refl _) o)
theorem HeldM.set_ (h : HeldM Rs W0 w) {R : Nat} (hR : ∃ r, r ∈ Rs ∧ r.1 = R) (j : Nat) (v : Value) : HeldM Rs W0 (w.setCell ⟨R, j, none⟩ v) := by
  obtain ⟨q, hq, rfl⟩ := hR
  refine ⟨h.os, h.tape, h.output, by simpa using h.size, fun i hi hn => ?_, h.r0, fun r hr => ?_⟩
  · rw [Below.heap_setCell _ _ _ _ (fun e => hn q hq e)]
    exact h.block i hi hn
  · obtain ⟨cs, h1, hs⟩ := h.r r hr
    by_cases he : q.1 = r.1
    · refine ⟨cs.setIfInBounds j v, ?_, by simpa using hs⟩
      simp [World.setCell, Array.getElem?_modify, he, h1]
    · exact ⟨cs, by rw [Below.heap_setCell _ _ _ _ (fun e => he e.symm)]; exact h1, hs⟩
theorem HeldM.here (h : HeldM Rs W0 w) : HeldM Rs w w := ⟨rfl, rfl, rfl, Nat.le_refl _, fun _ _ _ => rfl, h.r, h.r⟩
theorem HeldM.trans2 (h : HeldM Rs W0 w) (h' : HeldM Rs w w') : HeldM Rs W0 w' :=
  ⟨h'.os.trans h.os, h'.tape.trans h.tape, h'.output.trans h.output, Nat.le_trans h.size h'.size, fun i hi hn => (h'.block i (Nat.lt_of_lt_of_le hi h.size) hn).trans (h.block i hi hn), h.r0, h'.r⟩
theorem HeldM.below (h : HeldM Rs W0 w') (hb : Below w.heap.size w W0) (hR : ∀ r, r ∈ Rs → w.heap.size ≤ r.1) : Below w.heap.size w w' :=
  ⟨h.os.trans hb.os, h.tape.trans hb.tape, h.output.trans hb.output, Nat.le_trans hb.size h.size, fun i hi => (h.block i (Nat.lt_of_lt_of_le hi hb.size) (fun r hr e => by have := hR r hr; omega)).trans (hb.block i hi)⟩
theorem HeldM.other (h : HeldM Rs W0 w) (hne : ∀ r, r ∈ Rs → T ≠ r.2.2) {b : Nat} {cs : Array Value} {fr : Nat × Nat} (hb : W0.heap[b]? = .some (.cells cs T fr)) : w.heap[b]? = W0.heap[b]? := by
  refine h.block b (block_lt hb) (fun r hr e => ?_)
  subst e
  obtain ⟨cs', h1, _⟩ := h.r0 r hr
  rw [h1] at hb
  injection hb with hb
  injection hb with _ h2
  exact hne r hr h2.symm
theorem Sl.heldM {A : Option Addr} {n c : Nat} {xs : List Value} (h : Sl T W0 A n c xs) (hh : HeldM Rs W0 w) (hne : ∀ r, r ∈ Rs → T ≠ r.2.2) : Sl T w A n c xs := h.keep fun _ _ _ hT => hh.other hne hT
end
theorem stored_ok {P : Program} {w : World} {a : Addr} {v : Value} {m : Mode} (h : (w.cell? a).isSome = true) (hf : w.frozen? a = false) : stored P w a v m = .ok () (w.setCell a v) := by
  obtain ⟨u, hu⟩ := Option.isSome_iff_exists.1 h
  simp [stored, hu, hf]
theorem isSome_setCell (w : World) (a b : Addr) (v : Value) : ((w.setCell a v).cell? b).isSome = (w.cell? b).isSome := by
  simp only [World.cell?, World.setCell, Array.getElem?_modify]
  by_cases h : a.block = b.block
  · rw [if_pos h]
    rcases hh : w.heap[b.block]? with _ | o
    · rfl
    · cases o with
      | cells c e f =>
        simp only [Option.map_some]
        by_cases h1 : b.spot.isSome = true
        · simp [h1]
        · by_cases h2 : a.spot.isSome = true
          · simp [h1, h2]
          · simp [h1, h2]
            by_cases h3 : b.off < c.size
            · simp [h3]
            · simp [h3]
      | _ => rfl
  · rw [if_neg h]
theorem cell_set_same {w : World} {a : Addr} {v : Value} (h : (w.cell? a).isSome = true) : (w.setCell a v).cell? a = some v := by
  obtain ⟨u, hu⟩ := Option.isSome_iff_exists.1 h
  exact World.cell?_setCell_same w a v hu

/-- The cells of block b from o on are cs. -/
def cellsAre (w : World) (b : Nat) : Nat → List Value → Prop
  | _, [] => True
  | o, v :: cs => w.cell? ⟨b, o, none⟩ = some v ∧ cellsAre w b (o + 1) cs
/-- Block g is just the cells cs of element type t; none is frozen. -/
def Blk (w : World) (g : Nat) (t : TypeId) (cs : Array Value) : Prop := w.heap[g]? = some (.cells cs t (0, 0))
theorem Blk.lt {w : World} {g : Nat} {t : TypeId} {cs : Array Value} (h : Blk w g t cs) : g < w.heap.size := by
  rcases Nat.lt_or_ge g w.heap.size with hlt | hge
  · exact hlt
  · unfold Blk at h; rw [Array.getElem?_eq_none hge] at h; cases h
theorem Blk.new_ {w : World} {g : Nat} (t : TypeId) (cs : Array Value) (h : w.heap.size = g) : Blk (w.alloc (.cells cs t)) g t cs := by subst h; exact heap_alloc_new w _
theorem Blk.alloc {w : World} {g : Nat} {t : TypeId} {cs : Array Value} (h : Blk w g t cs) (o : Obj) : Blk (w.alloc o) g t cs := (Below.heap_alloc w o g h.lt).trans h
theorem Blk.drew {w : World} {g : Nat} {t : TypeId} {cs : Array Value} (h : Blk w g t cs) : Blk w.drew g t cs := h
theorem Blk.drewN {w : World} {g : Nat} {t : TypeId} {cs : Array Value} (h : Blk w g t cs) (n : Nat) : Blk (w.drewN n) g t cs := h
theorem Blk.below {w w' : World} {g : Nat} {t : TypeId} {cs : Array Value} (h : Blk w g t cs) (hb : Below w.heap.size w w') : Blk w' g t cs := (hb.block g h.lt).trans h
theorem Blk.held {W0 w : World} {g R k : Nat} {t T : TypeId} {cs : Array Value} (h : Blk W0 g t cs) (hh : Held R k T W0 w) (hn : g ≠ R) : Blk w g t cs := (hh.g.block g h.lt (fun e => hn (by injection e))).trans h
theorem Blk.set_ {w : World} {g : Nat} {t : TypeId} {cs : Array Value} (h : Blk w g t cs) (i : Nat) (u : Value) : Blk (w.setCell ⟨g, i, none⟩ u) g t (cs.setIfInBounds i u) := by
  unfold Blk at h ⊢
  simp [World.setCell, Array.getElem?_modify, h]
theorem Blk.far {w : World} {g : Nat} {t : TypeId} {cs : Array Value} (h : Blk w g t cs) {p : Addr} (hp : g ≠ p.block) (u : Value) : Blk (w.setCell p u) g t cs := (Below.heap_setCell w p u g hp).trans h
theorem cellsAre_mk (w : World) (b : Nat) (cs : List Value) : ∀ (o : Nat), (∀ j, j < cs.length → w.cell? ⟨b, o + j, none⟩ = some (cs.getD j undef)) → cellsAre w b o cs := by
  induction cs with
  | nil => intro _ _; trivial
  | cons v cs ih =>
    intro o h
    refine ⟨by simpa using h 0 (by simp), ih (o + 1) (fun j hj => ?_)⟩
    have h1 := h (j + 1) (by simp; omega)
    rw [show o + 1 + j = o + (j + 1) by omega, h1]
    simp
theorem Blk.cells {w : World} {g : Nat} {t : TypeId} {cs : Array Value} (h : Blk w g t cs) : cellsAre w g 0 cs.toList := by
  refine cellsAre_mk w g cs.toList 0 (fun j hj => ?_)
  have h' : w.heap[g]? = some (.cells cs t (0, 0)) := h
  have hj' : j < cs.size := by simpa using hj
  simp [World.cell?, h', List.getD, hj']
theorem Blk.free {w : World} {g : Nat} {t : TypeId} {cs : Array Value} (h : Blk w g t cs) (j : Nat) : w.frozen? ⟨g, j, none⟩ = false := by
  have h' : w.heap[g]? = some (.cells cs t (0, 0)) := h
  simp [World.frozen?, h']
theorem Blk.heldS {w : World} {g : Nat} {t : TypeId} {cs : Array Value} (h : Blk w g t cs) : Held g cs.size t w w := ⟨⟨rfl, rfl, rfl, Nat.le_refl _, fun _ _ _ => rfl⟩, ⟨cs, h, rfl⟩, ⟨cs, h, rfl⟩⟩
/-- What cell j of block R holds. -/
def cnt (w : World) (R j : Nat) : Value := (w.cell? ⟨R, j, none⟩).getD undef
/-- The rules of a region whose stores go to block R alone. -/
structure Rules (R k : Nat) (T : TypeId) (W0 : World) : Prop where
  some : ∀ w', Held R k T W0 w' → ∀ j, j < k → w'.cell? ⟨R, j, none⟩ = some (cnt w' R j)
  free : ∀ w', Held R k T W0 w' → ∀ j, w'.frozen? ⟨R, j, none⟩ = false
theorem rules (R k : Nat) (T : TypeId) (W0 : World) : Rules R k T W0 :=
  ⟨fun _ hh _ hj => by obtain ⟨u, hu⟩ := hh.some hj; unfold cnt; rw [hu]; rfl, fun _ hh j => hh.free j⟩
theorem rulesM_cell (Rs : List (Nat × Nat × TypeId)) (W0 : World) (R k : Nat) (T : TypeId) (hr : (R, k, T) ∈ Rs) : ∀ w', HeldM Rs W0 w' → ∀ j, j < k → w'.cell? ⟨R, j, none⟩ = some (cnt w' R j) := fun w' hh j hj => by
  obtain ⟨cs, h, hs⟩ := hh.r _ hr
  have hj' : j < cs.size := by simpa [hs] using hj
  have : w'.cell? ⟨R, j, none⟩ = some (cs[j]'hj') := by simp [World.cell?, h]
  unfold cnt; rw [this]; rfl
theorem rulesM_free (Rs : List (Nat × Nat × TypeId)) (W0 : World) (R k : Nat) (T : TypeId) (hr : (R, k, T) ∈ Rs) : ∀ w', HeldM Rs W0 w' → ∀ j, w'.frozen? ⟨R, j, none⟩ = false := fun w' hh j => by
  obtain ⟨cs, h, hs⟩ := hh.r _ hr
  simp [World.frozen?, h]
theorem Blk.heldM {Rs : List (Nat × Nat × TypeId)} {W0 w : World} {g : Nat} {t : TypeId} {cs : Array Value} (h : Blk W0 g t cs) (hh : HeldM Rs W0 w) (hn : ∀ r, r ∈ Rs → g ≠ r.1) : Blk w g t cs := (hh.block g h.lt hn).trans h
/-- The world of a goal under a name, with what is known of it. -/
theorem wp_world {P : Program} {c : Code} {Q : Exit → Act → World → Prop} {a : Act} {W : World} (F : World → Prop) (hF : F W) (h : ∀ W0 : World, F W0 → c.wp P Q a W0) : c.wp P Q a W := h W hF
attribute [go_sem] isSome_setCell
end Go.Proofs.Tb
