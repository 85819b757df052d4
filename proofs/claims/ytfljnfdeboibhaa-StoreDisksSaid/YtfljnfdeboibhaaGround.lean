/- Words on memory and small laws on them that all texts of this seat use: a slice that reads as a list of values, worlds that only grow, regions whose stores go to one block. No statement of the program stands here. (With what follows it, in one text.) -/
import Derived.WalkKit
import Derived.Handy
import Derived.Laws.OwnMore
import Derived.Deep.AppendLies
import Derived.Deep.Draws
import Derived.Deep.RegionHeld3
import Derived.Deep.QuietTactic
import Derived.BigQuiet
import Derived.Lib.Hide
import Derived.WalkSpells
import Derived.Deep.DeepFit
import Derived.Deep.DeepMust
import Derived.Maps.AppendAt
import Derived.Deep.LoopGhost
import Derived.Deep.DrawnRows
set_option linter.unusedVariables false
set_option linter.unusedSimpArgs false
/- Words on memory and small laws on them that all texts of this seat use: a slice that reads as a list of values, worlds that only grow, regions whose stores go to one block. No statement of the program stands here. -/
namespace Go.Proofs.Tb
open Go.RowKit

/-- What a call ends in: it returns a value of which Phi holds in the world behind it; all that was there is as it was. -/
def Ret (Phi : Value → World → Prop) (w : World) (e : Ending) (w' : World) : Prop := ∃ v, e = .returned v ∧ Phi v w' ∧ Below w.heap.size w w'

theorem Ret.imp {Phi Psi : Value → World → Prop} {w w' : World} {e : Ending} (h : Ret Phi w e w') (hi : ∀ v w', Phi v w' → Psi v w') : Ret Psi w e w' := by
  obtain ⟨v, he, hp, hb⟩ := h
  exact ⟨v, he, hi _ _ hp, hb⟩

theorem bt {a b c : World} (h : Below a.heap.size a b) (k : Below b.heap.size b c) : Below a.heap.size a c := h.trans (k.mono h.size)
theorem below_drewN {a w : World} (h : Below a.heap.size a w) (n : Nat) : Below a.heap.size a (w.drewN n) := ⟨h.os, h.tape, h.output, h.size, h.block⟩

theorem quiet_add_same {P : Program} {f : FuncId} {args : Array Value} {w : World} {a n : Nat} {v : Value}
    (h : Calls P f args (w.drewN (a + n)) fun e w' => e = .returned v ∧ w' = w.drewN (a + n)) :
    Calls P f args (w.drewN (a + n)) fun e w'' => e = .returned v ∧ ∃ m, w'' = w.drewN (a + m) :=
  h.mono fun _ _ ⟨he, hm⟩ => ⟨he, n, hm⟩
/-- w has all that a has, as it was: the name keeps it whole where the walk rewrites. -/
def Ext (a w : World) : Prop := Below a.heap.size a w
theorem Ext.refl (a : World) : Ext a a := Below.refl _ _
theorem Ext.drew (a : World) : Ext a a.drew := (Below.refl _ _).drew

/-- The slice '.slice A n c' reads as the values xs (one cell each); its array's elements are of type T. -/
structure Sl (T : TypeId) (w : World) (A : Option Addr) (n c : Nat) (xs : List Value) : Prop where
  len : xs.length = n
  le : n ≤ c
  cap : c ≤ 9223372036854775807
  at_ : 0 < n → ∃ b o, A = some ⟨b, o, none⟩ ∧ (∃ cs fr, w.heap[b]? = some (.cells cs T fr)) ∧ ∀ j, j < n → w.cell? ⟨b, o + j, none⟩ = some (xs.getD j undef)
def SL (T : TypeId) (w : World) (v : Value) (xs : List Value) : Prop := ∃ A n c, v = .slice A n c ∧ Sl T w A n c xs
section
variable {T : TypeId} {w w' W0 : World} {A : Option Addr} {n c : Nat} {xs : List Value} {v : Value}
theorem Sl.toSL (h : Sl T w A n c xs) : SL T w (.slice A n c) xs := ⟨A, n, c, rfl, h⟩
/-- What keeps every block of element type T keeps the slice. -/
theorem Sl.keep (h : Sl T w A n c xs) (hk : ∀ (b : Nat) (cs : Array Value) (fr : Nat × Nat), w.heap[b]? = some (Obj.cells cs T fr) → w'.heap[b]? = w.heap[b]?) : Sl T w' A n c xs := by
  refine ⟨h.len, h.le, h.cap, fun hn => ?_⟩
  obtain ⟨b, o, hA, ⟨cs, fr, hT⟩, hc⟩ := h.at_ hn
  have hb := hk b cs fr hT
  refine ⟨b, o, hA, ⟨cs, fr, hb.trans hT⟩, fun j hj => ?_⟩
  rw [World.cell?_of_block (w := w) (a := ⟨b, o + j, none⟩) hb]
  exact hc j hj
theorem block_lt {b : Nat} {o : Obj} (h : w.heap[b]? = some o) : b < w.heap.size := by
  rcases Nat.lt_or_ge b w.heap.size with hlt | hge
  · exact hlt
  · rw [Array.getElem?_eq_none hge] at h; cases h
theorem Sl.below (h : Sl T w A n c xs) (hb : Below w.heap.size w w') : Sl T w' A n c xs := h.keep fun b _ _ hT => hb.block b (block_lt hT)
theorem SL.below (h : SL T w v xs) (hb : Below w.heap.size w w') : SL T w' v xs := by
  obtain ⟨A, n, c, hv, h⟩ := h
  exact ⟨A, n, c, hv, h.below hb⟩
theorem Sl.nil (T : TypeId) (w : World) : Sl T w none 0 0 [] := ⟨rfl, Nat.le_refl _, by omega, fun h => absurd h (by omega)⟩
theorem Sl.empty (T : TypeId) (w : World) (A : Option Addr) (c : Nat) (hc : c ≤ 9223372036854775807) : Sl T w A 0 c [] := ⟨rfl, by omega, hc, fun h => absurd h (by omega)⟩
/-- A slice cut at its end. -/
theorem Sl.take (h : Sl T w A n c xs) {k : Nat} (hk : k ≤ n) : Sl T w A k c (xs.take k) := by
  have hl := h.len
  have hle := h.le
  refine ⟨by simp; omega, by omega, h.cap, fun h0 => ?_⟩
  obtain ⟨b, o, hA, hT, hc⟩ := h.at_ (by omega)
  refine ⟨b, o, hA, hT, fun j hj => ?_⟩
  rw [hc j (by omega)]
  simp [List.getD, hj]
theorem Sl.of_own {base : Nat} (h : w.ownsRow base T 1 v n xs) : SL T w v xs := by
  obtain ⟨hl, h2⟩ := h
  rcases h2 with ⟨rfl, rfl⟩ | ⟨g, cap, cur, rfl, _, hh, hn, hm, hs, ht⟩
  · have : xs = [] := List.eq_nil_of_length_eq_zero (by simpa using hl)
    subst this
    exact ⟨_, _, _, rfl, Sl.nil T w⟩
  · refine ⟨_, _, _, rfl, ⟨by simpa using hl, hn, by simpa [maxLen] using hm, fun h0 => ⟨g, 0, rfl, ⟨_, _, hh⟩, fun j hj => ?_⟩⟩⟩
    have h1 : cur.size = cap := by simpa using hs
    rw [Nat.zero_add, cell_of_row w g j cur T (0, 0) hh, ← ht]
    have h2 : j < cur.size := by omega
    simp [List.getD, hj, h2]
end

/-- W is W0 with new blocks, and with writes to block R alone, which is k cells of element type T that may be written. -/
structure Held (R k : Nat) (T : TypeId) (W0 w : World) : Prop where
  g : W0.grownBy w (some R)
  r0 : ∃ cs, W0.heap[R]? = some (.cells cs T (0,0)) ∧ cs.size = k
  r : ∃ cs, w.heap[R]? = some (.cells cs T (0,0)) ∧ cs.size = k
section
variable {R k : Nat} {T T' : TypeId} {w w' W0 W1 : World}
theorem Held.lt (h : Held R k T W0 w) : R < w.heap.size := by
  obtain ⟨cs, h, _⟩ := h.r
  exact block_lt h
theorem Held.lt0 (h : Held R k T W0 w) : R < W0.heap.size := by
  obtain ⟨cs, h, _⟩ := h.r0
  exact block_lt h
theorem Held.some (h : Held R k T W0 w) {j : Nat} (hj : j < k) : ∃ u, w.cell? ⟨R, j, none⟩ = some u := by
  obtain ⟨cs, h, hs⟩ := h.r
  refine ⟨cs[j]'(by omega), ?_⟩
  simp [World.cell?, h]
theorem Held.free (h : Held R k T W0 w) (j : Nat) : w.frozen? ⟨R, j, none⟩ = false := by
  obtain ⟨cs, h, hs⟩ := h.r
  simp [World.frozen?, h]
theorem Held.trans_ (h : Held R k T W0 w) (hb : Below w.heap.size w w') : Held R k T W0 w' := by
  refine ⟨⟨hb.os.trans h.g.os, hb.tape.trans h.g.tape, hb.output.trans h.g.output, Nat.le_trans h.g.size hb.size, fun i hi hn => (hb.block i (Nat.lt_of_lt_of_le hi h.g.size)).trans (h.g.block i hi hn)⟩, h.r0, ?_⟩
  obtain ⟨cs, h1, hs⟩ := h.r
  exact ⟨cs, (hb.block R h.lt).trans h1, hs⟩
theorem Held.alloc (h : Held R k T W0 w) (o : Obj) : Held R k T W0 (w.alloc o) :=
  h.trans_ ((Below.refl _ _).alloc (Nat.le_refl _) o)
theorem Held.drewN (h : Held R k T W0 w) (n : Nat) : Held R k T W0 (w.drewN n) := ⟨⟨h.g.os, h.g.tape, h.g.output, h.g.size, h.g.block⟩, h.r0, h.r⟩
theorem Held.drew (h : Held R k T W0 w) : Held R k T W0 w.drew := ⟨⟨h.g.os, h.g.tape, h.g.output, h.g.size, h.g.block⟩, h.r0, h.r⟩
theorem Held.set_ (h : Held R k T W0 w) (j : Nat) (v : Value) : Held R k T W0 (w.setCell ⟨R, j, none⟩ v) := by
  refine ⟨⟨h.g.os, h.g.tape, h.g.output, by simpa using h.g.size, fun i hi hn => ?_⟩, h.r0, ?_⟩
  · rw [Below.heap_setCell _ _ _ _ (fun e => hn (by rw [e]))]
    exact h.g.block i hi hn
  · obtain ⟨cs, h1, hs⟩ := h.r
    refine ⟨cs.setIfInBounds j v, ?_, by simpa using hs⟩
    simp [World.setCell, Array.getElem?_modify, h1]
/-- From where it stands. -/
theorem Held.here (h : Held R k T W0 w) : Held R k T w w := ⟨⟨rfl, rfl, rfl, Nat.le_refl _, fun _ _ _ => rfl⟩, h.r, h.r⟩
theorem Held.trans2 (h : Held R k T W0 w) (h' : Held R k T w w') : Held R k T W0 w' :=
  ⟨⟨h'.g.os.trans h.g.os, h'.g.tape.trans h.g.tape, h'.g.output.trans h.g.output, Nat.le_trans h.g.size h'.g.size, fun i hi hn => (h'.g.block i (Nat.lt_of_lt_of_le hi h.g.size) hn).trans (h.g.block i hi hn)⟩, h.r0, h'.r⟩
theorem Held.below (h : Held R k T W0 w') (hb : Below w.heap.size w W0) (hR : w.heap.size ≤ R) : Below w.heap.size w w' :=
  ⟨h.g.os.trans hb.os, h.g.tape.trans hb.tape, h.g.output.trans hb.output, Nat.le_trans hb.size h.g.size, fun i hi => (h.g.block i (Nat.lt_of_lt_of_le hi hb.size) (fun e => by injection e; omega)).trans (hb.block i hi)⟩
/-- Blocks of another element type are kept. -/
theorem Held.other (h : Held R k T' W0 w) (hne : T ≠ T') {b : Nat} {cs : Array Value} {fr : Nat × Nat} (hb : W0.heap[b]? = .some (.cells cs T fr)) : w.heap[b]? = W0.heap[b]? := by
  refine h.g.block b (block_lt hb) (fun e => ?_)
  injection e with e
  subst e
  obtain ⟨cs', h1, _⟩ := h.r0
  rw [h1] at hb
  injection hb with hb
  injection hb with _ h2
  exact hne h2.symm
theorem Sl.held {A : Option Addr} {n c : Nat} {xs : List Value} (h : Sl T W0 A n c xs) (hh : Held R k T' W0 w) (hne : T ≠ T') : Sl T w A n c xs := h.keep fun _ _ _ hT => hh.other hne hT
theorem SL.held {v : Value} {xs : List Value} (h : SL T W0 v xs) (hh : Held R k T' W0 w) (hne : T ≠ T') : SL T w v xs := by
  obtain ⟨A, n, c, hv, h⟩ := h
  exact ⟨A, n, c, hv, h.held hh hne⟩
end

/-- As Held, with several blocks that may be written: their numbers, sizes and element types. -/
structure HeldM (Rs : List (Nat × Nat × TypeId)) (W0 w : World) : Prop where
  os : w.os = W0.os
  tape : w.tape = W0.tape
  output : w.output = W0.output
  size : W0.heap.size ≤ w.heap.size
  block : ∀ i, i < W0.heap.size → (∀ r, r ∈ Rs → i ≠ r.1) → w.heap[i]? = W0.heap[i]?
  r0 : ∀ r, r ∈ Rs → ∃ cs, W0.heap[r.1]? = some (.cells cs r.2.2 (0,0)) ∧ cs.size = r.2.1
  r : ∀ r, r ∈ Rs → ∃ cs, w.heap[r.1]? = some (.cells cs r.2.2 (0,0)) ∧ cs.size = r.2.1
section
variable {Rs : List (Nat × Nat × TypeId)} {T : TypeId} {w w' W0 : World}
theorem HeldM.trans_ (h : HeldM Rs W0 w) (hb : Below w.heap.size w w') : HeldM Rs W0 w' := by
  refine ⟨hb.os.trans h.os, hb.tape.trans h.tape, hb.output.trans h.output, Nat.le_trans h.size hb.size, fun i hi hn => (hb.block i (Nat.lt_of_lt_of_le hi h.size)).trans (h.block i hi hn), h.r0, fun r hr => ?_⟩
  obtain ⟨cs, h1, hs⟩ := h.r r hr
  exact ⟨cs, (hb.block r.1 (block_lt h1)).trans h1, hs⟩
theorem HeldM.drew (h : HeldM Rs W0 w) : HeldM Rs W0 w.drew := ⟨h.os, h.tape, h.output, h.size, h.block, h.r0, h.r⟩
theorem HeldM.drewN (h : HeldM Rs W0 w) (n : Nat) : HeldM Rs W0 (w.drewN n) := ⟨h.os, h.tape, h.output, h.size, h.block, h.r0, h.r⟩
theorem HeldM.alloc (h : HeldM Rs W0 w) (o : Obj) : HeldM Rs W0 (w.alloc o) := h.trans_ ((Below.refl _ _).alloc (Nat.le_refl _) o)
theorem HeldM.set_ (h : HeldM Rs W0 w) {R : Nat} (hR : ∃ r, r ∈ Rs ∧ r.1 = R) (j : Nat) (v : Value) : HeldM Rs W0 (w.setCell ⟨R, j, none⟩ v) := by
  obtain ⟨q, hq, rfl⟩ := hR
  refine ⟨h.os, h.tape, h.output, by simpa using h.size, fun i hi hn => ?_, h.r0, fun r hr => ?_⟩
  · rw [Below.heap_setCell _ _ _ _ (fun e => hn q hq e)]
    exact h.block i hi hn
  · obtain ⟨cs, h1, hs⟩ := h.r r hr
    by_cases he : q.1 = r.1
    · refine ⟨cs.setIfInBounds j v, ?_, by simpa using hs⟩
      simp [World.setCell, Array.getElem?_modify, he, h1]
    · exact ⟨cs, by rw [Below.heap_setCell _ _ _ _ (fun e => he e.symm)]; exact h1, hs⟩
theorem HeldM.here (h : HeldM Rs W0 w) : HeldM Rs w w := ⟨rfl, rfl, rfl, Nat.le_refl _, fun _ _ _ => rfl, h.r, h.r⟩
theorem HeldM.trans2 (h : HeldM Rs W0 w) (h' : HeldM Rs w w') : HeldM Rs W0 w' :=
  ⟨h'.os.trans h.os, h'.tape.trans h.tape, h'.output.trans h.output, Nat.le_trans h.size h'.size, fun i hi hn => (h'.block i (Nat.lt_of_lt_of_le hi h.size) hn).trans (h.block i hi hn), h.r0, h'.r⟩
theorem HeldM.below (h : HeldM Rs W0 w') (hb : Below w.heap.size w W0) (hR : ∀ r, r ∈ Rs → w.heap.size ≤ r.1) : Below w.heap.size w w' :=
  ⟨h.os.trans hb.os, h.tape.trans hb.tape, h.output.trans hb.output, Nat.le_trans hb.size h.size, fun i hi => (h.block i (Nat.lt_of_lt_of_le hi hb.size) (fun r hr e => by have := hR r hr; omega)).trans (hb.block i hi)⟩
theorem HeldM.other (h : HeldM Rs W0 w) (hne : ∀ r, r ∈ Rs → T ≠ r.2.2) {b : Nat} {cs : Array Value} {fr : Nat × Nat} (hb : W0.heap[b]? = .some (.cells cs T fr)) : w.heap[b]? = W0.heap[b]? := by
  refine h.block b (block_lt hb) (fun r hr e => ?_)
  subst e
  obtain ⟨cs', h1, _⟩ := h.r0 r hr
  rw [h1] at hb
  injection hb with hb
  injection hb with _ h2
  exact hne r hr h2.symm
theorem Sl.heldM {A : Option Addr} {n c : Nat} {xs : List Value} (h : Sl T W0 A n c xs) (hh : HeldM Rs W0 w) (hne : ∀ r, r ∈ Rs → T ≠ r.2.2) : Sl T w A n c xs := h.keep fun _ _ _ hT => hh.other hne hT
end
theorem stored_ok {P : Program} {w : World} {a : Addr} {v : Value} {m : Mode} (h : (w.cell? a).isSome = true) (hf : w.frozen? a = false) : stored P w a v m = .ok () (w.setCell a v) := by
  obtain ⟨u, hu⟩ := Option.isSome_iff_exists.1 h
  simp [stored, hu, hf]
theorem isSome_setCell (w : World) (a b : Addr) (v : Value) : ((w.setCell a v).cell? b).isSome = (w.cell? b).isSome := by
  simp only [World.cell?, World.setCell, Array.getElem?_modify]
  by_cases h : a.block = b.block
  · rw [if_pos h]
    rcases hh : w.heap[b.block]? with _ | o
    · rfl
    · cases o with
      | cells c e f =>
        simp only [Option.map_some]
        by_cases h1 : b.spot.isSome = true
        · simp [h1]
        · by_cases h2 : a.spot.isSome = true
          · simp [h1, h2]
          · simp [h1, h2]
            by_cases h3 : b.off < c.size
            · simp [h3]
            · simp [h3]
      | _ => rfl
  · rw [if_neg h]
theorem cell_set_same {w : World} {a : Addr} {v : Value} (h : (w.cell? a).isSome = true) : (w.setCell a v).cell? a = some v := by
  obtain ⟨u, hu⟩ := Option.isSome_iff_exists.1 h
  exact World.cell?_setCell_same w a v hu

/-- The cells of block b from o on are cs. -/
def cellsAre (w : World) (b : Nat) : Nat → List Value → Prop
  | _, [] => True
  | o, v :: cs => w.cell? ⟨b, o, none⟩ = some v ∧ cellsAre w b (o + 1) cs
/-- Block g is just the cells cs of element type t; none is frozen. -/
def Blk (w : World) (g : Nat) (t : TypeId) (cs : Array Value) : Prop := w.heap[g]? = some (.cells cs t (0, 0))
theorem Blk.lt {w : World} {g : Nat} {t : TypeId} {cs : Array Value} (h : Blk w g t cs) : g < w.heap.size := by
  rcases Nat.lt_or_ge g w.heap.size with hlt | hge
  · exact hlt
  · unfold Blk at h; rw [Array.getElem?_eq_none hge] at h; cases h
theorem Blk.new_ {w : World} {g : Nat} (t : TypeId) (cs : Array Value) (h : w.heap.size = g) : Blk (w.alloc (.cells cs t)) g t cs := by subst h; exact heap_alloc_new w _
theorem Blk.alloc {w : World} {g : Nat} {t : TypeId} {cs : Array Value} (h : Blk w g t cs) (o : Obj) : Blk (w.alloc o) g t cs := (Below.heap_alloc w o g h.lt).trans h
theorem Blk.drew {w : World} {g : Nat} {t : TypeId} {cs : Array Value} (h : Blk w g t cs) : Blk w.drew g t cs := h
theorem Blk.drewN {w : World} {g : Nat} {t : TypeId} {cs : Array Value} (h : Blk w g t cs) (n : Nat) : Blk (w.drewN n) g t cs := h
theorem Blk.below {w w' : World} {g : Nat} {t : TypeId} {cs : Array Value} (h : Blk w g t cs) (hb : Below w.heap.size w w') : Blk w' g t cs := (hb.block g h.lt).trans h
theorem Blk.held {W0 w : World} {g R k : Nat} {t T : TypeId} {cs : Array Value} (h : Blk W0 g t cs) (hh : Held R k T W0 w) (hn : g ≠ R) : Blk w g t cs := (hh.g.block g h.lt (fun e => hn (by injection e))).trans h
theorem Blk.set_ {w : World} {g : Nat} {t : TypeId} {cs : Array Value} (h : Blk w g t cs) (i : Nat) (u : Value) : Blk (w.setCell ⟨g, i, none⟩ u) g t (cs.setIfInBounds i u) := by
  unfold Blk at h ⊢
  simp [World.setCell, Array.getElem?_modify, h]
theorem Blk.far {w : World} {g : Nat} {t : TypeId} {cs : Array Value} (h : Blk w g t cs) {p : Addr} (hp : g ≠ p.block) (u : Value) : Blk (w.setCell p u) g t cs := (Below.heap_setCell w p u g hp).trans h
theorem cellsAre_mk (w : World) (b : Nat) (cs : List Value) : ∀ (o : Nat), (∀ j, j < cs.length → w.cell? ⟨b, o + j, none⟩ = some (cs.getD j undef)) → cellsAre w b o cs := by
  induction cs with
  | nil => intro _ _; trivial
  | cons v cs ih =>
    intro o h
    refine ⟨by simpa using h 0 (by simp), ih (o + 1) (fun j hj => ?_)⟩
    have h1 := h (j + 1) (by simp; omega)
    rw [show o + 1 + j = o + (j + 1) by omega, h1]
    simp
theorem Blk.cells {w : World} {g : Nat} {t : TypeId} {cs : Array Value} (h : Blk w g t cs) : cellsAre w g 0 cs.toList := by
  refine cellsAre_mk w g cs.toList 0 (fun j hj => ?_)
  have h' : w.heap[g]? = some (.cells cs t (0, 0)) := h
  have hj' : j < cs.size := by simpa using hj
  simp [World.cell?, h', List.getD, hj']
theorem Blk.free {w : World} {g : Nat} {t : TypeId} {cs : Array Value} (h : Blk w g t cs) (j : Nat) : w.frozen? ⟨g, j, none⟩ = false := by
  have h' : w.heap[g]? = some (.cells cs t (0, 0)) := h
  simp [World.frozen?, h']
theorem Blk.heldS {w : World} {g : Nat} {t : TypeId} {cs : Array Value} (h : Blk w g t cs) : Held g cs.size t w w := ⟨⟨rfl, rfl, rfl, Nat.le_refl _, fun _ _ _ => rfl⟩, ⟨cs, h, rfl⟩, ⟨cs, h, rfl⟩⟩
/-- What cell j of block R holds. -/
def cnt (w : World) (R j : Nat) : Value := (w.cell? ⟨R, j, none⟩).getD undef
/-- The rules of a region whose stores go to block R alone. -/
structure Rules (R k : Nat) (T : TypeId) (W0 : World) : Prop where
  some : ∀ w', Held R k T W0 w' → ∀ j, j < k → w'.cell? ⟨R, j, none⟩ = some (cnt w' R j)
  free : ∀ w', Held R k T W0 w' → ∀ j, w'.frozen? ⟨R, j, none⟩ = false
theorem rules (R k : Nat) (T : TypeId) (W0 : World) : Rules R k T W0 :=
  ⟨fun _ hh _ hj => by obtain ⟨u, hu⟩ := hh.some hj; unfold cnt; rw [hu]; rfl, fun _ hh j => hh.free j⟩
theorem rulesM_cell (Rs : List (Nat × Nat × TypeId)) (W0 : World) (R k : Nat) (T : TypeId) (hr : (R, k, T) ∈ Rs) : ∀ w', HeldM Rs W0 w' → ∀ j, j < k → w'.cell? ⟨R, j, none⟩ = some (cnt w' R j) := fun w' hh j hj => by
  obtain ⟨cs, h, hs⟩ := hh.r _ hr
  have hj' : j < cs.size := by simpa [hs] using hj
  have : w'.cell? ⟨R, j, none⟩ = some (cs[j]'hj') := by simp [World.cell?, h]
  unfold cnt; rw [this]; rfl
theorem rulesM_free (Rs : List (Nat × Nat × TypeId)) (W0 : World) (R k : Nat) (T : TypeId) (hr : (R, k, T) ∈ Rs) : ∀ w', HeldM Rs W0 w' → ∀ j, w'.frozen? ⟨R, j, none⟩ = false := fun w' hh j => by
  obtain ⟨cs, h, hs⟩ := hh.r _ hr
  simp [World.frozen?, h]
theorem Blk.heldM {Rs : List (Nat × Nat × TypeId)} {W0 w : World} {g : Nat} {t : TypeId} {cs : Array Value} (h : Blk W0 g t cs) (hh : HeldM Rs W0 w) (hn : ∀ r, r ∈ Rs → g ≠ r.1) : Blk w g t cs := (hh.block g h.lt hn).trans h
/-- The world of a goal under a name, with what is known of it. -/
theorem wp_world {P : Program} {c : Code} {Q : Exit → Act → World → Prop} {a : Act} {W : World} (F : World → Prop) (hF : F W) (h : ∀ W0 : World, F W0 → c.wp P Q a W0) : c.wp P Q a W := h W hF
attribute [go_sem] isSome_setCell
end Go.Proofs.Tb
/- Plain laws on digits: a natural number and the list of its digits in base B, the lowest first. No program stands here. -/
namespace Go.Proofs.Tb
/-- The value of a list of digits. -/
def val (B : Nat) : List Nat → Nat
  | [] => 0
  | x :: xs => x + B * val B xs
def digsF (B : Nat) : Nat → Nat → List Nat
  | 0, _ => []
  | f + 1, m => if m = 0 then [] else m % B :: digsF B f (m / B)
/-- The digits of m. -/
def digs (B m : Nat) : List Nat := digsF B m m
/-- All are digits. -/
def Dg (B : Nat) (xs : List Nat) : Prop := ∀ x ∈ xs, x < B
/-- How many digits m has. -/
def dl (B m : Nat) : Nat := (digs B m).length

theorem digsF_fuel (B : Nat) (hB : 2 ≤ B) : ∀ (f g m : Nat), m ≤ f → m ≤ g → digsF B f m = digsF B g m
  | 0, g, m, hf, _ => by
    have : m = 0 := by omega
    subst this
    cases g <;> simp [digsF]
  | f + 1, 0, m, _, hg => by
    have : m = 0 := by omega
    subst this
    simp [digsF]
  | f + 1, g + 1, m, hf, hg => by
    simp only [digsF]
    by_cases h : m = 0
    · simp [h]
    · rw [if_neg h, if_neg h]
      have hlt : m / B < m := Nat.div_lt_self (by omega) (by omega)
      rw [digsF_fuel B hB f g (m / B) (by omega) (by omega)]
theorem digs_zero (B : Nat) : digs B 0 = [] := rfl
theorem digs_pos (B m : Nat) (hB : 2 ≤ B) (h : m ≠ 0) : digs B m = m % B :: digs B (m / B) := by
  unfold digs
  obtain ⟨k, rfl⟩ : ∃ k, m = k + 1 := ⟨m - 1, by omega⟩
  have hlt : (k + 1) / B < k + 1 := Nat.div_lt_self (by omega) (by omega)
  rw [digsF, if_neg h, digsF_fuel B hB k ((k + 1) / B) _ (by omega) (Nat.le_refl _)]
theorem val_digs (B : Nat) (hB : 2 ≤ B) (m : Nat) : val B (digs B m) = m := by
  induction m using Nat.strongRecOn with
  | _ m ih =>
    by_cases h : m = 0
    · subst h; rfl
    · rw [digs_pos B m hB h, val, ih _ (Nat.div_lt_self (by omega) (by omega))]
      exact Nat.mod_add_div m B
theorem digs_dg (B : Nat) (hB : 2 ≤ B) (m : Nat) : Dg B (digs B m) := by
  induction m using Nat.strongRecOn with
  | _ m ih =>
    by_cases h : m = 0
    · subst h; intro x hx; cases hx
    · rw [digs_pos B m hB h]
      intro x hx
      rcases List.mem_cons.1 hx with rfl | hx
      · exact Nat.mod_lt _ (by omega)
      · exact ih _ (Nat.div_lt_self (by omega) (by omega)) x hx
theorem digs_eq_nil (B m : Nat) (hB : 2 ≤ B) : digs B m = [] ↔ m = 0 := by
  constructor
  · intro h
    have := val_digs B hB m
    rw [h] at this
    exact this.symm
  · rintro rfl; rfl
theorem dl_pos (B m : Nat) (hB : 2 ≤ B) : 0 < dl B m ↔ 0 < m := by
  unfold dl
  have h := digs_eq_nil B m hB
  constructor
  · intro hl
    rcases Nat.eq_zero_or_pos m with h0 | h0
    · rw [h.2 h0] at hl; simp at hl
    · exact h0
  · intro hm
    rcases Nat.eq_zero_or_pos (digs B m).length with h0 | h0
    · have := h.1 (List.eq_nil_of_length_eq_zero h0); omega
    · exact h0
theorem val_append (B : Nat) (xs ys : List Nat) : val B (xs ++ ys) = val B xs + B ^ xs.length * val B ys := by
  induction xs with
  | nil => simp [val]
  | cons x xs ih =>
    simp only [List.cons_append, val, ih, List.length_cons, Nat.pow_succ]
    rw [Nat.mul_add, Nat.mul_comm (B ^ xs.length) B, Nat.mul_assoc, Nat.add_assoc]
theorem val_lt (B : Nat) (xs : List Nat) (h : Dg B xs) : val B xs < B ^ xs.length := by
  induction xs with
  | nil => simp [val]
  | cons x xs ih =>
    have h1 : x < B := h x (by simp)
    have h2 := ih (fun y hy => h y (by simp [hy]))
    simp only [val, List.length_cons, Nat.pow_succ]
    have h3 : B * (val B xs + 1) ≤ B * B ^ xs.length := Nat.mul_le_mul_left _ h2
    rw [Nat.mul_comm (B ^ xs.length) B]
    rw [Nat.mul_add] at h3
    omega
/-- A list of digits that does not end in 0 is the list of its value's digits. -/
theorem digs_val (B : Nat) (hB : 2 ≤ B) (xs : List Nat) (h : Dg B xs) (hl : xs.getLast? ≠ some 0) : digs B (val B xs) = xs := by
  induction xs with
  | nil => rfl
  | cons x xs ih =>
    have hx : x < B := h x (by simp)
    have hd : Dg B xs := fun y hy => h y (by simp [hy])
    have hl' : xs.getLast? ≠ some 0 := by
      cases xs with
      | nil => simp
      | cons y ys => simpa using hl
    have ih' := ih hd hl'
    have hne : val B (x :: xs) ≠ 0 := by
      simp only [val]
      intro h0
      have hx0 : x = 0 := by omega
      have hv : B * val B xs = 0 := by omega
      have hv0 : val B xs = 0 := by
        rcases Nat.mul_eq_zero.1 hv with h1 | h1
        · omega
        · exact h1
      rw [hv0] at ih'
      have : xs = [] := ih'.symm
      subst this
      subst hx0
      simp at hl
    rw [digs_pos B _ hB hne]
    have h1 : val B (x :: xs) % B = x := by
      simp only [val]
      rw [Nat.add_mul_mod_self_left]
      exact Nat.mod_eq_of_lt hx
    have h2 : val B (x :: xs) / B = val B xs := by
      simp only [val]
      rw [Nat.add_mul_div_left _ _ (by omega), Nat.div_eq_of_lt hx, Nat.zero_add]
    rw [h1, h2, ih']
theorem digs_last (B : Nat) (hB : 2 ≤ B) (m : Nat) : (digs B m).getLast? ≠ some 0 := by
  induction m using Nat.strongRecOn with
  | _ m ih =>
    by_cases h : m = 0
    · subst h; simp [digs_zero]
    · rw [digs_pos B m hB h]
      have hlt : m / B < m := Nat.div_lt_self (by omega) (by omega)
      have ih' := ih _ hlt
      by_cases h0 : m / B = 0
      · rw [h0, digs_zero]
        simp
        have h1 : m < B := by
          rcases Nat.lt_or_ge m B with h1 | h1
          · exact h1
          · have := Nat.div_pos h1 (by omega); omega
        rw [Nat.mod_eq_of_lt h1]
        exact h
      · cases hd : digs B (m / B) with
        | nil => exact absurd ((digs_eq_nil B _ hB).1 hd) h0
        | cons y ys => rw [hd] at ih'; simpa using ih'
theorem val_zeros (B : Nat) (k : Nat) : val B (List.replicate k 0) = 0 := by
  induction k with
  | zero => rfl
  | succ k ih => simp [List.replicate_succ, val, ih]
/-- Zeros at the end do not count. -/
theorem val_strip (B : Nat) (xs : List Nat) (h : xs.getLast? = some 0) : val B xs = val B xs.dropLast := by
  have hx : xs = xs.dropLast ++ [0] := by
    obtain ⟨ys, hy⟩ := List.getLast?_eq_some_iff.1 h
    rw [hy]; simp
  rw [hx, val_append]
  simp [val]
theorem dl_le (B : Nat) (hB : 2 ≤ B) (k m : Nat) (h : m < B ^ k) : dl B m ≤ k := by
  unfold dl
  induction k generalizing m with
  | zero => have : m = 0 := by simpa using h
            subst this; simp [digs_zero]
  | succ k ih =>
    by_cases h0 : m = 0
    · subst h0; simp [digs_zero]
    · rw [digs_pos B m hB h0]
      have : m / B < B ^ k := by
        rw [Nat.pow_succ] at h
        exact Nat.div_lt_of_lt_mul (by rw [Nat.mul_comm]; exact h)
      have := ih _ this
      simp; omega
theorem lt_pow_dl (B : Nat) (hB : 2 ≤ B) (m : Nat) : m < B ^ dl B m := by
  have h := val_lt B _ (digs_dg B hB m)
  rw [val_digs B hB] at h
  exact h
theorem pow_le_of_dl (B : Nat) (hB : 2 ≤ B) (m k : Nat) (h : k < dl B m) : B ^ k ≤ m := by
  rcases Nat.lt_or_ge m (B ^ k) with h1 | h1
  · have := dl_le B hB k m h1; omega
  · exact h1
theorem dl_mono (B : Nat) (hB : 2 ≤ B) (m k : Nat) (h : m ≤ k) : dl B m ≤ dl B k := dl_le B hB _ _ (Nat.lt_of_le_of_lt h (lt_pow_dl B hB k))
theorem dl_add (B : Nat) (hB : 2 ≤ B) (m k s : Nat) (h : dl B m ≤ s) (h' : dl B k ≤ s) : dl B (m + k) ≤ s + 1 := by
  refine dl_le B hB _ _ ?_
  have h1 := Nat.lt_of_lt_of_le (lt_pow_dl B hB m) (Nat.pow_le_pow_right (by omega) h)
  have h2 := Nat.lt_of_lt_of_le (lt_pow_dl B hB k) (Nat.pow_le_pow_right (by omega) h')
  rw [Nat.pow_succ]
  have : B ^ s * 2 ≤ B ^ s * B := Nat.mul_le_mul_left _ hB
  omega
theorem dl_mul (B : Nat) (hB : 2 ≤ B) (m k : Nat) : dl B (m * k) ≤ dl B m + dl B k := by
  refine dl_le B hB _ _ ?_
  rw [Nat.pow_add]
  exact Nat.mul_lt_mul'' (lt_pow_dl B hB m) (lt_pow_dl B hB k)
/-- Fewer digits: the lesser number. -/
theorem lt_of_dl_lt (B : Nat) (hB : 2 ≤ B) (m k : Nat) (h : dl B m < dl B k) : m < k :=
  Nat.lt_of_lt_of_le (lt_pow_dl B hB m) (pow_le_of_dl B hB k _ h)
theorem val_take_succ (B : Nat) (xs : List Nat) (k : Nat) (h : k < xs.length) : val B (xs.take (k + 1)) = val B (xs.take k) + B ^ k * xs.getD k 0 := by
  rw [List.take_succ_eq_append_getElem h, val_append]
  simp [val, List.getD, h, Nat.min_eq_left (Nat.le_of_lt h)]
theorem val_drop (B : Nat) (xs : List Nat) (k : Nat) (h : k < xs.length) : val B (xs.drop k) = xs.getD k 0 + B * val B (xs.drop (k + 1)) := by
  rw [List.drop_eq_getElem_cons h, val]
  simp [List.getD, h]
theorem Dg.take {B : Nat} {xs : List Nat} (h : Dg B xs) (k : Nat) : Dg B (xs.take k) := fun x hx => h x (List.mem_of_mem_take hx)
theorem Dg.drop {B : Nat} {xs : List Nat} (h : Dg B xs) (k : Nat) : Dg B (xs.drop k) := fun x hx => h x (List.mem_of_mem_drop hx)
theorem Dg.getD {B : Nat} (hB : 0 < B) {xs : List Nat} (h : Dg B xs) (k : Nat) : xs.getD k 0 < B := by
  by_cases hk : k < xs.length
  · simp [List.getD, hk]; exact h _ (List.getElem_mem hk)
  · simp [List.getD, Nat.le_of_not_lt hk]; exact hB
theorem Dg.append {B : Nat} {xs ys : List Nat} (h : Dg B xs) (h' : Dg B ys) : Dg B (xs ++ ys) := fun x hx => (List.mem_append.1 hx).elim (h x) (h' x)
theorem Dg.set_ {B : Nat} {xs : List Nat} (h : Dg B xs) (k v : Nat) (hv : v < B) : Dg B (xs.set k v) := fun x hx => (List.mem_or_eq_of_mem_set hx).elim (h x) (fun e => e ▸ hv)
theorem Dg.replicate {B : Nat} (hB : 0 < B) (k : Nat) : Dg B (List.replicate k 0) := fun x hx => by rw [(List.mem_replicate.1 hx).2]; exact hB
theorem Dg.one {B v : Nat} (hv : v < B) : Dg B [v] := fun x hx => by rw [List.mem_singleton.1 hx]; exact hv
end Go.Proofs.Tb
/- Plain laws: fractions as rational numbers. No program stands here. -/
namespace Go.Proofs.Tb
/-- p/q as a rational number. -/
def qv (p q : Int) : Rat := Rat.divInt p q
theorem qv_div (p q : Int) : qv p q = (p : Rat) / (q : Rat) := Rat.divInt_eq_div p q
theorem qv_one (p : Int) : qv p 1 = (p : Rat) := by rw [qv_div]; grind
theorem qv_add {p q r s : Int} (hq : q ≠ 0) (hs : s ≠ 0) : qv (p * s + r * q) (q * s) = qv p q + qv r s := (Rat.divInt_add_divInt p r hq hs).symm
theorem qv_sub {p q r s : Int} (hq : q ≠ 0) (hs : s ≠ 0) : qv (p * s + -(r * q)) (q * s) = qv p q - qv r s := by
  rw [← Int.sub_eq_add_neg]; exact (Rat.divInt_sub_divInt p r hq hs).symm
theorem qv_mul (p q r s : Int) : qv (p * r) (q * s) = qv p q * qv r s := (Rat.divInt_mul_divInt p r).symm
theorem qv_neg (p q : Int) : qv (-p) q = -qv p q := (Rat.neg_divInt p q).symm
theorem qv_negneg (p q : Int) : qv (-p) (-q) = qv p q := Rat.neg_divInt_neg p q
theorem qv_inv (p q : Int) : qv q p = (qv p q)⁻¹ := (Rat.inv_divInt p q).symm
theorem qv_quo (p q r s : Int) : qv (p * s) (q * r) = qv p q / qv r s := by
  rw [qv_mul, qv_inv r s, Rat.div_def]
theorem cast_pos {q : Int} (h : 0 < q) : (0 : Rat) < (q : Rat) := Rat.intCast_pos.2 h
theorem qv_lt {p q r s : Int} (hq : 0 < q) (hs : 0 < s) : qv p q < qv r s ↔ p * s < r * q := by
  have h1 := cast_pos hq
  have h2 := cast_pos hs
  rw [qv_div, qv_div, Rat.div_lt_iff h1]
  have e : (r : Rat) / (s : Rat) * (q : Rat) = (r * q) / (s : Rat) := by
    rw [Rat.div_def, Rat.div_def, Rat.mul_assoc, Rat.mul_assoc, Rat.mul_comm (q : Rat)]
  rw [e, Rat.lt_div_iff h2, ← Rat.intCast_mul, ← Rat.intCast_mul, Rat.intCast_lt_intCast]
theorem qv_eq {p q r s : Int} (hq : q ≠ 0) (hs : s ≠ 0) : qv p q = qv r s ↔ p * s = r * q := Rat.divInt_eq_divInt_iff hq hs
theorem qv_le {p q r s : Int} (hq : 0 < q) (hs : 0 < s) : qv p q ≤ qv r s ↔ p * s ≤ r * q := by
  rw [← Rat.not_lt, qv_lt hs hq]; omega
theorem qv_pos {p q : Int} (hq : 0 < q) : 0 < qv p q ↔ 0 < p := by
  have h := qv_lt (p := 0) (q := 1) (r := p) (s := q) (by omega) hq
  rw [qv_one] at h
  simpa using h
theorem qv_zero {p q : Int} (hq : q ≠ 0) : qv p q = 0 ↔ p = 0 := by
  have h := qv_eq (p := p) (q := q) (r := 0) (s := 1) hq (by omega)
  rw [qv_one] at h
  simpa using h
/-- The absolute value. -/
def rab (x : Rat) : Rat := if x < 0 then -x else x
theorem qv_neg_iff {p q : Int} (hq : 0 < q) : qv p q < 0 ↔ p < 0 := by
  have h := qv_lt (p := p) (q := q) (r := 0) (s := 1) hq (by omega)
  rw [qv_one] at h
  simpa using h
theorem qv_abs {p q : Int} (hq : 0 < q) : qv (p.natAbs : Int) q = rab (qv p q) := by
  unfold rab
  by_cases h : p < 0
  · rw [if_pos ((qv_neg_iff hq).2 h), ← qv_neg]; congr 1; omega
  · rw [if_neg (fun h' => h ((qv_neg_iff hq).1 h'))]; congr 1; omega
theorem rab_nonneg (x : Rat) : 0 ≤ rab x := by unfold rab; split <;> grind
theorem rab_neg (x : Rat) : rab (-x) = rab x := by unfold rab; split <;> split <;> grind
/-- How two rational numbers compare: -1, 0 or 1. -/
def cmpR (x y : Rat) : Int := if x < y then -1 else if y < x then 1 else 0
theorem cmpR_lt {x y : Rat} : cmpR x y < 0 ↔ x < y := by unfold cmpR; split <;> (try split) <;> grind
theorem cmpR_gt {x y : Rat} : 0 < cmpR x y ↔ y < x := by unfold cmpR; split <;> (try split) <;> grind
theorem cmpR_eq {x y : Rat} : cmpR x y = 0 ↔ x = y := by unfold cmpR; split <;> (try split) <;> grind
theorem sign_cmp {p q r s : Int} (hq : 0 < q) (hs : 0 < s) : Int.sign (p * s + -(r * q)) = cmpR (qv p q) (qv r s) := by
  unfold cmpR
  by_cases h1 : p * s < r * q
  · rw [if_pos ((qv_lt hq hs).2 h1), Int.sign_eq_neg_one_of_neg (by omega)]
  · rw [if_neg (fun h => h1 ((qv_lt hq hs).1 h))]
    by_cases h2 : r * q < p * s
    · rw [if_pos ((qv_lt hs hq).2 h2), Int.sign_eq_one_of_pos (by omega)]
    · rw [if_neg (fun h => h2 ((qv_lt hs hq).1 h)), show p * s + -(r * q) = 0 by omega]; rfl
theorem qv_num {p q : Int} (hq : 0 < q) : (qv p q).num = p / (Int.gcd p q : Int) := by
  unfold qv
  rw [Rat.num_divInt, Int.sign_eq_one_of_pos hq, Int.one_mul, Int.gcd_comm]
theorem qv_den {p q : Int} (hq : 0 < q) : ((qv p q).den : Int) = q / (Int.gcd p q : Int) := by
  unfold qv
  rw [Rat.den_divInt, if_neg (by omega), Int.gcd_comm]
  have : ((q.natAbs / Int.gcd p q : Nat) : Int) = (q.natAbs : Int) / (Int.gcd p q : Int) := by simp
  rw [this]; congr 1; omega
theorem qv_self (x : Rat) : qv x.num x.den = x := Rat.num_divInt_den x
theorem den_pos' (x : Rat) : (0 : Int) < (x.den : Int) := by have := x.den_pos; omega
end Go.Proofs.Tb
/- Plain law: a line whose errors at three readings are of one size with signs that alternate is the best one if no other three readings bend more; there is just one such line. No program stands here. -/
namespace Go.Proofs.Tb
theorem alt_up {ti tj tk fi fj fk E : Rat} (h1 : ti < tj) (h2 : tj < tk) (a : E ≤ fi) (b : fj ≤ -E) (c : E ≤ fk) (s : E < fi ∨ fj < -E ∨ E < fk) :
    fj * (tk - ti) - fi * (tk - tj) - fk * (tj - ti) < -(2 * E * (tk - ti)) := by
  have p1 : 0 ≤ (fi - E) * (tk - tj) := Rat.mul_nonneg (by grind) (by grind)
  have p2 : 0 ≤ (-E - fj) * (tk - ti) := Rat.mul_nonneg (by grind) (by grind)
  have p3 : 0 ≤ (fk - E) * (tj - ti) := Rat.mul_nonneg (by grind) (by grind)
  rcases s with s | s | s
  · have : 0 < (fi - E) * (tk - tj) := Rat.mul_pos (by grind) (by grind)
    grind
  · have : 0 < (-E - fj) * (tk - ti) := Rat.mul_pos (by grind) (by grind)
    grind
  · have : 0 < (fk - E) * (tj - ti) := Rat.mul_pos (by grind) (by grind)
    grind
theorem alt_dn {ti tj tk fi fj fk E : Rat} (h1 : ti < tj) (h2 : tj < tk) (a : fi ≤ -E) (b : E ≤ fj) (c : fk ≤ -E) (s : fi < -E ∨ E < fj ∨ fk < -E) :
    2 * E * (tk - ti) < fj * (tk - ti) - fi * (tk - tj) - fk * (tj - ti) := by
  have h := alt_up (fi := -fi) (fj := -fj) (fk := -fk) (E := E) h1 h2 (by grind) (by grind) (by grind) (by rcases s with s | s | s; exact Or.inl (by grind); exact Or.inr (Or.inl (by grind)); exact Or.inr (Or.inr (by grind)))
  grind
/-- The bend of three values, times the outer distance. -/
def bd3 (t f : Nat → Rat) (i j k : Nat) : Rat := f j * (t k - t i) - f i * (t k - t j) - f k * (t j - t i)
theorem cheb (n : Nat) (t f : Nat → Rat) (mono : ∀ i j, i < j → j < n → t i < t j) (E : Rat) (hE : 0 < E) (a b c : Nat) (hab : a < b) (hbc : b < c) (hcn : c < n)
    (fa : f a = E) (fb : f b = -E) (fc : f c = E) (B : ∀ i j k, i < j → j < k → k < n → -(2 * E * (t k - t i)) ≤ bd3 t f i j k ∧ bd3 t f i j k ≤ 2 * E * (t k - t i)) :
    ∀ m, m < n → -E ≤ f m ∧ f m ≤ E := by
  intro m hm
  have up : ∀ i j k, i < j → j < k → k < n → E ≤ f i → f j ≤ -E → E ≤ f k → (E < f i ∨ f j < -E ∨ E < f k) → False := by
    intro i j k h1 h2 h3 g1 g2 g3 g4
    have := alt_up (mono i j h1 (by omega)) (mono j k h2 h3) g1 g2 g3 g4
    have hB := (B i j k h1 h2 h3).1
    unfold bd3 at hB
    exact absurd this (Rat.not_lt.2 hB)
  have dn : ∀ i j k, i < j → j < k → k < n → f i ≤ -E → E ≤ f j → f k ≤ -E → (f i < -E ∨ E < f j ∨ f k < -E) → False := by
    intro i j k h1 h2 h3 g1 g2 g3 g4
    have := alt_dn (mono i j h1 (by omega)) (mono j k h2 h3) g1 g2 g3 g4
    have hB := (B i j k h1 h2 h3).2
    unfold bd3 at hB
    exact absurd this (Rat.not_lt.2 hB)
  constructor
  · rcases Rat.le_total (a := -E) (b := f m) with h | h
    · exact h
    by_cases he : f m = -E
    · rw [he]; exact Rat.le_refl
    have hlt : f m < -E := Rat.lt_of_le_of_ne h he
    exfalso
    by_cases h1 : m < a
    · exact dn m a b h1 hab (by omega) h (by grind) (by grind) (Or.inl hlt)
    by_cases h2 : m = a
    · subst h2; grind
    by_cases h3 : m < b
    · exact up a m c (by omega) (by omega) hcn (by grind) h (by grind) (Or.inr (Or.inl hlt))
    by_cases h4 : m = b
    · subst h4; grind
    by_cases h5 : m < c
    · exact up a m c (by omega) h5 hcn (by grind) h (by grind) (Or.inr (Or.inl hlt))
    by_cases h6 : m = c
    · subst h6; grind
    · exact dn b c m hbc (by omega) hm (by grind) (by grind) h (Or.inr (Or.inr hlt))
  · rcases Rat.le_total (a := f m) (b := E) with h | h
    · exact h
    by_cases he : f m = E
    · rw [he]; exact Rat.le_refl
    have hlt : E < f m := Rat.lt_of_le_of_ne h (fun e => he e.symm)
    exfalso
    by_cases h1 : m < a
    · exact up m b c (by omega) hbc hcn h (by grind) (by grind) (Or.inl hlt)
    by_cases h2 : m = a
    · subst h2; grind
    by_cases h3 : m < b
    · exact up m b c h3 hbc hcn h (by grind) (by grind) (Or.inl hlt)
    by_cases h4 : m = b
    · subst h4; grind
    by_cases h5 : m < c
    · exact up a b m hab (by omega) hm (by grind) (by grind) h (Or.inr (Or.inr hlt))
    by_cases h6 : m = c
    · subst h6; grind
    · exact up a b m hab (by omega) hm (by grind) (by grind) h (Or.inr (Or.inr hlt))
/-- Values on a line that are from 0 up, up to 0 and from 0 up are 0 at the outer two. -/
theorem three_zero {da db dc ta tb tc : Rat} (h1 : ta < tb) (h2 : tb < tc) (hid : db * (tc - ta) = da * (tc - tb) + dc * (tb - ta)) (ha : 0 ≤ da) (hb : db ≤ 0) (hc : 0 ≤ dc) : da = 0 ∧ dc = 0 := by
  have p1 : 0 ≤ da * (tc - tb) := Rat.mul_nonneg ha (by grind)
  have p2 : 0 ≤ dc * (tb - ta) := Rat.mul_nonneg hc (by grind)
  have p3 : 0 ≤ (-db) * (tc - ta) := Rat.mul_nonneg (by grind) (by grind)
  have e1 : da * (tc - tb) = 0 := by grind
  have e2 : dc * (tb - ta) = 0 := by grind
  constructor
  · rcases Rat.mul_eq_zero.1 e1 with h | h
    · exact h
    · grind
  · rcases Rat.mul_eq_zero.1 e2 with h | h
    · exact h
    · grind
/-- The error of a line at a reading. -/
def er (t y : Nat → Rat) (s h : Rat) (i : Nat) : Rat := y i - (s * t i + h)
/-- The line s, h is the best one, and E its greatest error. -/
structure IsLeast (n : Nat) (t y : Nat → Rat) (s h E : Rat) : Prop where
  le : ∀ i, i < n → -E ≤ er t y s h i ∧ er t y s h i ≤ E
  alt : E = 0 ∨ ∃ a b c, a < b ∧ b < c ∧ c < n ∧ er t y s h b = -er t y s h a ∧ er t y s h c = er t y s h a ∧ (er t y s h a = E ∨ er t y s h a = -E)
section
variable {n : Nat} {t y : Nat → Rat} {s h E s' h' E' : Rat}
theorem IsLeast.nonneg (hn : 0 < n) (k : IsLeast n t y s h E) : 0 ≤ E := by have := k.le 0 hn; grind
theorem same_two {ta tb s s' h h' : Rat} (hlt : ta < tb) (e1 : s * ta + h = s' * ta + h') (e2 : s * tb + h = s' * tb + h') : s = s' ∧ h = h' := by
  have e : (s - s') * (tb - ta) = 0 := by grind
  rcases Rat.mul_eq_zero.1 e with g | g
  · constructor <;> grind
  · grind
theorem IsLeast.uniq_le (mono : ∀ i j, i < j → j < n → t i < t j) (hn : 2 ≤ n) (k : IsLeast n t y s h E) (k' : IsLeast n t y s' h' E') (hle : E' ≤ E) : s = s' ∧ h = h' ∧ E = E' := by
  have n0 := k.nonneg (by omega)
  have n0' := k'.nonneg (by omega)
  rcases k.alt with h0 | ⟨a, b, c, hab, hbc, hcn, eb, ec, ea⟩
  · have e0 : E' = 0 := by grind
    have a0 := k.le 0 (by omega)
    have a1 := k.le 1 (by omega)
    have b0 := k'.le 0 (by omega)
    have b1 := k'.le 1 (by omega)
    unfold er at a0 a1 b0 b1
    have := same_two (ta := t 0) (tb := t 1) (s := s) (s' := s') (h := h) (h' := h') (mono 0 1 (by omega) (by omega)) (by grind) (by grind)
    exact ⟨this.1, this.2, by grind⟩
  · have ma := mono a b hab (by omega)
    have mc := mono b c hbc hcn
    have la := k'.le a (by omega)
    have lb := k'.le b (by omega)
    have lc := k'.le c hcn
    have key : er t y s h a = er t y s' h' a ∧ er t y s h c = er t y s' h' c := by
      rcases ea with ea | ea
      · have := three_zero (da := er t y s h a - er t y s' h' a) (db := er t y s h b - er t y s' h' b) (dc := er t y s h c - er t y s' h' c) ma mc (by unfold er; grind) (by grind) (by grind) (by grind)
        constructor <;> grind
      · have := three_zero (da := er t y s' h' a - er t y s h a) (db := er t y s' h' b - er t y s h b) (dc := er t y s' h' c - er t y s h c) ma mc (by unfold er; grind) (by grind) (by grind) (by grind)
        constructor <;> grind
    have := same_two (ta := t a) (tb := t c) (s := s) (s' := s') (h := h) (h' := h') (mono a c (by omega) hcn) (by have := key.1; unfold er at this; grind) (by have := key.2; unfold er at this; grind)
    exact ⟨this.1, this.2, by grind⟩
theorem IsLeast.uniq (mono : ∀ i j, i < j → j < n → t i < t j) (hn : 2 ≤ n) (k : IsLeast n t y s h E) (k' : IsLeast n t y s' h' E') : s = s' ∧ h = h' ∧ E = E' := by
  rcases Rat.le_total (a := E') (b := E) with hle | hle
  · exact k.uniq_le mono hn k' hle
  · obtain ⟨a, b, c⟩ := k'.uniq_le mono hn k hle
    exact ⟨a.symm, b.symm, c.symm⟩
/-- No line has a lesser greatest error. -/
theorem IsLeast.best (mono : ∀ i j, i < j → j < n → t i < t j) (hn : 2 ≤ n) (k : IsLeast n t y s h E) (hl : ∀ i, i < n → -E' ≤ er t y s' h' i ∧ er t y s' h' i ≤ E') : E ≤ E' := by
  have n0' : 0 ≤ E' := by have := hl 0 (by omega); grind
  rcases k.alt with h0 | ⟨a, b, c, hab, hbc, hcn, eb, ec, ea⟩
  · rw [h0]; exact n0'
  · have ma := mono a b hab (by omega)
    have mc := mono b c hbc hcn
    have la := hl a (by omega)
    have lb := hl b (by omega)
    have lc := hl c hcn
    rcases Rat.le_total (a := E) (b := E') with hle | hle
    · exact hle
    rcases ea with ea | ea
    · have := three_zero (da := er t y s h a - er t y s' h' a) (db := er t y s h b - er t y s' h' b) (dc := er t y s h c - er t y s' h' c) ma mc (by unfold er; grind) (by grind) (by grind) (by grind)
      grind
    · have := three_zero (da := er t y s' h' a - er t y s h a) (db := er t y s' h' b - er t y s h b) (dc := er t y s' h' c - er t y s h c) ma mc (by unfold er; grind) (by grind) (by grind) (by grind)
      grind
/-- The bends of the errors are those of the readings. -/
theorem bd3_er (i j k : Nat) : bd3 t (er t y s h) i j k = bd3 t y i j k := by unfold bd3 er; grind
/-- The line of the three readings that bend most. -/
theorem IsLeast.of_max (mono : ∀ i j, i < j → j < n → t i < t j) (a b c : Nat) (hab : a < b) (hbc : b < c) (hcn : c < n) (g : Rat) (hg : g ≠ 0)
    (ea : er t y s h a = -g) (eb : er t y s h b = g) (ec : er t y s h c = -g)
    (B : ∀ i j k, i < j → j < k → k < n → -(2 * rab g * (t k - t i)) ≤ bd3 t y i j k ∧ bd3 t y i j k ≤ 2 * rab g * (t k - t i)) : IsLeast n t y s h (rab g) := by
  unfold rab at *
  by_cases hg0 : g < 0
  · rw [if_pos hg0] at B ⊢
    refine ⟨?_, Or.inr ⟨a, b, c, hab, hbc, hcn, by grind, by grind, by grind⟩⟩
    exact cheb n t (er t y s h) mono (-g) (by grind) a b c hab hbc hcn (by grind) (by grind) (by grind) (fun i j k h1 h2 h3 => by rw [bd3_er]; exact B i j k h1 h2 h3)
  · rw [if_neg hg0] at B ⊢
    refine ⟨?_, Or.inr ⟨a, b, c, hab, hbc, hcn, by grind, by grind, by grind⟩⟩
    have hc := cheb n t (fun i => -er t y s h i) mono g (by grind) a b c hab hbc hcn (by grind) (by grind) (by grind) (fun i j k h1 h2 h3 => by
      have e : bd3 t (fun i => -er t y s h i) i j k = -bd3 t y i j k := by have h0 := bd3_er (t := t) (y := y) (s := s) (h := h) i j k; unfold bd3 at h0 ⊢; grind
      rw [e]; have := B i j k h1 h2 h3; grind)
    intro m hm
    have := hc m hm
    grind
/-- The line through the first and the last reading, if nothing bends. -/
theorem IsLeast.of_flat (mono : ∀ i j, i < j → j < n → t i < t j) (hn : 2 ≤ n) (e0 : er t y s h 0 = 0) (el : er t y s h (n - 1) = 0) (B : ∀ i j k, i < j → j < k → k < n → bd3 t y i j k = 0) : IsLeast n t y s h 0 := by
  refine ⟨fun i hi => ?_, Or.inl rfl⟩
  have : er t y s h i = 0 := by
    by_cases h1 : i = 0
    · rw [h1]; exact e0
    by_cases h2 : i = n - 1
    · rw [h2]; exact el
    have hb := B 0 i (n - 1) (by omega) (by omega) (by omega)
    rw [← bd3_er (s := s) (h := h)] at hb
    unfold bd3 at hb
    rw [e0, el] at hb
    have hm := mono 0 (n - 1) (by omega) (by omega)
    have : er t y s h i * (t (n - 1) - t 0) = 0 := by grind
    rcases Rat.mul_eq_zero.1 this with g | g
    · exact g
    · grind
  rw [this]; constructor <;> grind
end
end Go.Proofs.Tb

