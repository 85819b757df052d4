/- The disk in memory: its relation, what keeps it, and how it changes. (With what follows it, in one text.) -/
import Derived.Test.YtfljnfdeboibhaaTse
import Derived.Maps.AppendAt
import Derived.Maps.Range
import Derived.Laws.Cover3
set_option linter.unusedVariables false
set_option linter.unusedSimpArgs false
/- The disk in memory: its relation, what keeps it, and how it changes. -/
namespace Go.Proofs.Tb
open Go.Maps Go.RowKit

abbrev TDK : TypeId := 69
abbrev TSE : TypeId := 104
abbrev TBB : TypeId := 66
abbrev TLM : TypeId := 67
def nlB : Value := .slice none 0 0
def z64 : List Nat := List.replicate 64 0
def RH : Value → Option (DataW Value × List MemPlace) := fun v => some (.held v, [])
theorem by_info : (Try.prog.info? TBY).map (fun i => (i.zero, i.size, i.bytes)) = some (some (.slice none 0 0), 1, 24) := by kernel_rfl
/-- A block's value: nil, or a row of 64 bytes. -/
def SeesB (w : World) (v : Value) (bs : List Nat) : Prop := (v = nlB ∧ bs = z64) ∨ (OwB 0 w v bs ∧ bs.length = 64)
theorem SeesB.len {w : World} {v : Value} {bs : List Nat} (h : SeesB w v bs) : bs.length = 64 := by
  rcases h with ⟨_, rfl⟩ | ⟨_, h⟩
  · simp [z64]
  · exact h
theorem SeesB.one {w : World} {v : Value} {bs : List Nat} (h : SeesB w v bs) : v.oneCell' = true := by
  rcases h with ⟨rfl, _⟩ | ⟨h, _⟩
  · rfl
  · obtain ⟨A, c, rfl, _⟩ := own_rv h
    rfl

/-- What has changed: X alone. -/
structure Chg (X : Nat → Obj → Prop) (w w' : World) : Prop where
  os : w'.os = w.os
  tape : w'.tape = w.tape
  output : w'.output = w.output
  size : w.heap.size ≤ w'.heap.size
  same : ∀ b o, w.heap[b]? = some o → ¬ X b o → w'.heap[b]? = some o
theorem Chg.refl (X : Nat → Obj → Prop) (w : World) : Chg X w w := ⟨rfl, rfl, rfl, Nat.le_refl _, fun _ _ h _ => h⟩
theorem Chg.trans {X : Nat → Obj → Prop} {a b c : World} (h : Chg X a b) (k : Chg X b c) : Chg X a c :=
  ⟨k.os.trans h.os, k.tape.trans h.tape, k.output.trans h.output, Nat.le_trans h.size k.size, fun i o hi hx => k.same i o (h.same i o hi hx) hx⟩
theorem Chg.mono {X Y : Nat → Obj → Prop} {w w' : World} (h : Chg X w w') (hXY : ∀ b o, X b o → Y b o) : Chg Y w w' := ⟨h.os, h.tape, h.output, h.size, fun b o hb hY => h.same b o hb fun hx => hY (hXY b o hx)⟩
theorem obj_lt {w : World} {b : Nat} {o : Obj} (h : w.heap[b]? = some o) : b < w.heap.size := by
  rcases Nat.lt_or_ge b w.heap.size with hlt | hge
  · exact hlt
  · rw [Array.getElem?_eq_none hge] at h; cases h
theorem Chg.ext {X : Nat → Obj → Prop} {w w' : World} (h : Ext w w') : Chg X w w' :=
  ⟨Below.os h, Below.tape h, Below.output h, Below.size h, fun b _ hb _ => (Below.block h b (obj_lt hb)).trans hb⟩
theorem Chg.set_ {X : Nat → Obj → Prop} {w : World} {p : Addr} {o : Obj} (hp : w.heap[p.block]? = some o) (hX : X p.block o) (u : Value) : Chg X w (w.setCell p u) :=
  ⟨rfl, rfl, rfl, by simp [World.setCell], fun b o' hb hx => (Below.heap_setCell w p u b (fun e => by
    subst e
    rw [hp] at hb
    injection hb with hb
    subst hb
    exact hx hX)).trans hb⟩
theorem Chg.grow {X : Nat → Obj → Prop} {w w' : World} {r : Option Nat} (hg : w.grownBy w' r) (hX : ∀ b o, r = some b → w.heap[b]? = some o → X b o) : Chg X w w' :=
  ⟨hg.os, hg.tape, hg.output, hg.size, fun b o hb hx => (hg.block b (obj_lt hb) (fun e => hx (hX b o e.symm hb))).trans hb⟩
theorem Chg.below {X : Nat → Obj → Prop} {w w' : World} {base : Nat} (h : Chg X w w') (hX : ∀ b o, X b o → base ≤ b) (hb : base ≤ w.heap.size) : Below base w w' :=
  ⟨h.os, h.tape, h.output, h.size, fun b hlt => by
    have hbs : b < w.heap.size := by omega
    rw [Array.getElem?_eq_getElem hbs]
    exact h.same b _ (Array.getElem?_eq_getElem hbs) fun hx => by have := hX _ _ hx; omega⟩
theorem Chg.blk {X : Nat → Obj → Prop} {w w' : World} {g : Nat} {T : TypeId} {cs : Array Value} (h : Chg X w w') (hb : Blk w g T cs) (hX : ¬ X g (.cells cs T (0, 0))) : Blk w' g T cs := h.same g _ hb hX
theorem Chg.own {X : Nat → Obj → Prop} {w w' : World} {base k n : Nat} {T : TypeId} {v : Value} {xs : List Value} (h : Chg X w w') (ho : w.ownsRow base T k v n xs) (hX : ∀ b cs, v.ownBlock = some b → ¬ X b (.cells cs T (0, 0))) : w'.ownsRow base T k v n xs :=
  own_keep ho fun g cs hg _ hb => (h.same g _ hb (hX g cs hg)).trans hb.symm

/-- What a disk and a store are made of. -/
def MutK : Obj → Prop
  | .cells _ T _ => T = TDK ∨ T = TBY ∨ T = TSE
  | .map _ _ => True
  | _ => False
/-- The blocks of F that may change. -/
def MF (F : Nat → Prop) (b : Nat) (o : Obj) : Prop := F b ∧ MutK o
theorem MF.u8 {F : Nat → Prop} (b : Nat) (cs : Array Value) : ¬ MF F b (.cells cs TU8 (0, 0)) := fun hx => by
  have : TU8 = TDK ∨ TU8 = TBY ∨ TU8 = TSE := hx.2
  revert this
  decide
theorem SeesB.chg {X : Nat → Obj → Prop} {w w' : World} {v : Value} {bs : List Nat} (h : SeesB w v bs) (hc : Chg X w w') (hX : ∀ b cs, ¬ X b (.cells cs TU8 (0, 0))) : SeesB w' v bs := by
  rcases h with h | ⟨h, hl⟩
  · exact Or.inl h
  · exact Or.inr ⟨hc.own h fun b cs _ hx => hX b cs hx, hl⟩
theorem SeesB.ext {w w' : World} {v : Value} {bs : List Nat} (h : SeesB w v bs) (hc : Ext w w') : SeesB w' v bs := h.chg (X := fun _ _ => False) (Chg.ext hc) fun _ _ h => h
/-- How a disk lies in memory. -/
structure Dkg where
  m : Nat
  v : Value
  vs : List Value
  D : DataW Value
  Lv : Nat → Value
  us : Nat → List Value
  lo : Nat → Bool
def Dkg.fp (g : Dkg) (d n b : Nat) : Prop := b = d ∨ b = g.m ∨ g.v.ownBlock = some b ∨ ∃ k, k < n ∧ g.lo k = true ∧ (g.Lv k).ownBlock = some b
abbrev kI (k : Nat) : Lit := .int .i64 (k : Int)
structure DI (w : World) (d : Nat) (g : Dkg) (cur : List (List Nat)) (bl : List (List (List Nat))) (down : Bool) (left : Nat) : Prop where
  dk : Blk w d TDK #[g.v, .map (some g.m), .bool down, .int .i64 (left : Int)]
  lft : left ≤ 9223372036854775807
  row : w.ownsRow 0 TBY 1 g.v cur.length g.vs
  len : bl.length = cur.length
  few : cur.length ≤ 4096
  mp : w.ownsMap Try.prog TIN RH g.m (Maps.size g.D) g.D
  sees : ∀ k, k < cur.length → SeesB w (g.vs.getD k nlB) (cur.getD k z64)
  keys : ∀ l, Maps.has g.D l = true → ∃ k, k < cur.length ∧ l = kI k
  no : ∀ k, k < cur.length → g.lo k = false → Maps.has g.D (kI k) = false
  yes : ∀ k, k < cur.length → g.lo k = true → Maps.has g.D (kI k) = true ∧ (∀ z, g.D.atKey (kI k) z = .held (g.Lv k)) ∧ w.ownsRow 0 TBY 1 (g.Lv k) (bl.getD k []).length (g.us k) ∧ ∀ j, j < (bl.getD k []).length → SeesB w ((g.us k).getD j nlB) ((bl.getD k []).getD j z64)
  ne : ∀ k, k < cur.length → bl.getD k [] ≠ []
  apart : ∀ k, k < cur.length → g.lo k = true → ∀ b, (g.Lv k).ownBlock = some b → g.v.ownBlock ≠ some b ∧ ∀ j, j < cur.length → j ≠ k → g.lo j = true → (g.Lv j).ownBlock ≠ some b
/-- A disk, in F. -/
def DW (F : Nat → Prop) (w : World) (d : Nat) (bl : List (List (List Nat))) (down : Bool) (left : Nat) : Prop :=
  ∃ g, DI w d g (bl.map fun l => l.getLastD z64) bl down left ∧ (∀ k, k < bl.length → g.lo k = decide (2 ≤ (bl.getD k []).length)) ∧ ∀ b, g.fp d bl.length b → F b
theorem own_lt' {w : World} {v : Value} {n k : Nat} {xs : List Value} {T : TypeId} (h : w.ownsRow 0 T k v n xs) {b : Nat} (hb : v.ownBlock = some b) : ∃ cs, w.heap[b]? = some (.cells cs T (0, 0)) := by
  rcases h.2 with ⟨rfl, _⟩ | ⟨q, cap, cur, rfl, _, h2, _⟩
  · simp [Value.ownBlock] at hb
  · simp [Value.ownBlock] at hb
    subst hb
    exact ⟨_, h2⟩
theorem map_chg {X : Nat → Obj → Prop} {w w' : World} {H : Type} {P : Program} {k : TypeId} {R : Value → Option (DataW H × List MemPlace)} {b n : Nat} {D : DataW H} (h : w.ownsMap P k R b n D) (hc : Chg X w w') (hX : ∀ o, ¬ X b o) : w'.ownsMap P k R b n D := by
  obtain ⟨es, clock, hb, r⟩ := h
  exact ⟨es, clock, hc.same b _ hb (hX _), r⟩
theorem DI.chg {X : Nat → Obj → Prop} {w w' : World} {d : Nat} {g : Dkg} {cur : List (List Nat)} {bl : List (List (List Nat))} {down : Bool} {left : Nat} (h : DI w d g cur bl down left) (hc : Chg X w w') (h1 : ∀ b o, g.fp d cur.length b → ¬ X b o) (h2 : ∀ b cs, ¬ X b (.cells cs TU8 (0, 0))) : DI w' d g cur bl down left :=
  ⟨hc.blk h.dk (h1 d _ (Or.inl rfl)), h.lft, hc.own h.row fun b cs hb => h1 b _ (Or.inr (Or.inr (Or.inl hb))), h.len, h.few, map_chg h.mp hc fun o => h1 g.m o (Or.inr (Or.inl rfl)), fun k hk => (h.sees k hk).chg hc h2, h.keys, h.no, fun k hk hl => by
    obtain ⟨y1, y2, y3, y4⟩ := h.yes k hk hl
    exact ⟨y1, y2, hc.own y3 fun b cs hb => h1 b _ (Or.inr (Or.inr (Or.inr ⟨k, hk, hl, hb⟩))), fun j hj => (y4 j hj).chg hc h2⟩, h.ne, h.apart⟩
theorem DI.ext {w w' : World} {d : Nat} {g : Dkg} {cur : List (List Nat)} {bl : List (List (List Nat))} {down : Bool} {left : Nat} (h : DI w d g cur bl down left) (hc : Ext w w') : DI w' d g cur bl down left := h.chg (X := fun _ _ => False) (Chg.ext hc) (fun _ _ _ h => h) fun _ _ h => h
theorem DI.fp_lt {w : World} {d : Nat} {g : Dkg} {cur : List (List Nat)} {bl : List (List (List Nat))} {down : Bool} {left : Nat} (h : DI w d g cur bl down left) {b : Nat} (hb : g.fp d cur.length b) : ∃ o, w.heap[b]? = some o ∧ MutK o := by
  rcases hb with rfl | rfl | hb | ⟨k, hk, hl, hb⟩
  · exact ⟨_, h.dk, Or.inl rfl⟩
  · obtain ⟨es, clock, hb, _⟩ := h.mp
    exact ⟨_, hb, trivial⟩
  · obtain ⟨cs, hb⟩ := own_lt' h.row hb
    exact ⟨_, hb, Or.inr (Or.inl rfl)⟩
  · obtain ⟨cs, hb⟩ := own_lt' (h.yes k hk hl).2.2.1 hb
    exact ⟨_, hb, Or.inr (Or.inl rfl)⟩
theorem DW.ext {F : Nat → Prop} {w w' : World} {d : Nat} {bl : List (List (List Nat))} {down : Bool} {left : Nat} (h : DW F w d bl down left) (hc : Ext w w') : DW F w' d bl down left := by
  obtain ⟨g, h1, h2, h3⟩ := h
  exact ⟨g, h1.ext hc, h2, h3⟩
theorem DW.chg {F : Nat → Prop} {X : Nat → Obj → Prop} {w w' : World} {d : Nat} {bl : List (List (List Nat))} {down : Bool} {left : Nat} (h : DW F w d bl down left) (hc : Chg X w w') (h1 : ∀ b o, F b → MutK o → ¬ X b o) (h2 : ∀ b cs, ¬ X b (.cells cs TU8 (0, 0))) : DW F w' d bl down left := by
  obtain ⟨g, g1, g2, g3⟩ := h
  rw [← List.length_map (f := fun l : List (List Nat) => l.getLastD z64)] at g3
  refine ⟨g, g1.chg (X := fun b o => X b o ∧ ∃ o', w.heap[b]? = some o' ∧ o = o') ⟨hc.os, hc.tape, hc.output, hc.size, fun b o hb hx => hc.same b o hb fun hX => hx ⟨hX, o, hb, rfl⟩⟩ (fun b o hb => ?_) (fun b cs hx => h2 b cs hx.1), g2, by rw [← List.length_map (f := fun l : List (List Nat) => l.getLastD z64)]; exact g3⟩
  rintro ⟨hX, o', ho, rfl⟩
  obtain ⟨o2, ho2, hM⟩ := g1.fp_lt hb
  rw [ho] at ho2
  injection ho2 with ho2
  subst ho2
  exact h1 b o (g3 b hb) hM hX
end Go.Proofs.Tb
/- The disk in memory: a look, a block that becomes loose, one that is exchanged, one more content, and the fields. -/
namespace Go.Proofs.Tb
open Go.Maps Go.RowKit

theorem lawL : Keyed Try.prog TIN := int_keyed Try.underlying3
theorem zeroL (w : World) : (zeroValue TBB).run Try.prog w = .ok nlB w := by kernel_rfl
theorem keyK {k : Nat} (hk : k ≤ 1000000000) : keyOf Try.prog TIN (.int .i64 (k : Int)) = some (kI k) := keyI k hk
theorem kI_ne {j k : Nat} (h : j ≠ k) : kI j ≠ kI k := fun e => by
  injection e with _ e
  exact h (by omega)
theorem upto_len : ∀ (n : Nat) (l : List Nat), l.Pairwise (· ≠ ·) → (∀ x ∈ l, x < n) → l.length ≤ n
  | 0, [], _, _ => Nat.le_refl _
  | 0, x :: l, _, h => absurd (h x List.mem_cons_self) (by omega)
  | n + 1, l, hp, h => by
    have h1 := upto_len n (l.filter fun x => decide (x ≠ n)) (hp.filter _) fun x hx => by
      obtain ⟨hx, hn⟩ := List.mem_filter.1 hx
      have := h x hx
      have : x ≠ n := by simpa using hn
      omega
    have h2 : ∀ l : List Nat, l.Pairwise (· ≠ ·) → l.length ≤ (l.filter fun x => decide (x ≠ n)).length + 1 := by
      intro l
      induction l with
      | nil => intro _; simp
      | cons x l ih =>
        intro hp
        obtain ⟨hx, hp⟩ := List.pairwise_cons.1 hp
        by_cases hxn : x = n
        · subst hxn
          have e : (l.filter fun y => decide (y ≠ x)) = l := List.filter_eq_self.2 fun y hy => by simpa using (Ne.symm (hx y hy))
          rw [List.filter_cons_of_neg (by simp), e]
          simp
        · rw [List.filter_cons_of_pos (by simpa using hxn)]
          have := ih hp
          simp only [List.length_cons]
          omega
    have := h2 l hp
    omega
theorem own_tight {H : Type} {P : Program} {k : TypeId} {R : Value → Option (DataW H × List MemPlace)} {w : World} {b n : Nat} {D : DataW H} (h : w.ownsMap P k R b n D) : w.ownsMap P k R b (Maps.size D) D := by
  obtain ⟨es, clock, hb, F, hs, rfl⟩ := h
  refine ⟨es, clock, hb, F, ?_, rfl⟩
  simp [Maps.size, DataW.length_sorted]
variable {w : World} {d : Nat} {g : Dkg} {cur : List (List Nat)} {bl : List (List (List Nat))} {down : Bool} {left : Nat}
theorem DI.tidy (h : DI w d g cur bl down left) : Tidy g.D := h.mp.tidy lawL
theorem DI.size_le (h : DI w d g cur bl down left) : Maps.size g.D ≤ cur.length := by
  obtain ⟨es, hD, hp⟩ := h.tidy
  rw [hD, Maps.size_eq]
  have hk : ∀ p ∈ es, ∃ k, k < cur.length ∧ p.1 = kI k := fun p hp => by
    refine h.keys p.1 ?_
    rw [hD, Maps.has_eq, List.any_eq_true]
    refine ⟨p, hp, ?_⟩
    obtain ⟨es', hD', hq⟩ := World.ownsMap.entries h.mp lawL
    rw [hD] at hD'
    injection hD' with hD'
    subst hD'
    exact WideAt.sameKey_self (hq.2 p hp)
  let f : Lit × DataW Value → Nat := fun p => match p.1 with | .int _ z => z.toNat | _ => 0
  have hf : ∀ p ∈ es, f p < cur.length ∧ p.1 = kI (f p) := fun p hp => by
    obtain ⟨k, hk, e⟩ := hk p hp
    have : f p = k := by show (match p.1 with | .int _ z => z.toNat | _ => 0) = k; rw [e]; simp [kI]
    rw [this]
    exact ⟨hk, e⟩
  have := upto_len cur.length (es.map f) (by
    rw [List.pairwise_map]
    refine hp.imp_of_mem fun {a b} ha hb hne e => hne ?_
    rw [(hf a ha).2, (hf b hb).2, e]) fun x hx => by
      obtain ⟨p, hp, rfl⟩ := List.mem_map.1 hx
      exact (hf p hp).1
  simpa using this
set_option maxRecDepth 100000 in
theorem DI.look (h : DI w d g cur bl down left) {k : Nat} (hk : k < cur.length) : (Instr.lookup TLM (.map (some g.m)) (.int .i64 (k : Int)) false).run Try.prog w = .ok (if g.lo k = true then g.Lv k else nlB) w := by
  have hf := h.few
  obtain ⟨v, ps, hrun, hR⟩ := World.ownsMap.lookup (H := Value) h.mp lawL Try.underlying67 (zeroL w) (R := RH) (zd := .held nlB) (zp := []) rfl (keyK (k := k) (by omega))
  rw [hrun]
  have hv : DataW.held v = g.D.atKey (kI k) (.held nlB) := by
    unfold RH at hR
    injection hR with hR
    injection hR
  cases hlo : g.lo k with
  | true =>
    rw [(h.yes k hk hlo).2.1] at hv
    injection hv with hv
    rw [hv, if_pos rfl]
  | false =>
    rw [atKey_of_not_has (h.no k hk hlo)] at hv
    injection hv with hv
    rw [hv, if_neg Bool.false_ne_true]
theorem DI.blk_ne (h : DI w d g cur bl down left) {b : Nat} {cs : Array Value} {T : TypeId} (hb : w.heap[b]? = some (.cells cs T (0, 0))) (hT : T ≠ TDK) (hT' : T ≠ TBY) : ¬ g.fp d cur.length b := fun hfp => by
  obtain ⟨o, ho, _⟩ := h.fp_lt hfp
  rcases hfp with rfl | rfl | hv | ⟨k, hk, hl, hv⟩
  · have := h.dk
    unfold Blk at this
    rw [hb] at this
    injection this with this
    injection this with _ e
    exact hT e
  · obtain ⟨es, clock, hm, _⟩ := h.mp
    rw [hb] at hm
    cases hm
  · obtain ⟨cs', hv⟩ := own_lt' h.row hv
    rw [hb] at hv
    injection hv with hv
    injection hv with _ e
    exact hT' e
  · obtain ⟨cs', hv⟩ := own_lt' (h.yes k hk hl).2.2.1 hv
    rw [hb] at hv
    injection hv with hv
    injection hv with _ e
    exact hT' e
theorem DI.d_row (h : DI w d g cur bl down left) {v : Value} {n : Nat} {xs : List Value} (hv : w.ownsRow 0 TBY 1 v n xs) : v.ownBlock ≠ some d := fun e => by
  obtain ⟨cs, hc⟩ := own_lt' hv e
  have := h.dk
  unfold Blk at this
  rw [hc] at this
  injection this with this
  injection this with _ e
  revert e
  decide
theorem DI.m_row (h : DI w d g cur bl down left) {T : TypeId} {v : Value} {n : Nat} {xs : List Value} (hv : w.ownsRow 0 T 1 v n xs) : v.ownBlock ≠ some g.m := fun e => by
  obtain ⟨cs, hc⟩ := own_lt' hv e
  obtain ⟨es, clock, hm, _⟩ := h.mp
  rw [hc] at hm
  cases hm
theorem DI.d_m (h : DI w d g cur bl down left) : d ≠ g.m := fun e => by
  obtain ⟨es, clock, hm, _⟩ := h.mp
  have := h.dk
  unfold Blk at this
  rw [e, hm] at this
  cases this
/-- Only the disk's own fields have changed. -/
theorem DI.fields {w' : World} (h : DI w d g cur bl down left) (hc : Chg (fun b _ => b = d) w w') {down' : Bool} {left' : Nat} (hd : Blk w' d TDK #[g.v, .map (some g.m), .bool down', .int .i64 (left' : Int)]) (hl : left' ≤ 9223372036854775807) : DI w' d g cur bl down' left' := by
  have h2 : ∀ b cs, w.heap[b]? = some (.cells cs TU8 (0, 0)) → b ≠ d := fun b cs hb e => by
    have := h.dk
    unfold Blk at this
    rw [← e, hb] at this
    injection this with this
    injection this with _ e
    revert e
    decide
  have hs : ∀ {v : Value} {bs : List Nat}, SeesB w v bs → SeesB w' v bs := fun {v bs} hv => by
    rcases hv with hv | ⟨hv, hvl⟩
    · exact Or.inl hv
    · exact Or.inr ⟨own_keep hv fun b cs _ _ hb => (hc.same b _ hb (h2 b cs hb)).trans hb.symm, hvl⟩
  have hr : ∀ {v : Value} {n : Nat} {xs : List Value}, w.ownsRow 0 TBY 1 v n xs → w'.ownsRow 0 TBY 1 v n xs := fun {v n xs} hv => hc.own hv fun b cs hb e => h.d_row hv (by rw [hb, e])
  exact ⟨hd, hl, hr h.row, h.len, h.few, map_chg h.mp hc fun o e => h.d_m e.symm, fun k hk => hs (h.sees k hk), h.keys, h.no, fun k hk hlo => by
    obtain ⟨y1, y2, y3, y4⟩ := h.yes k hk hlo
    exact ⟨y1, y2, hr y3, fun j hj => hs (y4 j hj)⟩, h.ne, h.apart⟩
/-- A block is exchanged. -/
theorem DI.seton {gb cap : Nat} (h : DI w d g cur bl down left) (hv : g.v = .slice (some ⟨gb, 0, none⟩) cur.length cap) {k : Nat} (hk : k < cur.length) {x : Value} {bs : List Nat} (hx : SeesB w x bs) :
    DI (w.setCell ⟨gb, k, none⟩ x) d { g with vs := g.vs.set k x } (cur.set k bs) bl down left := by
  have hrow := h.row
  rw [hv] at hrow
  obtain ⟨s1, s2⟩ := hrow.stored k x
  have hob : g.v.ownBlock = some gb := by rw [hv]; rfl
  have hc : Chg (fun b o => b = gb ∧ w.heap[b]? = some o) w (w.setCell ⟨gb, k, none⟩ x) := Chg.grow s2 fun b o e hb => ⟨(by injection e with e; exact e.symm), hb⟩
  obtain ⟨cs0, hcs0⟩ := own_lt' h.row hob
  have hs : ∀ {v : Value} {bs : List Nat}, SeesB w v bs → SeesB (w.setCell ⟨gb, k, none⟩ x) v bs := fun {v bs} hv => hv.chg hc fun b cs hX => by
    obtain ⟨rfl, e⟩ := hX
    rw [hcs0] at e
    injection e with e
    injection e with _ e
    revert e
    decide
  have hlen : g.vs.length = cur.length := by have := hrow.1; omega
  refine ⟨hc.blk h.dk fun hX => h.d_row h.row (by rw [hob, hX.1]), h.lft, ?_, ?_, ?_, map_chg h.mp hc fun o hX => h.m_row h.row (by rw [hob, hX.1]), ?_, ?_, ?_, ?_, ?_, ?_⟩
  · rw [List.length_set]
    show (w.setCell ⟨gb, k, none⟩ x).ownsRow 0 TBY 1 g.v cur.length (g.vs.set k x)
    rw [hv]
    exact s1
  · rw [List.length_set]; exact h.len
  · rw [List.length_set]; exact h.few
  · intro j hj
    rw [List.length_set] at hj
    show SeesB _ ((g.vs.set k x).getD j nlB) _
    by_cases hjk : j = k
    · subst hjk
      have e1 : (g.vs.set j x).getD j nlB = x := by simp [List.getD, List.getElem?_set, hlen, hk]
      have e2 : (cur.set j bs).getD j z64 = bs := by simp [List.getD, List.getElem?_set, hk]
      rw [e1, e2]
      exact hs hx
    · have e1 : (g.vs.set k x).getD j nlB = g.vs.getD j nlB := by simp [List.getD, List.getElem?_set, Ne.symm hjk]
      have e2 : (cur.set k bs).getD j z64 = cur.getD j z64 := by simp [List.getD, List.getElem?_set, Ne.symm hjk]
      rw [e1, e2]
      exact hs (h.sees j hj)
  · intro l hl
    rw [List.length_set]
    exact h.keys l hl
  · intro j hj
    rw [List.length_set] at hj
    exact h.no j hj
  · intro j hj hlo
    rw [List.length_set] at hj
    obtain ⟨y1, y2, y3, y4⟩ := h.yes j hj hlo
    exact ⟨y1, y2, hc.own y3 fun b cs hb hX => (h.apart j hj hlo b hb).1 (by rw [hob, hX.1]), fun i hi => hs (y4 i hi)⟩
  · intro j hj
    rw [List.length_set] at hj
    exact h.ne j hj
  · intro j hj hlo b hb
    rw [List.length_set] at hj ⊢
    exact h.apart j hj hlo b hb
end Go.Proofs.Tb
/- The disk in memory: a block gets a row of contents. -/
namespace Go.Proofs.Tb
open Go.Maps Go.RowKit

def Dkg.put (g : Dkg) (k : Nat) (v : Value) (us : List Value) : Dkg :=
  { g with D := g.D.put (kI k) (.held v), Lv := fun j => if j = k then v else g.Lv j, us := fun j => if j = k then us else g.us j, lo := fun j => if j = k then true else g.lo j }
variable {w : World} {d : Nat} {g : Dkg} {cur : List (List Nat)} {bl : List (List (List Nat))} {down : Bool} {left : Nat}
theorem getD_setL {α : Type} (l : List α) (x d : α) {i : Nat} (hi : i < l.length) (j : Nat) : (l.set i x).getD j d = if j = i then x else l.getD j d := by
  by_cases h : j = i
  · subst h; simp [List.getD, List.getElem?_set, hi]
  · simp [List.getD, List.getElem?_set, h, Ne.symm h]
set_option maxRecDepth 100000 in
theorem DI.put (h : DI w d g cur bl down left) {k : Nat} (hk : k < cur.length) {w2 : World} (hc : Chg (fun b _ => g.lo k = true ∧ (g.Lv k).ownBlock = some b) w w2) {v2 : Value} {us2 : List Value} {cs : List (List Nat)}
    (hr : w2.ownsRow 0 TBY 1 v2 cs.length us2) (hs : ∀ j, j < cs.length → SeesB w2 (us2.getD j nlB) (cs.getD j z64)) (hne : cs ≠ []) (hb : (g.lo k = true ∧ v2.ownBlock = (g.Lv k).ownBlock) ∨ ∃ nb, v2.ownBlock = some nb ∧ w.heap.size ≤ nb) :
    ∃ w3, (Instr.mapUpdate TLM (.map (some g.m)) (.int .i64 (k : Int)) v2).run Try.prog w2 = .ok () w3 ∧ DI w3 d (g.put k v2 us2) cur (bl.set k cs) down left ∧ w2.mapTurned w3 g.m := by
  have hf := h.few
  have hsz := h.size_le
  have hm2 : w2.ownsMap Try.prog TIN RH g.m (Maps.size g.D) g.D := map_chg h.mp hc fun o hX => h.m_row (h.yes k hk hX.1).2.2.1 hX.2
  obtain ⟨w3, hrun, hm3, ht⟩ := World.ownsMap.store (H := Value) hm2 lawL Try.underlying67 (by unfold maxLen; omega) (key := .int .i64 (k : Int)) (keyK (k := k) (by omega)) (R := RH) (val := v2) (d := .held v2) (ps := []) rfl
  refine ⟨w3, hrun, ?_, ht⟩
  have hg := ht.grown
  have hblt : g.lo k = true → ∀ b, (g.Lv k).ownBlock = some b → b < w.heap.size := fun hlo b e => by
    obtain ⟨cs, hcs⟩ := own_lt' (h.yes k hk hlo).2.2.1 e
    exact obj_lt hcs
  have hold : ∀ b o, w.heap[b]? = some o → b ≠ g.m → (g.lo k = true → (g.Lv k).ownBlock ≠ some b) → w3.heap[b]? = some o := fun b o hb1 hbm hbk => by
    have h2 := hc.same b o hb1 fun hX => hbk hX.1 hX.2
    exact (hg.block b (obj_lt h2) (fun e => hbm (by injection e))).trans h2
  have hrow3 : ∀ {T : TypeId} {v : Value} {n : Nat} {xs : List Value}, w2.ownsRow 0 T 1 v n xs → v.ownBlock ≠ some g.m → w3.ownsRow 0 T 1 v n xs := fun {T v n xs} hv hvm => hv.kept hg (Or.inr hvm)
  have hnm2 : ∀ {T : TypeId} {v : Value} {n : Nat} {xs : List Value}, w2.ownsRow 0 T 1 v n xs → v.ownBlock ≠ some g.m := fun {T v n xs} hv e => by
    obtain ⟨cs, hcs⟩ := own_lt' hv e
    obtain ⟨es, clock, hmm, _⟩ := hm2
    rw [hcs] at hmm
    cases hmm
  have hs3 : ∀ {v : Value} {bs : List Nat}, SeesB w2 v bs → SeesB w3 v bs := fun {v bs} hv => by
    rcases hv with hv | ⟨hv, hvl⟩
    · exact Or.inl hv
    · exact Or.inr ⟨hrow3 hv (hnm2 hv), hvl⟩
  have hs2 : ∀ {v : Value} {bs : List Nat}, SeesB w v bs → SeesB w2 v bs := fun {v bs} hv => by
    rcases hv with hv | ⟨hv, hvl⟩
    · exact Or.inl hv
    · refine Or.inr ⟨own_keep hv fun b cs _ _ hb => (hc.same b _ hb fun hX => ?_).trans hb.symm, hvl⟩
      obtain ⟨cs', hcs'⟩ := own_lt' (h.yes k hk hX.1).2.2.1 hX.2
      rw [hb] at hcs'
      injection hcs' with e
      injection e with _ e
      revert e
      decide
  have hblen : bl.length = cur.length := h.len
  have hkb : k < bl.length := by omega
  have hT := h.tidy
  have hkl : WideAt.IsKeyLit (kI k) := trivial
  have hxk : ∀ j, j ≠ k → (bl.set k cs).getD j [] = bl.getD j [] := fun j hj => by rw [getD_setL _ _ _ hkb, if_neg hj]
  have hxs : (bl.set k cs).getD k [] = cs := by rw [getD_setL _ _ _ hkb, if_pos rfl]
  refine ⟨?_, h.lft, ?_, by rw [List.length_set]; exact h.len, h.few, own_tight hm3, fun j hj => hs3 (hs2 (h.sees j hj)), ?_, ?_, ?_, ?_, ?_⟩
  · exact hold d _ h.dk h.d_m fun hlo e => h.d_row (h.yes k hk hlo).2.2.1 e
  · refine own_keep h.row fun b cs' hbv _ hb => (hold b _ hb (fun e => h.m_row h.row (by rw [show g.v.ownBlock = some b from hbv, e])) fun hlo e => (h.apart k hk hlo b e).1 hbv).trans hb.symm
  · intro l hl
    by_cases e : l = kI k
    · exact ⟨k, hk, e⟩
    · refine h.keys l ?_
      rw [← hl]
      exact (has_put_other e _).symm
  · intro j hj hlo
    have hjk : j ≠ k := fun e => by
      subst e
      simp [Dkg.put] at hlo
    have hlo' : g.lo j = false := by simpa [Dkg.put, hjk] using hlo
    show Maps.has (g.D.put (kI k) (.held v2)) (kI j) = false
    rw [has_put_other (kI_ne hjk)]
    exact h.no j hj hlo'
  · intro j hj hlo
    by_cases hjk : j = k
    · subst hjk
      rw [hxs]
      refine ⟨has_put_same hT.isMap hkl _, fun z => ?_, ?_, fun i hi => ?_⟩
      · simp only [Dkg.put, if_true]
        exact atKey_put_same hT.isMap hkl _ z
      · simp only [Dkg.put, if_true]
        exact hrow3 hr (hnm2 hr)
      · simp only [Dkg.put, if_true]
        exact hs3 (hs i hi)
    · have hlo' : g.lo j = true := by simpa [Dkg.put, hjk] using hlo
      obtain ⟨y1, y2, y3, y4⟩ := h.yes j hj hlo'
      rw [hxk j hjk]
      refine ⟨?_, fun z => ?_, ?_, fun i hi => ?_⟩
      · show Maps.has (g.D.put (kI k) (.held v2)) (kI j) = true
        rw [has_put_other (kI_ne hjk)]
        exact y1
      · show (g.D.put (kI k) (.held v2)).atKey (kI j) z = .held (if j = k then v2 else g.Lv j)
        rw [atKey_put_other (kI_ne hjk), if_neg hjk]
        exact y2 z
      · show w3.ownsRow 0 TBY 1 (if j = k then v2 else g.Lv j) _ (if j = k then us2 else g.us j)
        rw [if_neg hjk, if_neg hjk]
        exact own_keep y3 fun b cs' hbv _ hb => (hold b _ hb (fun e => h.m_row y3 (by rw [hbv, e])) fun hlo2 e => (h.apart j hj hlo' b hbv).2 k hk (Ne.symm hjk) hlo2 e).trans hb.symm
      · show SeesB w3 ((if j = k then us2 else g.us j).getD i nlB) _
        rw [if_neg hjk]
        exact hs3 (hs2 (y4 i hi))
  · intro j hj
    by_cases hjk : j = k
    · subst hjk; rw [hxs]; exact hne
    · rw [hxk j hjk]; exact h.ne j hj
  · have hvk : ∀ b, v2.ownBlock = some b → g.v.ownBlock ≠ some b ∧ ∀ j, j < cur.length → j ≠ k → g.lo j = true → (g.Lv j).ownBlock ≠ some b := fun b hbv => by
      rcases hb with ⟨hlo, e⟩ | ⟨nb, e, hnb⟩
      · rw [e] at hbv
        exact h.apart k hk hlo b hbv
      · rw [e] at hbv
        injection hbv with hbv
        subst hbv
        refine ⟨fun e1 => ?_, fun j hj _ hlo e1 => ?_⟩
        · obtain ⟨cs, hcs⟩ := own_lt' h.row e1
          have := obj_lt hcs
          omega
        · obtain ⟨cs, hcs⟩ := own_lt' (h.yes j hj hlo).2.2.1 e1
          have := obj_lt hcs
          omega
    intro j hj hlo b hbj
    by_cases hjk : j = k
    · subst hjk
      have e : (g.put j v2 us2).Lv j = v2 := by simp [Dkg.put]
      rw [e] at hbj
      refine ⟨(hvk b hbj).1, fun i hi hij hlo2 => ?_⟩
      have e2 : (g.put j v2 us2).Lv i = g.Lv i := by simp [Dkg.put, hij]
      rw [e2]
      exact (hvk b hbj).2 i hi hij (by simpa [Dkg.put, hij] using hlo2)
    · have e : (g.put k v2 us2).Lv j = g.Lv j := by simp [Dkg.put, hjk]
      rw [e] at hbj
      have hlo' : g.lo j = true := by simpa [Dkg.put, hjk] using hlo
      have ha := h.apart j hj hlo' b hbj
      refine ⟨ha.1, fun i hi hij hlo2 => ?_⟩
      by_cases hik : i = k
      · subst hik
        have e2 : (g.put i v2 us2).Lv i = v2 := by simp [Dkg.put]
        rw [e2]
        intro e3
        exact (hvk b e3).2 j hj hjk hlo' hbj
      · have e2 : (g.put k v2 us2).Lv i = g.Lv i := by simp [Dkg.put, hik]
        rw [e2]
        exact ha.2 i hi hij (by simpa [Dkg.put, hik] using hlo2)
theorem Dkg.put_fp {k n : Nat} {v : Value} {us : List Value} {b : Nat} (h : (g.put k v us).fp d n b) : g.fp d n b ∨ v.ownBlock = some b := by
  rcases h with h | h | h | ⟨j, hj, hl, h⟩
  · exact Or.inl (Or.inl h)
  · exact Or.inl (Or.inr (Or.inl h))
  · exact Or.inl (Or.inr (Or.inr (Or.inl h)))
  · by_cases hjk : j = k
    · subst hjk
      exact Or.inr (by simpa [Dkg.put] using h)
    · refine Or.inl (Or.inr (Or.inr (Or.inr ⟨j, hj, by simpa [Dkg.put, hjk] using hl, by simpa [Dkg.put, hjk] using h⟩)))
end Go.Proofs.Tb
/- Contracts of slices.Clone at bytes and of the disk's made, ready, Blocks, act and at. -/
namespace Go.Proofs.Tb
open Go.Maps Go.RowKit
attribute [local go_sem] cell_set_same

@[local go_sem] theorem neqMapL (m : Option Nat) (w : World) : (binOp .neq TLM (.map m) (.map none)).run Try.prog w = .ok (.bool (!m.isNone)) w := run_neq_map_nil w TLM _ _ m Try.underlying67
theorem made_rep (z : Value) (n : Nat) : madeCells #[z] n = (List.replicate n z).toArray := by
  apply Array.ext'
  rw [toList_madeCells_one]
theorem make_64 (W : World) : (Instr.makeSlice TBY (.int .i64 64) (.int .i64 64)).run Try.prog W = .ok (.slice (some ⟨W.heap.size, 0, none⟩) 64 64) (W.alloc (.cells (bc z64).toArray TU8)) := by
  have h := run_make_row' (P := Try.prog) TBY TU8 (.int .u8 0) 1 Try.underlying44 u8_info rfl .i64 .i64 64 (by omega) (by omega) W
  rw [made_rep] at h
  exact h
theorem make_64_own (W : World) (base : Nat) (hb : base ≤ W.heap.size) : OwB base (W.alloc (.cells (bc z64).toArray TU8)) (.slice (some ⟨W.heap.size, 0, none⟩) 64 64) z64 := by
  have h := own_lit (w := W) TU8 1 (bc z64).toArray 64 hb (by omega) (by simp [bc, z64])
  exact h
theorem OwB.empty (w : World) : OwB w.heap.size (w.alloc (.cells #[] TU8)) (.slice (some ⟨w.heap.size, 0, none⟩) 0 0) [] := own_lit TU8 1 #[] 0 (Nat.le_refl _) (by omega) rfl
set_option maxHeartbeats 6400000 in
set_option maxRecDepth 100000 in
theorem rcloneB_any (A : Option Addr) (c : Nat) (bs : List Nat) (w : World) (h : Rv w 1 A 64 c (bc bs)) :
    Calls Try.prog 75 #[.slice A 64 c] w (Ret (fun v w' => OwB w.heap.size w' v bs) w) := by
  have hle := h.le
  have hcp := h.cap
  have hbl : bs.length = 64 := by have := h.len; rw [bc_len, Nat.mul_one] at this; exact this
  obtain ⟨b, o, rfl, _⟩ := h.at_ (by omega)
  have hq := fun wq => _root_.Go.run_eql_slice_nil (P := Try.prog) wq TBY TU8 (some ⟨b, o, none⟩) 64 c Try.underlying44
  have x1 : Ext w (w.alloc (.cells #[] TU8)) := Ext.allocR _ _
  have hr := h.below x1
  obtain ⟨hn1, hn2, hn3⟩ := hr.news (by omega)
  obtain ⟨v3, w3, hrun, hrow, hgr, hbel⟩ := run_appA (P := Try.prog) TBY TU8 _ 1 1 TBY u8_info Try.underlying44 rfl (by omega) (by omega) w.heap.size (.slice (some ⟨w.heap.size, 0, none⟩) 0 0) 0 [] (OwB.empty w) (some ⟨b, o, none⟩) 64 c (bc bs) hn1 hn2 hn3 (bc_one _) (by omega) (by omega) x1.size
  rw [Nat.zero_add, List.nil_append] at hrow
  have ho3 : OwB w.heap.size w3 v3 bs := by unfold OwB; rw [hbl]; exact hrow
  have x3 : Ext w w3 := (Below.mono (Ext.allocR w (.cells #[] TU8)) (Nat.le_refl _)).trans hbel
  have HO := Lib.hid (And.intro ho3 x3)
  clear hr hn1 hn2 hn3 hrow hgr hbel ho3 x1 x3 h hbl
  go_enter Try.func75, Try.ntmps75
  go_wp2_with (at_builtin; refine Go.Lib.wpList_append_run _ rfl _ _ _ _ rfl (.slice (some ⟨w.heap.size, 0, none⟩) 0 0) (.slice (some ⟨b, o, none⟩) 64 c) rfl rfl _ _ hrun ?_)
  (try simp only [Exit.inBlock, Exit.then])
  refine bodyPost_ret (v := v3) (by simp [results, Try.results75, go_sem, *]) rfl ?_
  exact ⟨_, rfl, HO.out.1, HO.out.2⟩
set_option maxHeartbeats 1600000 in
set_option maxRecDepth 100000 in
theorem rmade_any (d m : Nat) (v : Value) (down : Bool) (left : Nat) (w : World) (h : Blk w d TDK #[v, .map (some m), .bool down, .int .i64 (left : Int)]) :
    Calls Try.prog 62 #[.pointer (some ⟨d, 0, none⟩)] w (Ret (fun z _ => z = .bool true) w) := by
  have kd := h.cells
  simp only [cellsAre, Nat.zero_add, Nat.reduceAdd, and_true] at kd
  clear h
  go_enter Try.func62, Try.ntmps62
  go_wp2
  go_returns
  exact ⟨_, rfl, rfl, Below.refl _ _⟩
set_option maxHeartbeats 1600000 in
set_option maxRecDepth 100000 in
theorem rready_any (d m : Nat) (v : Value) (down : Bool) (left : Nat) (w : World) (h : Blk w d TDK #[v, .map (some m), .bool down, .int .i64 (left : Int)]) :
    Calls Try.prog 67 #[.pointer (some ⟨d, 0, none⟩)] w (Ret (fun z _ => z = .int .i64 (if down = true then 9 else 0)) w) := by
  have kd := h.cells
  simp only [cellsAre, Nat.zero_add, Nat.reduceAdd, and_true] at kd
  have H := Lib.hid h
  clear h
  cases down with
  | true =>
    go_enter Try.func67, Try.ntmps67
    go_wp2_with fail
    refine (rmade_any d m v _ left w H.out).mono ?_
    rintro e w1 ⟨z1, rfl, rfl, b1⟩
    have kd1 := (H.out.below b1).cells
    simp only [cellsAre, Nat.zero_add, Nat.reduceAdd, and_true] at kd1
    go_wp2
    go_returns
    exact ⟨_, rfl, rfl, b1⟩
  | false =>
    go_enter Try.func67, Try.ntmps67
    go_wp2_with fail
    refine (rmade_any d m v _ left w H.out).mono ?_
    rintro e w1 ⟨z1, rfl, rfl, b1⟩
    have kd1 := (H.out.below b1).cells
    simp only [cellsAre, Nat.zero_add, Nat.reduceAdd, and_true] at kd1
    go_wp2
    go_returns
    exact ⟨_, rfl, rfl, b1⟩
set_option maxHeartbeats 1600000 in
set_option maxRecDepth 100000 in
theorem rblocks_any (d m : Nat) (A : Option Addr) (n c : Nat) (down : Bool) (left : Nat) (w : World) (h : Blk w d TDK #[.slice A n c, .map (some m), .bool down, .int .i64 (left : Int)]) (hn : n ≤ 1000000) :
    Calls Try.prog 32 #[.pointer (some ⟨d, 0, none⟩)] w (Ret (fun z _ => z = .int .i64 (n : Int)) w) := by
  have H := Lib.hid h
  clear h
  go_enter Try.func32, Try.ntmps32
  go_wp2_with fail
  refine (rmade_any d m _ down left w H.out).mono ?_
  rintro e w1 ⟨z1, rfl, rfl, b1⟩
  have kd1 := (H.out.below b1).cells
  simp only [cellsAre, Nat.zero_add, Nat.reduceAdd, and_true] at kd1
  go_wp2
  go_returns
  exact ⟨_, rfl, rfl, b1⟩
variable {w : World} {d : Nat} {g : Dkg} {cur : List (List Nat)} {bl : List (List (List Nat))} {down : Bool} {left : Nat}
/-- How the fields lie. -/
theorem DI.form (h : DI w d g cur bl down left) (hn : cur ≠ []) : ∃ gb cap, g.v = .slice (some ⟨gb, 0, none⟩) cur.length cap ∧ cur.length ≤ cap ∧ cap ≤ 9223372036854775807 ∧ Blk w d TDK #[.slice (some ⟨gb, 0, none⟩) cur.length cap, .map (some g.m), .bool down, .int .i64 (left : Int)] := by
  have hd := h.dk
  rcases h.row.2 with ⟨e, h0⟩ | ⟨q, cap, cu, e, _, _, h3, h4, _⟩
  · exact absurd (List.eq_nil_of_length_eq_zero h0) hn
  · rw [e] at hd
    exact ⟨q, cap, e, h3, by simpa [maxLen] using h4, hd⟩
theorem DI.at_ (h : DI w d g cur bl down left) {gb cap : Nat} (hv : g.v = .slice (some ⟨gb, 0, none⟩) cur.length cap) {k : Nat} (hk : k < cur.length) : w.cell? ⟨gb, k, none⟩ = some (g.vs.getD k nlB) := by
  have hrow := h.row
  rw [hv] at hrow
  have hlen : g.vs.length = cur.length := by have := hrow.1; omega
  rw [hrow.cellAt k (by omega)]
  have hk2 : k < g.vs.length := by omega
  simp [List.getD, List.getElem?_eq_getElem hk2]
set_option maxHeartbeats 3200000 in
set_option maxRecDepth 100000 in
theorem rat_any (h : DI w d g cur bl down left) {k : Nat} (hk : k < cur.length) :
    Calls Try.prog 64 #[.pointer (some ⟨d, 0, none⟩), .int .i64 (k : Int)] w (Ret (fun z w' => ∃ A c, z = .slice A 64 c ∧ OwB w.heap.size w' (.slice A 64 c) (cur.getD k z64)) w) := by
  have hne : cur ≠ [] := fun e => by rw [e] at hk; simp at hk
  obtain ⟨gb, cap, hv, hc1, hc2, hd⟩ := h.form hne
  have hat := h.at_ hv hk
  have hfew := h.few
  obtain ⟨n, hn⟩ : ∃ n, cur.length = n := ⟨_, rfl⟩
  rw [hn] at hd hc1 hk hfew
  have kd := hd.cells
  simp only [cellsAre, Nat.zero_add, Nat.reduceAdd, and_true] at kd
  obtain ⟨x, hx⟩ : ∃ x, g.vs.getD k nlB = x := ⟨_, rfl⟩
  obtain ⟨bs, hbs⟩ : ∃ bs, cur.getD k z64 = bs := ⟨_, rfl⟩
  have hs := h.sees k (by omega)
  rw [hx, hbs] at hs
  rw [hx] at hat
  rw [hbs]
  have HD := Lib.hid hd
  have HAT := Lib.hid hat
  clear h hne hv hd hbs hx hn
  rcases hs with ⟨rfl, rfl⟩ | ⟨ho, hl⟩
  · unfold nlB at hat
    have hq := fun wq => _root_.Go.run_eql_slice_nil (P := Try.prog) wq TBY TU8 none 0 0 Try.underlying44
    have hmk := make_64 w
    have HZ := Lib.hid (make_64_own w w.heap.size (Nat.le_refl _))
    have X := Lib.hid (Ext.allocR w (.cells (bc z64).toArray TU8))
    go_enter Try.func64, Try.ntmps64
    go_wp2
    go_returns
    exact ⟨_, rfl, ⟨_, _, rfl, HZ.out⟩, X.out⟩
  · obtain ⟨A, c, rfl, hr⟩ := own_rv ho
    rw [hl] at hat hr
    have hq := fun wq => _root_.Go.run_eql_slice_nil (P := Try.prog) wq TBY TU8 A 64 c Try.underlying44
    have HR := Lib.hid hr
    have HL := Lib.hid hl
    obtain ⟨b0, o0, rfl, _⟩ := hr.at_ (by omega)
    clear ho hl hr
    go_enter Try.func64, Try.ntmps64
    go_wp2_with fail
    refine (rcloneB_any _ c bs _ HR.out).mono ?_
    rintro e w1 ⟨z1, rfl, ho1, b1⟩
    obtain ⟨A1, c1, rfl, hr1⟩ := own_rv ho1
    rw [HL.out] at ho1 ⊢
    have HZ := Lib.hid (And.intro ho1 b1)
    clear ho1 b1 hr1
    go_wp2
    go_returns
    exact ⟨_, rfl, ⟨_, _, rfl, HZ.out.1⟩, HZ.out.2⟩
end Go.Proofs.Tb

