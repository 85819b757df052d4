/- Contract of load: a tree that stands on the disk. -/
import Derived.Test.YtfljnfdeboibhaaGreatRod
set_option linter.unusedVariables false
set_option linter.unusedSimpArgs false
namespace Go.Proofs.Tb
open Go.Maps Go.RowKit Go.Lib
attribute [local go_sem] cell_set_same neqMapL

abbrev TMH : TypeId := 150
abbrev TLD : TypeId := 152
/-- Read at a disk that is up. -/
theorem zeroH (w : World) : (zeroValue TNP).run Tryz.prog w = .ok (.pointer none) w := by kernel_rfl
theorem own_few {w : World} {m n N : Nat} {D : DataW Value} (hm : w.ownsMap Tryz.prog TIN RH m n D) (hk : ∀ l, Maps.has D l = true → ∃ k, k < N ∧ l = kI k) : Maps.size D ≤ N := by
  obtain ⟨es, hD, hp⟩ := hm.tidy lawL
  have hk : ∀ p ∈ es, ∃ k, k < N ∧ p.1 = kI k := fun p hp => by
    refine hk p.1 ?_
    rw [hD, Maps.has_eq, List.any_eq_true]
    refine ⟨p, hp, ?_⟩
    obtain ⟨es', hD', hq⟩ := World.ownsMap.entries hm lawL
    rw [hD] at hD'
    injection hD' with hD'
    subst hD'
    exact WideAt.sameKey_self (hq.2 p hp)
  rw [hD, Maps.size_eq]
  let f : Lit × DataW Value → Nat := fun p => match p.1 with | .int _ z => z.toNat | _ => 0
  have hf : ∀ p ∈ es, f p < N ∧ p.1 = kI (f p) := fun p hp => by
    obtain ⟨k, hk, e⟩ := hk p hp
    have : f p = k := by show (match p.1 with | .int _ z => z.toNat | _ => 0) = k; rw [e]; simp [kI]
    rw [this]
    exact ⟨hk, e⟩
  have := upto_len N (es.map f) (by
    rw [List.pairwise_map]
    refine hp.imp_of_mem fun {a b} ha hb hne e => hne ?_
    rw [(hf a ha).2, (hf b hb).2, e]) fun x hx => by
      obtain ⟨p, hp, rfl⟩ := List.mem_map.1 hx
      exact (hf p hp).1
  simpa using this
/-- A map's block, and no other. -/
def XMp (hm : Nat) (b : Nat) (o : Obj) : Prop := b = hm ∧ ∃ es c, o = .map es c
theorem XMp.no {hm : Nat} (b : Nat) (cs : Array Value) (T : TypeId) : ¬ XMp hm b (.cells cs T (0, 0)) := fun ⟨_, _, _, h⟩ => by cases h
/-- The loader in memory: the disk, and the nodes that are loaded, by their blocks. -/
structure LdS (w : World) (base lp hm d : Nat) (bl : List (List (List Nat))) (left : Nat) (B : Nat → Nat) (D : DataW Value) : Prop where
  ld : Blk w lp TLD #[.pointer (some ⟨d, 0, none⟩), .map (some hm), .bool false]
  dk : DW (fun b => b < base) w d bl false left
  hb : base ≤ hm
  mp : w.ownsMap Tryz.prog TIN RH hm (Maps.size D) D
  keys : ∀ l, Maps.has D l = true → ∃ k, 2 ≤ k ∧ k < bl.length ∧ l = kI k
  yes : ∀ k, Maps.has D (kI k) = true → ∃ t : MT, t ≠ .nil ∧ (∀ z, D.atKey (kI k) z = .held (.pointer t.ad)) ∧ TrW w B (Pos B) t ∧ t.on (lastsB bl) B ∧ t.bk B = k ∧ OkP t.er.prs
  bz : ∀ a, w.heap.size ≤ a → B a = 0
  bm : ∀ a, B a ≤ 4096
theorem map_chg2 {X : Nat → Obj → Prop} {w w' : World} {H : Type} {P : Program} {k : TypeId} {R : Value → Option (DataW H × List MemPlace)} {b n : Nat} {D : DataW H} (h : w.ownsMap P k R b n D) (hc : Chg X w w') (hX : ∀ es c, ¬ X b (.map es c)) : w'.ownsMap P k R b n D := by
  obtain ⟨es, clock, hb, r⟩ := h
  exact ⟨es, clock, hc.same b _ hb (hX _ _), r⟩
theorem LdS.chg {X : Nat → Obj → Prop} {w w' : World} {base lp hm d : Nat} {bl : List (List (List Nat))} {left : Nat} {B : Nat → Nat} {D : DataW Value} (h : LdS w base lp hm d bl left B D) (hc : Chg X w w') (h1 : ∀ b o, b < base → MutK o → ¬ X b o) (h2 : ∀ b cs, ¬ X b (.cells cs TU8 (0, 0))) (h3 : ∀ b cs, ¬ X b (.cells cs TLD (0, 0))) (h4 : ∀ es c, ¬ X hm (.map es c)) (h5 : ∀ b cs, 0 < B b → ¬ X b (.cells cs TNO (0, 0))) : LdS w' base lp hm d bl left B D := by
  refine ⟨hc.blk h.ld (h3 _ _), h.dk.chg hc h1 h2, h.hb, map_chg2 h.mp hc h4, h.keys, fun k hk => ?_, fun a ha => h.bz a (Nat.le_trans hc.size ha), h.bm⟩
  obtain ⟨t, a1, a2, a3, a4⟩ := h.yes k hk
  refine ⟨t, a1, a2, ?_, a4⟩
  have key : ∀ {t : MT}, TrW w B (Pos B) t → TrW w' B (Pos B) t := by
    intro t
    induction t with
    | nil => intro _; trivial
    | node g k v l r ihl ihr => exact fun ⟨c1, c2, c3, c4⟩ => ⟨hc.blk c1 (h5 _ _ c2), c2, ihl c3, ihr c4⟩
  exact key a3
theorem LdS.ext {w w' : World} {base lp hm d : Nat} {bl : List (List (List Nat))} {left : Nat} {B : Nat → Nat} {D : DataW Value} (h : LdS w base lp hm d bl left B D) (hx : Ext w w') : LdS w' base lp hm d bl left B D :=
  h.chg (X := fun _ _ => False) (Chg.ext hx) (fun _ _ _ _ h => h) (fun _ _ h => h) (fun _ _ h => h) (fun _ _ h => h) fun _ _ _ h => h
set_option maxRecDepth 100000 in
theorem LdS.look {w : World} {base lp hm d : Nat} {bl : List (List (List Nat))} {left : Nat} {B : Nat → Nat} {D : DataW Value} (h : LdS w base lp hm d bl left B D) {k : Nat} (hk : k ≤ 1000000) {v : Value} (hv : (Maps.has D (kI k) = false ∧ v = .pointer none) ∨ (∀ z, D.atKey (kI k) z = .held v)) :
    (Instr.lookup TMH (.map (some hm)) (.int .i64 (k : Int)) false).run Tryz.prog w = .ok v w := by
  obtain ⟨u, ps, hrun, hR⟩ := World.ownsMap.lookup (H := Value) h.mp lawL Tryz.underlying150 (zeroH w) (R := RH) (zd := .held (.pointer none)) (zp := []) rfl (keyK (k := k) (by omega))
  rw [hrun]
  have hu : DataW.held u = D.atKey (kI k) (.held (.pointer none)) := by
    unfold RH at hR
    injection hR with hR
    injection hR
  rcases hv with ⟨hv, rfl⟩ | hv
  · rw [atKey_of_not_has hv] at hu
    injection hu with hu
    rw [hu]
  · rw [hv] at hu
    injection hu with hu
    rw [hu]
theorem LdS.no0 {w : World} {base lp hm d : Nat} {bl : List (List (List Nat))} {left : Nat} {B : Nat → Nat} {D : DataW Value} (h : LdS w base lp hm d bl left B D) : Maps.has D (kI 0) = false := by
  cases hh : Maps.has D (kI 0) with
  | false => rfl
  | true =>
    obtain ⟨k, h1, _, h3⟩ := h.keys _ hh
    exact absurd h3 (kI_ne (by omega))
/-- Blocks told alike for what is old. -/
def AgB (w : World) (B B' : Nat → Nat) : Prop := ∀ a, a < w.heap.size → B' a = B a
theorem AgB.tr {w : World} {B B' : Nat → Nat} (h : AgB w B B') : ∀ {t : MT}, TrW w B (Pos B) t → TrW w B' (Pos B') t
  | .nil, _ => trivial
  | .node g _ _ _ _, ⟨h1, h2, h3, h4⟩ => by
    have e : B' g = B g := h g h1.lt
    exact ⟨by rw [e]; exact h1, by unfold Pos; rw [e]; exact h2, h.tr h3, h.tr h4⟩
theorem AgB.bk {w : World} {B B' : Nat → Nat} (h : AgB w B B') : ∀ {t : MT}, TrW w B (Pos B) t → t.bk B' = t.bk B
  | .nil, _ => rfl
  | .node g _ _ _ _, ⟨h1, _, _, _⟩ => h g h1.lt
theorem AgB.on {w : World} {B B' : Nat → Nat} {cur : List (List Nat)} (h : AgB w B B') : ∀ {t : MT}, TrW w B (Pos B) t → t.on cur B → t.on cur B'
  | .nil, _, _ => trivial
  | .node g _ _ _ _, ⟨h1, _, h3, h4⟩, ⟨⟨i1, i2, i3⟩, i4, i5⟩ => by
    have e : B' g = B g := h g h1.lt
    exact ⟨⟨by rw [e]; exact i1, by rw [e]; exact i2, by rw [e, h.bk h3, h.bk h4]; exact i3⟩, h.on h3 i4, h.on h4 i5⟩
/-- What load answers. -/
structure LdP (w w' : World) (base lp hm d : Nat) (bl : List (List (List Nat))) (left : Nat) (B : Nat → Nat) (T : Tr) (b : Nat) (t' : MT) (B' : Nat → Nat) (D' : DataW Value) : Prop where
  er : t'.er = T
  tr : TrW w' B' (Pos B') t'
  on : t'.on (lastsB bl) B'
  bk : t'.bk B' = b
  st : LdS w' base lp hm d bl left B' D'
  ag : AgB w B B'
  ch : Chg (XMp hm) w w'
/-- One block more is told. -/
def upF (B : Nat → Nat) (g b : Nat) : Nat → Nat := fun a => if a = g then b else B a
/-- A node is complete. -/
theorem LdS.put {w : World} {base lp hm d : Nat} {bl : List (List (List Nat))} {left : Nat} {B : Nat → Nat} {D : DataW Value} (h : LdS w base lp hm d bl left B D) {g : Nat} {k v : Str} {l r : MT} {b : Nat} (hg : Blk w g TNO #[.string k, .string v, .pointer l.ad, .pointer r.ad, .int .i64 ((1 + max l.er.ht r.er.ht : Nat) : Int), .int .i64 (b : Int)]) (hB : B g = 0) (hb2 : 2 ≤ b) (hbl : b < bl.length)
    (hl : TrW w B (Pos B) l) (hr : TrW w B (Pos B) r) (hon : (lastsB bl).getD b z64 = blkB (nodB k v (l.bk B) (r.bk B) (1 + max l.er.ht r.er.ht))) (hlo : l.on (lastsB bl) B) (hro : r.on (lastsB bl) B) (hok : OkP (MT.node g k v l r).er.prs) :
    ∃ w3, (Instr.mapUpdate TMH (.map (some hm)) (.int .i64 (b : Int)) (.pointer (some ⟨g, 0, none⟩))).run Tryz.prog w = .ok () w3 ∧ TrW w3 (upF B g b) (Pos (upF B g b)) (.node g k v l r) ∧ (MT.node g k v l r).on (lastsB bl) (upF B g b) ∧ LdS w3 base lp hm d bl left (upF B g b) (D.put (kI b) (.held (.pointer (some ⟨g, 0, none⟩)))) ∧ Chg (XMp hm) w w3 := by
  have h96 : bl.length ≤ 4096 := by
    obtain ⟨gd, hdi, _, _⟩ := h.dk
    have := hdi.few
    rw [List.length_map] at this
    exact this
  have hsz : Maps.size D ≤ bl.length := own_few h.mp fun l hl => by
    obtain ⟨k, _, h2, h3⟩ := h.keys l hl
    exact ⟨k, h2, h3⟩
  obtain ⟨w3, hrun, hm3, ht⟩ := World.ownsMap.store (H := Value) h.mp lawL Tryz.underlying150 (by unfold maxLen; omega) (key := .int .i64 (b : Int)) (keyK (k := b) (by omega)) (R := RH) (val := .pointer (some ⟨g, 0, none⟩)) (d := .held (.pointer (some ⟨g, 0, none⟩))) (ps := []) rfl
  have hc : Chg (XMp hm) w w3 := Chg.turn ht fun es c => ⟨rfl, es, c, rfl⟩
  have hag : ∀ a, 0 < B a → (upF B g b) a = B a := fun a ha => by
    unfold upF
    rw [if_neg fun e => by subst e; omega]
  have hgg : (upF B g b) g = b := if_pos rfl
  have hT := h.mp.tidy lawL
  have hkl : WideAt.IsKeyLit (kI b) := trivial
  have hcl : ∀ {t : MT}, TrW w B (Pos B) t → TrW w3 (upF B g b) (Pos (upF B g b)) t := fun hh => (hh.congr hag).chg hc fun b cs => XMp.no b cs TNO
  have hnode : TrW w3 (upF B g b) (Pos (upF B g b)) (.node g k v l r) := by
    refine ⟨?_, ?_, hcl hl, hcl hr⟩
    · rw [hgg]; exact hc.blk hg (XMp.no _ _ _)
    · unfold Pos; rw [hgg]; omega
  have hnon : (MT.node g k v l r).on (lastsB bl) (upF B g b) := by
    refine ⟨⟨by rw [hgg]; exact hb2, by rw [hgg, List.length_map]; exact hbl, ?_⟩, MT.on_to rfl hag hlo fun _ _ => rfl, MT.on_to rfl hag hro fun _ _ => rfl⟩
    rw [hgg, MT.bk_to hag hlo, MT.bk_to hag hro]
    exact hon
  refine ⟨w3, hrun, hnode, hnon, ?_, hc⟩
  · refine ⟨hc.blk h.ld (XMp.no _ _ _), h.dk.chg hc (fun b o hb _ hX => by have := h.hb; have := hX.1; omega) fun b cs => XMp.no b cs TU8, h.hb, own_tight hm3, fun l hl => ?_, fun k2 hk2 => ?_, fun a ha => ?_, fun a => ?_⟩
    · by_cases e : l = kI b
      · exact ⟨b, hb2, hbl, e⟩
      · refine h.keys l ?_
        rw [← hl]
        exact (has_put_other e _).symm
    · by_cases e : k2 = b
      · subst e
        exact ⟨.node g k v l r, (fun e => by cases e), fun z => atKey_put_same hT.isMap hkl _ z, hnode, hnon, hgg, hok⟩
      · rw [has_put_other (kI_ne e)] at hk2
        obtain ⟨t, a1, a2, a3, a4, a5, a6⟩ := h.yes k2 hk2
        exact ⟨t, a1, fun z => by rw [atKey_put_other (kI_ne e)]; exact a2 z, hcl a3, MT.on_to rfl hag a4 fun _ _ => rfl, by rw [MT.bk_to hag a4]; exact a5, a6⟩
    · have h1 := hc.size
      have h2 := hg.lt
      unfold upF
      rw [if_neg (by omega)]
      exact h.bz a (by omega)
    · unfold upF
      split
      · omega
      · exact h.bm a
end Go.Proofs.Tb
