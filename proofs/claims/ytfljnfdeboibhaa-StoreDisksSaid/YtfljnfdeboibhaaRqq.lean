/- What is done to a disk and to the reference's disk, side by side. -/
import Derived.Test.YtfljnfdeboibhaaRqo
import Derived.Test.YtfljnfdeboibhaaRqp
import Derived.Test.YtfljnfdeboibhaaRqm
import Derived.Test.YtfljnfdeboibhaaRpj
import Derived.Test.YtfljnfdeboibhaaRoo
set_option linter.unusedVariables false
set_option linter.unusedSimpArgs false
namespace Go.Proofs.Tb
open Go.Maps Go.RowKit Go.Lib
attribute [local go_sem] cell_set_same neqMapL

theorem looC_looL (bl : List (List (List Nat))) : looC bl = looL bl := by
  have h := looB_looL (g := ⟨0, nlB, [], .map [], fun _ => nlB, fun _ => [], fun k => decide (2 ≤ (bl.getD k []).length)⟩) (bl := bl) (fun k _ => rfl) bl.length (Nat.le_refl _)
  rw [List.take_length] at h
  exact h
theorem RdV.chg {X : Nat → Obj → Prop} {w w' : World} {v : Value} {bl : List (List (List Nat))} {down : Bool} {left : Nat} (h : RdV w v bl down left) (hc : Chg X w w') (hX : ∀ b cs, ¬ X b (.cells cs TST (0, 0))) (hX2 : ∀ b cs, ¬ X b (.cells cs TSL (0, 0))) : RdV w' v bl down left := by
  obtain ⟨A, n, c, a, lf, e, h1, h2⟩ := h
  exact ⟨A, n, c, a, lf, e, h1.chg hc hX hX2, h2⟩
theorem MF.tx {F : Nat → Prop} (b : Nat) (cs : Array Value) : ¬ MF F b (.cells cs TST (0, 0)) := fun hx => by
  have : TST = TDK ∨ TST = TBY ∨ TST = TSE := hx.2
  revert this
  decide
theorem MF.sl {F : Nat → Prop} (b : Nat) (cs : Array Value) : ¬ MF F b (.cells cs TSL (0, 0)) := fun hx => by
  have : TSL = TDK ∨ TSL = TBY ∨ TSL = TSE := hx.2
  revert this
  decide
theorem MF.rd {F : Nat → Prop} (b : Nat) (cs : Array Value) : ¬ MF F b (.cells cs TRD (0, 0)) := fun hx => by
  have : TRD = TDK ∨ TRD = TBY ∨ TRD = TSE := hx.2
  revert this
  decide
/-! Disks whose contents' blocks are told. -/
theorem DWn.dw {N F : Nat → Prop} {w : World} {d : Nat} {bl : List (List (List Nat))} {down : Bool} {left : Nat} (h : DWn N F w d bl down left) : DW F w d bl down left := by
  obtain ⟨g, h1, h2, h3, _⟩ := h
  exact ⟨g, h1, h2, h3⟩
theorem SeesB.old {w : World} {v : Value} {bs : List Nat} (h : SeesB w v bs) : ∀ b, v.ownBlock = some b → b < w.heap.size := fun b hb => by
  rcases h with ⟨rfl, _⟩ | ⟨h, _⟩
  · cases hb
  · exact own_lt h b hb
theorem DW.n {F : Nat → Prop} {w : World} {d : Nat} {bl : List (List (List Nat))} {down : Bool} {left : Nat} (h : DW F w d bl down left) : DWn (fun b => b < w.heap.size) F w d bl down left := by
  obtain ⟨g, h1, h2, h3⟩ := h
  refine ⟨g, h1, h2, h3, fun k hk => ?_⟩
  have hk2 : k < (bl.map fun l => l.getLastD z64).length := by rw [List.length_map]; exact hk
  refine ⟨(h1.sees k hk2).old, fun hl j b hb => ?_⟩
  obtain ⟨_, _, hr, hs⟩ := h1.yes k hk2 hl
  by_cases hj : j < (bl.getD k []).length
  · exact (hs j hj).old b hb
  · have hul : (g.us k).length = (bl.getD k []).length := by have := hr.1; omega
    rw [List.getD_eq_getElem?_getD, List.getElem?_eq_none (by omega)] at hb
    cases hb
theorem DWn.mono {N N' F F' : Nat → Prop} {w : World} {d : Nat} {bl : List (List (List Nat))} {down : Bool} {left : Nat} (h : DWn N F w d bl down left) (hN : ∀ b, N b → N' b) (hF : ∀ b, F b → F' b) : DWn N' F' w d bl down left := by
  obtain ⟨g, h1, h2, h3, h4⟩ := h
  exact ⟨g, h1, h2, fun b hb => hF b (h3 b hb), h4.mono hN⟩
theorem DW.mono {F F' : Nat → Prop} {w : World} {d : Nat} {bl : List (List (List Nat))} {down : Bool} {left : Nat} (h : DW F w d bl down left) (hF : ∀ b, F b → F' b) : DW F' w d bl down left := by
  obtain ⟨g, h1, h2, h3⟩ := h
  exact ⟨g, h1, h2, fun b hb => hF b (h3 b hb)⟩
theorem DWn.chg {N F : Nat → Prop} {X : Nat → Obj → Prop} {w w' : World} {d : Nat} {bl : List (List (List Nat))} {down : Bool} {left : Nat} (h : DWn N F w d bl down left) (hc : Chg X w w') (h1 : ∀ b o, F b → MutK o → ¬ X b o) (h2 : ∀ b cs, ¬ X b (.cells cs TU8 (0, 0))) : DWn N F w' d bl down left := by
  obtain ⟨g, g1, g2, g3, g4⟩ := h
  refine ⟨g, ?_, g2, g3, g4⟩
  have hdw : DW F w d bl down left := ⟨g, g1, g2, g3⟩
  refine g1.chg (X := fun b o => X b o ∧ ∃ o', w.heap[b]? = some o' ∧ o' = o) ⟨hc.os, hc.tape, hc.output, hc.size, fun b o hb hX => hc.same b o hb fun hx => hX ⟨hx, o, hb, rfl⟩⟩ (fun b o hb hX => ?_) fun b cs hX => h2 b cs hX.1
  obtain ⟨hX, o', ho', rfl⟩ := hX
  obtain ⟨o2, ho2, hm⟩ := g1.fp_lt hb
  rw [ho'] at ho2
  injection ho2 with ho2
  rw [← ho2] at hm
  exact h1 b o' (g3 b (by rw [List.length_map] at hb; exact hb)) hm hX
theorem DWn.ext {N F : Nat → Prop} {w w' : World} {d : Nat} {bl : List (List (List Nat))} {down : Bool} {left : Nat} (h : DWn N F w d bl down left) (x : Ext w w') : DWn N F w' d bl down left := h.chg (X := fun _ _ => False) (Chg.ext x) (fun _ _ _ _ h => h) fun _ _ h => h
/-- A row of bytes that is not in N may change. -/
theorem DWn.chgU {N F : Nat → Prop} {w w' : World} {d : Nat} {bl : List (List (List Nat))} {down : Bool} {left B : Nat} (h : DWn N F w d bl down left) (hc : Chg (fun b o => b = B ∧ ∃ cs, o = .cells cs TU8 (0, 0)) w w') (hB : ¬ N B) : DWn N F w' d bl down left := by
  obtain ⟨g, g1, g2, g3, g4⟩ := h
  refine ⟨g, ?_, g2, g3, g4⟩
  have hno : ∀ (T : TypeId), T ≠ TU8 → ∀ (b : Nat) (cs : Array Value), ¬ (b = B ∧ ∃ cs', Obj.cells cs T (0, 0) = .cells cs' TU8 (0, 0)) := fun T hT b cs hX => by
    obtain ⟨_, cs', hX⟩ := hX
    injection hX with _ hX
    exact hT hX
  have hs : ∀ {v : Value} {bs : List Nat}, SeesB w v bs → (∀ b, v.ownBlock = some b → N b) → SeesB w' v bs := fun {v bs} hv hn => by
    rcases hv with hv | ⟨hv, hl⟩
    · exact Or.inl hv
    · exact Or.inr ⟨hc.own hv fun b cs hb hX => hB (hX.1 ▸ hn b hb), hl⟩
  have hl : (bl.map fun l => l.getLastD z64).length = bl.length := List.length_map _
  refine ⟨hc.blk g1.dk (hno _ (by decide) _ _), g1.lft, hc.own g1.row fun b cs _ => hno _ (by decide) b cs, g1.len, g1.few, map_chg2 g1.mp hc fun es c hX => (by obtain ⟨_, cs', hX⟩ := hX; cases hX), fun k hk => hs (g1.sees k hk) (g4 k (by rw [← hl]; exact hk)).1, g1.keys, g1.no, fun k hk hlo => ?_, g1.ne, g1.apart⟩
  obtain ⟨y1, y2, y3, y4⟩ := g1.yes k hk hlo
  exact ⟨y1, y2, hc.own y3 fun b cs _ => hno _ (by decide) b cs, fun j hj => hs (y4 j hj) fun b hb => (g4 k (by rw [← hl]; exact hk)).2 hlo j b hb⟩
theorem DW.apart {F G : Nat → Prop} {w w' : World} {d : Nat} {bl : List (List (List Nat))} {down : Bool} {left : Nat} (h : DW F w d bl down left) (hc : Chg (MF G) w w') (hd : ∀ b, F b → ¬ G b) : DW F w' d bl down left :=
  h.chg hc (fun b o hb _ hX => hd b hb hX.1) MF.u8
theorem DWn.apart {N F G : Nat → Prop} {w w' : World} {d : Nat} {bl : List (List (List Nat))} {down : Bool} {left : Nat} (h : DWn N F w d bl down left) (hc : Chg (MF G) w w') (hd : ∀ b, F b → ¬ G b) : DWn N F w' d bl down left :=
  h.chg hc (fun b o hb _ hX => hd b hb hX.1) MF.u8
/-- A clone has the same contents' blocks. -/
theorem rdclone_n {N F : Nat → Prop} {w : World} {d : Nat} {bl : List (List (List Nat))} {down : Bool} {left : Nat} (hw : DWn N F w d bl down left) (hn : 1 ≤ bl.length) (hfew : ∀ k, (bl.getD k []).length ≤ 1000000) :
    Calls Try.prog 34 #[.pointer (some ⟨d, 0, none⟩)] w (Ret (fun z w' => ∃ d2, z = .pointer (some ⟨d2, 0, none⟩) ∧ DWn N (fun b => w.heap.size ≤ b ∧ b < w'.heap.size) w' d2 bl down left) w) := by
  obtain ⟨g, h, hlo, hfp, hdn⟩ := hw
  have hl : (bl.map fun l => l.getLastD z64).length = bl.length := List.length_map _
  refine (rdclone_di h (fun e => (by rw [e] at hl; have h0 : 0 = bl.length := hl; omega)) hfew).mono ?_
  rintro e w' ⟨z, rfl, ⟨d2, g2, rfl, h2, ⟨e1, e2, e3⟩, hf2⟩, hb⟩
  refine ⟨_, rfl, ⟨d2, rfl, g2, h2, fun k hk => by rw [e1]; exact hlo k hk, fun b hb => ⟨hf2 b (by rw [hl]; exact hb), ?_⟩, fun k hk => ?_⟩, hb⟩
  · obtain ⟨o, ho, _⟩ := h2.fp_lt (by rw [hl]; exact hb)
    exact obj_lt ho
  · rw [e1, e2, e3]
    exact hdn k hk
/-! What an act makes of a disk's state. -/
structure DkT where
  bl : List (List (List Nat))
  dn : Bool
  lf : Nat
def erT (s : DkT) : Int := if s.lf = 1 then 9 else 0
def wrT (s : DkT) (k : Int) (bs : List Nat) : Int × DkT :=
  if s.dn = true then (9, s) else if k < 0 ∨ (s.bl.length : Int) ≤ k ∨ bs.length ≠ 64 then (1, s) else (if s.lf = 1 then 9 else 0, ⟨s.bl.set k.toNat (s.bl.getD k.toNat [] ++ [bs]), decide (s.lf = 1), s.lf - 1⟩)
def syT (s : DkT) : Int × DkT := if s.dn = true then (9, s) else (if s.lf = 1 then 9 else 0, ⟨if s.lf = 1 then s.bl else safeB s.bl, decide (s.lf = 1), s.lf - 1⟩)
def arT (s : DkT) (k : Int) : DkT := ⟨s.bl, s.dn, if s.dn = true then s.lf else (max 0 k).toNat⟩
def rsT (s : DkT) (ks : List Nat) : DkT := ⟨onesB (resC s.bl ks), false, 0⟩
def FewB (m : Nat) (bl : List (List (List Nat))) : Prop := ∀ k, (bl.getD k []).length ≤ m
theorem FewB.mono {m m' : Nat} {bl : List (List (List Nat))} (h : FewB m bl) (hm : m ≤ m') : FewB m' bl := fun k => Nat.le_trans (h k) hm
theorem FewB.ones {m : Nat} (hm : 1 ≤ m) (X : List (List Nat)) : FewB m (onesB X) := fun k => by
  unfold onesB
  rw [List.getD_eq_getElem?_getD, List.getElem?_map]
  cases X[k]? with
  | none => exact Nat.zero_le _
  | some x => exact hm
theorem FewB.set {m : Nat} {bl : List (List (List Nat))} (h : FewB m bl) (k : Nat) (b : List Nat) : FewB (m + 1) (bl.set k (bl.getD k [] ++ [b])) := fun i => by
  by_cases hk : k < bl.length
  · rw [getD_setL _ _ _ hk]
    by_cases hik : i = k
    · rw [if_pos hik, List.length_append]
      have := h k
      show _ + 1 ≤ _
      omega
    · rw [if_neg hik]
      have := h i
      omega
  · rw [List.set_eq_of_length_le (by omega)]
    have := h i
    omega
theorem wrT_ok (s : DkT) (k : Int) (bs : List Nat) {m : Nat} (h : FewB m s.bl) : (wrT s k bs).2.bl.length = s.bl.length ∧ FewB (m + 1) (wrT s k bs).2.bl := by
  unfold wrT
  by_cases h1 : s.dn = true
  · rw [if_pos h1]; exact ⟨rfl, h.mono (by omega)⟩
  · rw [if_neg h1]
    by_cases h2 : k < 0 ∨ (s.bl.length : Int) ≤ k ∨ bs.length ≠ 64
    · rw [if_pos h2]; exact ⟨rfl, h.mono (by omega)⟩
    · rw [if_neg h2]; exact ⟨List.length_set, h.set _ _⟩
theorem syT_ok (s : DkT) {m : Nat} (hm : 1 ≤ m) (h : FewB m s.bl) : (syT s).2.bl.length = s.bl.length ∧ FewB (m + 1) (syT s).2.bl := by
  unfold syT
  by_cases h1 : s.dn = true
  · rw [if_pos h1]; exact ⟨rfl, h.mono (by omega)⟩
  · rw [if_neg h1]
    show (if s.lf = 1 then s.bl else safeB s.bl).length = s.bl.length ∧ FewB (m + 1) (if s.lf = 1 then s.bl else safeB s.bl)
    by_cases h2 : s.lf = 1
    · rw [if_pos h2]; exact ⟨rfl, h.mono (by omega)⟩
    · rw [if_neg h2]
      refine ⟨by unfold safeB lastsB; rw [List.length_map, List.length_map], ?_⟩
      rw [safeB_ones]
      exact FewB.ones (by omega) _
theorem rsT_ok (s : DkT) (ks : List Nat) {m : Nat} (hm : 1 ≤ m) : (rsT s ks).bl.length = s.bl.length ∧ FewB (m + 1) (rsT s ks).bl :=
  ⟨by show (onesB (resC s.bl ks)).length = _; rw [onesB_len, resC_len], FewB.ones (by omega) _⟩
/-! The disk's side. -/
abbrev DWs (N F : Nat → Prop) (w : World) (d : Nat) (s : DkT) : Prop := DWn N F w d s.bl s.dn s.lf
abbrev RVs (w : World) (v : Value) (s : DkT) : Prop := RdV w v s.bl s.dn s.lf
theorem dw_write {N F : Nat → Prop} {w : World} {d : Nat} {s : DkT} (hw : DWs N F w d s) (hF : ∀ b, w.heap.size ≤ b → F b) (hNw : ∀ b, w.heap.size ≤ b → N b) (h0 : 0 < s.bl.length) (k : Int) {A : Option Addr} {n c : Nat} {bs : List Nat} (hb : ∀ W, Chg (MF F) w W → Rv W 1 A n c (bc bs)) (hn : bs.length = n) (hfew : FewB 1000000 s.bl) :
    Calls Try.prog 41 #[.pointer (some ⟨d, 0, none⟩), .int .i64 k, .slice A n c] w fun e w' => e = .returned (.int .i64 (wrT s k bs).1) ∧ DWs N F w' d (wrT s k bs).2 ∧ Chg (MF F) w w' := by
  obtain ⟨bl, dn, lf⟩ := s
  subst hn
  unfold wrT
  cases dn with
  | true =>
    rw [if_pos rfl]
    refine (rwrite_dn hw.dw k A _ c).mono ?_
    rintro e w' ⟨z, rfl, rfl, b⟩
    exact ⟨rfl, hw.ext b, Chg.ext b⟩
  | false =>
    rw [if_neg Bool.false_ne_true]
    by_cases h2 : k < 0 ∨ (bl.length : Int) ≤ k ∨ bs.length ≠ 64
    · rw [if_pos h2]
      refine (rwrite_bad hw.dw h0 k A _ c h2).mono ?_
      rintro e w' ⟨z, rfl, rfl, b⟩
      exact ⟨rfl, hw.ext b, Chg.ext b⟩
    · rw [if_neg h2]
      have e64 : bs.length = 64 := by omega
      have ek : k = (k.toNat : Int) := by omega
      rw [e64] at hb
      have hk : k.toNat < bl.length := by omega
      have := rwrite_n hw hNw hF hk hb e64 (hfew k.toNat)
      rw [← ek, ← e64] at this
      refine this.mono ?_
      rintro e w' ⟨rfl, h1, h2⟩
      exact ⟨rfl, h1, h2⟩
theorem dw_sync {F : Nat → Prop} {w : World} {d : Nat} {s : DkT} (hw : DW F w d s.bl s.dn s.lf) (hF : ∀ b, w.heap.size ≤ b → F b) :
    Calls Try.prog 29 #[.pointer (some ⟨d, 0, none⟩)] w fun e w' => e = .returned (.int .i64 (syT s).1) ∧ DW F w' d (syT s).2.bl (syT s).2.dn (syT s).2.lf ∧ Chg (MF F) w w' := by
  obtain ⟨bl, dn, lf⟩ := s
  unfold syT
  cases dn with
  | true =>
    rw [if_pos rfl]
    refine (rsync_dn hw).mono ?_
    rintro e w' ⟨z, rfl, rfl, b⟩
    exact ⟨rfl, hw.ext b, Chg.ext b⟩
  | false =>
    rw [if_neg Bool.false_ne_true]
    exact rsync_ok hw hF
theorem dw_arm {F : Nat → Prop} {w : World} {d : Nat} {s : DkT} (hw : DW F w d s.bl s.dn s.lf) (k : Int) (hk : k ≤ 9223372036854775807) :
    Calls Try.prog 28 #[.pointer (some ⟨d, 0, none⟩), .int .i64 k] w fun e w' => (∃ v, e = .returned v) ∧ DW F w' d (arT s k).bl (arT s k).dn (arT s k).lf ∧ Chg (MF F) w w' := by
  obtain ⟨bl, dn, lf⟩ := s
  unfold arT
  cases dn with
  | true =>
    refine (rarm_down hw k).mono ?_
    rintro e w' ⟨z, rfl, _, b⟩
    exact ⟨⟨z, rfl⟩, hw.ext b, Chg.ext b⟩
  | false => exact rarm_up hw k hk
theorem dw_restart {F : Nat → Prop} {w : World} {d : Nat} {s : DkT} (hw : DW F w d s.bl s.dn s.lf) (hF : ∀ b, w.heap.size ≤ b → F b) (h0 : 0 < s.bl.length) (A : Option Addr) (n c : Nat) (ks : List Nat) (hr : ∀ W, Chg (MF F) w W → Rv W 1 A n c (bc ks)) (hks : ∀ b ∈ ks, b < 256) (hfew : FewB 1000000 s.bl) :
    Calls Try.prog 39 #[.pointer (some ⟨d, 0, none⟩), .slice A n c] w fun e w' => (∃ v, e = .returned v) ∧ DW F w' d (rsT s ks).bl (rsT s ks).dn (rsT s ks).lf ∧ Chg (MF F) w w' := by
  have hne := fun k (hk : k < s.bl.length) => hw.ne hk
  obtain ⟨g, h1, h2, h3⟩ := hw
  have hl : (s.bl.map fun l => l.getLastD z64).length = s.bl.length := List.length_map _
  refine (rrestart_di h1 (fun b hb => h3 b (by rw [← hl]; exact hb)) hF (fun e => by rw [e] at hl; have h5 : 0 = s.bl.length := hl; omega) A n c ks hr hks hfew).mono ?_
  rintro e w' ⟨hv, cur', hrs, hd, hc⟩
  rw [hl] at hrs
  have e2 := hrs.res h2 hne
  subst e2
  exact ⟨hv, hd, hc⟩
/-! The reference's side. -/
theorem rv_write {w : World} {v : Value} {s : DkT} (hw : RVs w v s) (hl : s.lf ≤ 9223372036854775807) (h8 : s.bl.length ≤ 1000) (hne : ∀ k, k < s.bl.length → s.bl.getD k [] ≠ []) (hfew : FewB 100000 s.bl) (k : Int) {A : Option Addr} {n c : Nat} {bs : List Nat} (hr : Rv w 1 A n c (bc bs)) (hn : bs.length = n) (hn2 : n ≤ 1000) :
    Calls Try.prog 42 #[v, .int .i64 k, .slice A n c] w (Ret (fun z w' => ∃ v', z = .tuple #[v', .int .i64 (wrT s k bs).1] ∧ RVs w' v' (wrT s k bs).2) w) := by
  obtain ⟨bl, dn, lf⟩ := s
  subst hn
  unfold wrT
  cases dn with
  | true =>
    rw [if_pos rfl]
    refine (zwrite_dn hw k A _ c).mono ?_
    rintro e w' ⟨z, rfl, ⟨rfl, h⟩, b⟩
    exact ⟨_, rfl, ⟨v, rfl, h⟩, b⟩
  | false =>
    rw [if_neg Bool.false_ne_true]
    by_cases h2 : k < 0 ∨ (bl.length : Int) ≤ k ∨ bs.length ≠ 64
    · rw [if_pos h2]
      refine (zwrite_bad hw k A _ c hn2 h2).mono ?_
      rintro e w' ⟨z, rfl, ⟨rfl, h⟩, b⟩
      exact ⟨_, rfl, ⟨v, rfl, h⟩, b⟩
    · rw [if_neg h2]
      have e64 : bs.length = 64 := by omega
      have ek : k = (k.toNat : Int) := by omega
      rw [e64] at hr
      have hk : k.toNat < bl.length := by omega
      have := zwrite_ok hw h8 hk (hne _ hk) (hfew _) hl A c bs hr
      rw [← ek, ← e64] at this
      exact this
theorem rv_sync {w : World} {v : Value} {s : DkT} (hw : RVs w v s) (hl : s.lf ≤ 9223372036854775807) (h8 : s.bl.length ≤ 1000) (hne : ∀ k, k < s.bl.length → s.bl.getD k [] ≠ []) (hfew : FewB 100000 s.bl) :
    Calls Try.prog 35 #[v] w (Ret (fun z w' => ∃ v', z = .tuple #[v', .int .i64 (syT s).1] ∧ RVs w' v' (syT s).2) w) := by
  obtain ⟨bl, dn, lf⟩ := s
  unfold syT
  cases dn with
  | true =>
    rw [if_pos rfl]
    refine (zsync_dn hw).mono ?_
    rintro e w' ⟨z, rfl, ⟨rfl, h⟩, b⟩
    exact ⟨_, rfl, ⟨v, rfl, h⟩, b⟩
  | false =>
    rw [if_neg Bool.false_ne_true]
    exact zsync_ok hw h8 hne (fun k => Nat.le_trans (hfew k) (by omega)) hl
end Go.Proofs.Tb
