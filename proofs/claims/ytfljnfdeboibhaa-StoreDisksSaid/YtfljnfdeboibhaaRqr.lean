/- A disk, the reference's disk and a clone: where the law of disks stands. -/
import Derived.Test.YtfljnfdeboibhaaRqq
set_option linter.unusedVariables false
set_option linter.unusedSimpArgs false
namespace Go.Proofs.Tb
open Go.Maps Go.RowKit Go.Lib
attribute [local go_sem] cell_set_same neqMapL

theorem DWn.old {N F : Nat → Prop} {w : World} {d : Nat} {bl : List (List (List Nat))} {down : Bool} {left : Nat} (h : DWn N F w d bl down left) : DWn N (fun b => F b ∧ b < w.heap.size) w d bl down left := by
  obtain ⟨g, h1, h2, h3, h4⟩ := h
  exact ⟨g, h1, h2, fun b hb => ⟨h3 b hb, by
    obtain ⟨o, ho, _⟩ := h1.fp_lt (by rw [List.length_map]; exact hb)
    exact obj_lt ho⟩, h4⟩
def XR (g : Nat) (b : Nat) (o : Obj) : Prop := b = g ∧ ∃ cs, o = .cells cs TRD (0, 0)
theorem XR.no {g : Nat} {T : TypeId} (hT : T ≠ TRD) (b : Nat) (cs : Array Value) : ¬ XR g b (.cells cs T (0, 0)) := fun hX => by
  obtain ⟨_, cs', hX⟩ := hX
  injection hX with _ hX
  exact hT hX
theorem DWn.setD {N F : Nat → Prop} {w : World} {d : Nat} {bl : List (List (List Nat))} {down : Bool} {left : Nat} (h : DWn N F w d bl down left) {b : Nat} {cs : Array Value} (hb : Blk w b TRD cs) (i : Nat) (u : Value) : DWn N F (w.setCell ⟨b, i, none⟩ u) d bl down left :=
  h.chg (Chg.setB (X := XR b) hb ⟨rfl, _, rfl⟩ i u) (fun b' o _ hm hX => by
    obtain ⟨_, cs', rfl⟩ := hX
    have : TRD = TDK ∨ TRD = TBY ∨ TRD = TSE := hm
    revert this
    decide) (XR.no (by decide))
theorem RdV.setD {w : World} {v : Value} {bl : List (List (List Nat))} {down : Bool} {left : Nat} (h : RdV w v bl down left) {b : Nat} {cs : Array Value} (hb : Blk w b TRD cs) (i : Nat) (u : Value) : RdV (w.setCell ⟨b, i, none⟩ u) v bl down left :=
  h.chg (Chg.setB (X := XR b) hb ⟨rfl, _, rfl⟩ i u) (XR.no (by decide)) (XR.no (by decide))
/-- A disk with the state s, the reference's disk in block H with the state sr. -/
structure DkS (N F : Nat → Prop) (w0 W : World) (H d m : Nat) (s sr : DkT) : Prop where
  ex : Ext w0 W
  dw : DWs N F W d s
  fb : ∀ b, F b → w0.heap.size ≤ b ∧ b < W.heap.size
  rd : ∃ A n c a lf, Blk W H TRD #[.slice A n c, .bool sr.dn, .bool a, .int .i64 lf] ∧ RVs W (rdk A n c sr.dn a lf) sr
  hi : w0.heap.size ≤ H
  n8 : s.bl.length = 8
  few : FewB m s.bl
/-- A clone. -/
structure ClK (N G : Nat → Prop) (w0 W : World) (d2 : Nat) : Prop where
  dw : ∃ s : DkT, DWs N G W d2 s ∧ s.bl.length = 8 ∧ FewB 100000 s.bl
  gb : ∀ b, G b → w0.heap.size ≤ b ∧ b < W.heap.size
theorem DkS.ext {N F : Nat → Prop} {w0 W W' : World} {H d m : Nat} {s sr : DkT} (h : DkS N F w0 W H d m s sr) (x : Ext W W') : DkS N F w0 W' H d m s sr := by
  obtain ⟨A, n, c, a, lf, h1, h2⟩ := h.rd
  exact ⟨bt h.ex x, h.dw.ext x, fun b hb => ⟨(h.fb b hb).1, Nat.lt_of_lt_of_le (h.fb b hb).2 (Ext.size x)⟩, ⟨A, n, c, a, lf, h1.below x, h2.ext x⟩, h.hi, h.n8, h.few⟩
theorem ClK.ext {N G : Nat → Prop} {w0 W W' : World} {d2 : Nat} (h : ClK N G w0 W d2) (x : Ext W W') : ClK N G w0 W' d2 := by
  obtain ⟨s, h1, h2⟩ := h.dw
  exact ⟨⟨s, h1.ext x, h2⟩, fun b hb => ⟨(h.gb b hb).1, Nat.lt_of_lt_of_le (h.gb b hb).2 (Ext.size x)⟩⟩
theorem DkS.wk {N N' F : Nat → Prop} {w0 W : World} {H d m : Nat} {s sr : DkT} (h : DkS N F w0 W H d m s sr) (hN : ∀ b, N b → N' b) : DkS N' F w0 W H d m s sr :=
  ⟨h.ex, h.dw.mono hN fun _ h => h, h.fb, h.rd, h.hi, h.n8, h.few⟩
theorem ClK.wk {N N' G : Nat → Prop} {w0 W : World} {d2 : Nat} (h : ClK N G w0 W d2) (hN : ∀ b, N b → N' b) : ClK N' G w0 W d2 := by
  obtain ⟨s, h1, h2⟩ := h.dw
  exact ⟨⟨s, h1.mono hN fun _ h => h, h2⟩, h.gb⟩
theorem DkS.up {N F : Nat → Prop} {w0 W : World} {H d m m' : Nat} {s sr : DkT} (h : DkS N F w0 W H d m s sr) (hm : m ≤ m') : DkS N F w0 W H d m' s sr := ⟨h.ex, h.dw, h.fb, h.rd, h.hi, h.n8, h.few.mono hm⟩
/-- The blocks of F, and all later ones. -/
def Fw (F : Nat → Prop) (W : World) (b : Nat) : Prop := F b ∨ W.heap.size ≤ b
def Fo (F : Nat → Prop) (W W' : World) (b : Nat) : Prop := Fw F W b ∧ b < W'.heap.size
/-- The disk has done an act. -/
theorem DkS.dstep {N N' F : Nat → Prop} {w0 W W' : World} {H d m m' : Nat} {s s' sr : DkT} (h : DkS N F w0 W H d m s sr) (hd : DWs N' (Fw F W) W' d s') (hc : Chg (MF (Fw F W)) W W') (h8 : s'.bl.length = 8) (hf : FewB m' s'.bl) : DkS N' (Fo F W W') w0 W' H d m' s' sr := by
  obtain ⟨A, n, c, a, lf, h1, h2⟩ := h.rd
  have hge : ∀ b o, MF (Fw F W) b o → w0.heap.size ≤ b := fun b o hX => by
    rcases hX.1 with hb | hb
    · exact (h.fb b hb).1
    · exact Nat.le_trans (Ext.size h.ex) hb
  exact ⟨Below.trans h.ex (hc.below hge (Ext.size h.ex)), hd.old, fun b hb => ⟨by
    rcases hb.1 with h5 | h5
    · exact (h.fb b h5).1
    · exact Nat.le_trans (Ext.size h.ex) h5, hb.2⟩, ⟨A, n, c, a, lf, hc.blk h1 (MF.rd _ _), h2.chg hc MF.tx MF.sl⟩, h.hi, h8, hf⟩
theorem ClK.dstep {N G F : Nat → Prop} {w0 W W' : World} {d2 : Nat} (h : ClK N G w0 W d2) (hc : Chg (MF (Fw F W)) W W') (hap : ∀ b, G b → ¬ F b) : ClK N G w0 W' d2 := by
  obtain ⟨s, h1, h2⟩ := h.dw
  exact ⟨⟨s, h1.apart hc fun b hb hX => by
    rcases hX with hX | hX
    · exact hap b hb hX
    · exact Nat.lt_irrefl _ (Nat.lt_of_lt_of_le (h.gb b hb).2 hX), h2⟩, fun b hb => ⟨(h.gb b hb).1, Nat.lt_of_lt_of_le (h.gb b hb).2 hc.size⟩⟩
theorem ap_dstep {N G F : Nat → Prop} {w0 W W' : World} {d2 : Nat} (h : ClK N G w0 W d2) (hap : ∀ b, G b → ¬ F b) : ∀ b, G b → ¬ Fo F W W' b := fun b hb hX => by
  rcases hX.1 with hX | hX
  · exact hap b hb hX
  · exact Nat.lt_irrefl _ (Nat.lt_of_lt_of_le (h.gb b hb).2 hX)
/-- The clone has done an act. -/
theorem DkS.cstep {N F G : Nat → Prop} {w0 W W' : World} {H d m : Nat} {s sr : DkT} (h : DkS N F w0 W H d m s sr) (hc : Chg (MF (Fw G W)) W W') (hg : ∀ b, G b → w0.heap.size ≤ b) (hap : ∀ b, G b → ¬ F b) : DkS N F w0 W' H d m s sr := by
  obtain ⟨A, n, c, a, lf, h1, h2⟩ := h.rd
  have hge : ∀ b o, MF (Fw G W) b o → w0.heap.size ≤ b := fun b o hX => by
    rcases hX.1 with hb | hb
    · exact hg b hb
    · exact Nat.le_trans (Ext.size h.ex) hb
  exact ⟨Below.trans h.ex (hc.below hge (Ext.size h.ex)), h.dw.apart hc fun b hb hX => (by
    rcases hX with hX | hX
    · exact hap b hX hb
    · exact Nat.lt_irrefl _ (Nat.lt_of_lt_of_le (h.fb b hb).2 hX)), fun b hb => ⟨(h.fb b hb).1, Nat.lt_of_lt_of_le (h.fb b hb).2 hc.size⟩, ⟨A, n, c, a, lf, hc.blk h1 (MF.rd _ _), h2.chg hc MF.tx MF.sl⟩, h.hi, h.n8, h.few⟩
/-- The reference's disk is laid in its block. -/
theorem DkS.put {N F : Nat → Prop} {w0 W : World} {H d m : Nat} {s sr : DkT} (h : DkS N F w0 W H d m s sr) {A : Option Addr} {n c : Nat} {a : Bool} {lf : Int} (hv : RVs W (rdk A n c s.dn a lf) s) :
    DkS N F w0 ((((W.setCell ⟨H, 0, none⟩ (.slice A n c)).setCell ⟨H, 1, none⟩ (.bool s.dn)).setCell ⟨H, 2, none⟩ (.bool a)).setCell ⟨H, 3, none⟩ (.int .i64 lf)) H d m s s := by
  obtain ⟨A', n', c', a', lf', h1, _⟩ := h.rd
  have r1 := h1.set_ 0 (.slice A n c)
  have r2 := r1.set_ 1 (.bool s.dn)
  have r3 := r2.set_ 2 (.bool a)
  have r4 := r3.set_ 3 (.int .i64 lf)
  have hz : ((((W.setCell ⟨H, 0, none⟩ (.slice A n c)).setCell ⟨H, 1, none⟩ (.bool s.dn)).setCell ⟨H, 2, none⟩ (.bool a)).setCell ⟨H, 3, none⟩ (.int .i64 lf)).heap.size = W.heap.size := by simp
  exact ⟨(((h.ex.setCell (p := ⟨H, 0, none⟩) h.hi _).setCell (p := ⟨H, 1, none⟩) h.hi _).setCell (p := ⟨H, 2, none⟩) h.hi _).setCell (p := ⟨H, 3, none⟩) h.hi _, (((h.dw.setD h1 0 _).setD r1 1 _).setD r2 2 _).setD r3 3 _, fun b hb => (by rw [hz]; exact h.fb b hb), ⟨A, n, c, a, lf, r4, (((hv.setD h1 0 _).setD r1 1 _).setD r2 2 _).setD r3 3 _⟩, h.hi, h.n8, h.few⟩
theorem DkS.init {N F : Nat → Prop} {w0 W : World} {H d m : Nat} {s : DkT} {cs : Array Value} (hx : Ext w0 W) (hd : DWs N F W d s) (fb : ∀ b, F b → w0.heap.size ≤ b ∧ b < W.heap.size) (h1 : Blk W H TRD cs) (hi : w0.heap.size ≤ H) (n8 : s.bl.length = 8) (few : FewB m s.bl) (h4 : cs.size = 4) {A : Option Addr} {n c : Nat} {a : Bool} {lf : Int} (hv : RVs W (rdk A n c s.dn a lf) s) :
    DkS N F w0 ((((W.setCell ⟨H, 0, none⟩ (.slice A n c)).setCell ⟨H, 1, none⟩ (.bool s.dn)).setCell ⟨H, 2, none⟩ (.bool a)).setCell ⟨H, 3, none⟩ (.int .i64 lf)) H d m s s := by
  have r1 := h1.set_ 0 (.slice A n c)
  have r2 := r1.set_ 1 (.bool s.dn)
  have r3 := r2.set_ 2 (.bool a)
  have r4 := r3.set_ 3 (.int .i64 lf)
  have hz : ((((W.setCell ⟨H, 0, none⟩ (.slice A n c)).setCell ⟨H, 1, none⟩ (.bool s.dn)).setCell ⟨H, 2, none⟩ (.bool a)).setCell ⟨H, 3, none⟩ (.int .i64 lf)).heap.size = W.heap.size := by simp
  refine ⟨(((hx.setCell (p := ⟨H, 0, none⟩) hi _).setCell (p := ⟨H, 1, none⟩) hi _).setCell (p := ⟨H, 2, none⟩) hi _).setCell (p := ⟨H, 3, none⟩) hi _, (((hd.setD h1 0 _).setD r1 1 _).setD r2 2 _).setD r3 3 _, fun b hb => (by rw [hz]; exact fb b hb), ⟨A, n, c, a, lf, ?_, (((hv.setD h1 0 _).setD r1 1 _).setD r2 2 _).setD r3 3 _⟩, hi, n8, few⟩
  obtain ⟨l⟩ := cs
  rcases l with _ | ⟨x0, _ | ⟨x1, _ | ⟨x2, _ | ⟨x3, _ | ⟨x4, l⟩⟩⟩⟩⟩ <;> simp at h4
  exact r4
theorem ClK.put {N F N' G : Nat → Prop} {w0 W : World} {H d m d2 : Nat} {s sr : DkT} (hc : ClK N' G w0 W d2) (h : DkS N F w0 W H d m s sr) (x1 x2 x3 x4 : Value) :
    ClK N' G w0 ((((W.setCell ⟨H, 0, none⟩ x1).setCell ⟨H, 1, none⟩ x2).setCell ⟨H, 2, none⟩ x3).setCell ⟨H, 3, none⟩ x4) d2 := by
  obtain ⟨A', n', c', a', lf', h1, _⟩ := h.rd
  have r1 := h1.set_ 0 x1
  have r2 := r1.set_ 1 x2
  have r3 := r2.set_ 2 x3
  have hz : ((((W.setCell ⟨H, 0, none⟩ x1).setCell ⟨H, 1, none⟩ x2).setCell ⟨H, 2, none⟩ x3).setCell ⟨H, 3, none⟩ x4).heap.size = W.heap.size := by simp
  obtain ⟨s, g1, g2⟩ := hc.dw
  exact ⟨⟨s, (((g1.setD h1 0 _).setD r1 1 _).setD r2 2 _).setD r3 3 _, g2⟩, fun b hb => (by rw [hz]; exact hc.gb b hb)⟩
/-- A row of bytes of its own changes. -/
def XU (B : Nat) (b : Nat) (o : Obj) : Prop := b = B ∧ ∃ cs, o = .cells cs TU8 (0, 0)
theorem XU.no {g : Nat} {T : TypeId} (hT : T ≠ TU8) (b : Nat) (cs : Array Value) : ¬ XU g b (.cells cs T (0, 0)) := fun hX => by
  obtain ⟨_, cs', hX⟩ := hX
  injection hX with _ hX
  exact hT hX
theorem DkS.poke {N F : Nat → Prop} {w0 W W' : World} {H d m B : Nat} {s sr : DkT} (h : DkS N F w0 W H d m s sr) (hc : Chg (XU B) W W') (hB : ¬ N B) (h0 : w0.heap.size ≤ B) : DkS N F w0 W' H d m s sr := by
  obtain ⟨A, n, c, a, lf, h1, h2⟩ := h.rd
  exact ⟨Below.trans h.ex (hc.below (fun b o hX => by rw [hX.1]; exact h0) (Ext.size h.ex)), h.dw.chgU hc hB, fun b hb => ⟨(h.fb b hb).1, Nat.lt_of_lt_of_le (h.fb b hb).2 hc.size⟩, ⟨A, n, c, a, lf, hc.blk h1 (XU.no (by decide) _ _), h2.chg hc (XU.no (by decide)) (XU.no (by decide))⟩, h.hi, h.n8, h.few⟩
theorem ClK.poke {N G : Nat → Prop} {w0 W W' : World} {d2 B : Nat} (h : ClK N G w0 W d2) (hc : Chg (XU B) W W') (hB : ¬ N B) : ClK N G w0 W' d2 := by
  obtain ⟨s, h1, h2⟩ := h.dw
  exact ⟨⟨s, h1.chgU hc hB, h2⟩, fun b hb => ⟨(h.gb b hb).1, Nat.lt_of_lt_of_le (h.gb b hb).2 hc.size⟩⟩
theorem DkS.lft {N F : Nat → Prop} {w0 W : World} {H d m : Nat} {s sr : DkT} (h : DkS N F w0 W H d m s sr) : s.lf ≤ 9223372036854775807 := h.dw.dw.lft
theorem DkS.ne {N F : Nat → Prop} {w0 W : World} {H d m : Nat} {s sr : DkT} (h : DkS N F w0 W H d m s sr) : ∀ k, k < s.bl.length → s.bl.getD k [] ≠ [] := fun _ hk => h.dw.dw.ne hk
/-- Acts in memory. -/
structure AcX (w : World) (A : Option Addr) (n c : Nat) : Prop where
  le : n ≤ c
  cap : c ≤ 9223372036854775807
  at_ : ∀ j, j < n → ∃ b o, A = some ⟨b, o, none⟩ ∧ ∃ (kd : Nat) (bk : Int) (A' : Option Addr) (n' c' : Nat), kd < 256 ∧ -9223372036854775808 ≤ bk ∧ bk ≤ 9223372036854775807 ∧ w.cell? ⟨b, o + j * 3, none⟩ = some (.int .u8 (kd : Int)) ∧ w.cell? ⟨b, o + j * 3 + 1, none⟩ = some (.int .i64 bk) ∧ w.cell? ⟨b, o + j * 3 + 2, none⟩ = some (.slice A' n' c') ∧ ByX w A' n' c'
end Go.Proofs.Tb
