/- A store on a disk that may be armed: Arm, Broken, Down, alike; the law's loop. -/
import Derived.Test.YtfljnfdeboibhaaGreatRoj
set_option linter.unusedVariables false
set_option linter.unusedSimpArgs false
namespace Go.Proofs.Tb
open Go.Maps Go.RowKit Go.Lib
attribute [local go_sem] cell_set_same neqMapL

set_option maxHeartbeats 1600000 in
set_option maxRecDepth 100000 in
theorem rarm_any {F : Nat → Prop} {w : World} {d : Nat} {bl : List (List (List Nat))} {left : Nat} (hw : DW F w d bl false left) (k : Int) (hk : k ≤ 9223372036854775807) :
    Calls Tryz.prog 25 #[.pointer (some ⟨d, 0, none⟩), .int .i64 k] w fun e w' => (∃ v, e = .returned v) ∧ DW F w' d bl false (max 0 k).toNat ∧ Chg (MF F) w w' := by
  obtain ⟨g, h, hlo, hfp⟩ := hw
  have hd := h.dk
  obtain ⟨m, hm⟩ : ∃ m : Nat, max (0 : Int) k = (m : Int) := ⟨(max 0 k).toNat, by omega⟩
  have hm2 : (max 0 k).toNat = m := by omega
  have hmle : m ≤ 9223372036854775807 := by omega
  rw [hm2]
  have HM := Lib.hid hm
  have HH := Lib.hid h
  have HL := Lib.hid hlo
  have HP := Lib.hid hfp
  have HD := Lib.hid hd
  clear h hlo hfp hd hm hm2
  go_enter Tryz.func25, Tryz.ntmps25
  go_wp2_with fail
  refine (rready_any d g.m g.v false left w HD.out).mono ?_
  rintro e w1 ⟨v1, rfl, rfl, b1⟩
  rw [show (if false = true then (9 : Int) else 0) = 0 from rfl]
  have hd1 := HD.out.below b1
  have HH1 := Lib.hid (HH.out.ext b1)
  have k1 := hd1.cells
  simp only [cellsAre, Nat.zero_add, Nat.reduceAdd, and_true] at k1
  have f1 := hd1.free
  have HD1 := Lib.hid hd1
  have X1 := Lib.hid b1
  clear hd1 b1
  go_wp2_with fail
  rw [HM.out]
  have hmf : MF F d (.cells #[g.v, .map (some g.m), .bool false, .int .i64 (left : Int)] TDK (0, 0)) := ⟨HP.out d (Or.inl rfl), Or.inl rfl⟩
  have b2 : Blk (w1.setCell ⟨d, 3, none⟩ (.int .i64 (m : Int))) d TDK #[g.v, .map (some g.m), .bool false, .int .i64 (m : Int)] := HD1.out.set_ 3 _
  have c2 : Chg (MF F) w1 (w1.setCell ⟨d, 3, none⟩ (.int .i64 (m : Int))) := Chg.setB HD1.out hmf 3 _
  have h2 := HH1.out.fields (Chg.setB (X := fun b _ => b = d) HD1.out rfl 3 _) b2 hmle
  go_returns
  refine ⟨⟨_, rfl⟩, ⟨g, h2, HL.out, HP.out⟩, (Chg.ext X1.out).trans c2⟩
theorem st_arm {F : Nat → Prop} {w : World} {s d keep n left : Nat} {Vs : List (List Pr)} (h : STl F w s d keep n Vs left) (k : Int) (hk : k ≤ 9223372036854775807) :
    Calls Tryz.prog 25 #[.pointer (some ⟨d, 0, none⟩), .int .i64 k] w fun e w' => (∃ v, e = .returned v) ∧ STl F w' s d keep n Vs (max 0 k).toNat ∧ Chg (MF F) w w' := by
  obtain ⟨vs, B, bl, h1, h2⟩ := h
  obtain ⟨A, m, c, hs, ho⟩ := h1.se
  refine (rarm_any (h1.dk.not hs) k hk).mono ?_
  rintro e w' ⟨he, hd, hc⟩
  have hc' : Chg (MF F) w w' := hc.mono fun b o hx => ⟨hx.1.1, hx.2⟩
  exact ⟨he, ⟨vs, B, bl, ⟨⟨A, m, c, hc.blk hs fun hx => hx.1.2 rfl, hc.own ho fun b cs _ => MF.ve b cs⟩, hd.imp fun b hb => hb.1, h1.fs, fun v hv => (h1.tr v hv).chg hc MF.no, fun a ha => h1.bz a (Nat.le_trans hc.size ha), h1.bm⟩, h2⟩, hc'⟩
theorem stl_broken {F : Nat → Prop} {w : World} {s d keep n left : Nat} {Vs : List (List Pr)} (h : STl F w s d keep n Vs left) : Calls Tryz.prog 17 #[.pointer (some ⟨s, 0, none⟩)] w (Ret (fun v _ => v = .bool false) w) := by
  obtain ⟨vs, B, bl, h1, _⟩ := h
  obtain ⟨A, m, c, hs, _⟩ := h1.se
  exact rbroken_any s d _ _ false w hs
theorem stl_down {F : Nat → Prop} {w : World} {s d keep n left : Nat} {Vs : List (List Pr)} (h : STl F w s d keep n Vs left) : Calls Tryz.prog 27 #[.pointer (some ⟨d, 0, none⟩)] w (Ret (fun v _ => v = .bool false) w) := by
  obtain ⟨vs, B, bl, h1, _⟩ := h
  obtain ⟨g, v, hb⟩ := h1.dk.blk
  exact rdown_at d g v false left w hb
theorem stl_alike {F : Nat → Prop} {w : World} {s d keep n left : Nat} {Vs : List (List Pr)} {rv : Value} (h : STl F w s d keep n Vs left) (hr : RSv w rv Vs keep) (hl : Vs.length ≤ 100000) (hk : keep ≤ 100000) (hz : ∀ l ∈ Vs, l.length ≤ 1000) :
    Calls Tryz.prog 18 #[.pointer (some ⟨s, 0, none⟩), rv] w (Ret (fun z _ => z = .bool true) w) := by
  obtain ⟨vs, B, h1, h2⟩ := h.sr
  exact ralike_any h1 h2 hr hl hk hz
theorem std_broken {F : Nat → Prop} {w : World} {s d keep n : Nat} {Vs : List (List Pr)} {L : List Pr} (h : STd F w s d keep n Vs L) : Calls Tryz.prog 17 #[.pointer (some ⟨s, 0, none⟩)] w (Ret (fun v _ => v = .bool true) w) := by
  obtain ⟨vs, B, bl, lf, h1, _⟩ := h
  obtain ⟨A, m, c, hs, _⟩ := h1.se
  exact rbroken_any s d _ _ true w hs
theorem std_down {F : Nat → Prop} {w : World} {s d keep n : Nat} {Vs : List (List Pr)} {L : List Pr} (h : STd F w s d keep n Vs L) : Calls Tryz.prog 27 #[.pointer (some ⟨d, 0, none⟩)] w (Ret (fun v _ => v = .bool true) w) := by
  obtain ⟨vs, B, bl, lf, h1, _⟩ := h
  obtain ⟨g, v, hb⟩ := h1.dk.blk
  exact rdown_at d g v true lf w hb
theorem std_alike {F : Nat → Prop} {w : World} {s d keep n : Nat} {Vs : List (List Pr)} {L : List Pr} {rv : Value} (h : STd F w s d keep n Vs L) (hr : RSv w rv Vs keep) (hl : Vs.length ≤ 100000) (hk : keep ≤ 100000) (hz : ∀ l ∈ Vs, l.length ≤ 1000) :
    Calls Tryz.prog 18 #[.pointer (some ⟨s, 0, none⟩), rv] w (Ret (fun z _ => z = .bool true) w) := by
  obtain ⟨vs, B, bl, lf, h1, h2, _⟩ := h
  exact ralike_any h1.sr h2 hr hl hk hz
theorem STl.pos {F : Nat → Prop} {w : World} {s d keep n left : Nat} {Vs : List (List Pr)} (h : STl F w s d keep n Vs left) : 0 < Vs.length := by
  obtain ⟨vs, B, h1, h2⟩ := h.sr
  exact List.length_pos_iff.2 h2.nv
/-- Commit of a batch that fits. -/
inductive CmZ (F : Nat → Prop) (w w' : World) (s d keep n : Nat) (Vs : List (List Pr)) (left : Nat) (L : List Pr) (e : Ending) : Prop
  | ok (lf : Nat) : e = ansV (Vs.length : Int) 0 → (left = 0 → lf = 0) → STl F w' s d keep n (Vs ++ [L]) lf → Chg (MF F) w w' → CmZ F w w' s d keep n Vs left L e
  | down : left ≠ 0 → e = ansV 0 9 → STd F w' s d keep n Vs L → Chg (MF F) w w' → CmZ F w w' s d keep n Vs left L e
theorem st_commit_z {F : Nat → Prop} {w : World} {s d keep n left : Nat} {Vs : List (List Pr)} (h : STl F w s d keep n Vs left) (hF : ∀ b, w.heap.size ≤ b → F b) (hn : 2 ≤ n) (hk : keep ≤ 18) (hV : Vs.length ≤ 1000) {L : List Pr} (hL : Vs.getD (Vs.length - 1) [] = L) (hLl : L.length ≤ 10000)
    (A : Option Addr) (m c : Nat) (cs : List Cg) (hr : Rv w 3 A m c (ccs cs)) (hb : batB cs = true) (hfit : fitB Vs keep (aft L cs) (n : Int) = true) :
    Calls Tryz.prog 22 #[.pointer (some ⟨s, 0, none⟩), .slice A m c] w fun e w' => CmZ F w w' s d keep n Vs left (aft L cs) e := by
  refine (st_commit_l h hF hn hk hV hL hLl A m c cs hr hb).mono ?_
  intro e w' ha
  cases ha with
  | ok lf a b c d => exact .ok lf a b c d
  | full hf _ _ => rw [hfit] at hf; cases hf
  | down a b c d => exact .down a b c d
/-- A store and the reference's box, on a disk that may be armed. -/
structure FiL (w W : World) (s d H keep n : Nat) (Vs : List (List Pr)) (left : Nat) : Prop where
  st : STl (fun b => w.heap.size ≤ b) W s d keep n Vs left
  rv : ∃ A m c, RSv W (.agg #[.slice A m c, .int .i64 (keep : Int)]) Vs keep ∧ Blk W H TRS #[.slice A m c, .int .i64 (keep : Int)]
  ex : Ext w W
  hw : w.heap.size ≤ H
  le : ∀ l ∈ Vs, l.length ≤ 360
theorem FiL.ext {w W W' : World} {s d H keep n left : Nat} {Vs : List (List Pr)} (h : FiL w W s d H keep n Vs left) (x : Ext W W') : FiL w W' s d H keep n Vs left := by
  obtain ⟨A, m, c, h1, h2⟩ := h.rv
  exact ⟨h.st.ext x, ⟨A, m, c, h1.ext x, h2.below x⟩, bt h.ex x, h.hw, h.le⟩
theorem FiL.put {w W : World} {s d H keep n left : Nat} {Vs : List (List Pr)} {A : Option Addr} {m c : Nat} (hst : STl (fun b => w.heap.size ≤ b) W s d keep n Vs left) (hb : ∃ x y, Blk W H TRS #[x, y]) (hr : RSv W (.agg #[.slice A m c, .int .i64 (keep : Int)]) Vs keep) (hx : Ext w W) (hw : w.heap.size ≤ H) (hle : ∀ l ∈ Vs, l.length ≤ 360) :
    FiL w ((W.setCell ⟨H, 0, none⟩ (.slice A m c)).setCell ⟨H, 1, none⟩ (.int .i64 (keep : Int))) s d H keep n Vs left := by
  obtain ⟨x, y, hb⟩ := hb
  have c3 : Chg (fun b o => b = H ∧ ∃ cs, o = .cells cs TRS (0, 0)) W ((W.setCell ⟨H, 0, none⟩ (.slice A m c)).setCell ⟨H, 1, none⟩ (.int .i64 (keep : Int))) := (Chg.setB hb ⟨rfl, _, rfl⟩ 0 _).trans (Chg.setB (hb.set_ 0 _) ⟨rfl, _, rfl⟩ 1 _)
  have b2 := (hb.set_ 0 (.slice A m c)).set_ 1 (.int .i64 (keep : Int))
  have hne : ∀ T, T ≠ TRS → ∀ b cs, ¬ (b = H ∧ ∃ cs', Obj.cells cs T (0, 0) = .cells cs' TRS (0, 0)) := fun T hT b cs hx => by
    obtain ⟨_, cs', e⟩ := hx
    injection e with _ e
    exact hT e
  refine ⟨hst.chg c3 (fun b o _ hM hX => ?_) (hne _ (by decide)) (hne _ (by decide)) (hne _ (by decide)), ⟨A, m, c, hr.chg c3 (hne _ (by decide)) (hne _ (by decide)), b2⟩, (hx.setCell (p := ⟨H, 0, none⟩) hw _).setCell (p := ⟨H, 1, none⟩) hw _, hw, hle⟩
  obtain ⟨rfl, cs', rfl⟩ := hX
  revert hM
  show ¬ (TRS = TDK ∨ TRS = TBY ∨ TRS = TSE)
  decide
theorem and127 (y : Int) : ∃ b : Nat, b ≤ 127 ∧ bits .and .i64 y 127 = (b : Int) := by
  have e : bits .and .i64 y 127 = IntKind.i64.wrap ((BitVec.ofInt 64 y &&& BitVec.ofInt 64 127).toNat : Int) := rfl
  have h : (BitVec.ofInt 64 y &&& BitVec.ofInt 64 127).toNat ≤ 127 := by
    rw [BitVec.toNat_and]
    exact Nat.and_le_right
  refine ⟨_, h, ?_⟩
  rw [e, IntWalk.i64_in _ (by omega)]
/-- Bytes that came in. -/
structure ByX (w : World) (A : Option Addr) (n c : Nat) : Prop where
  ex : ∃ ks, Rv w 1 A n c (bc ks) ∧ ∀ b ∈ ks, b < 256
end Go.Proofs.Tb
