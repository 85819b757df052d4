/- Contracts of the disk's Sync, Read and NewDisk, and of Write where it refuses. -/
import Derived.Test.YtfljnfdeboibhaaSty
set_option linter.unusedVariables false
set_option linter.unusedSimpArgs false
namespace Go.Proofs.Tb
open Go.Maps Go.RowKit
attribute [local go_sem] cell_set_same neqMapL

abbrev lastsB (bl : List (List (List Nat))) : List (List Nat) := bl.map fun l => l.getLastD z64
/-- What stands on the disk, and nothing loose. -/
def safeB (bl : List (List (List Nat))) : List (List (List Nat)) := (lastsB bl).map fun l => [l]
theorem safe_lasts (bl : List (List (List Nat))) : lastsB (safeB bl) = lastsB bl := by
  unfold safeB lastsB
  rw [List.map_map]
  rw [List.map_map]
  rfl
theorem safe_getD (bl : List (List (List Nat))) {k : Nat} (hk : k < bl.length) : (safeB bl).getD k [] = [(lastsB bl).getD k z64] := by
  unfold safeB
  simp [List.getD, hk]
variable {w : World} {d : Nat} {g : Dkg} {cur : List (List Nat)} {bl : List (List (List Nat))} {down : Bool} {left : Nat}
/-- The map is exchanged for an empty one. -/
theorem DI.safe {w' : World} (h : DI w d g (lastsB bl) bl down left) {X : Nat → Obj → Prop} (hc : Chg (fun b _ => b = d) w w') {m : Nat} (hm : w'.ownsMap Try.prog TIN RH m 0 (.map [])) (hd : Blk w' d TDK #[g.v, .map (some m), .bool down, .int .i64 (left : Int)]) :
    DI w' d { g with m := m, D := .map [], lo := fun _ => false } (lastsB (safeB bl)) (safeB bl) down left := by
  have hl : (safeB bl).length = bl.length := by unfold safeB; rw [List.length_map, List.length_map]
  have h2 : ∀ b cs, w.heap[b]? = some (.cells cs TU8 (0, 0)) → b ≠ d := fun b cs hb e => by
    have := h.dk
    unfold Blk at this
    rw [← e, hb] at this
    injection this with this
    injection this with _ e
    revert e
    decide
  have hs : ∀ {v : Value} {bs : List Nat}, SeesB w v bs → SeesB w' v bs := fun {v bs} hv => by
    rcases hv with hv | ⟨hv, hvl⟩
    · exact Or.inl hv
    · exact Or.inr ⟨own_keep hv fun b cs _ _ hb => (hc.same b _ hb (h2 b cs hb)).trans hb.symm, hvl⟩
  rw [safe_lasts]
  refine ⟨hd, h.lft, hc.own h.row fun b cs hb e => h.d_row h.row (by rw [← e]; exact hb), by rw [hl, List.length_map], h.few, hm, fun k hk => hs (h.sees k hk), fun l hl => ?_, fun k hk hlo => rfl, fun k hk hlo => ?_, fun k hk => ?_, fun k hk hlo => ?_⟩
  · exact absurd hl (by simp [Maps.has])
  · exact absurd hlo Bool.false_ne_true
  · rw [safe_getD bl (by rw [List.length_map] at hk; exact hk)]; simp
  · exact absurd hlo Bool.false_ne_true
set_option maxHeartbeats 3200000 in
set_option maxRecDepth 100000 in
theorem rsync_ok {F : Nat → Prop} (hw : DW F w d bl false left) (hF : ∀ b, w.heap.size ≤ b → F b) :
    Calls Try.prog 29 #[.pointer (some ⟨d, 0, none⟩)] w fun e w' => e = .returned (.int .i64 (if left = 1 then 9 else 0)) ∧ DW F w' d (if left = 1 then bl else safeB bl) (decide (left = 1)) (left - 1) ∧ Chg (MF F) w w' := by
  obtain ⟨g, h, hlo, hfp⟩ := hw
  have HLO := Lib.hid hlo
  have HFP := Lib.hid hfp
  have H := Lib.hid h
  have HF := Lib.hid hF
  have hd := h.dk
  obtain ⟨v, hv⟩ : ∃ v, g.v = v := ⟨_, rfl⟩
  have HV := Lib.hid hv
  rw [hv] at hd
  have HD := Lib.hid hd
  clear h hlo hfp hF hd hv
  obtain ⟨dn, hdn⟩ : ∃ dn, decide (left = 1) = dn := ⟨_, rfl⟩
  obtain ⟨er, her⟩ : ∃ er : Int, (if left = 1 then (9 : Int) else 0) = er := ⟨_, rfl⟩
  obtain ⟨b2, hb2⟩ : ∃ b2, (if left = 1 then bl else safeB bl) = b2 := ⟨_, rfl⟩
  have HER := Lib.hid (show er = (if dn = true then 9 else 0) ∧ b2 = (if dn = true then bl else safeB bl) by
    rw [← her, ← hdn, ← hb2]
    by_cases hl : left = 1
    · rw [if_pos hl, if_pos hl, decide_eq_true hl]; exact ⟨rfl, rfl⟩
    · rw [if_neg hl, if_neg hl, decide_eq_false hl]; exact ⟨rfl, rfl⟩)
  rw [hdn, her, hb2]
  have HDN := Lib.hid hdn
  clear hdn her hb2
  have hmm := @run_makeMap Try.prog
  go_enter Try.func29, Try.ntmps29
  go_wp2_with fail
  refine (rready_any d g.m _ false left w HD.out).mono ?_
  rintro e w1 ⟨z1, rfl, rfl, b1⟩
  have H1 := Lib.hid (H.out.ext b1)
  have X1 := Lib.hid (show Ext w w1 from b1)
  clear b1
  go_wp2_with fail
  refine (ract_any H1.out).mono ?_
  rintro e w2 ⟨rfl, h2, c2⟩
  rw [HDN.out] at h2 ⊢
  have H2 := Lib.hid h2
  have C2 := Lib.hid (show Chg (MF F) w w2 from (Chg.ext X1.out).trans ⟨c2.os, c2.tape, c2.output, c2.size, fun b o hb hX => by
    by_cases hbd : b = d
    · exfalso
      refine hX ⟨HFP.out b (Or.inl hbd), ?_⟩
      have := H1.out.dk
      unfold Blk at this
      rw [hbd, this] at hb
      injection hb with hb
      rw [← hb]
      exact Or.inl rfl
    · exact c2.same b o hb hbd⟩)
  clear h2 c2
  by_cases hd1 : dn = true
  · subst hd1
    have HE1 := Lib.hid (show er = 9 ∧ b2 = bl by simpa using HER.out)
    go_wp2
    go_returns
    rw [HE1.out.1, HE1.out.2]
    exact ⟨rfl, ⟨g, H2.out, HLO.out, HFP.out⟩, C2.out⟩
  · have hd0 : dn = false := by simpa using hd1
    subst hd0
    clear hd1
    have HE1 := Lib.hid (show er = 0 ∧ b2 = safeB bl by simpa using HER.out)
    have hd2 := H2.out.dk
    rw [HV.out] at hd2
    have HD2 := Lib.hid hd2
    have x3 : Ext w2 (w2.alloc (.map #[] 0)) := Ext.allocR _ _
    have kd := (HD2.out.below x3).cells
    have f1 := (HD2.out.below x3).free 1
    simp only [cellsAre, Nat.zero_add, Nat.reduceAdd, and_true] at kd
    have X3 := Lib.hid x3
    clear hd2 x3
    go_wp2
    go_returns
    rw [HE1.out.1, HE1.out.2]
    have B3 := (HD2.out.below X3.out).set_ 1 (.map (some w2.heap.size))
    have c3 : Chg (fun b _ => b = d) w2 ((w2.alloc (.map #[] 0)).setCell ⟨d, 1, none⟩ (.map (some w2.heap.size))) := (Chg.ext X3.out).trans (Chg.setB (HD2.out.below X3.out) rfl _ _)
    have hm0 : ((w2.alloc (.map #[] 0)).setCell ⟨d, 1, none⟩ (.map (some w2.heap.size))).ownsMap Try.prog TIN RH w2.heap.size 0 (.map []) := (World.ownsMap_made w2 _ _ _).setCell (by have := HD2.out.lt; show w2.heap.size ≠ d; omega) _
    refine ⟨rfl, ⟨_, H2.out.safe (X := fun _ _ => False) c3 hm0 (by rw [HV.out]; exact B3), fun k hk => ?_, fun b hb => ?_⟩, C2.out.trans ((Chg.ext X3.out).trans (Chg.setB (HD2.out.below X3.out) ⟨HFP.out d (Or.inl rfl), Or.inl rfl⟩ _ _))⟩
    · have hk' : k < bl.length := by unfold safeB at hk; rw [List.length_map, List.length_map] at hk; exact hk
      rw [safe_getD bl hk']
      rfl
    · rcases hb with hb | hb | hb | ⟨k, hk, hl, hb⟩
      · exact HFP.out b (Or.inl hb)
      · have hb' : b = w2.heap.size := hb
        rw [hb']
        exact HF.out _ C2.out.size
      · exact HFP.out b (Or.inr (Or.inr (Or.inl hb)))
      · exact absurd hl Bool.false_ne_true
theorem make_BB (n : Nat) (hn : n ≤ 1000000) (W : World) : (Instr.makeSlice TBB (.int .i64 (n : Int)) (.int .i64 (n : Int))).run Try.prog W = .ok (.slice (some ⟨W.heap.size, 0, none⟩) n n) (W.alloc (.cells (List.replicate n nlB).toArray TBY)) := by
  have h := run_make_row' (P := Try.prog) TBB TBY (.slice none 0 0) 24 Try.underlying66 by_info rfl .i64 .i64 n (by omega) (by omega) W
  rw [made_rep] at h
  exact h
/-- A new disk. -/
def newB (n : Nat) : List (List (List Nat)) := List.replicate n [z64]
theorem DI.made {w : World} {n : Nat} (hn : n ≤ 4096) {gb m d : Nat} {vs : Array Value} (h1 : Blk w gb TBY (List.replicate n nlB).toArray) (h2 : w.ownsMap Try.prog TIN RH m 0 (.map [])) (h3 : Blk w d TDK #[.slice (some ⟨gb, 0, none⟩) n n, .map (some m), .bool false, .int .i64 0]) :
    DI w d ⟨m, .slice (some ⟨gb, 0, none⟩) n n, List.replicate n nlB, .map [], fun _ => nlB, fun _ => [], fun _ => false⟩ (lastsB (newB n)) (newB n) false 0 := by
  have hl : (newB n).length = n := by unfold newB; rw [List.length_replicate]
  have hl2 : (lastsB (newB n)).length = n := by rw [List.length_map, hl]
  refine ⟨h3, by omega, ?_, by rw [hl, hl2], by rw [hl2]; exact hn, h2, fun k hk => Or.inl ⟨?_, ?_⟩, fun l hl => ?_, fun k hk hlo => rfl, fun k hk hlo => ?_, fun k hk => ?_, fun k hk hlo => ?_⟩
  · rw [hl2]
    exact ⟨by simp, Or.inr ⟨gb, n, _, rfl, Nat.zero_le _, h1, Nat.le_refl _, by unfold maxLen; omega, by simp, by simp⟩⟩
  · rw [hl2] at hk
    simp [List.getD, hk]
  · rw [hl2] at hk
    unfold lastsB newB
    simp [List.getD, hk]
  · exact absurd hl (by simp [Maps.has])
  · exact absurd hlo Bool.false_ne_true
  · rw [hl2] at hk
    unfold newB
    simp [List.getD, hk]
  · exact absurd hlo Bool.false_ne_true
set_option maxHeartbeats 3200000 in
set_option maxRecDepth 100000 in
theorem rnewdisk_ok {F : Nat → Prop} (n : Nat) (h8 : 8 ≤ n) (hn : n ≤ 4096) (w : World) (hF : ∀ b, w.heap.size ≤ b → F b) :
    Calls Try.prog 23 #[.int .i64 (n : Int)] w (Ret (fun v w' => ∃ d, v = .tuple #[.pointer (some ⟨d, 0, none⟩), .int .i64 0] ∧ DW F w' d (newB n) false 0) w) := by
  have p1 : ¬ (n : Int) < 8 := by omega
  have p2 : ¬ (4096 : Int) < (n : Int) := by omega
  have hmk := make_BB n (by omega)
  have hmm := @run_makeMap Try.prog
  have HF := Lib.hid hF
  clear hF
  go_enter Try.func23, Try.ntmps23
  go_wp2
  go_returns
  have e1 : (w.alloc (.cells (List.replicate n nlB).toArray TBY)).heap.size = w.heap.size + 1 := by simp
  have e2 : ((w.alloc (.cells (List.replicate n nlB).toArray TBY)).alloc (.map #[] 0)).heap.size = w.heap.size + 1 + 1 := by simp
  have hm := World.ownsMap_made (H := Value) (w.alloc (.cells (List.replicate n nlB).toArray TBY)) Try.prog TIN RH
  rw [e1] at hm
  refine ⟨_, rfl, ⟨w.heap.size + 1 + 1, rfl, ⟨_, DI.made (d := w.heap.size + 1 + 1) (vs := #[]) hn (((Blk.new_ _ _ rfl).alloc _).alloc _) (hm.alloc _) (Blk.new_ _ _ e2), fun k hk => ?_, fun b hb => ?_⟩⟩, bt (Ext.allocR w _) (bt (Ext.allocR _ _) (Ext.allocR _ _))⟩
  · have hk' : k < n := by unfold newB at hk; rw [List.length_replicate] at hk; exact hk
    have e : (newB n).getD k [] = [z64] := by unfold newB; simp [List.getD, hk']
    rw [e]
    rfl
  · refine HF.out b ?_
    rcases hb with rfl | rfl | hb | ⟨k, _, hl, _⟩
    · omega
    · show w.heap.size ≤ w.heap.size + 1; omega
    · injection hb with hb
      rw [← hb]
      exact Nat.le_refl _
    · exact absurd hl Bool.false_ne_true
end Go.Proofs.Tb
