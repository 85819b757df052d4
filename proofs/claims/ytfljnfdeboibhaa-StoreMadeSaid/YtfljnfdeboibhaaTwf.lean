/- StoreOpens: the walk. (With what follows it, in one text.) -/
import Derived.Test.YtfljnfdeboibhaaTwe
set_option linter.unusedVariables false
set_option linter.unusedSimpArgs false
/- StoreOpens: the walk. -/
namespace Go.Proofs.Tb
open Go.Maps Go.RowKit Go.Lib
attribute [local go_sem] cell_set_same neqMapL
theorem and1023 (y : Int) : ∃ b : Nat, b ≤ 1023 ∧ bits .and .i64 y 1023 = (b : Int) := by
  have e : bits .and .i64 y 1023 = IntKind.i64.wrap ((BitVec.ofInt 64 y &&& BitVec.ofInt 64 1023).toNat : Int) := rfl
  have h : (BitVec.ofInt 64 y &&& BitVec.ofInt 64 1023).toNat ≤ 1023 := by
    rw [BitVec.toNat_and]
    exact Nat.and_le_right
  refine ⟨_, h, ?_⟩
  rw [e, IntWalk.i64_in _ (by omega)]
set_option maxHeartbeats 1600000 in
set_option maxRecDepth 100000 in
theorem rarm1_any {F : Nat → Prop} {w : World} {d : Nat} {bl : List (List (List Nat))} {left : Nat} (hw : DW F w d bl false left) :
    Calls Try.prog 28 #[.pointer (some ⟨d, 0, none⟩), .int .i64 1] w fun e w' => (∃ v, e = .returned v) ∧ DW F w' d bl false 1 ∧ Chg (MF F) w w' := by
  obtain ⟨g, h, hlo, hfp⟩ := hw
  have hd := h.dk
  have HH := Lib.hid h
  have HL := Lib.hid hlo
  have HP := Lib.hid hfp
  have HD := Lib.hid hd
  clear h hlo hfp hd
  go_enter Try.func28, Try.ntmps28
  go_wp2_with fail
  refine (rready_any d g.m g.v false left w HD.out).mono ?_
  rintro e w1 ⟨v1, rfl, rfl, b1⟩
  rw [show (if false = true then (9 : Int) else 0) = 0 from rfl]
  have hd1 := HD.out.below b1
  have HH1 := Lib.hid (HH.out.ext b1)
  have k1 := hd1.cells
  simp only [cellsAre, Nat.zero_add, Nat.reduceAdd, and_true] at k1
  have f1 := hd1.free
  have HD1 := Lib.hid hd1
  have X1 := Lib.hid b1
  clear hd1 b1
  go_wp2_with fail
  have hm : max (0 : Int) 1 = ((1 : Nat) : Int) := by omega
  rw [hm]
  have hmf : MF F d (.cells #[g.v, .map (some g.m), .bool false, .int .i64 (left : Int)] TDK (0, 0)) := ⟨HP.out d (Or.inl rfl), Or.inl rfl⟩
  have b2 : Blk (w1.setCell ⟨d, 3, none⟩ (.int .i64 ((1 : Nat) : Int))) d TDK #[g.v, .map (some g.m), .bool false, .int .i64 ((1 : Nat) : Int)] := HD1.out.set_ 3 _
  have c2 : Chg (MF F) w1 (w1.setCell ⟨d, 3, none⟩ (.int .i64 ((1 : Nat) : Int))) := Chg.setB HD1.out hmf 3 _
  have h2 := HH1.out.fields (Chg.setB (X := fun b _ => b = d) HD1.out rfl 3 _) b2 (by omega)
  go_returns
  refine ⟨⟨_, rfl⟩, ⟨g, h2, HL.out, HP.out⟩, (Chg.ext X1.out).trans c2⟩
end Go.Proofs.Tb
/- StoreOpens: the walk. -/
namespace Go.Proofs.Tb
open Go.Maps Go.RowKit Go.Lib
attribute [local go_sem] cell_set_same neqMapL
/-- What follows Open in StoreOpens: nothing and a disk of zeros are refused. -/
theorem DW.blk {F : Nat → Prop} {w : World} {d : Nat} {bl : List (List (List Nat))} {down : Bool} {left : Nat} (h : DW F w d bl down left) : ∃ g v, Blk w d TDK #[v, .map (some g), .bool down, .int .i64 (left : Int)] := by
  obtain ⟨g, h1, _, _⟩ := h
  exact ⟨g.m, g.v, h1.dk⟩
theorem st_newest {F : Nat → Prop} {w : World} {s d keep n : Nat} {Vs : List (List Pr)} (h : STx F w s d keep n Vs) :
    Calls Try.prog 30 #[.pointer (some ⟨s, 0, none⟩)] w (Ret (fun v _ => v = .int .i64 ((Vs.length - 1 : Nat) : Int)) w) := by
  obtain ⟨vs, B, bl, h1, h2, h3, h4⟩ := h
  obtain ⟨t0, hf⟩ := h2.vsn.first
  exact rnewest_any h1.sr hf
theorem st_oldest {F : Nat → Prop} {w : World} {s d keep n : Nat} {Vs : List (List Pr)} (h : STx F w s d keep n Vs) :
    Calls Try.prog 31 #[.pointer (some ⟨s, 0, none⟩)] w (Ret (fun v _ => v = .int .i64 ((Vs.length - 1 - keep : Nat) : Int)) w) := by
  obtain ⟨vs, B, bl, h1, h2, h3, h4⟩ := h
  obtain ⟨t1, hl⟩ := h2.vsn.last
  have hlen := h2.len
  have hp : 0 < Vs.length := List.length_pos_iff.2 h2.nv
  rw [show Vs.length - 1 - (vs.length - 1) = Vs.length - 1 - keep by omega] at hl
  exact roldest_any h1.sr h2.pos hl
theorem st_broken {F : Nat → Prop} {w : World} {s d keep n : Nat} {Vs : List (List Pr)} (h : STx F w s d keep n Vs) :
    Calls Try.prog 15 #[.pointer (some ⟨s, 0, none⟩)] w (Ret (fun v _ => v = .bool false) w) := by
  obtain ⟨vs, B, bl, h1, h2, h3, h4⟩ := h
  obtain ⟨A, m, c, hs, _⟩ := h1.se
  exact rbroken_any s d _ _ false w hs
set_option maxHeartbeats 6400000 in
set_option maxRecDepth 100000 in
theorem ropens_up (size keep : Int) (w : World) (h0 : ¬ keep < 0) (h8 : ¬ 8 < keep) : Calls Try.prog 7 #[.int .i64 size, .int .i64 keep, .bool false] w (Ret (fun z _ => z = .bool true) w) := by
  obtain ⟨b, hb, eb⟩ := and1023 size
  obtain ⟨k, rfl⟩ : ∃ k : Nat, keep = (k : Int) := ⟨keep.toNat, by omega⟩
  have hk : k ≤ 8 := by omega
  have wb : IntKind.i64.wrap (512 + (b : Int)) = ((512 + b : Nat) : Int) := by rw [IntWalk.i64_in _ (by omega)]; omega
  go_enter Try.func7, Try.ntmps7
  go_wp2_with fail
  refine (rnewdisk_ok (F := fun b => w.heap.size ≤ b) (512 + b) (by omega) (by omega) w (fun b h => h)).mono ?_
  rintro e w1 ⟨v1, rfl, ⟨d, rfl, hd⟩, b1⟩
  have X1 := Lib.hid b1
  have HD := Lib.hid hd
  clear hd b1
  go_wp2_with fail
  refine (rlives_any w1).mono ?_
  rintro e w2 ⟨v2, rfl, rfl, b2⟩
  have X2 := Lib.hid (bt X1.out b2)
  have HD2 := Lib.hid (show DW (fun b => w.heap.size ≤ b) w2 d (newB (512 + b)) false 0 from HD.out.chg (X := fun _ _ => False) (Chg.ext b2) (fun _ _ _ _ h => h) fun _ _ h => h)
  clear b2 X1 HD
  go_wp2_with fail
  refine (st_open HD2.out (fun b hb => Nat.le_trans X2.out.size hb) (by omega) hk).mono ?_
  rintro e w3 ⟨⟨s, rfl, hs⟩, hc⟩
  have X3 := Lib.hid (hc.ge X2.out)
  have HS3 := Lib.hid hs
  clear hs hc X2 HD2
  go_wp2_with fail
  refine (ropen_un none 0 w3 (rmade_nil w3)).mono ?_
  rintro e w4 ⟨v4, rfl, rfl, b4⟩
  unfold noOp
  go_wp2_with fail
  have zb : Blk (w4.alloc (.cells #[.slice none 0 0, .map none, .bool false, .int .i64 0] TDK)) w4.heap.size TDK #[.slice none 0 0, .map none, .bool false, .int .i64 ((0 : Nat) : Int)] := Blk.new_ _ _ rfl
  refine (ropen_un (some ⟨w4.heap.size, 0, none⟩) 0 _ (rmade_none w4.heap.size _ false 0 _ zb)).mono ?_
  rintro e w5 ⟨v5, rfl, rfl, b5⟩
  unfold noOp
  have b5' : Ext w4 w5 := bt (Ext.allocR w4 (.cells #[.slice none 0 0, .map none, .bool false, .int .i64 0] TDK)) b5
  have X5 := Lib.hid (bt (bt X3.out b4) b5')
  clear zb b5 X3
  have HS5 := Lib.hid ((HS3.out.ext b4).ext b5')
  clear b4 b5' HS3
  go_wp2_with fail
  refine (st_newest HS5.out).mono ?_
  rintro e w6 ⟨v6, rfl, rfl, b6⟩
  have X6 := Lib.hid (bt X5.out b6)
  have HS6 := Lib.hid (HS5.out.ext b6)
  clear b6 X5 HS5
  rw [show ((([[]] : List (List Pr)).length - 1 : Nat) : Int) = 0 from rfl]
  go_wp2_with fail
  refine (st_oldest HS6.out).mono ?_
  rintro e w7 ⟨v7, rfl, rfl, b7⟩
  have X7 := Lib.hid (bt X6.out b7)
  have HS7 := Lib.hid (HS6.out.ext b7)
  clear b7 X6 HS6
  rw [show ((([[]] : List (List Pr)).length - 1 - k : Nat) : Int) = 0 by simp]
  go_wp2_with fail
  refine (st_broken HS7.out).mono ?_
  rintro e w8 ⟨v8, rfl, rfl, b8⟩
  have X8 := Lib.hid (bt X7.out b8)
  have HS8 := Lib.hid (HS7.out.ext b8)
  clear b8 X7 HS7
  go_wp2_with fail
  refine (znew_any k w8).mono ?_
  rintro e w9 ⟨v9, rfl, hr9, b9⟩
  have X9 := Lib.hid (bt X8.out b9)
  have HS9 := Lib.hid (HS8.out.ext b9)
  have HR9 := Lib.hid hr9
  clear b9 X8 HS8 hr9
  go_wp2_with fail
  refine (st_alike HS9.out HR9.out (by decide) (by omega) (fun l hl => by rw [List.mem_singleton.1 hl]; exact Nat.zero_le _)).mono ?_
  rintro e w10 ⟨v10, rfl, rfl, b10⟩
  have X10 := Lib.hid (bt X9.out b10)
  clear b10 X9 HS9 HR9
  go_wp2_with fail
  (try simp only [Exit.inBlock, Exit.then])
  refine bodyPost_ret (v := (.bool true)) (by simp [results, Try.results7, go_sem, *]) rfl ?_
  exact ⟨_, rfl, rfl, X10.out⟩
theorem noOp_blk {w : World} {d : Nat} {v : Value} {g : Nat} {down : Bool} {left : Nat} (h : Blk w d TDK #[v, .map (some g), .bool down, .int .i64 (left : Int)]) (keep : Int) (e : Int) (he : (keep < 0 ∨ 8 < keep) ∧ e = 1 ∨ (¬ keep < 0 ∧ ¬ 8 < keep) ∧ down = true ∧ e = 9) :
    Calls Try.prog 24 #[.pointer (some ⟨d, 0, none⟩), .int .i64 keep] w (Ret (fun z _ => z = noOp e) w) := by
  rcases he with ⟨h1, rfl⟩ | ⟨⟨h1, h2⟩, rfl, rfl⟩
  · exact ropen_arg keep g v h h1
  · exact ropen_down keep g v h h1 h2
set_option maxHeartbeats 6400000 in
set_option maxRecDepth 100000 in
theorem ropens_bad (size keep : Int) (w : World) (h0 : keep < 0 ∨ 8 < keep) : Calls Try.prog 7 #[.int .i64 size, .int .i64 keep, .bool false] w (Ret (fun z _ => z = .bool true) w) := by
  obtain ⟨b, hb, eb⟩ := and1023 size
  have wb : IntKind.i64.wrap (512 + (b : Int)) = ((512 + b : Nat) : Int) := by rw [IntWalk.i64_in _ (by omega)]; omega
  have hcnd : (decide (keep < 0) || decide (8 < keep)) = true := by rw [Bool.or_eq_true, decide_eq_true_iff, decide_eq_true_iff]; exact h0
  have H0 := Lib.hid h0
  clear h0
  go_enter Try.func7, Try.ntmps7
  go_wp2_with fail
  refine (rnewdisk_ok (F := fun b => w.heap.size ≤ b) (512 + b) (by omega) (by omega) w (fun b h => h)).mono ?_
  rintro e w1 ⟨v1, rfl, ⟨d, rfl, hd⟩, b1⟩
  have X1 := Lib.hid b1
  have HD := Lib.hid hd
  clear hd b1
  go_wp2_with fail
  refine (rlives_any w1).mono ?_
  rintro e w2 ⟨v2, rfl, rfl, b2⟩
  have X2 := Lib.hid (bt X1.out b2)
  have HD2 := Lib.hid (show DW (fun b => w.heap.size ≤ b) w2 d (newB (512 + b)) false 0 from HD.out.chg (X := fun _ _ => False) (Chg.ext b2) (fun _ _ _ _ h => h) fun _ _ h => h)
  clear b2 X1 HD
  go_wp2_with fail
  obtain ⟨gm, gv, hblk⟩ := HD2.out.blk
  refine (noOp_blk hblk keep 1 (.inl ⟨H0.out, rfl⟩)).mono ?_
  rintro e w3 ⟨v3, rfl, rfl, b3⟩
  unfold noOp
  have X3 := Lib.hid (bt X2.out b3)
  clear b3 X2 HD2 hblk
  go_wp2_with fail
  refine (ropen_un none 0 w3 (rmade_nil w3)).mono ?_
  rintro e w4 ⟨v4, rfl, rfl, b4⟩
  unfold noOp
  go_wp2_with fail
  have zb : Blk (w4.alloc (.cells #[.slice none 0 0, .map none, .bool false, .int .i64 0] TDK)) w4.heap.size TDK #[.slice none 0 0, .map none, .bool false, .int .i64 ((0 : Nat) : Int)] := Blk.new_ _ _ rfl
  refine (ropen_un (some ⟨w4.heap.size, 0, none⟩) 0 _ (rmade_none w4.heap.size _ false 0 _ zb)).mono ?_
  rintro e w5 ⟨v5, rfl, rfl, b5⟩
  unfold noOp
  have b5' : Ext w4 w5 := bt (Ext.allocR w4 (.cells #[.slice none 0 0, .map none, .bool false, .int .i64 0] TDK)) b5
  have X5 := Lib.hid (bt (bt X3.out b4) b5')
  clear zb b5 X3
  clear b4 b5'
  rcases H0.out with h1 | h1
  · go_wp2_with fail
    (try simp only [Exit.inBlock, Exit.then])
    refine bodyPost_ret (v := (.bool true)) (by simp [results, Try.results7, go_sem, *]) rfl ?_
    exact ⟨_, rfl, rfl, X5.out⟩
  · by_cases h2 : keep < 0
    · go_wp2_with fail
      (try simp only [Exit.inBlock, Exit.then])
      refine bodyPost_ret (v := (.bool true)) (by simp [results, Try.results7, go_sem, *]) rfl ?_
      exact ⟨_, rfl, rfl, X5.out⟩
    · go_wp2_with fail
      (try simp only [Exit.inBlock, Exit.then])
      refine bodyPost_ret (v := (.bool true)) (by simp [results, Try.results7, go_sem, *]) rfl ?_
      exact ⟨_, rfl, rfl, X5.out⟩
set_option maxHeartbeats 6400000 in
set_option maxRecDepth 100000 in
theorem ropens_down (size keep : Int) (w : World) : Calls Try.prog 7 #[.int .i64 size, .int .i64 keep, .bool true] w (Ret (fun z _ => z = .bool true) w) := by
  obtain ⟨b, hb, eb⟩ := and1023 size
  have wb : IntKind.i64.wrap (512 + (b : Int)) = ((512 + b : Nat) : Int) := by rw [IntWalk.i64_in _ (by omega)]; omega
  go_enter Try.func7, Try.ntmps7
  go_wp2_with fail
  refine (rnewdisk_ok (F := fun b => w.heap.size ≤ b) (512 + b) (by omega) (by omega) w (fun b h => h)).mono ?_
  rintro e w1 ⟨v1, rfl, ⟨d, rfl, hd⟩, b1⟩
  have X1 := Lib.hid b1
  have HD := Lib.hid hd
  clear hd b1
  go_wp2_with fail
  refine (rlives_any w1).mono ?_
  rintro e w2 ⟨v2, rfl, rfl, b2⟩
  have X2 := Lib.hid (bt X1.out b2)
  have HD2 := Lib.hid (show DW (fun b => w.heap.size ≤ b) w2 d (newB (512 + b)) false 0 from HD.out.chg (X := fun _ _ => False) (Chg.ext b2) (fun _ _ _ _ h => h) fun _ _ h => h)
  clear b2 X1 HD
  go_wp2_with fail
  refine (rarm1_any HD2.out).mono ?_
  rintro e wa ⟨⟨va, rfl⟩, ha, ca⟩
  have XA := Lib.hid (ca.ge X2.out)
  have HA := Lib.hid ha
  clear ha ca X2 HD2
  go_wp2_with fail
  refine (rsync_ok HA.out (fun b hb => Nat.le_trans XA.out.size hb)).mono ?_
  rintro e ws ⟨rfl, hs, cs⟩
  have XS := Lib.hid (cs.ge XA.out)
  obtain ⟨gm, gv, hblk⟩ := hs.blk
  have HBK := Lib.hid (show Blk ws d TDK #[gv, .map (some gm), .bool true, .int .i64 ((0 : Nat) : Int)] from hblk)
  clear hs cs XA HA hblk
  by_cases h0 : keep < 0 ∨ 8 < keep
  · have H0 := Lib.hid h0
    clear h0
    go_wp2_with fail
    refine (noOp_blk HBK.out keep 1 (.inl ⟨H0.out, rfl⟩)).mono ?_
    rintro e w3 ⟨v3, rfl, rfl, b3⟩
    unfold noOp
    have X3 := Lib.hid (bt XS.out b3)
    clear b3 XS HBK
    go_wp2_with fail
    refine (ropen_un none 0 w3 (rmade_nil w3)).mono ?_
    rintro e w4 ⟨v4, rfl, rfl, b4⟩
    unfold noOp
    go_wp2_with fail
    have zb : Blk (w4.alloc (.cells #[.slice none 0 0, .map none, .bool false, .int .i64 0] TDK)) w4.heap.size TDK #[.slice none 0 0, .map none, .bool false, .int .i64 ((0 : Nat) : Int)] := Blk.new_ _ _ rfl
    refine (ropen_un (some ⟨w4.heap.size, 0, none⟩) 0 _ (rmade_none w4.heap.size _ false 0 _ zb)).mono ?_
    rintro e w5 ⟨v5, rfl, rfl, b5⟩
    unfold noOp
    have b5' : Ext w4 w5 := bt (Ext.allocR w4 (.cells #[.slice none 0 0, .map none, .bool false, .int .i64 0] TDK)) b5
    have X5 := Lib.hid (bt (bt X3.out b4) b5')
    clear zb b5 X3
    clear b4 b5'
    rcases H0.out with h1 | h1
    · go_wp2_with fail
      (try simp only [Exit.inBlock, Exit.then])
      refine bodyPost_ret (v := (.bool true)) (by simp [results, Try.results7, go_sem, *]) rfl ?_
      exact ⟨_, rfl, rfl, X5.out⟩
    · by_cases h2 : keep < 0
      · go_wp2_with fail
        (try simp only [Exit.inBlock, Exit.then])
        refine bodyPost_ret (v := (.bool true)) (by simp [results, Try.results7, go_sem, *]) rfl ?_
        exact ⟨_, rfl, rfl, X5.out⟩
      · go_wp2_with fail
        (try simp only [Exit.inBlock, Exit.then])
        refine bodyPost_ret (v := (.bool true)) (by simp [results, Try.results7, go_sem, *]) rfl ?_
        exact ⟨_, rfl, rfl, X5.out⟩
  · have h1 : ¬ keep < 0 := fun h => h0 (.inl h)
    have h2 : ¬ 8 < keep := fun h => h0 (.inr h)
    clear h0
    go_wp2_with fail
    refine (noOp_blk HBK.out keep 9 (.inr ⟨⟨by omega, by omega⟩, rfl, rfl⟩)).mono ?_
    rintro e w3 ⟨v3, rfl, rfl, b3⟩
    unfold noOp
    have X3 := Lib.hid (bt XS.out b3)
    clear b3 XS HBK
    go_wp2_with fail
    refine (ropen_un none 0 w3 (rmade_nil w3)).mono ?_
    rintro e w4 ⟨v4, rfl, rfl, b4⟩
    unfold noOp
    go_wp2_with fail
    have zb : Blk (w4.alloc (.cells #[.slice none 0 0, .map none, .bool false, .int .i64 0] TDK)) w4.heap.size TDK #[.slice none 0 0, .map none, .bool false, .int .i64 ((0 : Nat) : Int)] := Blk.new_ _ _ rfl
    refine (ropen_un (some ⟨w4.heap.size, 0, none⟩) 0 _ (rmade_none w4.heap.size _ false 0 _ zb)).mono ?_
    rintro e w5 ⟨v5, rfl, rfl, b5⟩
    unfold noOp
    have b5' : Ext w4 w5 := bt (Ext.allocR w4 (.cells #[.slice none 0 0, .map none, .bool false, .int .i64 0] TDK)) b5
    have X5 := Lib.hid (bt (bt X3.out b4) b5')
    clear zb b5 X3
    clear b4 b5'
    go_wp2_with fail
    (try simp only [Exit.inBlock, Exit.then])
    refine bodyPost_ret (v := (.bool true)) (by simp [results, Try.results7, go_sem, *]) rfl ?_
    exact ⟨_, rfl, rfl, X5.out⟩
theorem ropens_any (size keep : Int) (down : Bool) (w : World) : Calls Try.prog 7 #[.int .i64 size, .int .i64 keep, .bool down] w (Ret (fun z _ => z = .bool true) w) := by
  cases down with
  | true => exact ropens_down size keep w
  | false =>
    by_cases h0 : keep < 0 ∨ 8 < keep
    · exact ropens_bad size keep w h0
    · exact ropens_up size keep w (fun h => h0 (.inl h)) fun h => h0 (.inr h)
end Go.Proofs.Tb
