/- Contracts of slices.Clone at bytes and of the disk's made, ready, Blocks, act and at. -/
import Derived.Test.YtfljnfdeboibhaaStw
import Derived.Laws.Cover3
set_option linter.unusedVariables false
set_option linter.unusedSimpArgs false
namespace Go.Proofs.Tb
open Go.Maps Go.RowKit
attribute [local go_sem] cell_set_same

@[local go_sem] theorem neqMapL (m : Option Nat) (w : World) : (binOp .neq TLM (.map m) (.map none)).run Try.prog w = .ok (.bool (!m.isNone)) w := run_neq_map_nil w TLM _ _ m Try.underlying67
theorem made_rep (z : Value) (n : Nat) : madeCells #[z] n = (List.replicate n z).toArray := by
  apply Array.ext'
  rw [toList_madeCells_one]
theorem make_64 (W : World) : (Instr.makeSlice TBY (.int .i64 64) (.int .i64 64)).run Try.prog W = .ok (.slice (some ⟨W.heap.size, 0, none⟩) 64 64) (W.alloc (.cells (bc z64).toArray TU8)) := by
  have h := run_make_row' (P := Try.prog) TBY TU8 (.int .u8 0) 1 Try.underlying44 u8_info rfl .i64 .i64 64 (by omega) (by omega) W
  rw [made_rep] at h
  exact h
theorem make_64_own (W : World) (base : Nat) (hb : base ≤ W.heap.size) : OwB base (W.alloc (.cells (bc z64).toArray TU8)) (.slice (some ⟨W.heap.size, 0, none⟩) 64 64) z64 := by
  have h := own_lit (w := W) TU8 1 (bc z64).toArray 64 hb (by omega) (by simp [bc, z64])
  exact h
theorem OwB.empty (w : World) : OwB w.heap.size (w.alloc (.cells #[] TU8)) (.slice (some ⟨w.heap.size, 0, none⟩) 0 0) [] := own_lit TU8 1 #[] 0 (Nat.le_refl _) (by omega) rfl
set_option maxHeartbeats 6400000 in
set_option maxRecDepth 100000 in
theorem rcloneB_any (A : Option Addr) (c : Nat) (bs : List Nat) (w : World) (h : Rv w 1 A 64 c (bc bs)) :
    Calls Try.prog 75 #[.slice A 64 c] w (Ret (fun v w' => OwB w.heap.size w' v bs) w) := by
  have hle := h.le
  have hcp := h.cap
  have hbl : bs.length = 64 := by have := h.len; rw [bc_len, Nat.mul_one] at this; exact this
  obtain ⟨b, o, rfl, _⟩ := h.at_ (by omega)
  have hq := fun wq => _root_.Go.run_eql_slice_nil (P := Try.prog) wq TBY TU8 (some ⟨b, o, none⟩) 64 c Try.underlying44
  have x1 : Ext w (w.alloc (.cells #[] TU8)) := Ext.allocR _ _
  have hr := h.below x1
  obtain ⟨hn1, hn2, hn3⟩ := hr.news (by omega)
  obtain ⟨v3, w3, hrun, hrow, hgr, hbel⟩ := run_appA (P := Try.prog) TBY TU8 _ 1 1 TBY u8_info Try.underlying44 rfl (by omega) (by omega) w.heap.size (.slice (some ⟨w.heap.size, 0, none⟩) 0 0) 0 [] (OwB.empty w) (some ⟨b, o, none⟩) 64 c (bc bs) hn1 hn2 hn3 (bc_one _) (by omega) (by omega) x1.size
  rw [Nat.zero_add, List.nil_append] at hrow
  have ho3 : OwB w.heap.size w3 v3 bs := by unfold OwB; rw [hbl]; exact hrow
  have x3 : Ext w w3 := (Below.mono (Ext.allocR w (.cells #[] TU8)) (Nat.le_refl _)).trans hbel
  have HO := Lib.hid (And.intro ho3 x3)
  clear hr hn1 hn2 hn3 hrow hgr hbel ho3 x1 x3 h hbl
  go_enter Try.func75, Try.ntmps75
  go_wp2_with (at_builtin; refine Go.Lib.wpList_append_run _ rfl _ _ _ _ rfl (.slice (some ⟨w.heap.size, 0, none⟩) 0 0) (.slice (some ⟨b, o, none⟩) 64 c) rfl rfl _ _ hrun ?_)
  (try simp only [Exit.inBlock, Exit.then])
  refine bodyPost_ret (v := v3) (by simp [results, Try.results75, go_sem, *]) rfl ?_
  exact ⟨_, rfl, HO.out.1, HO.out.2⟩
set_option maxHeartbeats 1600000 in
set_option maxRecDepth 100000 in
theorem rmade_any (d m : Nat) (v : Value) (down : Bool) (left : Nat) (w : World) (h : Blk w d TDK #[v, .map (some m), .bool down, .int .i64 (left : Int)]) :
    Calls Try.prog 62 #[.pointer (some ⟨d, 0, none⟩)] w (Ret (fun z _ => z = .bool true) w) := by
  have kd := h.cells
  simp only [cellsAre, Nat.zero_add, Nat.reduceAdd, and_true] at kd
  clear h
  go_enter Try.func62, Try.ntmps62
  go_wp2
  go_returns
  exact ⟨_, rfl, rfl, Below.refl _ _⟩
set_option maxHeartbeats 1600000 in
set_option maxRecDepth 100000 in
theorem rready_any (d m : Nat) (v : Value) (down : Bool) (left : Nat) (w : World) (h : Blk w d TDK #[v, .map (some m), .bool down, .int .i64 (left : Int)]) :
    Calls Try.prog 67 #[.pointer (some ⟨d, 0, none⟩)] w (Ret (fun z _ => z = .int .i64 (if down = true then 9 else 0)) w) := by
  have kd := h.cells
  simp only [cellsAre, Nat.zero_add, Nat.reduceAdd, and_true] at kd
  have H := Lib.hid h
  clear h
  cases down with
  | true =>
    go_enter Try.func67, Try.ntmps67
    go_wp2_with fail
    refine (rmade_any d m v _ left w H.out).mono ?_
    rintro e w1 ⟨z1, rfl, rfl, b1⟩
    have kd1 := (H.out.below b1).cells
    simp only [cellsAre, Nat.zero_add, Nat.reduceAdd, and_true] at kd1
    go_wp2
    go_returns
    exact ⟨_, rfl, rfl, b1⟩
  | false =>
    go_enter Try.func67, Try.ntmps67
    go_wp2_with fail
    refine (rmade_any d m v _ left w H.out).mono ?_
    rintro e w1 ⟨z1, rfl, rfl, b1⟩
    have kd1 := (H.out.below b1).cells
    simp only [cellsAre, Nat.zero_add, Nat.reduceAdd, and_true] at kd1
    go_wp2
    go_returns
    exact ⟨_, rfl, rfl, b1⟩
set_option maxHeartbeats 1600000 in
set_option maxRecDepth 100000 in
theorem rblocks_any (d m : Nat) (A : Option Addr) (n c : Nat) (down : Bool) (left : Nat) (w : World) (h : Blk w d TDK #[.slice A n c, .map (some m), .bool down, .int .i64 (left : Int)]) (hn : n ≤ 1000000) :
    Calls Try.prog 32 #[.pointer (some ⟨d, 0, none⟩)] w (Ret (fun z _ => z = .int .i64 (n : Int)) w) := by
  have H := Lib.hid h
  clear h
  go_enter Try.func32, Try.ntmps32
  go_wp2_with fail
  refine (rmade_any d m _ down left w H.out).mono ?_
  rintro e w1 ⟨z1, rfl, rfl, b1⟩
  have kd1 := (H.out.below b1).cells
  simp only [cellsAre, Nat.zero_add, Nat.reduceAdd, and_true] at kd1
  go_wp2
  go_returns
  exact ⟨_, rfl, rfl, b1⟩
variable {w : World} {d : Nat} {g : Dkg} {cur : List (List Nat)} {bl : List (List (List Nat))} {down : Bool} {left : Nat}
/-- How the fields lie. -/
theorem DI.form (h : DI w d g cur bl down left) (hn : cur ≠ []) : ∃ gb cap, g.v = .slice (some ⟨gb, 0, none⟩) cur.length cap ∧ cur.length ≤ cap ∧ cap ≤ 9223372036854775807 ∧ Blk w d TDK #[.slice (some ⟨gb, 0, none⟩) cur.length cap, .map (some g.m), .bool down, .int .i64 (left : Int)] := by
  have hd := h.dk
  rcases h.row.2 with ⟨e, h0⟩ | ⟨q, cap, cu, e, _, _, h3, h4, _⟩
  · exact absurd (List.eq_nil_of_length_eq_zero h0) hn
  · rw [e] at hd
    exact ⟨q, cap, e, h3, by simpa [maxLen] using h4, hd⟩
theorem DI.at_ (h : DI w d g cur bl down left) {gb cap : Nat} (hv : g.v = .slice (some ⟨gb, 0, none⟩) cur.length cap) {k : Nat} (hk : k < cur.length) : w.cell? ⟨gb, k, none⟩ = some (g.vs.getD k nlB) := by
  have hrow := h.row
  rw [hv] at hrow
  have hlen : g.vs.length = cur.length := by have := hrow.1; omega
  rw [hrow.cellAt k (by omega)]
  have hk2 : k < g.vs.length := by omega
  simp [List.getD, List.getElem?_eq_getElem hk2]
set_option maxHeartbeats 3200000 in
set_option maxRecDepth 100000 in
theorem rat_any (h : DI w d g cur bl down left) {k : Nat} (hk : k < cur.length) :
    Calls Try.prog 64 #[.pointer (some ⟨d, 0, none⟩), .int .i64 (k : Int)] w (Ret (fun z w' => ∃ A c, z = .slice A 64 c ∧ OwB w.heap.size w' (.slice A 64 c) (cur.getD k z64)) w) := by
  have hne : cur ≠ [] := fun e => by rw [e] at hk; simp at hk
  obtain ⟨gb, cap, hv, hc1, hc2, hd⟩ := h.form hne
  have hat := h.at_ hv hk
  have hfew := h.few
  obtain ⟨n, hn⟩ : ∃ n, cur.length = n := ⟨_, rfl⟩
  rw [hn] at hd hc1 hk hfew
  have kd := hd.cells
  simp only [cellsAre, Nat.zero_add, Nat.reduceAdd, and_true] at kd
  obtain ⟨x, hx⟩ : ∃ x, g.vs.getD k nlB = x := ⟨_, rfl⟩
  obtain ⟨bs, hbs⟩ : ∃ bs, cur.getD k z64 = bs := ⟨_, rfl⟩
  have hs := h.sees k (by omega)
  rw [hx, hbs] at hs
  rw [hx] at hat
  rw [hbs]
  have HD := Lib.hid hd
  have HAT := Lib.hid hat
  clear h hne hv hd hbs hx hn
  rcases hs with ⟨rfl, rfl⟩ | ⟨ho, hl⟩
  · unfold nlB at hat
    have hq := fun wq => _root_.Go.run_eql_slice_nil (P := Try.prog) wq TBY TU8 none 0 0 Try.underlying44
    have hmk := make_64 w
    have HZ := Lib.hid (make_64_own w w.heap.size (Nat.le_refl _))
    have X := Lib.hid (Ext.allocR w (.cells (bc z64).toArray TU8))
    go_enter Try.func64, Try.ntmps64
    go_wp2
    go_returns
    exact ⟨_, rfl, ⟨_, _, rfl, HZ.out⟩, X.out⟩
  · obtain ⟨A, c, rfl, hr⟩ := own_rv ho
    rw [hl] at hat hr
    have hq := fun wq => _root_.Go.run_eql_slice_nil (P := Try.prog) wq TBY TU8 A 64 c Try.underlying44
    have HR := Lib.hid hr
    have HL := Lib.hid hl
    obtain ⟨b0, o0, rfl, _⟩ := hr.at_ (by omega)
    clear ho hl hr
    go_enter Try.func64, Try.ntmps64
    go_wp2_with fail
    refine (rcloneB_any _ c bs _ HR.out).mono ?_
    rintro e w1 ⟨z1, rfl, ho1, b1⟩
    obtain ⟨A1, c1, rfl, hr1⟩ := own_rv ho1
    rw [HL.out] at ho1 ⊢
    have HZ := Lib.hid (And.intro ho1 b1)
    clear ho1 b1 hr1
    go_wp2
    go_returns
    exact ⟨_, rfl, ⟨_, _, rfl, HZ.out.1⟩, HZ.out.2⟩
end Go.Proofs.Tb
