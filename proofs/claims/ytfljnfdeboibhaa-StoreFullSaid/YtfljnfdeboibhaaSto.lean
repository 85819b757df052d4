/- Contracts of a head's encode and of slices.Clone at bytes. -/
import Derived.Test.YtfljnfdeboibhaaStn
import Derived.Lib.LazyBuf
set_option linter.unusedVariables false
set_option linter.unusedSimpArgs false
namespace Go.Proofs.Tb
open Go.RowKit
attribute [local go_sem] cell_set_same

abbrev THD : TypeId := 121
theorem Blk.low {w w' : World} {B g : Nat} {t : TypeId} {cs : Array Value} (h : Blk w g t cs) (hb : Below B w w') (hg : g < B) : Blk w' g t cs := (hb.block g hg).trans h
def ri (roots : List Nat) : List Value := roots.map fun (r : Nat) => .int .i64 (r : Int)
theorem ri_len (roots : List Nat) : (ri roots).length = roots.length := by simp [ri]
theorem rootB_lt (keep number : Nat) (roots : List Nat) : ∀ b ∈ rootB keep number roots, b < 256 := fun b hb => by
  unfold rootB at hb
  simp only [List.mem_append, List.mem_singleton, List.mem_flatten, List.mem_map] at hb
  rcases hb with (((rfl | hb) | hb) | hb) | ⟨l, ⟨r, _, rfl⟩, hb⟩
  · omega
  · exact beB_lt _ _ b hb
  · exact beB_lt _ _ b hb
  · exact beB_lt _ _ b hb
  · exact beB_lt _ _ b hb
set_option maxHeartbeats 6400000 in
set_option maxRecDepth 100000 in
theorem rhead_any (keep number : Nat) (A : Option Addr) (n c : Nat) (roots : List Nat) (w : World) (h : Rv w 1 A n c (ri roots)) (hk : keep ≤ 1000) (hnum : number ≤ 4611686018427387904) (hn : n ≤ 20) (hr : ∀ r ∈ roots, r ≤ 1000000) :
    Calls Try.prog 86 #[.agg #[.int .i64 (keep : Int), .int .i64 (number : Int), .slice A n c]] w (Ret (fun z w' => ∃ A c, z = .slice A 64 c ∧ OwB w.heap.size w' (.slice A 64 c) (blkB (rootB keep number roots))) w) := by
  have hl : roots.length = n := by have := h.len; rw [ri_len, Nat.mul_one] at this; exact this
  have hle := h.le
  have hcap := h.cap
  have HL := Lib.hid hl
  have H := Lib.hid h
  have HR := Lib.hid hr
  clear h hr hl
  go_enter Try.func86, Try.ntmps86
  go_upto_region 2 with fail
  have x0 : Ext w (w.alloc (.cells #[.int .i64 (keep : Int), .int .i64 (number : Int), .slice A n c] THD)) := Ext.allocR _ _
  obtain ⟨W0, hW0⟩ : ∃ W0, W0 = w.alloc (.cells #[.int .i64 (keep : Int), .int .i64 (number : Int), .slice A n c] THD) := ⟨_, rfl⟩
  have b0 : Blk W0 w.heap.size THD #[.int .i64 (keep : Int), .int .i64 (number : Int), .slice A n c] := by rw [hW0]; exact Blk.new_ _ _ rfl
  have e0 : W0.heap.size = w.heap.size + 1 := by rw [hW0]; simp
  rw [← hW0] at x0 ⊢
  have x1 : Ext W0 (W0.alloc (.cells #[.int .u8 114] TU8)) := Ext.allocR _ _
  have x2 : Ext (W0.alloc (.cells #[.int .u8 114] TU8)) ((W0.alloc (.cells #[.int .u8 114] TU8)).alloc (.cells #[.slice (some ⟨w.heap.size + 1, 0, none⟩) 1 1] TWR)) := Ext.allocR _ _
  have o1 := own_lit_u8 (w := W0) 114
  rw [e0] at o1
  refine wp_world (fun W => WrW (w.heap.size + 1) (w.heap.size + 1 + 1) W [114] ∧ Blk W w.heap.size THD #[.int .i64 (keep : Int), .int .i64 (number : Int), .slice A n c] ∧ Ext w W) ⟨⟨_, Blk.new_ _ _ (by simp; omega), own_below o1 x2⟩, (b0.below x1).below x2, bt x0 (bt x1 x2)⟩ ?_
  clear x0 x1 x2 o1 b0 e0 hW0 W0
  rintro W1 ⟨hw1, hb1, hx1⟩
  obtain ⟨p, hp⟩ : ∃ p, w.heap.size = p := ⟨_, rfl⟩
  rw [hp] at hw1 hb1 ⊢
  have HP := Lib.hid hp
  have HX1 := Lib.hid hx1
  have HB1 := Lib.hid hb1
  have HW1 := Lib.hid hw1
  have hps : p + 1 ≤ W1.heap.size := hb1.lt
  have kk := fun w' (hh : Below (p + 1) W1 w') => (HB1.out.low hh (by omega)).cells
  simp only [cellsAre, Nat.zero_add, Nat.reduceAdd, and_true] at kk
  have c1 := kk W1 (Below.refl _ _)
  have KK := Lib.hid kk
  clear hw1 hb1 hx1 hp kk
  go_wp2_with fail
  refine (rnum_any (p + 1) (p + 1 + 1) [114] keep 1 W1 HW1.out (by omega) (by simp) (by omega) (by omega)).mono ?_
  rintro e w2 ⟨⟨z2, rfl⟩, hw2, hb2, _⟩
  have HW2 := Lib.hid hw2
  have HX2 := Lib.hid hb2
  have c2 := KK.out w2 hb2
  clear hw2 hb2 c1 HW1
  go_wp2_with fail
  refine (rnum_any (p + 1) (p + 1 + 1) ([114] ++ beB keep 1) number 8 w2 HW2.out (by omega) (by simp [beB_len]) (by omega) (by omega)).mono ?_
  rintro e w3 ⟨⟨z3, rfl⟩, hw3, hb3, _⟩
  have HW3 := Lib.hid hw3
  have HX3 := Lib.hid (HX2.out.trans hb3)
  have c3 := KK.out w3 HX3.out
  clear hw3 hb3 c2 HW2
  go_wp2_with fail
  refine (rnum_any (p + 1) (p + 1 + 1) ([114] ++ beB keep 1 ++ beB number 8) n 1 w3 HW3.out (by omega) (by simp [beB_len]) (by omega) (by omega)).mono ?_
  rintro e w4 ⟨⟨z4, rfl⟩, hw4, hb4, _⟩
  obtain ⟨bs, hbs⟩ : ∃ bs, [114] ++ beB keep 1 ++ beB number 8 ++ beB n 1 = bs := ⟨_, rfl⟩
  rw [hbs] at hw4
  have hbl : bs.length = 11 := by rw [← hbs]; simp [beB_len]
  have HBS := Lib.hid hbs
  have HW4 := Lib.hid (show WrW (p + 1) (p + 1 + 1) w4 (bs ++ ((roots.take 0).map fun r => beB r 2).flatten) by rw [List.take_zero, List.map_nil, List.flatten_nil, List.append_nil]; exact hw4)
  have HX4 := Lib.hid (HX3.out.trans hb4)
  have c4 := KK.out w4 HX4.out
  have HEX := Lib.hid (show ∀ wr, Below (p + 1) W1 wr → Ext w wr from fun wr hh => by show Below w.heap.size w wr; exact Below.trans HX1.out (Below.mono hh (by rw [HP.out]; omega)))
  clear hw4 hb4 c3 HW3 hbs
  go_wp2_with fail
  go_loopw [25] (fun i wr => ∃ j : Nat, j ≤ n ∧ i = .int .i64 (j : Int) ∧ WrW (p + 1) (p + 1 + 1) wr (bs ++ ((roots.take j).map fun r => beB r 2).flatten) ∧ Below (p + 1) W1 wr) (fun i _ => n - (intOf i).toNat)
  case atStart => exact ⟨0, by omega, rfl, HW4.out, HX4.out⟩
  case round =>
    clear HW4 c4
    obtain ⟨j, hj, rfl, hw, hbx⟩ := hrel
    have HW := Lib.hid hw
    have HX := Lib.hid hbx
    by_cases hjn : j < n
    · have pj : (j : Int) < (n : Int) := by omega
      have hjl : j < roots.length := by rw [HL.out]; exact hjn
      obtain ⟨b, o, rfl, hc⟩ := (H.out.below (HEX.out wr hbx)).at_ (by omega)
      obtain ⟨y, hy⟩ : ∃ y, roots.getD j 0 = y := ⟨_, rfl⟩
      have hyg : roots[j] = y := by rw [← hy]; simp [List.getD, hjl]
      have ck := hc j (.int .i64 (y : Int)) (by unfold ri; rw [List.getElem?_map, List.getElem?_eq_getElem hjl, hyg]; rfl)
      have hyl : y ≤ 1000000 := HR.out y (by rw [← hyg]; exact List.getElem_mem hjl)
      have HN := Lib.hid (show ((roots.take (j + 1)).map fun r => beB r 2).flatten = ((roots.take j).map fun r => beB r 2).flatten ++ beB y 2 by
        rw [List.take_succ_eq_append_getElem hjl, List.map_append, List.flatten_append, hyg]; simp)
      have hlw : (bs ++ ((roots.take j).map fun r => beB r 2).flatten).length ≤ 100 := by rw [List.length_append, flat2_len, List.length_take]; omega
      clear hc hy hyg hw hbx
      go_wp2_with fail
      refine (rnum_any (p + 1) (p + 1 + 1) _ y 2 wr HW.out (by omega) (by omega) (by omega) (by omega)).mono ?_
      rintro e w6 ⟨⟨z6, rfl⟩, hw6, hb6, _⟩
      have HZ := Lib.hid (show WrW (p + 1) (p + 1 + 1) w6 (bs ++ ((roots.take (j + 1)).map fun r => beB r 2).flatten) by rw [HN.out, ← List.append_assoc]; exact hw6)
      have HX6 := Lib.hid (HX.out.trans hb6)
      clear hw6 hb6 ck
      go_wp2
      go_roundw
      case rel => exact ⟨j + 1, by omega, by go_num, HZ.out, HX6.out⟩
      case measure => simp [intOf]; omega
    · obtain rfl : j = n := by omega
      have hby : bs ++ ((roots.take j).map fun r => beB r 2).flatten = rootB keep number roots := by
        rw [List.take_of_length_le (by rw [HL.out]; exact Nat.le_refl _), ← HBS.out]
        unfold rootB
        rw [HL.out]
      have HW5 := Lib.hid (show WrW (p + 1) (p + 1 + 1) wr (rootB keep number roots) by rw [← hby]; exact hw)
      have hlw : (rootB keep number roots).length ≤ 60 := by rw [rootB_len, HL.out]; omega
      have hlt := rootB_lt keep number roots
      clear hw hbx hby
      go_wp2_with fail
      refine (rdone_any (p + 1) (p + 1 + 1) _ wr HW5.out (by omega) hlw hlt).mono ?_
      rintro e w7 ⟨A7, c7, rfl, ho7, hb7⟩
      have HZ := Lib.hid (And.intro ho7 (HX.out.trans hb7))
      clear ho7 hb7
      go_wp2
      go_returns
      exact ⟨_, rfl, ⟨A7, c7, rfl, by rw [HP.out]; exact own_lower HZ.out.1 (by omega)⟩, HEX.out _ HZ.out.2⟩
end Go.Proofs.Tb
