/- Contract of lives: it returns true. -/
import Derived.Test.YtcjddfhhofoidaaDoorQg
import Derived.Test.YtcjddfhhofoidaaDoorHue
set_option linter.unusedVariables false
set_option linter.unusedSimpArgs false
namespace Go.Proofs.Tb
open Go.RowKit
attribute [local go_sem] cell_set_same

theorem cv13 : Cv [1, 3] [(2, [1])] := by
  refine ⟨⟨by decide, by decide, by decide⟩, fun j hj => ?_, fun j hj => ?_⟩
  · simp only [List.length_cons, List.length_nil] at hj
    obtain rfl | rfl : j = 0 ∨ j = 1 := by omega
    · exact ⟨by decide, by decide⟩
    · exact ⟨by decide, by decide⟩
  · simp only [List.length_cons, List.length_nil] at hj
    obtain rfl : j = 0 := by omega
    refine ⟨⟨by decide, by decide⟩, fun k hk => ?_⟩
    have hk' : k < 1 := hk
    obtain rfl : k = 0 := by omega
    exact ⟨by decide, by decide⟩
theorem pl13 : plL [1, 3] [(2, [1])] (allS [1, 3]) = [(0, []), (-1, [1]), (-1, [0])] := by decide +kernel
theorem pc13 : pC [1, 3] [(2, [1])] (allS [1, 3]) = 8 := by decide +kernel
theorem wok112 : Wok [1, 1, 2] := by
  refine ⟨by simp, fun j hj => ?_⟩
  simp only [List.length_cons, List.length_nil] at hj
  obtain rfl | rfl | rfl : j = 0 ∨ j = 1 ∨ j = 2 := by omega
  · exact ⟨by decide, by decide⟩
  · exact ⟨by decide, by decide⟩
  · exact ⟨by decide, by decide⟩
/-- A literal list of numbers. -/
theorem Il.lit {w : World} {g : Nat} {T : TypeId} {xs : List Int} (h : Blk w g T (ic xs).toArray) (hn : xs.length ≤ 1000) : Il w (some ⟨g, 0, none⟩) xs.length xs.length xs :=
  ⟨rfl, Nat.le_refl _, by omega, fun _ => ⟨g, 0, rfl, fun j hj => by
    rw [Nat.zero_add, cell_of_row w g j _ T (0, 0) h]
    simp [ic, List.getD, hj]⟩⟩
theorem SlP.lit {T : TypeId} {w : World} {g : Nat} {d : List (Int × Value)} {bs : List Tt} (h : Blk w g T (cel prE d).toArray) (hp : PrW w d bs) (hn : bs.length ≤ 1000) : SlP T w (some ⟨g, 0, none⟩) bs.length bs.length bs :=
  ⟨rfl, Nat.le_refl _, by omega, d, hp, fun _ => ⟨g, 0, rfl, ⟨_, _, h⟩, fun j u hj => by
    rw [Nat.zero_add, cell_of_row w g j _ T (0, 0) h]
    simpa using hj⟩⟩
set_option maxHeartbeats 6400000 in
set_option maxRecDepth 100000 in
theorem lives_any (w : World) (ht : Tab w) : Calls Tryd.prog 19 #[] w (Ret (fun v _ => v = .bool true) w) := by
  have HT := Lib.hid ht
  clear ht
  go_enter Tryd.func19, Tryd.ntmps19
  go_wp2_with fail
  obtain ⟨W1, hW1⟩ : ∃ W1, W1 = w.alloc (.cells #[.int .i64 1, .int .i64 3] 58) := ⟨_, rfl⟩
  obtain ⟨W2, hW2⟩ : ∃ W2, W2 = W1.alloc (.cells #[.int .i64 1] TIN) := ⟨_, rfl⟩
  have e1 : W1.heap.size = w.heap.size + 1 := by rw [hW1]; simp
  have e2 : W2.heap.size = w.heap.size + 1 + 1 := by rw [hW2]; simp; exact e1
  have x1 : Ext w W1 := by rw [hW1]; exact Ext.allocR _ _
  have x2 : Ext W1 W2 := by rw [hW2]; exact Ext.allocR _ _
  have b1 : Blk W1 w.heap.size 58 (ic [1, 3]).toArray := by rw [hW1]; exact Blk.new_ _ _ rfl
  have b2 : Blk W2 (w.heap.size + 1) TIN #[.int .i64 1] := by rw [hW2]; exact Blk.new_ _ _ e1
  obtain ⟨W3, hW3⟩ : ∃ W3, W3 = W2.alloc (.cells #[.int .i64 2, .slice (some ⟨w.heap.size + 1, 0, none⟩) 1 1] TTE) := ⟨_, rfl⟩
  have x3 : Ext W2 W3 := by rw [hW3]; exact Ext.allocR _ _
  have b3 : Blk W3 (w.heap.size + 1 + 1) TTE #[.int .i64 2, .slice (some ⟨w.heap.size + 1, 0, none⟩) 1 1] := by rw [hW3]; exact Blk.new_ _ _ e2
  have hil : Il W3 (some ⟨w.heap.size, 0, none⟩) 2 2 [1, 3] := Il.lit ((b1.below x2).below x3) (by simp)
  have hts : Ts W3 (some ⟨w.heap.size + 1 + 1, 0, none⟩) 1 1 [(2, [1])] := (SlP.one b3 (SL.lit1 (b2.below x3))).ts
  rw [← hW1, ← hW2, ← hW3]
  have hx3 := bt x1 (bt x2 x3)
  refine (rbest_any _ _ 2 2 1 1 [1, 3] [(2, [1])] W3 hil hts (HT.out.below hx3)).mono ?_
  rintro e W4 ⟨v4, rfl, hv4, hb4⟩
  obtain ⟨A4, n4, c4, hv4, sp4⟩ := hv4.1 cv13
  rw [pl13] at sp4
  rw [pc13] at hv4
  subst hv4
  have ts4 := sp4.ts
  have l4 := ts4.le
  have l4' := ts4.cap
  have TS4 := Lib.hid ts4
  have HB4 := Lib.hid (bt hx3 hb4)
  clear hW1 hW2 hW3 e1 e2 x1 x2 x3 b1 b2 b3 hil hts hx3 hb4 sp4 ts4
  go_wp2_with fail
  have b5 : Blk (W4.alloc (.cells #[.int .i64 1, .int .i64 1, .int .i64 2] TIN)) W4.heap.size TIN (ic [1, 1, 2]).toArray := Blk.new_ _ _ rfl
  have x5 : Ext W4 (W4.alloc (.cells #[.int .i64 1, .int .i64 1, .int .i64 2] TIN)) := Ext.allocR _ _
  refine (rcodesX_any _ 3 3 [1, 1, 2] _ (Il.lit b5 (by simp))).mono ?_
  rintro e W6 ⟨v6, rfl, hv6, hb6⟩
  obtain ⟨A6, c6, b6, ls, S, hv6, il6, hr6⟩ := hv6.1 wok112
  obtain ⟨rfl, rfl⟩ := huf112 hr6
  subst hv6
  have il6' : Il W6 A6 3 c6 [2, 2, 1] := il6
  have l6 := il6'.le
  have l6' := il6'.cap
  have IL6 := Lib.hid il6'
  have HB6 := Lib.hid (bt HB4.out (bt x5 hb6))
  have TS6 := Lib.hid (TS4.out.below (bt x5 hb6))
  clear b5 x5 hb6 il6 il6' hr6 TS4 hv4
  have hlen3 : ([1, 1, 2] : List Int).length = 3 := rfl
  rw [hlen3]
  go_wp2_with fail
  obtain ⟨W7, hW7⟩ : ∃ W7, W7 = W6.alloc (.cells #[.int .i64 1] TIN) := ⟨_, rfl⟩
  obtain ⟨W8, hW8⟩ : ∃ W8, W8 = W7.alloc (.cells #[.int .i64 0] TIN) := ⟨_, rfl⟩
  have e1 : W7.heap.size = W6.heap.size + 1 := by rw [hW7]; simp
  have e2 : W8.heap.size = W6.heap.size + 1 + 1 := by rw [hW8]; simp; exact e1
  obtain ⟨W9, hW9⟩ : ∃ W9, W9 = W8.alloc (.cells #[.int .i64 0, .slice none 0 0, .int .i64 (-1), .slice (some ⟨W6.heap.size, 0, none⟩) 1 1, .int .i64 (-1), .slice (some ⟨W6.heap.size + 1, 0, none⟩) 1 1] TBR) := ⟨_, rfl⟩
  have x1 : Ext W6 W7 := by rw [hW7]; exact Ext.allocR _ _
  have x2 : Ext W7 W8 := by rw [hW8]; exact Ext.allocR _ _
  have x3 : Ext W8 W9 := by rw [hW9]; exact Ext.allocR _ _
  have b1 : Blk W7 W6.heap.size TIN #[.int .i64 1] := by rw [hW7]; exact Blk.new_ _ _ rfl
  have b2 : Blk W8 (W6.heap.size + 1) TIN #[.int .i64 0] := by rw [hW8]; exact Blk.new_ _ _ e1
  have b3 : Blk W9 (W6.heap.size + 1 + 1) TBR (cel prE [(0, .slice none 0 0), (-1, .slice (some ⟨W6.heap.size, 0, none⟩) 1 1), (-1, .slice (some ⟨W6.heap.size + 1, 0, none⟩) 1 1)]).toArray := by rw [hW9]; exact Blk.new_ _ _ e2
  have hsl : SlP TBR W9 (some ⟨W6.heap.size + 1 + 1, 0, none⟩) 3 3 [(0, []), (-1, [1]), (-1, [0])] := SlP.lit (bs := [(0, []), (-1, [1]), (-1, [0])]) b3 ⟨⟨rfl, SL.nilI _⟩, ⟨rfl, SL.lit1 ((b1.below x2).below x3)⟩, ⟨rfl, SL.lit1 (b2.below x3)⟩, trivial⟩ (by simp)
  rw [← hW7, ← hW8, ← hW9]
  have hx := bt x1 (bt x2 x3)
  refine (zbranches_any A4 _ n4 c4 3 3 _ _ W9 (TS6.out.below hx) hsl.ts).mono ?_
  rintro e W10 ⟨v10, rfl, hv10, hb10⟩
  rw [brB_t rfl] at hv10
  subst hv10
  have HB10 := Lib.hid (bt HB6.out (bt hx hb10))
  have IL10 := Lib.hid (IL6.out.below (bt hx hb10))
  clear hW7 hW8 hW9 e1 e2 x1 x2 x3 b1 b2 b3 hsl hx hb10 IL6 HB6
  go_wp2_with fail
  have b11 : Blk (W10.alloc (.cells #[.int .i64 2, .int .i64 2, .int .i64 1] TIN)) W10.heap.size TIN (ic [2, 2, 1]).toArray := Blk.new_ _ _ rfl
  have x11 : Ext W10 (W10.alloc (.cells #[.int .i64 2, .int .i64 2, .int .i64 1] TIN)) := Ext.allocR _ _
  refine (lsame_any A6 _ 3 c6 3 3 [2, 2, 1] [2, 2, 1] _ (IL10.out.below x11) (Il.lit b11 (by simp))).mono ?_
  rintro e W12 ⟨v12, rfl, hv12, hb12⟩
  rw [sameB_t rfl] at hv12
  subst hv12
  have HB12 := Lib.hid (bt HB10.out (bt x11 hb12))
  clear b11 x11 hb12
  go_wp2
  go_returns
  exact ⟨_, rfl, rfl, HB12.out⟩
end Go.Proofs.Tb
