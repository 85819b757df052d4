/- The reference's disk: Sync. -/
import Derived.Test.YtfljnfdeboibhaaRqi
set_option linter.unusedVariables false
set_option linter.unusedSimpArgs false
namespace Go.Proofs.Tb
open Go.Maps Go.RowKit Go.Lib
attribute [local go_sem] cell_set_same neqMapL

theorem safeB_ones (bl : List (List (List Nat))) : safeB bl = onesB (lastsB bl) := rfl
/-- A row of rows under construction, beside a disk's value and a result. -/
structure NxW (base : Nat) (w W : World) (H1 H2 : Nat) (cs : Array Value) (rs : Array Value) (v : Value) (bl : List (List (List Nat))) : Prop where
  ex : Ext w W
  bd : Blk W H1 TRD cs
  br : Blk W H2 TRD rs
  ow : OwTe base W v bl
  lo : base ≤ W.heap.size
  hi : w.heap.size ≤ base
theorem NxW.ext {base : Nat} {w W W' : World} {H1 H2 : Nat} {cs rs : Array Value} {v : Value} {bl : List (List (List Nat))} (h : NxW base w W H1 H2 cs rs v bl) (x : Ext W W') : NxW base w W' H1 H2 cs rs v bl := ⟨bt h.ex x, h.bd.below x, h.br.below x, h.ow.ext x, Nat.le_trans h.lo (Ext.size x), h.hi⟩
theorem NxW.app {base : Nat} {w W : World} {H1 H2 : Nat} {cs rs : Array Value} {A : Option Addr} {j c : Nat} {bl : List (List (List Nat))} (h : NxW base w W H1 H2 cs rs (.slice A j c) bl) (b : List Nat) (hj : bl.length = j) :
    ∃ zs, World.ownsRow ((W.alloc (.cells #[.string (sb b)] TST)).alloc (.cells #[.slice (some ⟨W.heap.size, 0, none⟩) 1 1] TSL)) base TSL 1 (.slice A j c) j zs ∧
      Rv ((W.alloc (.cells #[.string (sb b)] TST)).alloc (.cells #[.slice (some ⟨W.heap.size, 0, none⟩) 1 1] TSL)) 1 (some ⟨W.heap.size + 1, 0, none⟩) 1 1 [.slice (some ⟨W.heap.size, 0, none⟩) 1 1] ∧
      base ≤ ((W.alloc (.cells #[.string (sb b)] TST)).alloc (.cells #[.slice (some ⟨W.heap.size, 0, none⟩) 1 1] TSL)).heap.size ∧
      ∀ v' w', World.ownsRow w' base TSL 1 v' (j + 1) (zs ++ [.slice (some ⟨W.heap.size, 0, none⟩) 1 1]) → World.grownBy ((W.alloc (.cells #[.string (sb b)] TST)).alloc (.cells #[.slice (some ⟨W.heap.size, 0, none⟩) 1 1] TSL)) w' (Value.slice A j c).ownBlock → Below base ((W.alloc (.cells #[.string (sb b)] TST)).alloc (.cells #[.slice (some ⟨W.heap.size, 0, none⟩) 1 1] TSL)) w' →
        ∃ A' c', v' = .slice A' (j + 1) c' ∧ NxW base w w' H1 H2 cs rs (.slice A' (j + 1) c') (bl ++ [[b]]) := by
  subst hj
  have x5 : Ext W (W.alloc (.cells #[.string (sb b)] TST)) := Ext.allocR _ _
  have ot := OwTx.one W b
  obtain ⟨W5, hW5⟩ : ∃ W5, W.alloc (.cells #[.string (sb b)] TST) = W5 := ⟨_, rfl⟩
  have hs : W5.heap.size = W.heap.size + 1 := by rw [← hW5]; simp
  rw [hW5] at x5 ot ⊢
  have x6 : Ext W5 (W5.alloc (.cells #[.slice (some ⟨W.heap.size, 0, none⟩) 1 1] TSL)) := Ext.allocR _ _
  have rv := rv_lit (w := W5) TSL 1 #[.slice (some ⟨W.heap.size, 0, none⟩) 1 1] 1 (by omega) rfl
  rw [hs] at rv
  obtain ⟨W6, hW6⟩ : ∃ W6, W5.alloc (.cells #[.slice (some ⟨W.heap.size, 0, none⟩) 1 1] TSL) = W6 := ⟨_, rfl⟩
  rw [hW6] at x6 rv ⊢
  have h6 := h.ext (bt x5 x6)
  obtain ⟨zs, ho, hr⟩ := h6.ow
  refine ⟨zs, ho, rv, h6.lo, fun v' w' o6 g6 b6 => ?_⟩
  obtain ⟨A', c', rfl, _⟩ := own_rv o6
  exact ⟨A', c', rfl, Below.trans h6.ex (Below.mono b6 h6.hi), grow_blk g6 ho (show TSL ≠ TRD by decide) h6.bd, grow_blk g6 ho (show TSL ≠ TRD by decide) h6.br, OwTe.push ho hr (own_below ot x6) o6 g6, Nat.le_trans h6.lo (Below.size b6), h6.hi⟩
set_option maxHeartbeats 3200000 in
set_option maxRecDepth 100000 in
theorem zsync_ok {w : World} {v : Value} {bl : List (List (List Nat))} {left : Nat} (h : RdV w v bl false left) (hb : bl.length ≤ 1000) (hne : ∀ k, k < bl.length → bl.getD k [] ≠ []) (hfew : ∀ k, (bl.getD k []).length ≤ 1000000) (hl : left ≤ 9223372036854775807) :
    Calls Try.prog 35 #[v] w (Ret (fun z w' => ∃ v', z = .tuple #[v', .int .i64 (if left = 1 then 9 else 0)] ∧ RdV w' v' (if left = 1 then bl else safeB bl) (decide (left = 1)) (left - 1)) w) := by
  obtain ⟨A, n, c, a, lf, rfl, ho, h3⟩ := h
  have HACT := Lib.hid (fun W => zact_any A n c a lf (h3 rfl) hl W)
  obtain ⟨hn, hle, hcp⟩ := ho.len
  obtain ⟨dn, hdn⟩ : ∃ dn, decide (left = 1) = dn := ⟨_, rfl⟩
  obtain ⟨er, her⟩ : ∃ er : Int, (if left = 1 then (9 : Int) else 0) = er := ⟨_, rfl⟩
  obtain ⟨b2, hb2⟩ : ∃ b2, (if left = 1 then bl else safeB bl) = b2 := ⟨_, rfl⟩
  obtain ⟨l2, hl2⟩ : ∃ l2, left - 1 = l2 := ⟨_, rfl⟩
  have HER := Lib.hid (show er = if dn = true then 9 else 0 by
    rw [← her, ← hdn]
    by_cases hl : left = 1
    · rw [if_pos hl, decide_eq_true hl]; rfl
    · rw [if_neg hl, decide_eq_false hl]; rfl)
  have HB2 := Lib.hid (show b2 = if dn = true then bl else safeB bl by
    rw [← hb2, ← hdn]
    by_cases hl : left = 1
    · rw [if_pos hl, decide_eq_true hl]; rfl
    · rw [if_neg hl, decide_eq_false hl]; rfl)
  rw [hdn, hl2] at HACT
  rw [hdn, her, hb2, hl2]
  have HO := Lib.hid ho
  have HN := Lib.hid hn
  have HNE := Lib.hid hne
  have HFEW := Lib.hid hfew
  have hn2 : n ≤ 1000 := by omega
  clear ho hn hb h3 hne hfew hdn her hb2 hl2 hl
  unfold rdk at HACT ⊢
  go_enter Try.func35, Try.ntmps35
  go_upto_region 3 with fail
  obtain ⟨H, hH⟩ : ∃ H, w.heap.size = H := ⟨_, rfl⟩
  refine wp_world (fun W => SD w H #[.slice A n c, .bool false, .bool a, .int .i64 lf] W ∧ Blk W (H + 1) TRD #[.slice none 0 0, .bool false, .bool false, .int .i64 0]) ⟨⟨bt (Ext.allocR _ _) (Ext.allocR _ _), (Blk.new_ _ _ hH).alloc _⟩, Blk.new_ _ _ (by simp [hH])⟩ ?_
  rw [hH]
  rintro W ⟨hsd, hbr⟩
  have kb := hsd.2.cells
  simp only [cellsAre, Nat.zero_add, Nat.reduceAdd, and_true] at kb
  have HSD := Lib.hid (And.intro hsd hbr)
  have hHw : w.heap.size ≤ H := Nat.le_of_eq hH
  clear hsd hbr hH
  go_wp2_with fail
  refine (HACT.out _).mono ?_
  rintro e w1 ⟨z1, rfl, ⟨a', lf', rfl, h4⟩, b1⟩
  have hsd1 := HSD.out.1.ext b1
  have hbr1 := HSD.out.2.below b1
  have kb1 := hsd1.2.cells
  have kf1 := hsd1.2.free
  simp only [cellsAre, Nat.zero_add, Nat.reduceAdd, and_true] at kb1
  have H4 := Lib.hid h4
  have B9 := (((hsd1.2.set_ 0 (.slice A n c)).set_ 1 (.bool dn)).set_ 2 (.bool a')).set_ 3 (.int .i64 lf')
  have R9 := (((hbr1.far (p := ⟨H, 0, none⟩) (by simp) (.slice A n c)).far (p := ⟨H, 1, none⟩) (by simp) (.bool dn)).far (p := ⟨H, 2, none⟩) (by simp) (.bool a')).far (p := ⟨H, 3, none⟩) (by simp) (.int .i64 lf')
  have E9 := (((hsd1.1.setCell (p := ⟨H, 0, none⟩) hHw (.slice A n c)).setCell (p := ⟨H, 1, none⟩) hHw (.bool dn)).setCell (p := ⟨H, 2, none⟩) hHw (.bool a')).setCell (p := ⟨H, 3, none⟩) hHw (.int .i64 lf')
  have HS1 := Lib.hid (And.intro E9 (And.intro B9 R9))
  clear hsd1 hbr1 h4 kb b1 HACT B9 R9 E9
  go_upto_region 4 with fail
  refine wp_world (fun W => SD w H #[.slice A n c, .bool dn, .bool a', .int .i64 lf'] W ∧ Blk W (H + 1) TRD #[.slice none 0 0, .bool false, .bool false, .int .i64 0]) ⟨⟨HS1.out.1, HS1.out.2.1⟩, HS1.out.2.2⟩ ?_
  clear kb1 kf1 HS1
  rintro W2 ⟨hsd, hbr⟩
  have kb := hsd.2.cells
  have kr := hbr.cells
  have kf := hbr.free
  simp only [cellsAre, Nat.zero_add, Nat.reduceAdd, and_true] at kb kr
  have HS2 := Lib.hid (And.intro hsd hbr)
  clear hsd hbr
  have hHw2 : w.heap.size ≤ H + 1 := by omega
  cases dn with
  | true =>
    have HE1 := Lib.hid (show er = 9 from HER.out.trans (if_pos rfl))
    have HB1 := Lib.hid (show b2 = bl from HB2.out.trans (if_pos rfl))
    go_wp2_with fail
    (try simp only [Exit.inBlock, Exit.then])
    refine bodyPost_ret (v := (.tuple #[.agg #[.slice A n c, .bool true, .bool a', .int .i64 lf'], .int .i64 9])) (by simp [results, Try.results35, go_sem, *]) rfl ?_
    have E9 := (((HS2.out.1.1.setCell (p := ⟨H + 1, 0, none⟩) hHw2 (.slice A n c)).setCell (p := ⟨H + 1, 1, none⟩) hHw2 (.bool true)).setCell (p := ⟨H + 1, 2, none⟩) hHw2 (.bool a')).setCell (p := ⟨H + 1, 3, none⟩) hHw2 (.int .i64 lf')
    exact ⟨_, rfl, ⟨.agg #[.slice A n c, .bool true, .bool a', .int .i64 lf'], by rw [HE1.out], by rw [HB1.out]; exact ⟨A, n, c, a', lf', rfl, HO.out.ext E9, H4.out⟩⟩, E9⟩
  | false =>
    have HE1 := Lib.hid (show er = 0 from HER.out.trans (if_neg Bool.false_ne_true))
    have HB1 := Lib.hid (show b2 = safeB bl from HB2.out.trans (if_neg Bool.false_ne_true))
    go_wp2_with fail
    have hs0 := Ext.size HS2.out.1.1
    have n0 : NxW W2.heap.size w (W2.alloc (.cells #[] TSL)) H (H + 1) #[.slice A n c, .bool false, .bool a', .int .i64 lf'] #[.slice none 0 0, .bool false, .bool false, .int .i64 0] (.slice (some ⟨W2.heap.size, 0, none⟩) 0 0) (onesB ((lastsB bl).take 0)) := NxW.ext (W := W2.alloc (.cells #[] TSL)) ⟨bt HS2.out.1.1 (Ext.allocR _ _), HS2.out.1.2.alloc _, HS2.out.2.alloc _, OwTe.nil _ _ (Nat.le_refl _), by simp, hs0⟩ (Ext.refl _)
    have N0 := Lib.hid n0
    have HS0 := Lib.hid hs0
    obtain ⟨G, hG⟩ : ∃ G, W2.heap.size = G := ⟨_, rfl⟩
    obtain ⟨W3, hW3⟩ : ∃ W3, W2.alloc (.cells #[] TSL) = W3 := ⟨_, rfl⟩
    rw [hG, hW3] at N0
    rw [hG] at HS0
    rw [hG, hW3]
    clear n0 hs0 hG hW3 kb kr kf HS2
    go_loopw [5, 6] (fun v i wr => ∃ (j : Nat) (A5 : Option Addr) (c5 : Nat), j ≤ n ∧ i = .int .i64 (j : Int) ∧ v = .slice A5 j c5 ∧ NxW G w wr H (H + 1) #[.slice A n c, .bool false, .bool a', .int .i64 lf'] #[.slice none 0 0, .bool false, .bool false, .int .i64 0] (.slice A5 j c5) (onesB ((lastsB bl).take j))) (fun _ i _ => n - (intOf i).toNat)
    case atStart => exact ⟨0, _, 0, by omega, rfl, rfl, N0.out⟩
    case round =>
      clear N0
      obtain ⟨j, A5, c5, hj, rfl, rfl, hz⟩ := hrel
      have kb := hz.bd.cells
      have kr := hz.br.cells
      have kf := hz.br.free
      simp only [cellsAre, Nat.zero_add, Nat.reduceAdd, and_true] at kb kr
      obtain ⟨W4, rfl⟩ : ∃ W4, W4 = wr := ⟨_, rfl⟩
      have HZ := Lib.hid hz
      clear hz
      by_cases hjn : j < n
      · have pj : (j : Int) < (n : Int) := by omega
        have hjl : j < bl.length := by rw [← HN.out]; exact hjn
        have hne := HNE.out j hjl
        have hll := HFEW.out j
        have hgl : (lastsB bl).getD j z64 = (bl.getD j []).getLastD z64 := by
          unfold lastsB
          simp [List.getD, List.getElem?_map, hjl]
        have hsn := onesB_snoc (X := lastsB bl) (j := j) (by unfold lastsB; rw [List.length_map]; exact hjl)
        rw [hgl] at hsn
        obtain ⟨b, o, Az, cz, rfl, kz0, rz⟩ := (HO.out.ext HZ.out.ex).at_ hjl
        obtain ⟨l, hl⟩ : ∃ l, bl.getD j [] = l := ⟨_, rfl⟩
        rw [hl] at kz0 rz hne hll hsn
        obtain ⟨m, hm⟩ : ∃ m, l.length = m := ⟨_, rfl⟩
        rw [hm] at kz0 rz hll
        have hm0 : 0 < m := by rw [← hm]; exact List.length_pos_iff.2 hne
        obtain ⟨bz, oz, rfl, hc⟩ := rz.at_ (by omega)
        obtain ⟨lx, hlx⟩ : ∃ lx, l.getLastD z64 = lx := ⟨_, rfl⟩
        obtain ⟨x, hx⟩ : ∃ x, sb lx = x := ⟨_, rfl⟩
        have kx := hc (m - 1) (.string x) (by
          rw [← hx, ← hlx]
          unfold sc
          rw [List.getElem?_map, List.getLastD_eq_getLast?, List.getLast?_eq_getElem?, hm]
          rw [List.getElem?_eq_getElem (by omega)]
          rfl)
        rw [hlx] at hsn
        have hzle := rz.le
        have hzcp := rz.cap
        have HX := Lib.hid hx
        have HSN := Lib.hid hsn
        have pm : ((m : Int) - 1) = ((m - 1 : Nat) : Int) := by omega
        have wj : IntKind.i64.wrap ((j : Int) + 1) = ((j + 1 : Nat) : Int) := by rw [IntWalk.i64_in _ (by omega)]; rfl
        clear hne hl hm rz hc hlx hsn hjl hgl hx kr kf
        obtain ⟨zs, p1, p2, p3, p4⟩ := HZ.out.app lx (by rw [onesB_len, List.length_take]; unfold lastsB; rw [List.length_map, ← HN.out]; omega)
        rw [HX.out] at p1 p2 p3 p4
        have HP := Lib.hid (And.intro p1 (And.intro p2 (And.intro p3 p4)))
        clear p1 p2 p3 p4
        go_wp2_with (at_builtin; refine wpl_appR TSV TSL (.slice none 0 0) 1 24 sli_info Try.underlying73 rfl (by omega) (by omega) rfl _ _ rfl G (.slice A5 j c5) j zs rfl HP.out.1 (some ⟨W4.heap.size + 1, 0, none⟩) 1 1 [.slice (some ⟨W4.heap.size, 0, none⟩) 1 1] rfl HP.out.2.1 (slc_one1 _ _ _) (by omega) (by omega) HP.out.2.2.1 ?_; intro v6 w6 o6 g6 b6; obtain ⟨A6, c6, rfl, n6⟩ := HP.out.2.2.2 _ _ o6 g6 b6; rw [← HSN.out] at n6; have N6 := Lib.hid n6; clear o6 g6 b6 n6)
        exact ⟨⟨j + 1, A6, c6, by omega, by go_num, rfl, N6.out⟩, by simp [intOf]; omega⟩
      · obtain rfl : j = n := by omega
        have kfd := HZ.out.bd.free
        have htk : onesB ((lastsB bl).take j) = b2 := by rw [HB1.out, List.take_of_length_le (by unfold lastsB; rw [List.length_map, ← HN.out]; exact Nat.le_refl _)]; rfl
        have HTK := Lib.hid htk
        clear htk
        go_wp2_with fail
        (try simp only [Exit.inBlock, Exit.then])
        refine bodyPost_ret (v := (.tuple #[.agg #[.slice A5 j c5, .bool false, .bool a', .int .i64 lf'], .int .i64 0])) (by simp [results, Try.results35, go_sem, *]) rfl ?_
        have hn := HZ.out
        have E9 := ((((hn.ex.setCell (p := ⟨H, 0, none⟩) hHw (.slice A5 j c5)).setCell (p := ⟨H + 1, 0, none⟩) hHw2 (.slice A5 j c5)).setCell (p := ⟨H + 1, 1, none⟩) hHw2 (.bool false)).setCell (p := ⟨H + 1, 2, none⟩) hHw2 (.bool a')).setCell (p := ⟨H + 1, 3, none⟩) hHw2 (.int .i64 lf')
        have r1 := hn.br.far (p := ⟨H, 0, none⟩) (by simp) (.slice A5 j c5)
        have r2 := r1.set_ 0 (.slice A5 j c5)
        have r3 := r2.set_ 1 (.bool false)
        have r4 := r3.set_ 2 (.bool a')
        have d5 := ((((hn.ow.td.setD hn.bd 0 (.slice A5 j c5)).setD r1 0 (.slice A5 j c5)).setD r2 1 (.bool false)).setD r3 2 (.bool a')).setD r4 3 (.int .i64 lf')
        rw [HTK.out] at d5
        exact ⟨_, rfl, ⟨.agg #[.slice A5 j c5, .bool false, .bool a', .int .i64 lf'], by rw [HE1.out], ⟨A5, j, c5, a', lf', rfl, d5, fun _ => H4.out trivial⟩⟩, E9⟩
set_option maxHeartbeats 1600000 in
set_option maxRecDepth 100000 in
theorem zsync_dn {w : World} {v : Value} {bl : List (List (List Nat))} {left : Nat} (h : RdV w v bl true left) :
    Calls Try.prog 35 #[v] w (Ret (fun z w' => z = .tuple #[v, .int .i64 9] ∧ RdV w' v bl true left) w) := by
  have HH := Lib.hid h
  obtain ⟨A, n, c, a, lf, rfl, ho, h3⟩ := h
  clear h3 ho
  unfold rdk at HH ⊢
  go_enter Try.func35, Try.ntmps35
  go_wp2
  (try simp only [Exit.inBlock, Exit.then])
  refine bodyPost_ret (v := (.tuple #[.agg #[.slice A n c, .bool true, .bool a, .int .i64 lf], .int .i64 9])) (by simp [results, Try.results35, go_sem, *]) rfl ?_
  have x9 : Ext w ((w.alloc (.cells #[.slice A n c, .bool true, .bool a, .int .i64 lf] TRD)).alloc (.cells #[.slice A n c, .bool true, .bool a, .int .i64 lf] TRD)) := bt (Ext.allocR _ _) (Ext.allocR _ _)
  exact ⟨_, rfl, ⟨rfl, HH.out.ext x9⟩, x9⟩
end Go.Proofs.Tb
