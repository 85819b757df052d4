/- Contract of the reference's Best: it returns the plan and the cost of the cheapest plans. -/
import Derived.Test.YtcjddfhhofoidaaDoorPi
set_option linter.unusedVariables false
set_option linter.unusedSimpArgs false
namespace Go.Proofs.Tb
open Go.RowKit
attribute [local go_sem] cell_set_same

section
variable {ws : List Int} {ts : List Tt}
/-- What the reference holds when k tests are tried: the plan, and its cost (-1: none yet). -/
def bL (ws : List Int) (ts : List Tt) (s k : Nat) : List Tt := if pTk ws ts s k = -1 then [(-1, mems ws.length s)] else (pTk ws ts s k, []) :: (plL ws ts (inn s (shw ts (pTk ws ts s k).toNat)) ++ plL ws ts (outs s (shw ts (pTk ws ts s k).toNat)))
def lL (ws : List Int) (ts : List Tt) (s k : Nat) : Int := if pTk ws ts s k = -1 then -1 else pCk ws ts s k
theorem bL_zero (s : Nat) : bL ws ts s 0 = [(-1, mems ws.length s)] := by unfold bL; rw [pTk_zero, if_pos rfl]
theorem lL_zero (s : Nat) : lL ws ts s 0 = -1 := by unfold lL; rw [pTk_zero, if_pos rfl]
theorem lL_off {s k : Nat} (h : inn s (shw ts k) = 0 ∨ outs s (shw ts k) = 0) : bL ws ts s (k + 1) = bL ws ts s k ∧ lL ws ts s (k + 1) = lL ws ts s k := by
  obtain ⟨h1, h2⟩ := try_off (ws := ws) h
  unfold bL lL
  rw [h1, h2]
  exact ⟨rfl, rfl⟩
theorem pCk_nn (s k : Nat) : 0 ≤ pCk ws ts s k := by unfold pCk; omega
theorem lL_iff (s k : Nat) (X : Int) : (lL ws ts s k < 0 ∨ X < lL ws ts s k) ↔ (pTk ws ts s k = -1 ∨ X < pCk ws ts s k) := by
  have h := pCk_nn (ws := ws) (ts := ts) s k
  unfold lL
  by_cases h1 : pTk ws ts s k = -1
  · rw [if_pos h1]; exact ⟨fun _ => Or.inl h1, fun _ => Or.inl (by omega)⟩
  · rw [if_neg h1]
    constructor
    · rintro (h2 | h2)
      · omega
      · exact Or.inr h2
    · rintro (h2 | h2)
      · exact absurd h2 h1
      · exact Or.inr h2
theorem lL_on (h : Cv ws ts) {s k : Nat} (hk : k < ts.length) (h1 : ¬ (inn s (shw ts k) = 0 ∨ outs s (shw ts k) = 0)) (h2 : lL ws ts s k < 0 ∨ pX ws ts s k < lL ws ts s k) :
    bL ws ts s (k + 1) = ((k : Int), []) :: (plL ws ts (inn s (shw ts k)) ++ plL ws ts (outs s (shw ts k))) ∧ lL ws ts s (k + 1) = pX ws ts s k := by
  obtain ⟨h3, h4⟩ := try_on h hk h1 ((lL_iff s k _).1 h2)
  unfold bL lL
  rw [h3, h4, if_neg (by omega), if_neg (by omega), Int.toNat_natCast]
  exact ⟨rfl, rfl⟩
theorem lL_no (h : Cv ws ts) {s k : Nat} (hk : k < ts.length) (h1 : ¬ (inn s (shw ts k) = 0 ∨ outs s (shw ts k) = 0)) (h2 : ¬ (lL ws ts s k < 0 ∨ pX ws ts s k < lL ws ts s k)) :
    bL ws ts s (k + 1) = bL ws ts s k ∧ lL ws ts s (k + 1) = lL ws ts s k := by
  obtain ⟨h3, h4⟩ := try_no h hk h1 (fun h => h2 ((lL_iff s k _).2 h))
  unfold bL lL
  rw [h3, h4]
  exact ⟨rfl, rfl⟩
theorem lL_end (s : Nat) : bL ws ts s ts.length = plL ws ts s ∧ max (lL ws ts s ts.length) 0 = pC ws ts s := by
  unfold bL lL
  rw [pTk_end, pCk_end]
  by_cases hT : pT ws ts s = -1
  · rw [if_pos hT, if_pos hT, plL_end hT]
    refine ⟨rfl, ?_⟩
    rcases bst_inv (wsN ws) (tsN ts) s with hv | ⟨i, hi, e, _⟩
    · unfold pC; rw [hv]; rfl
    · unfold pT at hT; omega
  · obtain ⟨i, hi, e, _, _, hp⟩ := plL_test hT
    rw [if_neg hT, if_neg hT, hp, e, Int.toNat_natCast]
    refine ⟨rfl, ?_⟩
    have : 0 ≤ pC ws ts s := by unfold pC; omega
    omega
theorem plL_pos (s : Nat) : 0 < (plL ws ts s).length := by
  by_cases hT : pT ws ts s = -1
  · rw [plL_end hT]; simp
  · obtain ⟨i, hi, e, _, _, hp⟩ := plL_test hT
    rw [hp]; simp
theorem inn_len_lt {n s m : Nat} (hs : s < 2 ^ n) (h0 : outs s m ≠ 0) : inn s m < s := by have := in_out s m; omega
end
theorem OwP.slp2 {T : TypeId} {base : Nat} {w : World} {v : Value} {bs : List Tt} (h : OwP T base w v bs) : ∃ A n c, v = .slice A n c ∧ SlP T w A n c bs := by
  obtain ⟨A, c, h1, h2⟩ := h.slp
  exact ⟨A, _, c, h1, h2⟩
theorem SlP.addr {T : TypeId} {w : World} {A : Option Addr} {n c : Nat} {bs : List Tt} (h : SlP T w A n c bs) (h0 : 0 < n) : ∃ b o, A = some ⟨b, o, none⟩ := by
  obtain ⟨d, _, h2⟩ := h.ex
  obtain ⟨b, o, hA, _⟩ := h2 h0
  exact ⟨b, o, hA⟩
theorem SlP.cells {T : TypeId} {w : World} {b o n c : Nat} {bs : List Tt} (h : SlP T w (some ⟨b, o, none⟩) n c bs) : ∃ d, PrW w d bs ∧ d.length = n ∧ (cel prE d).length = n * 2 ∧ ∀ j u, (cel prE d)[j]? = some u → w.cell? ((⟨b, o, none⟩ : Addr).add j) = some u := by
  obtain ⟨d, h1, h2⟩ := h.ex
  have hl : d.length = n := by rw [h1.len, h.len]
  refine ⟨d, h1, hl, by rw [cel_len (prE_len d), hl], fun j u hj => ?_⟩
  have h0 : 0 < n := by
    rcases Nat.eq_zero_or_pos n with h0 | h0
    · rw [h0] at hl
      have := List.eq_nil_of_length_eq_zero hl
      subst this
      cases hj
    · exact h0
  obtain ⟨b', o', hA, _, hc⟩ := h2 h0
  injection hA with hA
  injection hA with e1 e2 _
  subst e1 e2
  have e : (⟨b, o, none⟩ : Addr).add j = ⟨b, o + j, none⟩ := by simp only [Addr.add]; split <;> simp_all
  rw [e]
  exact hc j u hj
theorem OwP.lit1 {T : TypeId} {w : World} {x : Int} {u : Value} {xs : List Int} (hu : SL TIN w u (ic xs)) : ∃ d, (w.alloc (.cells #[.int .i64 x, u] T)).ownsRow w.heap.size T 2 (.slice (some ⟨w.heap.size, 0, none⟩) 1 1) d.length (cel prE d) ∧ PrW (w.alloc (.cells #[.int .i64 x, u] T)) d [(x, xs)] ∧ d.length = 1 :=
  ⟨[(x, u)], World.ownsRow_lit w #[.int .i64 x, u] 1 (Nat.le_refl _) (by unfold maxLen; omega) rfl, PrW.one (hu.below (Ext.allocR _ _)), rfl⟩
theorem mems_rng {n m : Nat} (s j : Nat) (hn : n = m) (hj : j < (mems n s).length) : 0 ≤ (mems n s).getD j 0 ∧ (mems n s).getD j 0 < (m : Int) := by
  have e : (mems n s).getD j 0 = (mems n s)[j] := by simp [List.getD, hj]
  obtain ⟨q, hq, hl, _⟩ := mems_mem.1 (List.getElem_mem hj)
  rw [e, hq]
  omega
theorem SlP.one {T : TypeId} {w : World} {g : Nat} {x : Int} {u : Value} {xs : List Int} (hb : Blk w g T #[.int .i64 x, u]) (hu : SL TIN w u (ic xs)) : SlP T w (some ⟨g, 0, none⟩) 1 1 [(x, xs)] := by
  refine ⟨rfl, Nat.le_refl _, by omega, [(x, u)], PrW.one hu, fun _ => ⟨g, 0, rfl, ⟨_, _, hb⟩, fun j v hj => ?_⟩⟩
  rw [Nat.zero_add, cell_of_row _ _ j _ T (0, 0) hb]
  simpa [cel, prE] using hj
set_option maxHeartbeats 6400000 in
set_option maxRecDepth 100000 in
theorem zbest_any (A A' : Option Addr) (n c m d : Nat) (ws : List Int) (ts : List Tt) (hv : Cv ws ts) : ∀ (s : Nat), s < 2 ^ ws.length → ∀ (A2 : Option Addr) (n2 c2 : Nat) (w : World), Il w A n c ws → Ts w A' m d ts → SL TIN w (.slice A2 n2 c2) (ic (mems ws.length s)) →
    Calls Tryd.prog 21 #[.slice A n c, .slice A' m d, .slice A2 n2 c2] w (Ret (fun v w' => ∃ A3 n3 c3, v = .tuple #[.slice A3 n3 c3, .int .i64 (pC ws ts s)] ∧ SlP TBR w' A3 n3 c3 (plL ws ts s)) w) := by
  intro s
  induction s using Nat.strongRecOn with
  | _ s ih =>
    intro hs A2 n2 c2 w h h' h2
    have hn := h.le
    have hc := h.cap
    have hm := h'.le
    have hd := h'.cap
    have HL := Lib.hid h.len
    have HL' := Lib.hid h'.len
    have hm16 : m ≤ 16 := by rw [← h'.len]; exact hv.1.2.2
    obtain ⟨A2', c2', hA2, hil2⟩ := h2.il
    injection hA2 with e1 e2 e3
    subst e1 e3
    rw [← e2] at hil2
    have hn2 : n2 ≤ 10 := by rw [e2]; exact Nat.le_trans (mems_len _ _) hv.len10
    have hl2 := hil2.le
    have hl2' := hil2.cap
    have hs1 : s < 1024 := Nat.lt_of_lt_of_le hs (pow_le_1024 hv.len10)
    have H := Lib.hid h
    have H' := Lib.hid h'
    have H2 := Lib.hid (And.intro h2 hil2)
    have HS := Lib.hid hs
    have IH := Lib.hid ih
    have HV := Lib.hid hv
    have HN2 := Lib.hid e2
    clear h h' h2 hil2 hs ih e2
    go_enter Tryd.func21, Tryd.ntmps21
    go_upto_region 2 with fail
    have hal : Ext w (w.alloc (.cells #[.int .i64 (-1), .slice A2 n2 c2] TBR)) := Ext.allocR _ _
    have hsl : SlP TBR (w.alloc (.cells #[.int .i64 (-1), .slice A2 n2 c2] TBR)) (some ⟨w.heap.size, 0, none⟩) 1 1 (bL ws ts s 0) := by rw [bL_zero]; exact SlP.one (Blk.new_ _ _ rfl) (H2.out.1.below hal)
    have H0 := Lib.hid (And.intro hal hsl)
    have hl0 := lL_zero (ws := ws) (ts := ts) s
    clear hal hsl
    go_wp2_with fail
    go_loopw [8, 9, 10] (fun b l i wr => ∃ (k : Nat) (A3 : Option Addr) (n3 c3 : Nat), k ≤ m ∧ i = .int .i64 (k : Int) ∧ b = .slice A3 n3 c3 ∧ SlP TBR wr A3 n3 c3 (bL ws ts s k) ∧ l = .int .i64 (lL ws ts s k) ∧ Below w.heap.size w wr) (fun _ _ i _ => m - (intOf i).toNat)
    case atStart => exact ⟨0, _, _, _, by omega, rfl, rfl, H0.out.2, by rw [hl0], H0.out.1⟩
    case round =>
      clear H0 hl0
      obtain ⟨k, A3, n3, c3, hk, rfl, rfl, hsl, rfl, hbw⟩ := hrel
      have l3 := hsl.le
      have l3' := hsl.cap
      have HSL := Lib.hid hsl
      have HBW := Lib.hid hbw
      clear hsl hbw
      by_cases hkm : k < m
      · have pk : (k : Int) < (m : Int) := by omega
        have hkt : k < ts.length := by rw [HL'.out]; exact hkm
        obtain ⟨b, o, rfl, hcell⟩ := (H'.out.below HBW.out).at_ (by omega)
        obtain ⟨ck1, A4, n4, c4, ck2, il4⟩ := hcell k hkm
        obtain ⟨x, hx⟩ : ∃ x, tC ts k = x := ⟨_, rfl⟩
        rw [hx] at ck1
        have hsp := spB_mems HV.out hkt HS.out
        have hy := yes_mems HV.out hkt ws.length s
        have hno := no_mems HV.out hkt ws.length s
        have hsh : ((tsN ts).getD k (0, 0)).2 = shw ts k := by rw [tsN_get]; rfl
        rw [hsh] at hsp hy hno
        have HIL := Lib.hid il4
        have HX := Lib.hid hx
        obtain ⟨I, hI⟩ : ∃ I, inn s (shw ts k) = I := ⟨_, rfl⟩
        obtain ⟨O, hO⟩ : ∃ O, outs s (shw ts k) = O := ⟨_, rfl⟩
        have hio := in_out s (shw ts k)
        rw [hI] at hio hsp hy
        rw [hO] at hio hsp hno
        have HIO := Lib.hid (And.intro hI hO)
        have HYN := Lib.hid (And.intro hy hno)
        clear hcell il4 hx hy hno hsh hI hO
        go_wp2_with fail
        have hal1 : Ext wr _ := Ext.refl wr
        refine (zsplits_any A4 A2 n4 c4 n2 c2 (tS ts k) (mems ws.length s) x wr HIL.out (H2.out.2.below HBW.out) (by omega)).mono ?_
        rintro e w1 ⟨v1, rfl, hv1, hb1⟩
        have HB1 := Lib.hid hb1
        by_cases hc0 : I = 0 ∨ O = 0
        · have hsp0 : spB (tS ts k) (mems ws.length s) = false := by
            cases h : spB (tS ts k) (mems ws.length s) with
            | false => rfl
            | true => exact absurd hc0 (hsp.1 h)
          rw [hsp0] at hv1
          subst hv1
          have HT := Lib.hid (lL_off (ws := ws) (ts := ts) (s := s) (k := k) (by rw [HIO.out.1, HIO.out.2]; exact hc0))
          clear hsp hsp0 hc0 hb1
          go_wp2
          go_roundw
          case rel => exact ⟨k + 1, _, _, _, by omega, by go_num, rfl, by rw [HT.out.1]; exact HSL.out.below HB1.out, by rw [HT.out.2], bt HBW.out HB1.out⟩
          case measure => simp [intOf]; omega
        · rw [hsp.2 hc0] at hv1
          subst hv1
          have hI0 : I ≠ 0 := fun e => hc0 (Or.inl e)
          have hO0 : O ≠ 0 := fun e => hc0 (Or.inr e)
          have hnt : ¬ (inn s (shw ts k) = 0 ∨ outs s (shw ts k) = 0) := by rw [HIO.out.1, HIO.out.2]; exact hc0
          have HON := Lib.hid (lL_on HV.out hkt hnt)
          have HNO := Lib.hid (lL_no HV.out hkt hnt)
          have hbd := pX_bd HV.out (s := s) (k := k) hs1 hkt
          have hCI := pC_bd HV.out (s := I) (by omega)
          have hCO := pC_bd HV.out (s := O) (by omega)
          have hXe : pX ws ts s k = pW ws s * x + pC ws ts I + pC ws ts O := by unfold pX; rw [HX.out, HIO.out.1, HIO.out.2]
          rw [HX.out] at hbd
          rw [hXe] at hbd HON HNO
          rw [HIO.out.1, HIO.out.2] at HON
          have HIs := Lib.hid (show I < 2 ^ ws.length from Nat.lt_trans (show I < s by omega) HS.out)
          have HOs := Lib.hid (show O < 2 ^ ws.length from Nat.lt_trans (show O < s by omega) HS.out)
          have hIs : I < s := by omega
          have hOs : O < s := by omega
          have HLI := Lib.hid (plL_len ws ts I)
          have HLO := Lib.hid (plL_len ws ts O)
          have HPI := Lib.hid (plL_pos (ws := ws) (ts := ts) I)
          have HPO := Lib.hid (plL_pos (ws := ws) (ts := ts) O)
          have ck1' := Ext.cell hb1 ck1
          have ck2' := Ext.cell hb1 ck2
          have HB2 := Lib.hid (bt HBW.out hb1)
          have HSL2 := Lib.hid (HSL.out.below hb1)
          have HIL2 := Lib.hid (HIL.out.below hb1)
          clear hsp hc0 hnt hXe hb1 ck1 ck2 HBW HSL HIL HB1 hal1 hio hI0 hO0
          go_wp2_with fail
          refine (zparts_any A4 A2 n4 c4 n2 c2 (tS ts k) (mems ws.length s) x w1 HIL2.out (H2.out.2.below HB2.out) (by omega)).mono ?_
          rintro e w2 ⟨v2, rfl, ⟨Ay, ny, cy, An, nn, cn, rfl, iy, in_, sy, sn⟩, hb2⟩
          rw [HYN.out.1] at iy sy
          rw [HYN.out.2] at in_ sn
          have ly := iy.le
          have ly' := iy.cap
          have ln := in_.le
          have ln' := in_.cap
          have ck1 := Ext.cell hb2 ck1'
          have HB3 := Lib.hid (bt HB2.out hb2)
          have HSL3 := Lib.hid (HSL2.out.below hb2)
          have HSY := Lib.hid sy
          have HSN := Lib.hid sn
          clear ck1' ck2' iy in_ sy sn hb2 HB2 HSL2 HIL2
          go_wp2_with fail
          refine (IH.out I hIs HIs.out Ay ny cy w2 (H.out.below HB3.out) (H'.out.below HB3.out) HSY.out).mono ?_
          rintro e w3 ⟨v3, rfl, ⟨Ap, np, cp, rfl, sp⟩, hb3⟩
          have lp := sp.le
          have lp' := sp.cap
          have ck3 := Ext.cell hb3 ck1
          have HB4 := Lib.hid (bt HB3.out hb3)
          have HSL4 := Lib.hid (HSL3.out.below hb3)
          have HSP := Lib.hid sp
          have HSN2 := Lib.hid (HSN.out.below hb3)
          clear ck1 sp hb3 HB3 HSL3 HSN HSY
          go_wp2_with fail
          refine (IH.out O hOs HOs.out An nn cn w3 (H.out.below HB4.out) (H'.out.below HB4.out) HSN2.out).mono ?_
          rintro e w4 ⟨v4, rfl, ⟨Aq, nq, cq, rfl, sq⟩, hb4⟩
          have lq := sq.le
          have lq' := sq.cap
          have ck4 := Ext.cell hb4 ck3
          have HB5 := Lib.hid (bt HB4.out hb4)
          have HSL5 := Lib.hid (HSL4.out.below hb4)
          have HSP5 := Lib.hid (HSP.out.below hb4)
          have HSQ5 := Lib.hid sq
          clear ck3 sq hb4 HB4 HSL4 HSP HSN2
          have hwm : wsm ws (mems ws.length s) n2 = pW ws s := by rw [HN2.out]; exact wt_mems HV.out.2.1 s
          have HWM := Lib.hid hwm
          obtain ⟨W, hW⟩ : ∃ y, pW ws s = y := ⟨_, rfl⟩
          obtain ⟨X1, hX1⟩ : ∃ y, pC ws ts I = y := ⟨_, rfl⟩
          obtain ⟨X2, hX2⟩ : ∃ y, pC ws ts O = y := ⟨_, rfl⟩
          obtain ⟨LL, hLL⟩ : ∃ y, lL ws ts s k = y := ⟨_, rfl⟩
          rw [hW] at HWM hbd HON HNO
          rw [hX1] at hbd hCI HON HNO ⊢
          rw [hX2] at hbd hCO HON HNO ⊢
          rw [hLL] at HON HNO ⊢
          obtain ⟨XX, hXX⟩ : ∃ y, W * x + X1 + X2 = y := ⟨_, rfl⟩
          rw [hXX] at hbd HON HNO
          have hwx : x * W = W * x := Int.mul_comm _ _
          have e2 : wrap64 (x * W) = x * W := by rw [hwx]; unfold wrap64; omega
          have e3 : wrap64 (X1 + X2 + x * W) = XX := by rw [hwx]; unfold wrap64; omega
          have HE := Lib.hid (show wrap64 (X1 + X2 + wrap64 (x * W)) = XX by rw [e2, e3])
          have HLL := Lib.hid hLL
          have k1 := fun w' (hh : Ext w4 w') => (show w'.cell? ⟨b, o + k * 2, none⟩ = some (.int .i64 x) from Ext.cell hh ck4)
          have hst : Ext w4 w4.drew := Ext.drew _
          clear hwm hW hX1 hX2 hLL hXX hwx ck4 e2 e3
          go_upto_region 9 with fail
          refine wp_region_adv 12 [] [(0, true, some 57, none), (1, true, some 58, none), (2, true, some 59, none), (3, true, some 60, none), (4, true, some 61, none), (5, true, some 62, none), (6, true, some 63, none), (7, true, some 64, none), (8, true, some 65, none), (9, true, some 66, none), (10, false, some 67, none), (11, true, some 68, none)] (by kernel_rfl) (by kernel_rfl) (by kernel_rfl) (by intro it hit; (repeat (rcases List.mem_cons.1 hit with rfl | hit; (focus (intro o ho ev w; injection ho with ho; subst ho; kernel_rfl)))); cases hit) (fun _ _ _ _ _ => ⟨fun h => h, fun h => h⟩) hst ?_
          repeat (first | (refine wpSeq_pure (v := ?_) rfl ?_ ?_; rotate_left 1; (focus (intro wq_ hSq_; (try dsimp only at hSq_); go_simp; (try with_reducible rfl); done)); (try simp only [Act.put, List.setIfInBounds_toArray, List.set_cons_zero, List.set_cons_succ])) | (refine wpSeq_pureG (v := ?_) rfl rfl ?_ ?_; rotate_left 1; (focus (intro wq_ hSq_; (try dsimp only at hSq_); go_simp; (try with_reducible rfl); done)); (try simp only [Act.put, List.setIfInBounds_toArray, List.set_cons_zero, List.set_cons_succ])) | (refine wpSeq_off rfl rfl ?_; (try simp only [Act.put, List.setIfInBounds_toArray, List.set_cons_zero, List.set_cons_succ])))
          first | refine wpSeq_call rfl (fun u1 g1 s1 K hK => ?_) | refine wpSeq_callG rfl rfl (fun u1 g1 s1 K hK => ?_)
          go_simp
          refine (zweight_any A A2 n c n2 c2 ws (mems ws.length s) u1 (H.out.below (bt HB5.out s1)) (H2.out.2.below (bt HB5.out s1)) (fun j hj => okF_all HV.out.2.1 j) (fun j hj => mems_rng _ _ HL.out (by rw [← HN2.out]; exact hj)) (by omega)).mono ?_
          rintro e y1 ⟨vy, rfl, hvy, b1⟩
          rw [HWM.out] at hvy
          subst hvy
          (try go_wp2_with fail)
          refine hK.out _ _ b1 ?_
          clear hK K
          (try simp only [Act.put, List.setIfInBounds_toArray, List.set_cons_zero, List.set_cons_succ])
          repeat (first | (refine wpSeq_pure (v := ?_) rfl ?_ ?_; rotate_left 1; (focus (intro wq_ hSq_; (try dsimp only at hSq_); go_simp; (try with_reducible rfl); done)); (try simp only [Act.put, List.setIfInBounds_toArray, List.set_cons_zero, List.set_cons_succ])) | (refine wpSeq_pureG (v := ?_) rfl rfl ?_ ?_; rotate_left 1; (focus (intro wq_ hSq_; (try dsimp only at hSq_); go_simp; (try with_reducible rfl); done)); (try simp only [Act.put, List.setIfInBounds_toArray, List.set_cons_zero, List.set_cons_succ])) | (refine wpSeq_off rfl rfl ?_; (try simp only [Act.put, List.setIfInBounds_toArray, List.set_cons_zero, List.set_cons_succ])))
          intro wz gz sz_
          (try simp only [endJ, List.drop_succ_cons, List.drop_zero])
          have HZ := Lib.hid (bt HB5.out sz_)
          have HSLZ := Lib.hid (HSL5.out.below sz_)
          have HSPZ := Lib.hid (HSP5.out.below sz_)
          have HSQZ := Lib.hid (HSQ5.out.below sz_)
          clear hst k1 g1 s1 b1 gz sz_ HSL5 HSP5 HSQ5 HWM HB5
          go_upto_region 10 with fail
          rw [HE.out]
          clear HE
          by_cases hL0 : LL < 0
          · have HQ := Lib.hid (HON.out (Or.inl hL0))
            have hd1 : decide (LL < 0) = true := by simpa using hL0
            clear HON HNO
            have hnp : 0 < np := by rw [← HSPZ.out.len]; exact HPI.out
            have hnq : 0 < nq := by rw [← HSQZ.out.len]; exact HPO.out
            obtain ⟨bp, op, rfl⟩ := HSPZ.out.addr hnp
            obtain ⟨bq, oq, rfl⟩ := HSQZ.out.addr hnq
            obtain ⟨d1, hr1, hp1, hl1⟩ := OwP.lit1 (T := TBR) (w := wz) (x := (k : Int)) (SL.nilI wz)
            obtain ⟨dp, hpp, hlp, hcl, hcp⟩ := (HSPZ.out.below (Ext.allocR wz (.cells #[.int .i64 (k : Int), .slice none 0 0] TBR))).cells
            have hnp2 : np ≤ 10000 := by rw [← HSPZ.out.len]; have := HLI.out; omega
            have hnq2 : nq ≤ 10000 := by rw [← HSQZ.out.len]; have := HLO.out; omega
            have hin2 : (plL ws ts I).length = np := HSPZ.out.len
            have hB0 : Below wz.heap.size wz (wz.alloc (.cells #[.int .i64 (k : Int), .slice none 0 0] TBR)) := Ext.allocR _ _
            have HR := Lib.hid (And.intro hr1 (And.intro hp1 hpp))
            have HC1 := Lib.hid (And.intro hcl hcp)
            have HB0 := Lib.hid hB0
            have HIN2 := Lib.hid hin2
            clear hr1 hp1 hpp hcl hcp hB0 hin2
            go_wp2_with (first | (at_builtin; refine wp_appE TBS TBR _ 2 32 br_info Tryd.underlying27 rfl (by omega) (by omega) rfl _ _ rfl wz.heap.size (.slice (some ⟨wz.heap.size, 0, none⟩) 1 1) d1.length (cel prE d1) rfl HR.out.1 ⟨bp, op, none⟩ np cp (cel prE dp) rfl HC1.out.1 HC1.out.2 HR.out.2.2.one_cell (by omega) (by omega) (by simp) ?_; intro v5 w5 hown5 hb5 hg5; have hn5 : OwP TBR wz.heap.size w5 v5 ([((k : Int), [])] ++ plL ws ts I) := OwP.cat (by decide) HR.out.1 HR.out.2.1 HR.out.2.2 hlp hown5 hg5; have hB5 := HB0.out.trans hb5; obtain ⟨d5, hr5, hp5⟩ := hn5; obtain ⟨dq, hpq, hlq, hcq, hcq2⟩ := (HSQZ.out.below hB5).cells; have hl5 := hp5.len; rw [List.length_append, HIN2.out] at hl5; have HR5 := Lib.hid (And.intro hr5 (And.intro hp5 hpq)); have HC5 := Lib.hid (And.intro hcq hcq2); have HB5 := Lib.hid hB5; clear hown5 hb5 hg5 hr5 hp5 hpq hcq hcq2 hB5 HR HC1; simp only [List.length_singleton] at hl5) | (at_builtin; refine wp_appE TBS TBR _ 2 32 br_info Tryd.underlying27 rfl (by omega) (by omega) rfl _ _ rfl wz.heap.size v5 d5.length (cel prE d5) rfl HR5.out.1 ⟨bq, oq, none⟩ nq cq (cel prE dq) rfl HC5.out.1 HC5.out.2 HR5.out.2.2.one_cell (by omega) (by omega) HB5.out.size ?_; intro v6 w6 hown6 hb6 hg6; have hn6 : OwP TBR wz.heap.size w6 v6 (([((k : Int), [])] ++ plL ws ts I) ++ plL ws ts O) := OwP.cat (by decide) HR5.out.1 HR5.out.2.1 HR5.out.2.2 hlq hown6 hg6; have HB6 := Lib.hid (HB5.out.trans hb6); obtain ⟨A6, n6, c6, hv6, hs6⟩ := hn6.slp2; rw [List.append_assoc] at hs6; have HS6 := Lib.hid hs6; subst hv6; clear hown6 hb6 hg6 hn6 hs6 HR5 HC5))
            go_roundw
            case rel => exact ⟨k + 1, _, _, _, by omega, by go_num, rfl, by rw [HQ.out.1]; exact HS6.out, by rw [HQ.out.2], bt HZ.out HB6.out⟩
            case measure => simp [intOf]; omega
          · have hd1 : decide (LL < 0) = false := by simpa using hL0
            by_cases hlt : XX < LL
            · have HQ := Lib.hid (HON.out (Or.inr hlt))
              have hd2 : decide (XX < LL) = true := by simpa using hlt
              clear HON HNO
              have hnp : 0 < np := by rw [← HSPZ.out.len]; exact HPI.out
              have hnq : 0 < nq := by rw [← HSQZ.out.len]; exact HPO.out
              obtain ⟨bp, op, rfl⟩ := HSPZ.out.addr hnp
              obtain ⟨bq, oq, rfl⟩ := HSQZ.out.addr hnq
              obtain ⟨d1, hr1, hp1, hl1⟩ := OwP.lit1 (T := TBR) (w := wz) (x := (k : Int)) (SL.nilI wz)
              obtain ⟨dp, hpp, hlp, hcl, hcp⟩ := (HSPZ.out.below (Ext.allocR wz (.cells #[.int .i64 (k : Int), .slice none 0 0] TBR))).cells
              have hnp2 : np ≤ 10000 := by rw [← HSPZ.out.len]; have := HLI.out; omega
              have hnq2 : nq ≤ 10000 := by rw [← HSQZ.out.len]; have := HLO.out; omega
              have hin2 : (plL ws ts I).length = np := HSPZ.out.len
              have hB0 : Below wz.heap.size wz (wz.alloc (.cells #[.int .i64 (k : Int), .slice none 0 0] TBR)) := Ext.allocR _ _
              have HR := Lib.hid (And.intro hr1 (And.intro hp1 hpp))
              have HC1 := Lib.hid (And.intro hcl hcp)
              have HB0 := Lib.hid hB0
              have HIN2 := Lib.hid hin2
              clear hr1 hp1 hpp hcl hcp hB0 hin2
              go_wp2_with (first | (at_builtin; refine wp_appE TBS TBR _ 2 32 br_info Tryd.underlying27 rfl (by omega) (by omega) rfl _ _ rfl wz.heap.size (.slice (some ⟨wz.heap.size, 0, none⟩) 1 1) d1.length (cel prE d1) rfl HR.out.1 ⟨bp, op, none⟩ np cp (cel prE dp) rfl HC1.out.1 HC1.out.2 HR.out.2.2.one_cell (by omega) (by omega) (by simp) ?_; intro v5 w5 hown5 hb5 hg5; have hn5 : OwP TBR wz.heap.size w5 v5 ([((k : Int), [])] ++ plL ws ts I) := OwP.cat (by decide) HR.out.1 HR.out.2.1 HR.out.2.2 hlp hown5 hg5; have hB5 := HB0.out.trans hb5; obtain ⟨d5, hr5, hp5⟩ := hn5; obtain ⟨dq, hpq, hlq, hcq, hcq2⟩ := (HSQZ.out.below hB5).cells; have hl5 := hp5.len; rw [List.length_append, HIN2.out] at hl5; have HR5 := Lib.hid (And.intro hr5 (And.intro hp5 hpq)); have HC5 := Lib.hid (And.intro hcq hcq2); have HB5 := Lib.hid hB5; clear hown5 hb5 hg5 hr5 hp5 hpq hcq hcq2 hB5 HR HC1; simp only [List.length_singleton] at hl5) | (at_builtin; refine wp_appE TBS TBR _ 2 32 br_info Tryd.underlying27 rfl (by omega) (by omega) rfl _ _ rfl wz.heap.size v5 d5.length (cel prE d5) rfl HR5.out.1 ⟨bq, oq, none⟩ nq cq (cel prE dq) rfl HC5.out.1 HC5.out.2 HR5.out.2.2.one_cell (by omega) (by omega) HB5.out.size ?_; intro v6 w6 hown6 hb6 hg6; have hn6 : OwP TBR wz.heap.size w6 v6 (([((k : Int), [])] ++ plL ws ts I) ++ plL ws ts O) := OwP.cat (by decide) HR5.out.1 HR5.out.2.1 HR5.out.2.2 hlq hown6 hg6; have HB6 := Lib.hid (HB5.out.trans hb6); obtain ⟨A6, n6, c6, hv6, hs6⟩ := hn6.slp2; rw [List.append_assoc] at hs6; have HS6 := Lib.hid hs6; subst hv6; clear hown6 hb6 hg6 hn6 hs6 HR5 HC5))
              go_roundw
              case rel => exact ⟨k + 1, _, _, _, by omega, by go_num, rfl, by rw [HQ.out.1]; exact HS6.out, by rw [HQ.out.2], bt HZ.out HB6.out⟩
              case measure => simp [intOf]; omega
            · have HQ := Lib.hid (HNO.out (fun h => h.elim hL0 hlt))
              have hd2 : decide (XX < LL) = false := by simpa using hlt
              clear HON HNO
              go_wp2
              go_roundw
              case rel => exact ⟨k + 1, _, _, _, by omega, by go_num, rfl, by rw [HQ.out.1]; exact HSLZ.out, by rw [HQ.out.2], HZ.out⟩
              case measure => simp [intOf]; omega
      · have hkm2 : k = m := by omega
        subst hkm2
        obtain ⟨hb1, hb2⟩ := lL_end (ws := ws) (ts := ts) s
        rw [HL'.out] at hb1 hb2
        rw [hb1] at HSL
        obtain ⟨L, hL⟩ : ∃ L, lL ws ts s k = L := ⟨_, rfl⟩
        rw [hL] at hb2 ⊢
        clear hb1
        by_cases hL0 : L < 0
        · have hmx : pC ws ts s = 0 := by rw [← hb2]; omega
          have HMX := Lib.hid hmx
          clear hb2 hmx hL
          go_wp2
          go_returns
          exact ⟨_, rfl, ⟨_, _, _, by rw [HMX.out]; rfl, HSL.out⟩, HBW.out⟩
        · have hmx : pC ws ts s = L := by rw [← hb2]; omega
          have HMX := Lib.hid hmx
          have hL1 : 0 ≤ L := by omega
          clear hb2 hmx hL hL0
          go_wp2
          go_returns
          exact ⟨_, rfl, ⟨_, _, _, by rw [HMX.out]; rfl, HSL.out⟩, HBW.out⟩
end Go.Proofs.Tb
