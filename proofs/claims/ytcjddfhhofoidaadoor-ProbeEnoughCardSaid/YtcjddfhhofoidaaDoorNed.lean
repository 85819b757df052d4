/- The reference's Enough, Price and First; the law's rising. -/
import Derived.Test.YtcjddfhhofoidaaDoorNeb
import Derived.Test.YtcjddfhhofoidaaDoorCsw
import Derived.Test.YtcjddfhhofoidaaDoorPg
set_option linter.unusedVariables false
set_option linter.unusedSimpArgs false
namespace Go.Proofs.Tb
open Go.RowKit
attribute [local go_sem] cell_set_same

def NdR (ws : List Int) (ts : List Tt) (v : Value) (w' : World) : Prop :=
  (Cv ws ts → ∃ A n c, v = .tuple #[.slice A n c, .int .i64 0] ∧ Il w' A n c (mems ts.length (ndS ts ws.length))) ∧ (¬ Cv ws ts → v = .tuple #[.slice none 0 0, .int .i64 1])
/-- The best choice of the first sets, in its block. -/
def ChB (ts : List Tt) (n g : Nat) (w : World) (k : Nat) : Prop := ∃ (x : Int) (A3 : Option Addr) (n3 c3 : Nat), Blk w g TCH #[.int .i64 x, .slice A3 n3 c3] ∧
  ((bsK ts n k = none ∧ x = -1) ∨ ∃ b, bsK ts n k = some b ∧ x = csW ts (mems ts.length b) ∧ SL TIN w (.slice A3 n3 c3) (ic (mems ts.length b)))
theorem ChB.below {ts : List Tt} {n g k : Nat} {w w' : World} (h : ChB ts n g w k) (hb : Below w.heap.size w w') : ChB ts n g w' k := by
  obtain ⟨x, A3, n3, c3, h1, h2⟩ := h
  refine ⟨x, A3, n3, c3, h1.below hb, ?_⟩
  rcases h2 with h2 | ⟨b, e1, e2, e3⟩
  · exact Or.inl h2
  · exact Or.inr ⟨b, e1, e2, e3.below hb⟩
theorem ChB.same {ts : List Tt} {n g k k' : Nat} {w : World} (h : ChB ts n g w k) (e : bsK ts n k' = bsK ts n k) : ChB ts n g w k' := by unfold ChB; rw [e]; exact h
theorem ChB.put {ts : List Tt} {n g k' b : Nat} {w : World} {x : Int} {v : Value} {A3 : Option Addr} {n3 c3 : Nat} (h : Blk w g TCH #[.int .i64 x, v]) (e : bsK ts n k' = some b) (hs : SL TIN w (.slice A3 n3 c3) (ic (mems ts.length b))) :
    ChB ts n g ((w.setCell ⟨g, 0, none⟩ (.int .i64 (csW ts (mems ts.length b)))).setCell ⟨g, 1, none⟩ (.slice A3 n3 c3)) k' :=
  ⟨_, A3, n3, c3, (h.set_ 0 _).set_ 1 _, Or.inr ⟨b, e, rfl, hs.held ((h.heldS.set_ 0 _).set_ 1 _) (by decide)⟩⟩
theorem csW_nn {ws : List Int} {ts : List Tt} (h : Cv ws ts) {l : List Int} {m : Nat} (hl : l.length ≤ m) (hm : m ≤ 16) : 0 ≤ csW ts l ∧ csW ts l ≤ 16000 := by
  have := csW_bd (ts := ts) (l := l) (fun j => cost_bd h j)
  omega
theorem byK_t {ts : List Tt} {a b : Int} {k : Nat} (h : difB ts a b k = true) : byK ts a b (k + 1) = byK ts a b k ||| 2 ^ k := by rw [byK, if_pos h]
theorem byK_f {ts : List Tt} {a b : Int} {k : Nat} (h : difB ts a b k = false) : byK ts a b (k + 1) = byK ts a b k := by rw [byK, if_neg (by rw [h]; exact Bool.false_ne_true)]
theorem pzB_succ (ts : List Tt) (a b : Nat) : pzB ts a (b + 1) = pzB ts a b ++ if byK ts (a : Int) (b : Int) ts.length ≠ 0 then [(byK ts (a : Int) (b : Int) ts.length : Int)] else [] := rfl
theorem bsK_t {ts : List Tt} {n k : Nat} (h : misB (pzA ts n) (k : Int) = true) : bsK ts n (k + 1) = bsK ts n k := by rw [bsK, if_pos h]
theorem bsK_none {ts : List Tt} {n k : Nat} (h : misB (pzA ts n) (k : Int) = false) (h0 : bsK ts n k = none) : bsK ts n (k + 1) = some k := by
  rw [bsK, if_neg (by rw [h]; exact Bool.false_ne_true), h0]
theorem bsK_some {ts : List Tt} {n k b : Nat} (h : misB (pzA ts n) (k : Int) = false) (h0 : bsK ts n k = some b) : bsK ts n (k + 1) = if ltB (ky ts (mems ts.length k)) (ky ts (mems ts.length b)) = true then some k else some b := by
  rw [bsK, if_neg (by rw [h]; exact Bool.false_ne_true), h0]
set_option maxHeartbeats 12800000 in
set_option maxRecDepth 100000 in
theorem rneeded_any (A A' : Option Addr) (n c m d : Nat) (ws : List Int) (ts : List Tt) (w : World) (h : Il w A n c ws) (h' : Ts w A' m d ts) (ht : Tab w) :
    Calls Tryd.prog 35 #[.slice A n c, .slice A' m d] w (Ret (NdR ws ts) w) := by
  have hn := h.le
  have hc := h.cap
  have hm := h'.le
  have hd := h'.cap
  have HL := Lib.hid h.len
  have HL' := Lib.hid h'.len
  have H := Lib.hid h
  have H' := Lib.hid h'
  have HT := Lib.hid ht
  clear h h' ht
  go_enter Tryd.func35, Tryd.ntmps35
  go_wp2_with fail
  refine (rcheck_any A A' n c m d ws ts w H.out H'.out).mono ?_
  rintro e w1 ⟨v1, rfl, hv1, hb1⟩
  have HB1 := Lib.hid hb1
  by_cases hcv : Cv ws ts
  rotate_left
  · rw [hv1.2 hcv]
    have HE := Lib.hid (show NdR ws ts (.tuple #[.slice none 0 0, .int .i64 1]) w1 from ⟨fun h => absurd h hcv, fun _ => rfl⟩)
    clear hv1 hcv hb1
    go_wp2
    go_returns
    exact ⟨_, rfl, HE.out, HB1.out⟩
  rw [hv1.1 hcv]
  have hn10 : n ≤ 10 := by rw [← HL.out]; exact hcv.len10
  have hm16 : m ≤ 16 := by rw [← HL'.out]; exact hcv.1.2.2
  have HV := Lib.hid hcv
  clear hv1 hcv hb1
  go_wp2_with fail
  go_loopw [7, 26] (fun s i wr => ∃ (a : Nat) (A3 : Option Addr) (n3 c3 : Nat), a ≤ n ∧ i = .int .i64 (a : Int) ∧ s = .slice A3 n3 c3 ∧ OwI w1.heap.size wr (.slice A3 n3 c3) (pzA ts a) ∧ Ext w1 wr) (fun _ i _ => n - (intOf i).toNat)
  case atStart => exact ⟨0, _, _, _, by omega, rfl, rfl, OwI.nil _ _, Ext.refl _⟩
  case round =>
    obtain ⟨a, A3, n3, c3, ha, rfl, rfl, ho, hx⟩ := hrel
    have HO := Lib.hid ho
    have HX := Lib.hid hx
    by_cases han : a < n
    · have pa : (a : Int) < (n : Int) := by omega
      clear ho hx
      obtain ⟨wa, rfl⟩ : ∃ wa, wa = wr := ⟨_, rfl⟩
      go_wp2_with fail
      go_loopw [7, 30] (fun s i wr => ∃ (b : Nat) (A3 : Option Addr) (n3 c3 : Nat), b ≤ a ∧ i = .int .i64 (b : Int) ∧ s = .slice A3 n3 c3 ∧ OwI w1.heap.size wr (.slice A3 n3 c3) (pzA ts a ++ pzB ts a b) ∧ Ext w1 wr) (fun _ i _ => a - (intOf i).toNat)
      case atStart => exact ⟨0, _, _, _, by omega, rfl, rfl, by rw [show pzA ts a ++ pzB ts a 0 = pzA ts a from List.append_nil _]; exact HO.out, HX.out⟩
      case round =>
        clear HO HX
        obtain ⟨b, A4, n4, c4, hb, rfl, rfl, ho, hx⟩ := hrel
        have HO := Lib.hid ho
        have HX := Lib.hid hx
        by_cases hba : b < a
        · have pb : (b : Int) < (a : Int) := by omega
          clear ho hx
          obtain ⟨wb, rfl⟩ : ∃ wb, wb = wr := ⟨_, rfl⟩
          go_wp2_with fail
          go_loopw [10, 35] (fun y i wr => ∃ k : Nat, k ≤ m ∧ i = .int .i64 (k : Int) ∧ y = .int .i64 (byK ts (a : Int) (b : Int) k : Nat) ∧ Ext wb wr) (fun _ i _ => m - (intOf i).toNat)
          case atStart => exact ⟨0, by omega, rfl, rfl, Ext.refl _⟩
          case round =>
            obtain ⟨k, hk, rfl, rfl, hx⟩ := hrel
            have HX2 := Lib.hid hx
            by_cases hkm : k < m
            · have pk : (k : Int) < (m : Int) := by omega
              obtain ⟨bT, oT, rfl, hcell⟩ := (H'.out.below (bt HB1.out (bt HX.out hx))).at_ (by omega)
              obtain ⟨ck1, A5, n5, c5, ck2, il5⟩ := hcell k hkm
              obtain ⟨x, hxx⟩ : ∃ x, tC ts k = x := ⟨_, rfl⟩
              rw [hxx] at ck1
              have HIL := Lib.hid il5
              have hlt := byK_lt ts (a : Int) (b : Int) k
              have hp : (2 : Nat) ^ k ≤ 65536 := Nat.pow_le_pow_right (n := 2) (by omega) (show k ≤ 16 by omega)
              obtain ⟨q, hq⟩ : ∃ q, (2 : Nat) ^ k = q := ⟨_, rfl⟩
              have wp := wrap_pow k q hq (by omega)
              have hs1 : difB ts (a : Int) (b : Int) k = true → byK ts (a : Int) (b : Int) (k + 1) = byK ts (a : Int) (b : Int) k ||| q := fun e => by rw [← hq]; exact byK_t e
              have hs2 : difB ts (a : Int) (b : Int) k = false → byK ts (a : Int) (b : Int) (k + 1) = byK ts (a : Int) (b : Int) k := byK_f
              obtain ⟨S, hS⟩ : ∃ S, byK ts (a : Int) (b : Int) k = S := ⟨_, rfl⟩
              rw [hS] at hlt hs1 hs2 ⊢
              rw [hq] at hp hlt
              have wq := i64_or S q (Nat.lt_trans (Nat.lt_of_lt_of_le hlt hp) (by decide)) (Nat.lt_of_le_of_lt hp (by decide))
              have HS1 := Lib.hid hs1
              have HS2 := Lib.hid hs2
              clear hcell hxx il5 hs1 hs2 hS hq hlt
              go_upto_region 15 with fail
              have b9 : Blk (wr.alloc (.cells #[.int .i64 x, .slice A5 n5 c5] TTE)) wr.heap.size TTE #[.int .i64 x, .slice A5 n5 c5] := Blk.new_ _ _ rfl
              have x9 : Ext wr (wr.alloc (.cells #[.int .i64 x, .slice A5 n5 c5] TTE)) := Ext.allocR _ _
              refine wp_world (fun W1 => Blk W1 wr.heap.size TTE #[.int .i64 x, .slice A5 n5 c5] ∧ Ext wr W1) ⟨b9, x9⟩ ?_
              clear b9 x9 ck1 ck2 hx
              rintro W1 ⟨b9, x9⟩
              obtain ⟨p9, hp9⟩ : ∃ p, wr.heap.size = p := ⟨_, rfl⟩
              rw [hp9] at b9 ⊢
              have k9 := fun w' (hh : Ext W1 w') => (b9.below hh).cells
              simp only [cellsAre, Nat.zero_add, Nat.reduceAdd, and_true] at k9
              have HX9 := Lib.hid (bt HX2.out x9)
              have HW9 := Lib.hid x9
              have hst : Ext W1 W1.drew := Ext.drew _
              clear b9 x9 hp9
              refine wp_region_adv 7 [] [(0, true, some 40, none), (1, true, some 41, none), (2, true, some 42, none), (4, true, some 44, none), (5, true, some 45, none), (6, true, some 46, none), (3, false, some 43, none)] (by kernel_rfl) (by kernel_rfl) (by kernel_rfl) (by intro it hit; (repeat (rcases List.mem_cons.1 hit with rfl | hit; (focus (intro o ho ev w; injection ho with ho; subst ho; kernel_rfl)))); cases hit) (fun _ _ _ _ _ => ⟨fun h => h, fun h => h⟩) hst ?_
              repeat (first | (refine wpSeq_pure (v := ?_) rfl ?_ ?_; rotate_left 1; (focus (intro wq_ hSq_; (try dsimp only at hSq_); go_simp; (try with_reducible rfl); done)); (try simp only [Act.put, List.setIfInBounds_toArray, List.set_cons_zero, List.set_cons_succ])) | (refine wpSeq_pureG (v := ?_) rfl rfl ?_ ?_; rotate_left 1; (focus (intro wq_ hSq_; (try dsimp only at hSq_); go_simp; (try with_reducible rfl); done)); (try simp only [Act.put, List.setIfInBounds_toArray, List.set_cons_zero, List.set_cons_succ])) | (refine wpSeq_off rfl rfl ?_; (try simp only [Act.put, List.setIfInBounds_toArray, List.set_cons_zero, List.set_cons_succ])))
              first | refine wpSeq_call rfl (fun u1 g1 s1 K hK => ?_) | refine wpSeq_callG rfl rfl (fun u1 g1 s1 K hK => ?_)
              go_simp
              refine (lcontains_any A5 n5 c5 (tS ts k) (a : Int) u1 (HIL.out.below (bt HW9.out s1))).mono ?_
              rintro e y1 ⟨z1, rfl, rfl, b1⟩
              (try go_wp2_with fail)
              refine hK.out _ _ b1 ?_
              clear hK K
              (try simp only [Act.put, List.setIfInBounds_toArray, List.set_cons_zero, List.set_cons_succ])
              repeat (first | (refine wpSeq_pure (v := ?_) rfl ?_ ?_; rotate_left 1; (focus (intro wq_ hSq_; (try dsimp only at hSq_); go_simp; (try with_reducible rfl); done)); (try simp only [Act.put, List.setIfInBounds_toArray, List.set_cons_zero, List.set_cons_succ])) | (refine wpSeq_pureG (v := ?_) rfl rfl ?_ ?_; rotate_left 1; (focus (intro wq_ hSq_; (try dsimp only at hSq_); go_simp; (try with_reducible rfl); done)); (try simp only [Act.put, List.setIfInBounds_toArray, List.set_cons_zero, List.set_cons_succ])) | (refine wpSeq_off rfl rfl ?_; (try simp only [Act.put, List.setIfInBounds_toArray, List.set_cons_zero, List.set_cons_succ])))
              intro wz gz sz_
              (try simp only [endJ, List.drop_succ_cons, List.drop_zero])
              go_wp2_with fail
              refine (lcontains_any A5 n5 c5 (tS ts k) (b : Int) wz (HIL.out.below (bt HW9.out sz_))).mono ?_
              rintro e y2 ⟨z2, rfl, rfl, b2⟩
              have HZ := Lib.hid (bt HX9.out (bt sz_ b2))
              have HD : Hid (difB ts (a : Int) (b : Int) k = (shB (tS ts k) a != shB (tS ts k) b)) := show _ = _ from rfl
              obtain ⟨sa, hsa⟩ : ∃ sa, shB (tS ts k) (a : Int) = sa := ⟨_, rfl⟩
              obtain ⟨sb, hsb⟩ : ∃ sb, shB (tS ts k) (b : Int) = sb := ⟨_, rfl⟩
              rw [hsa, hsb] at HD ⊢
              clear hst g1 s1 b1 b2 gz sz_ k9 hsa hsb
              cases sa
              · cases sb
                · have HSS := Lib.hid (HS2.out HD.out)
                  clear HD
                  go_wp2
                  go_roundw
                  case rel => exact ⟨k + 1, by omega, by go_num, by rw [HSS.out], HZ.out⟩
                  case measure => simp [intOf]; omega
                · have HSS := Lib.hid (HS1.out HD.out)
                  clear HD
                  go_wp2
                  go_roundw
                  case rel => exact ⟨k + 1, by omega, by go_num, by rw [HSS.out, ← wq], HZ.out⟩
                  case measure => simp [intOf]; omega
              · cases sb
                · have HSS := Lib.hid (HS1.out HD.out)
                  clear HD
                  go_wp2
                  go_roundw
                  case rel => exact ⟨k + 1, by omega, by go_num, by rw [HSS.out, ← wq], HZ.out⟩
                  case measure => simp [intOf]; omega
                · have HSS := Lib.hid (HS2.out HD.out)
                  clear HD
                  go_wp2
                  go_roundw
                  case rel => exact ⟨k + 1, by omega, by go_num, by rw [HSS.out], HZ.out⟩
                  case measure => simp [intOf]; omega
            · obtain rfl : k = m := by omega
              obtain ⟨B, hB⟩ : ∃ B, byK ts (a : Int) (b : Int) k = B := ⟨_, rfl⟩
              have hBS : pzA ts a ++ pzB ts a (b + 1) = (pzA ts a ++ pzB ts a b) ++ if B ≠ 0 then [(B : Int)] else [] := by
                rw [List.append_assoc]
                congr 1
                rw [pzB_succ, HL'.out, hB]
              have hln : (pzA ts a ++ pzB ts a b).length ≤ 1000 := by
                have h1 := pzA_len ts a
                have h2 := pzB_len ts a b
                have h3 : a * a ≤ 10 * 10 := Nat.mul_le_mul (by omega) (by omega)
                rw [List.length_append]
                omega
              have HLN := Lib.hid hln
              rw [hB]
              clear hx hB hln
              by_cases hB0 : B = 0
              · subst hB0
                have HBS := Lib.hid (show pzA ts a ++ pzB ts a (b + 1) = pzA ts a ++ pzB ts a b by rw [hBS]; simp)
                clear hBS
                go_wp2
                go_roundw
                case rel => exact ⟨b + 1, _, _, _, by omega, by go_num, rfl, by rw [HBS.out]; exact HO.out.below HX2.out, bt HX.out HX2.out⟩
                case measure => simp [intOf]; omega
              · have g2 : ((B : Int) != 0) = true := by simpa using hB0
                have g3 : (B : Int) ≠ 0 := by omega
                have HSU := Lib.hid (show pzA ts a ++ pzB ts a (b + 1) = (pzA ts a ++ pzB ts a b) ++ [(B : Int)] by rw [hBS, if_pos hB0])
                have HO2 := Lib.hid (HO.out.below HX2.out)
                have HX3 := Lib.hid (bt HX.out HX2.out)
                have hsz : w1.heap.size ≤ (wr.alloc (.cells #[.int .i64 (B : Int)] TIN)).heap.size := Ext.size (bt HX3.out (Ext.allocR _ _))
                clear hBS
                go_wp2_with (at_builtin; refine wp_appE TIS TIN _ 1 8 int_info Tryd.underlying37 rfl (by omega) (by omega) rfl _ _ rfl w1.heap.size (.slice A4 n4 c4) _ _ rfl (HO2.out.alloc _) ⟨wr.heap.size, 0, none⟩ 1 1 [.int .i64 (B : Int)] rfl rfl (cell_new wr [.int .i64 (B : Int)] TIN) (int_one _) (by have := HLN.out; omega) (by omega) hsz ?_; intro v6 w6 hown6 hb6 hg6; have hn6 : OwI w1.heap.size w6 v6 (pzA ts a ++ pzB ts a (b + 1)) := (by rw [HSU.out]; exact OwI.snoc hown6); obtain ⟨A7, n7, c7, hv7, _⟩ := hn6.il3; subst hv7; have HE := Lib.hid (And.intro hn6 (show Ext w1 w6 from Below.trans (bt HX3.out (Ext.allocR wr (.cells #[.int .i64 (B : Int)] TIN))) hb6)); clear hn6 hown6 hb6 hg6)
                go_roundw
                case rel => exact ⟨b + 1, _, _, _, by omega, by go_num, rfl, HE.out.1, HE.out.2⟩
                case measure => simp [intOf]; omega
        · obtain rfl : b = a := by omega
          have HN := Lib.hid (show OwI w1.heap.size wr (.slice A4 n4 c4) (pzA ts (b + 1)) from ho)
          clear ho hx
          go_wp2
          go_roundw
          case rel => exact ⟨b + 1, _, _, _, by omega, by go_num, rfl, HN.out, HX.out⟩
          case measure => simp [intOf]; omega
    · obtain rfl : a = n := by omega
      have IP := Lib.hid ho.ilv
      have l3 := ho.ilv.le
      have l3' := ho.ilv.cap
      obtain ⟨N, hN⟩ : ∃ N : Nat, 2 ^ m = N := ⟨_, rfl⟩
      have hN1 : N ≤ 65536 := by rw [← hN]; exact Nat.pow_le_pow_right (n := 2) (by omega) hm16
      have hN0 : 0 < N := by rw [← hN]; exact Nat.two_pow_pos m
      have wN := wrap_pow m N hN (by omega)
      have HN := Lib.hid hN
      clear ho hx hN
      obtain ⟨wo, rfl⟩ : ∃ wo, wo = wr := ⟨_, rfl⟩
      go_upto_region 23 with fail
      have b9 : Blk (wo.alloc (.cells #[.int .i64 (-1), .slice none 0 0] TCH)) wo.heap.size TCH #[.int .i64 (-1), .slice none 0 0] := Blk.new_ _ _ rfl
      have x9 : Ext wo (wo.alloc (.cells #[.int .i64 (-1), .slice none 0 0] TCH)) := Ext.allocR _ _
      refine wp_world (fun W1 => Blk W1 wo.heap.size TCH #[.int .i64 (-1), .slice none 0 0] ∧ Ext wo W1) ⟨b9, x9⟩ ?_
      clear b9 x9
      rintro W1 ⟨b9, x9⟩
      obtain ⟨g, hg⟩ : ∃ p, wo.heap.size = p := ⟨_, rfl⟩
      rw [hg] at b9 ⊢
      have HG := Lib.hid hg
      have HCH := Lib.hid (show ChB ts a g W1 0 from ⟨-1, none, 0, 0, b9, Or.inl ⟨rfl, rfl⟩⟩)
      have HX9 := Lib.hid x9
      clear b9 x9 hg
      go_wp2_with fail
      rw [wN]
      clear wN
      go_loopw [66] (fun i wr => ∃ k : Nat, k ≤ N ∧ i = .int .i64 (k : Int) ∧ ChB ts a g wr k ∧ Ext wo wr) (fun i _ => N - (intOf i).toNat)
      case atStart => exact ⟨0, by omega, rfl, HCH.out, HX9.out⟩
      case round =>
        clear HCH HX9
        obtain ⟨k, hk, rfl, hch, hx⟩ := hrel
        have HCH := Lib.hid hch
        have HX9 := Lib.hid hx
        by_cases hkN : k < N
        · have pk : (k : Int) < (N : Int) := by omega
          have hmf : ∀ (fn : Fn) (first cap : Array Value) (w : World), (Instr.makeFunc fn first cap).run Tryd.prog w = .ok (.func fn first cap) w := fun _ _ _ _ => rfl
          clear hch hx
          obtain ⟨wp_, rfl⟩ : ∃ wp_, wp_ = wr := ⟨_, rfl⟩
          go_upto_region 26 with fail
          have b9 : Blk (wp_.alloc (.cells #[.int .i64 (k : Int)] TIN)) wp_.heap.size TIN #[.int .i64 (k : Int)] := Blk.new_ _ _ rfl
          have x9 : Ext wp_ (wp_.alloc (.cells #[.int .i64 (k : Int)] TIN)) := Ext.allocR _ _
          refine wp_world (fun W1 => Blk W1 wp_.heap.size TIN #[.int .i64 (k : Int)] ∧ Ext wp_ W1) ⟨b9, x9⟩ ?_
          clear b9 x9
          rintro W3 ⟨b9, x9⟩
          obtain ⟨g2, hg2⟩ : ∃ p, wp_.heap.size = p := ⟨_, rfl⟩
          rw [hg2] at b9 ⊢
          have c9 := b9.cells
          simp only [cellsAre, Nat.zero_add, Nat.reduceAdd, and_true] at c9
          have B9 := Lib.hid b9
          have X9 := Lib.hid x9
          clear b9 x9 hg2
          go_wp2_with fail
          refine (lcontainsf_any A3 n3 c3 (pzA ts a) (k : Int) g2 W3 (IP.out.below (bt HX9.out X9.out)) c9).mono ?_
          rintro e w4 ⟨v4, rfl, rfl, hb4⟩
          have X4 := Lib.hid (bt X9.out hb4)
          have c4 := (B9.out.below hb4).cells
          simp only [cellsAre, Nat.zero_add, Nat.reduceAdd, and_true] at c4
          clear c9 hb4
          cases hmi : misB (pzA ts a) (k : Int) with
          | true =>
            have HBS := Lib.hid (bsK_t hmi)
            clear hmi c4
            go_wp2
            go_roundw
            case rel => exact ⟨k + 1, by omega, by go_num, (HCH.out.below X4.out).same HBS.out, bt HX9.out X4.out⟩
            case measure => simp [intOf]; omega
          | false =>
            have HBS := Lib.hid hmi
            clear hmi
            go_wp2_with fail
            refine (rlist_any m k (by omega) (by rw [HN.out]; exact hkN) w4 (HT.out.below (bt HB1.out (bt HX.out (bt HX9.out X4.out))))).mono ?_
            rintro e w5 ⟨v5, rfl, ho5, hb5⟩
            obtain ⟨A6, n6, c6, hv6, _⟩ := ho5.il3
            subst hv6
            obtain ⟨l, hl⟩ : ∃ l, mems m k = l := ⟨_, rfl⟩
            rw [hl] at ho5
            have HLL := Lib.hid hl
            have SL5 := Lib.hid ho5.sl
            have I5 := Lib.hid ho5.ilv
            have l6 := I5.out.le
            have l6' := I5.out.cap
            have X5 := Lib.hid (bt X4.out hb5)
            have hn6 : n6 ≤ 16 := by have h1 := mems_len m k; rw [hl, I5.out.len] at h1; omega
            clear ho5 hb5 hl c4
            go_upto_region 28 with fail
            have b9 : Blk (w5.alloc (.cells #[.int .i64 0, .slice A6 n6 c6] TCH)) w5.heap.size TCH #[.int .i64 0, .slice A6 n6 c6] := Blk.new_ _ _ rfl
            have x9 : Ext w5 (w5.alloc (.cells #[.int .i64 0, .slice A6 n6 c6] TCH)) := Ext.allocR _ _
            refine wp_world (fun W1 => Blk W1 w5.heap.size TCH #[.int .i64 0, .slice A6 n6 c6] ∧ Ext w5 W1) ⟨b9, x9⟩ ?_
            clear b9 x9
            rintro W6 ⟨b9, x9⟩
            obtain ⟨g3, hg3⟩ : ∃ p, w5.heap.size = p := ⟨_, rfl⟩
            rw [hg3] at b9 ⊢
            have c9 := b9.cells
            simp only [cellsAre, Nat.zero_add, Nat.reduceAdd, and_true] at c9
            have HG3 := Lib.hid hg3
            have B9 := Lib.hid (show Blk W6 g3 TCH #[.int .i64 (csW ts (l.take 0)), .slice A6 n6 c6] from b9)
            have X6 := Lib.hid x9
            clear b9 x9 hg3
            go_wp2_with fail
            go_loopw [78] (fun i wr => ∃ j : Nat, j ≤ n6 ∧ i = .int .i64 (j : Int) ∧ Blk wr g3 TCH #[.int .i64 (csW ts (l.take j)), .slice A6 n6 c6] ∧ Ext w5 wr) (fun i _ => n6 - (intOf i).toNat)
            case atStart => exact ⟨0, by omega, rfl, B9.out, X6.out⟩
            case round =>
              clear B9 X6 c9
              obtain ⟨j, hj, rfl, b9, hx⟩ := hrel
              have X6 := Lib.hid hx
              by_cases hjn : j < n6
              · have pj : (j : Int) < (n6 : Int) := by omega
                obtain ⟨b6, o6, rfl, hc6⟩ := (I5.out.below hx).at_ (by omega)
                have ck6 := hc6 j hjn
                have hjl : j < l.length := by rw [I5.out.len]; exact hjn
                obtain ⟨y, hy, hym⟩ : ∃ y : Nat, l.getD j 0 = (y : Int) ∧ y < m := by
                  have h1 := getD_in (d := 0) hjl
                  rw [← HLL.out] at h1
                  obtain ⟨y, e, hy, _⟩ := mems_mem.1 h1
                  rw [HLL.out] at e
                  exact ⟨y, e, hy⟩
                rw [hy] at ck6
                have pym : (y : Int) < (m : Int) := by omega
                obtain ⟨bT, oT, rfl, hcT⟩ := (H'.out.below (bt HB1.out (bt HX.out (bt HX9.out (bt X5.out hx))))).at_ (by omega)
                obtain ⟨ckT, _⟩ := hcT y hym
                obtain ⟨x, hxx⟩ : ∃ x, tC ts y = x := ⟨_, rfl⟩
                rw [hxx] at ckT
                have hst1 := csW_take (ts := ts) hjl
                rw [hy, Int.toNat_natCast, hxx] at hst1
                have hb1 := csW_nn HV.out (l := l.take j) (m := n6) (by rw [List.length_take]; omega) hn6
                have hb2 := csW_nn HV.out (l := l.take (j + 1)) (m := n6) (by rw [List.length_take]; omega) hn6
                rw [hst1] at hb2
                have HST := Lib.hid hst1
                obtain ⟨F, hF⟩ : ∃ F, csW ts (l.take j) = F := ⟨_, rfl⟩
                rw [hF] at hb1 hb2 HST b9
                have wq : wrap64 (F + x) = F + x := by unfold wrap64; omega
                have wq2 : IntKind.i64.wrap (F + x) = F + x := IntWalk.i64_in _ (by omega)
                obtain ⟨G, hG⟩ : ∃ G, F + x = G := ⟨_, rfl⟩
                rw [hG] at HST
                have HG9 := Lib.hid hG
                have kk1 := fun w' (hh : Ext wr w') => (b9.below hh).cells
                simp only [cellsAre, Nat.zero_add, Nat.reduceAdd, and_true] at kk1
                have kk3 := fun w' (hh : Ext wr w') => (show w'.cell? ⟨b6, o6 + j, none⟩ = some (.int .i64 (y : Int)) from Ext.cell hh ck6)
                have kk4 := fun w' (hh : Ext wr w') => (show w'.cell? ⟨bT, oT + y * 2, none⟩ = some (.int .i64 x) from Ext.cell hh ckT)
                have B9 := Lib.hid b9
                have hst : Ext wr wr.drew := Ext.drew _
                clear hc6 hcT hy hxx hst1 hb1 hb2 hF hG ckT hx b9 hjl
                go_upto_region 31 with fail
                refine wp_region_adv 7 [] [(0, true, some 82, none), (1, true, some 83, none), (2, true, some 84, none), (3, true, some 85, none), (4, true, some 86, none), (5, true, some 87, none), (6, true, some 88, none)] (by kernel_rfl) (by kernel_rfl) (by kernel_rfl) (by intro it hit; (repeat (rcases List.mem_cons.1 hit with rfl | hit; (focus (intro o ho ev w; injection ho with ho; subst ho; kernel_rfl)))); cases hit) (fun _ _ _ _ _ => ⟨fun h => h, fun h => h⟩) hst ?_
                repeat (first | (refine wpSeq_pure (v := ?_) rfl ?_ ?_; rotate_left 1; (focus (intro wq_ hSq_; (try dsimp only at hSq_); go_simp; (try with_reducible rfl); done)); (try simp only [Act.put, List.setIfInBounds_toArray, List.set_cons_zero, List.set_cons_succ])) | (refine wpSeq_pureG (v := ?_) rfl rfl ?_ ?_; rotate_left 1; (focus (intro wq_ hSq_; (try dsimp only at hSq_); go_simp; (try with_reducible rfl); done)); (try simp only [Act.put, List.setIfInBounds_toArray, List.set_cons_zero, List.set_cons_succ])) | (refine wpSeq_off rfl rfl ?_; (try simp only [Act.put, List.setIfInBounds_toArray, List.set_cons_zero, List.set_cons_succ])))
                intro wz gz sz_
                (try simp only [endJ, List.drop_succ_cons, List.drop_zero])
                have b9z := B9.out.below sz_
                have f9z := Blk.free b9z 0
                have c9z := b9z.cells
                simp only [cellsAre, Nat.zero_add, Nat.reduceAdd, and_true] at c9z
                have BZ := Lib.hid b9z
                have XZ := Lib.hid (bt X6.out sz_)
                clear hst kk1 kk3 kk4 gz sz_ b9z
                go_wp2
                go_roundw
                case rel => exact ⟨j + 1, by omega, by go_num, by rw [HST.out, ← HG9.out]; exact BZ.out.set_ 0 _, Below.setCell XZ.out (by rw [HG3.out]; exact Nat.le_refl _) _⟩
                case measure => simp [intOf]; omega
              · obtain rfl : j = n6 := by omega
                have hlt0 : l.take j = l := List.take_of_length_le (by rw [I5.out.len]; exact Nat.le_refl _)
                rw [hlt0] at b9
                have c9 := b9.cells
                simp only [cellsAre, Nat.zero_add, Nat.reduceAdd, and_true] at c9
                have XW := Lib.hid (bt X5.out hx)
                have SW := Lib.hid (SL5.out.below hx)
                have IW := Lib.hid (I5.out.below hx)
                have B9 := Lib.hid b9
                have hch := HCH.out.below XW.out
                obtain ⟨x, A8, n8, c8, b13, hor⟩ := hch
                have c13 := b13.cells
                simp only [cellsAre, Nat.zero_add, Nat.reduceAdd, and_true] at c13
                have B13 := Lib.hid b13
                have f13 := Blk.free b13
                clear b9 hlt0 hx b13
                rcases hor with ⟨hn0, rfl⟩ | ⟨b, hs0, rfl, sl8⟩
                · have HN2 := Lib.hid (bsK_none HBS.out hn0)
                  have SP := Lib.hid (show SL TIN wr (.slice A6 j c6) (ic (mems ts.length k)) by rw [HL'.out, HLL.out]; exact SW.out)
                  have HLM := Lib.hid (show l = mems ts.length k by rw [HL'.out, HLL.out])
                  clear hn0
                  go_wp2
                  go_roundw
                  case rel =>
                    refine ⟨k + 1, by omega, by go_num, ?_, Below.setCell (Below.setCell (bt HX9.out XW.out) (by rw [HG.out]; exact Nat.le_refl _) _) (by rw [HG.out]; exact Nat.le_refl _) _⟩
                    rw [HLM.out]
                    exact ChB.put B13.out HN2.out SP.out
                  case measure => simp [intOf]; omega
                · have hbb := csW_nn HV.out (l := mems ts.length b) (m := m) (by rw [HL'.out]; exact mems_len _ _) hm16
                  have HS0 := Lib.hid hs0
                  have S8 := Lib.hid sl8
                  have hl8 := sl8.ilv.le
                  have hl8' := sl8.ilv.cap
                  obtain ⟨lb, hlb⟩ : ∃ lb, mems ts.length b = lb := ⟨_, rfl⟩
                  have hbf := bef_lt ts l lb
                  rw [IW.out.len, show lb.length = n8 by rw [← hlb]; exact sl8.ilv.len] at hbf
                  rw [hlb] at hbb c13 S8 B13
                  obtain ⟨X1, hX1⟩ : ∃ X1, csW ts lb = X1 := ⟨_, rfl⟩
                  rw [hX1] at hbb c13 hbf B13
                  have hx0 : ¬ (X1 < 0) := by omega
                  obtain ⟨X2, hX2⟩ : ∃ X2, csW ts l = X2 := ⟨_, rfl⟩
                  rw [hX2] at c9 hbf B9
                  have HX1 := Lib.hid hX1
                  have HX2_ := Lib.hid hX2
                  have HLB := Lib.hid hlb
                  have HBF := Lib.hid hbf
                  clear hs0 sl8 hlb hX1 hX2 hbf
                  go_wp2_with fail
                  refine (rbefore_any X2 X1 l lb A6 A8 j c6 n8 c8 wr IW.out S8.out.ilv).mono ?_
                  rintro e w7 ⟨v7, rfl, rfl, hb7⟩
                  have hbf := HBF.out
                  obtain ⟨R, hR⟩ : ∃ R, or3 (cmI X2 X1) (cmI (j : Int) (n8 : Int)) (cmpL l lb) = R := ⟨_, rfl⟩
                  rw [hR] at hbf ⊢
                  have XW7 := Lib.hid (bt XW.out hb7)
                  have B97 := Lib.hid (B9.out.below hb7)
                  have B137 := Lib.hid (B13.out.below hb7)
                  have c9 := B97.out.cells
                  have c13 := B137.out.cells
                  simp only [cellsAre, Nat.zero_add, Nat.reduceAdd, and_true] at c9 c13
                  have f13 := Blk.free B137.out
                  have SW7 := Lib.hid (SW.out.below hb7)
                  clear hb7 hR
                  by_cases hR0 : R < 0
                  · have HN2 := Lib.hid (show bsK ts a (k + 1) = some k by
                      rw [bsK_some HBS.out HS0.out, HLB.out, show mems ts.length k = l by rw [HL'.out, HLL.out], if_pos (hbf.1 hR0)])
                    have SP := Lib.hid (show SL TIN w7 (.slice A6 j c6) (ic (mems ts.length k)) by rw [HL'.out, HLL.out]; exact SW7.out)
                    have HLM := Lib.hid (show l = mems ts.length k by rw [HL'.out, HLL.out])
                    clear hbf
                    go_wp2
                    go_roundw
                    case rel =>
                      refine ⟨k + 1, by omega, by go_num, ?_, Below.setCell (Below.setCell (bt HX9.out XW7.out) (by rw [HG.out]; exact Nat.le_refl _) _) (by rw [HG.out]; exact Nat.le_refl _) _⟩
                      rw [← HX2_.out, HLM.out]
                      exact ChB.put B137.out HN2.out SP.out
                    case measure => simp [intOf]; omega
                  · have HN2 := Lib.hid (show bsK ts a (k + 1) = bsK ts a k by
                      rw [bsK_some HBS.out HS0.out, HLB.out, show mems ts.length k = l by rw [HL'.out, HLL.out], if_neg (fun h => hR0 (hbf.2 h)), HS0.out])
                    clear hbf
                    go_wp2
                    go_roundw
                    case rel => exact ⟨k + 1, by omega, by go_num, (HCH.out.below XW7.out).same HN2.out, bt HX9.out XW7.out⟩
                    case measure => simp [intOf]; omega
        · obtain rfl : k = N := by omega
          have hnd := nd_ok (ts := ts) (n := a) (by rw [HL'.out]; exact hm16)
          obtain ⟨x, A8, n8, c8, b13, hor⟩ := hch
          have hor2 : SL TIN wr (.slice A8 n8 c8) (ic (mems ts.length (ndS ts a))) := by
            rcases hor with ⟨hn0, _⟩ | ⟨b, hs0, _, sl8⟩
            · rw [← HN.out, ← HL'.out, hnd.1] at hn0
              cases hn0
            · rw [← HN.out, ← HL'.out, hnd.1] at hs0
              injection hs0 with hs0
              rw [hs0]
              exact sl8
          have HE := Lib.hid (show NdR ws ts (.tuple #[.slice A8 n8 c8, .int .i64 0]) wr from ⟨fun _ => ⟨_, _, _, rfl, by rw [HL.out]; exact hor2.ilv⟩, fun h => absurd HV.out h⟩)
          have c13 := b13.cells
          simp only [cellsAre, Nat.zero_add, Nat.reduceAdd, and_true] at c13
          have XE := Lib.hid (bt HB1.out (bt HX.out hx))
          clear hor hor2 hnd b13 hx
          go_wp2
          go_returns
          exact ⟨_, rfl, HE.out, XE.out⟩
open Classical in
noncomputable def enB (n : Nat) (ts : List Tt) (ks : List Int) : Bool := decide (EnP n ts ks)
theorem enB_t {n : Nat} {ts : List Tt} {ks : List Int} (h : EnP n ts ks) : enB n ts ks = true := by unfold enB; simpa using h
theorem enB_f {n : Nat} {ts : List Tt} {ks : List Int} (h : ¬ EnP n ts ks) : enB n ts ks = false := by unfold enB; simpa using h
def gdP (ts : List Tt) (ks : List Int) (a b : Nat) : Prop := tdB ts (upL ts.length) (a : Int) (b : Int) = true → tdB ts ks (a : Int) (b : Int) = true
set_option maxHeartbeats 3200000 in
set_option maxRecDepth 100000 in
theorem zenough_any (A A' A3 : Option Addr) (n c m d q d3 : Nat) (ws : List Int) (ts : List Tt) (ks : List Int) (w : World) (h : Il w A n c ws) (h' : Ts w A' m d ts) (h3 : Il w A3 q d3 ks) (hk : ∀ j, j < q → 0 ≤ ks.getD j 0 ∧ ks.getD j 0 < (m : Int)) (hm0 : m ≤ 1000000) :
    Calls Tryd.prog 39 #[.slice A n c, .slice A' m d, .slice A3 q d3] w (Ret (fun v _ => v = .bool (enB n ts ks)) w) := by
  have hn := h.le
  have hc := h.cap
  have hm := h'.le
  have hd := h'.cap
  have HL' := Lib.hid h'.len
  have H := Lib.hid h
  have H' := Lib.hid h'
  have H3 := Lib.hid h3
  have HK := Lib.hid hk
  clear h h' h3 hk
  go_enter Tryd.func39, Tryd.ntmps39
  go_wp2_with fail
  refine (znumbers_any A' m d ts w H'.out hm0).mono ?_
  rintro e w1 ⟨v1, rfl, ho1, hb1⟩
  have IA := Lib.hid (show ∃ A1 n1 c1, v1 = .slice A1 n1 c1 ∧ Il w1 A1 n1 c1 (upL m) by
    obtain ⟨A1, n1, c1, e, _⟩ := ho1.il3
    subst e
    exact ⟨_, _, _, rfl, ho1.ilv⟩)
  obtain ⟨A1, n1, c1, hv1, il1⟩ := IA.out
  subst hv1
  have I1 := Lib.hid il1
  have HQ := Lib.hid (fun (j : Nat) (hj : j < n1) => show 0 ≤ (upL m).getD j 0 ∧ (upL m).getD j 0 < (m : Int) from upL_mem'.1 (getD_mem' (by rw [il1.len]; exact hj)))
  have HB1 := Lib.hid (show Ext w w1 from hb1)
  clear ho1 hb1 il1 IA
  go_wp2_with fail
  go_loopw [8] (fun i wr => ∃ a : Nat, a ≤ n ∧ i = .int .i64 (a : Int) ∧ (∀ x y : Nat, x < a → y < x → gdP ts ks x y) ∧ Ext w1 wr) (fun i _ => n - (intOf i).toNat)
  case atStart => exact ⟨0, by omega, rfl, fun x y hx => absurd hx (by omega), Ext.refl _⟩
  case round =>
    obtain ⟨a, ha, rfl, hr, hx⟩ := hrel
    have HR := Lib.hid hr
    have HX := Lib.hid hx
    clear hr hx
    by_cases han : a < n
    · have pa : (a : Int) < (n : Int) := by omega
      obtain ⟨wo, rfl⟩ : ∃ wo, wo = wr := ⟨_, rfl⟩
      go_wp2_with fail
      go_loopw [9] (fun i wr => ∃ b : Nat, b ≤ a ∧ i = .int .i64 (b : Int) ∧ (∀ y : Nat, y < b → gdP ts ks a y) ∧ Ext w1 wr) (fun i _ => a - (intOf i).toNat)
      case atStart => exact ⟨0, by omega, rfl, fun y hy => absurd hy (by omega), HX.out⟩
      case round =>
        clear HX
        obtain ⟨b, hb, rfl, hr2, hx⟩ := hrel
        have HR2 := Lib.hid hr2
        have HX := Lib.hid hx
        clear hr2 hx
        by_cases hba : b < a
        · have pb : (b : Int) < (a : Int) := by omega
          go_wp2_with fail
          refine (ztold_any A' A1 m d n1 c1 ts (upL m) (a : Int) (b : Int) wr (H'.out.below (bt HB1.out HX.out)) (I1.out.below HX.out) HQ.out).mono ?_
          rintro e w3 ⟨v3, rfl, rfl, hb3⟩
          have X3 := Lib.hid (bt HX.out hb3)
          clear hb3
          cases ht1 : tdB ts (upL m) (a : Int) (b : Int) with
          | false =>
            have HN := Lib.hid (show ∀ y : Nat, y < b + 1 → gdP ts ks a y from fun y hy => by
              rcases Nat.lt_or_eq_of_le (Nat.le_of_lt_succ hy) with h | rfl
              · exact HR2.out y h
              · intro h; rw [HL'.out, ht1] at h; cases h)
            clear ht1
            go_wp2
            go_roundw
            case rel => exact ⟨b + 1, by omega, by go_num, HN.out, X3.out⟩
            case measure => simp [intOf]; omega
          | true =>
            have HT1 := Lib.hid ht1
            clear ht1
            go_wp2_with fail
            refine (ztold_any A' A3 m d q d3 ts ks (a : Int) (b : Int) w3 (H'.out.below (bt HB1.out X3.out)) (H3.out.below (bt HB1.out X3.out)) HK.out).mono ?_
            rintro e w4 ⟨v4, rfl, rfl, hb4⟩
            have X4 := Lib.hid (bt X3.out hb4)
            clear hb4
            cases ht2 : tdB ts ks (a : Int) (b : Int) with
            | true =>
              have HN := Lib.hid (show ∀ y : Nat, y < b + 1 → gdP ts ks a y from fun y hy => by
                rcases Nat.lt_or_eq_of_le (Nat.le_of_lt_succ hy) with h | rfl
                · exact HR2.out y h
                · exact fun _ => ht2)
              clear ht2
              go_wp2
              go_roundw
              case rel => exact ⟨b + 1, by omega, by go_num, HN.out, X4.out⟩
              case measure => simp [intOf]; omega
            | false =>
              have HN := Lib.hid (enB_f (n := n) (ts := ts) (ks := ks) (fun h => by
                have := h a b han hba (by rw [HL'.out]; exact HT1.out)
                rw [ht2] at this
                cases this))
              clear ht2
              go_wp2
              go_returns
              exact ⟨_, rfl, by rw [HN.out]; rfl, bt HB1.out X4.out⟩
        · obtain rfl : b = a := by omega
          have HN := Lib.hid (show ∀ x y : Nat, x < b + 1 → y < x → gdP ts ks x y from fun x y hx hy => by
            rcases Nat.lt_or_eq_of_le (Nat.le_of_lt_succ hx) with h | rfl
            · exact HR.out x y h hy
            · exact HR2.out y hy)
          go_wp2
          go_roundw
          case rel => exact ⟨b + 1, by omega, by go_num, HN.out, HX.out⟩
          case measure => simp [intOf]; omega
    · obtain rfl : a = n := by omega
      have HN := Lib.hid (enB_t (n := a) (ts := ts) (ks := ks) (fun x y hx hy => HR.out x y hx hy))
      go_wp2
      go_returns
      exact ⟨_, rfl, by rw [HN.out]; rfl, bt HB1.out HX.out⟩
set_option maxHeartbeats 1600000 in
theorem zprice_any (A A3 : Option Addr) (m d q d3 : Nat) (ts : List Tt) (ks : List Int) (w : World) (h' : Ts w A m d ts) (h3 : Il w A3 q d3 ks) (hk : ∀ j, j < q → 0 ≤ ks.getD j 0 ∧ ks.getD j 0 < (m : Int)) (ht : ∀ j, 0 ≤ tC ts j ∧ tC ts j ≤ 1000) (hq : q ≤ 1000) :
    Calls Tryd.prog 64 #[.slice A m d, .slice A3 q d3] w (Ret (fun v _ => v = .int .i64 (csW ts ks)) w) := by
  have hm := h'.le
  have hd := h'.cap
  have hq3 := h3.le
  have hd3 := h3.cap
  have HL3 := Lib.hid h3.len
  have H' := Lib.hid h'
  have H3 := Lib.hid h3
  have HK := Lib.hid hk
  have HT := Lib.hid ht
  clear h' h3 hk ht
  go_enter Tryd.func64, Tryd.ntmps64
  go_wp2_with fail
  go_loopw [5, 6] (fun s i wr => ∃ k : Nat, k ≤ q ∧ i = .int .i64 (k : Int) ∧ s = .int .i64 (csW ts (ks.take k)) ∧ Ext w wr) (fun _ i _ => q - (intOf i).toNat)
  case atStart => exact ⟨0, by omega, rfl, rfl, Ext.refl _⟩
  case round =>
    obtain ⟨k, hk, rfl, rfl, hx⟩ := hrel
    have HX := Lib.hid hx
    by_cases hkq : k < q
    · have pk : (k : Int) < (q : Int) := by omega
      obtain ⟨b, o, rfl, hcell⟩ := (H3.out.below hx).at_ (by omega)
      have ck := hcell k hkq
      have hr := HK.out k hkq
      obtain ⟨y, hy⟩ : ∃ y : Nat, ks.getD k 0 = (y : Int) := ⟨(ks.getD k 0).toNat, by omega⟩
      rw [hy] at ck hr
      have pym : (y : Int) < (m : Int) := hr.2
      have hym : y < m := by omega
      obtain ⟨bT, oT, rfl, hcT⟩ := (H'.out.below hx).at_ (by omega)
      obtain ⟨ckT, _⟩ := hcT y hym
      obtain ⟨x, hxx⟩ : ∃ x, tC ts y = x := ⟨_, rfl⟩
      rw [hxx] at ckT
      have hst := csW_take (ts := ts) (way := ks) (j := k) (by rw [HL3.out]; exact hkq)
      rw [hy, Int.toNat_natCast, hxx] at hst
      have hb1 := csW_bd (ts := ts) (l := ks.take k) HT.out
      have hb2 := csW_bd (ts := ts) (l := ks.take (k + 1)) HT.out
      rw [List.length_take] at hb1 hb2
      rw [hst] at hb2
      obtain ⟨F, hF⟩ : ∃ F, csW ts (ks.take k) = F := ⟨_, rfl⟩
      rw [hF] at hb1 hb2 hst ⊢
      have wq : IntKind.i64.wrap (F + x) = F + x := IntWalk.i64_in _ (by omega)
      have HS := Lib.hid hst
      clear hcell hcT hy hr hxx hst hb1 hb2 hF hx
      go_wp2
      go_roundw
      case rel => exact ⟨k + 1, by omega, by go_num, by rw [HS.out], HX.out⟩
      case measure => simp [intOf]; omega
    · obtain rfl : k = q := by omega
      rw [show ks.take k = ks from List.take_of_length_le (by rw [HL3.out]; exact Nat.le_refl _)]
      clear hx
      go_wp2
      go_returns
      exact ⟨_, rfl, rfl, HX.out⟩
set_option maxHeartbeats 3200000 in
set_option maxRecDepth 100000 in
theorem zfirst_any (A A2 A3 : Option Addr) (m d p d2 q d3 : Nat) (ts : List Tt) (xs ys : List Int) (w : World) (h' : Ts w A m d ts) (h2 : Il w A2 p d2 xs) (h3 : Il w A3 q d3 ys) (hx : ∀ j, j < p → 0 ≤ xs.getD j 0 ∧ xs.getD j 0 < (m : Int))
    (hy : ∀ j, j < q → 0 ≤ ys.getD j 0 ∧ ys.getD j 0 < (m : Int)) (ht : ∀ j, 0 ≤ tC ts j ∧ tC ts j ≤ 1000) (hp : p ≤ 1000) (hq : q ≤ 1000) :
    Calls Tryd.prog 40 #[.slice A m d, .slice A2 p d2, .slice A3 q d3] w (Ret (fun v _ => v = .bool (ltB (ky ts xs) (ky ts ys))) w) := by
  have hd2 := h2.le
  have hd2' := h2.cap
  have hd3 := h3.le
  have hd3' := h3.cap
  have HL2 := Lib.hid h2.len
  have HL3 := Lib.hid h3.len
  have H' := Lib.hid h'
  have H2 := Lib.hid h2
  have H3 := Lib.hid h3
  have HX := Lib.hid hx
  have HY := Lib.hid hy
  have HT := Lib.hid ht
  have hky : ltB (ky ts xs) (ky ts ys) = (decide (csW ts xs < csW ts ys) || (decide (csW ts xs = csW ts ys) && (decide ((p : Int) < (q : Int)) || (decide ((p : Int) = (q : Int)) && ltB xs ys)))) := by
    unfold ky
    rw [ltB, ltB, h2.len, h3.len]
  obtain ⟨X1, hX1⟩ : ∃ X, csW ts xs = X := ⟨_, rfl⟩
  obtain ⟨X2, hX2⟩ : ∃ X, csW ts ys = X := ⟨_, rfl⟩
  rw [hX1, hX2] at hky
  have HKY := Lib.hid hky
  have HX1 := Lib.hid hX1
  have HX2 := Lib.hid hX2
  clear h' h2 h3 hx hy ht hky hX1 hX2
  go_enter Tryd.func40, Tryd.ntmps40
  go_wp2_with fail
  refine (zprice_any A A2 m d p d2 ts xs w H'.out H2.out HX.out HT.out hp).mono ?_
  rintro e w1 ⟨v1, rfl, rfl, hb1⟩
  rw [HX1.out]
  have B1 := Lib.hid (show Ext w w1 from hb1)
  clear hb1
  go_wp2_with fail
  refine (zprice_any A A3 m d q d3 ts ys w1 (H'.out.below B1.out) (H3.out.below B1.out) HY.out HT.out hq).mono ?_
  rintro e w2 ⟨v2, rfl, rfl, hb2⟩
  rw [HX2.out]
  have B2 := Lib.hid (bt B1.out hb2)
  clear hb2
  by_cases hne : X1 = X2
  rotate_left
  · have g2 : (X1 != X2) = true := by simpa using hne
    go_wp2_with fail
    refine (zprice_any A A2 m d p d2 ts xs w2 (H'.out.below B2.out) (H2.out.below B2.out) HX.out HT.out hp).mono ?_
    rintro e w3 ⟨v3, rfl, rfl, hb3⟩
    rw [HX1.out]
    have B3 := Lib.hid (bt B2.out hb3)
    clear hb3
    go_wp2_with fail
    refine (zprice_any A A3 m d q d3 ts ys w3 (H'.out.below B3.out) (H3.out.below B3.out) HY.out HT.out hq).mono ?_
    rintro e w4 ⟨v4, rfl, rfl, hb4⟩
    rw [HX2.out]
    have B4 := Lib.hid (bt B3.out hb4)
    have HN := Lib.hid (show ltB (ky ts xs) (ky ts ys) = decide (X1 < X2) by rw [HKY.out, decide_eq_false hne]; simp)
    clear hb4
    go_wp2
    go_returns
    exact ⟨_, rfl, by rw [HN.out]; rfl, B4.out⟩
  · subst hne
    have g2 : (X1 != X1) = false := by simp
    have HK2 := Lib.hid (show ltB (ky ts xs) (ky ts ys) = (decide ((p : Int) < (q : Int)) || (decide ((p : Int) = (q : Int)) && ltB xs ys)) by rw [HKY.out]; simp)
    by_cases hpq : (p : Int) = (q : Int)
    rotate_left
    · have g3 : ((p : Int) != (q : Int)) = true := by simpa using hpq
      have HN := Lib.hid (show ltB (ky ts xs) (ky ts ys) = decide ((p : Int) < (q : Int)) by rw [HK2.out, decide_eq_false hpq]; simp)
      by_cases hlt : (p : Int) < (q : Int)
      · have g4 : decide ((p : Int) < (q : Int)) = true := by simpa using hlt
        rw [g4] at HN
        go_wp2
        go_returns
        exact ⟨_, rfl, by rw [HN.out]; rfl, B2.out⟩
      · have g4 : decide ((p : Int) < (q : Int)) = false := decide_eq_false hlt
        have g5 : decide (p < q) = false := by simp; omega
        rw [g4] at HN
        go_wp2
        go_returns
        exact ⟨_, rfl, by rw [HN.out]; rfl, B2.out⟩
    · obtain rfl : p = q := by omega
      have g3 : ((p : Int) != (p : Int)) = false := by simp
      have HN := Lib.hid (show ltB (ky ts xs) (ky ts ys) = ltB (xs.drop 0) (ys.drop 0) by rw [HK2.out]; simp)
      clear hpq
      go_wp2_with fail
      go_loopw [7] (fun i wr => ∃ k : Nat, k ≤ p ∧ i = .int .i64 (k : Int) ∧ ltB (ky ts xs) (ky ts ys) = ltB (xs.drop k) (ys.drop k) ∧ Ext w wr) (fun i _ => p - (intOf i).toNat)
      case atStart => exact ⟨0, by omega, rfl, HN.out, B2.out⟩
      case round =>
        clear HN
        obtain ⟨k, hk, rfl, hr, hx⟩ := hrel
        have HXX := Lib.hid hx
        by_cases hkp : k < p
        · have pk : (k : Int) < (p : Int) := by omega
          obtain ⟨b, o, rfl, hcell⟩ := (H2.out.below hx).at_ (by omega)
          have ck := hcell k hkp
          obtain ⟨b', o', rfl, hcell'⟩ := (H3.out.below hx).at_ (by omega)
          have ck' := hcell' k hkp
          rw [drop_get (xs := xs) (by rw [HL2.out]; exact hkp), drop_get (xs := ys) (by rw [HL3.out]; exact hkp)] at hr
          obtain ⟨x, hxx⟩ : ∃ y, xs.getD k 0 = y := ⟨_, rfl⟩
          obtain ⟨y, hyy⟩ : ∃ y, ys.getD k 0 = y := ⟨_, rfl⟩
          rw [hxx] at ck hr
          rw [hyy] at ck' hr
          rw [ltB] at hr
          have HR := Lib.hid hr
          clear hcell hcell' hxx hyy hr hx
          by_cases hxy : x = y
          · subst hxy
            have g4 : (x != x) = false := by simp
            have HN := Lib.hid (show ltB (ky ts xs) (ky ts ys) = ltB (xs.drop (k + 1)) (ys.drop (k + 1)) by rw [HR.out]; simp)
            go_upto_region 8 with fail
            go_quiet (fail)
            go_wp2
            go_roundw
            case rel => exact ⟨k + 1, by omega, by go_num, HN.out, below_drewN HXX.out _⟩
            case measure => simp [intOf]; omega
          · have g4 : (x != y) = true := by simpa using hxy
            have HN := Lib.hid (show ltB (ky ts xs) (ky ts ys) = decide (x < y) by rw [HR.out, decide_eq_false hxy]; simp)
            go_upto_region 8 with fail
            go_quiet (fail)
            go_upto_region 9 with fail
            go_quiet (fail)
            go_wp2
            go_returns
            exact ⟨_, rfl, by rw [HN.out]; rfl, below_drewN (below_drewN HXX.out _) _⟩
        · obtain rfl : k = p := by omega
          rw [show ys.drop k = [] from List.drop_of_length_le (by rw [HL3.out]; exact Nat.le_refl _), ltB_nil] at hr
          have HN := Lib.hid hr
          clear hr hx
          go_wp2
          go_returns
          exact ⟨_, rfl, by rw [HN.out]; rfl, HXX.out⟩
set_option maxHeartbeats 1600000 in
set_option maxRecDepth 100000 in
theorem lrising_any (A : Option Addr) (n c : Nat) (xs : List Int) (lim : Int) (w : World) (h : Il w A n c xs) : Calls Tryd.prog 38 #[.slice A n c, .int .i64 lim] w (Ret (fun v _ => v = .bool (ris xs lim)) w) := by
  have hn := h.le
  have hc := h.cap
  have HL := Lib.hid h.len
  have H := Lib.hid h
  clear h
  go_enter Tryd.func38, Tryd.ntmps38
  go_wp2_with fail
  go_loopw [5] (fun i wr => ∃ k : Nat, k ≤ n ∧ i = .int .i64 (k : Int) ∧ RisK xs lim k ∧ Ext w wr) (fun i _ => n - (intOf i).toNat)
  case atStart => exact ⟨0, by omega, rfl, fun j hj => absurd hj (by omega), Ext.refl _⟩
  case round =>
    obtain ⟨k, hk, rfl, hr, hx⟩ := hrel
    have HX := Lib.hid hx
    have HB := Lib.hid (fun w' (hh : Ext wr w') => bt hx hh)
    by_cases hkn : k < n
    · have pk : (k : Int) < (n : Int) := by omega
      obtain ⟨b, o, rfl, hcell⟩ := (H.out.below hx).at_ (by omega)
      have ck := hcell k hkn
      obtain ⟨x, hxx⟩ : ∃ y, xs.getD k 0 = y := ⟨_, rfl⟩
      rw [hxx] at ck
      have hge := hr.ge
      by_cases h1 : x < 0
      · have g1 : decide (x < 0) = true := by simpa using h1
        have HN := Lib.hid (ris_f (xs := xs) (lim := lim) (fun h => by
          have h2 := h.bd k (by rw [HL.out]; exact hkn)
          omega))
        clear hr hx hcell hxx hge
        go_upto_region 4 with fail
        go_quiet (fail)
        go_wp2
        go_returns
        exact ⟨_, rfl, by rw [HN.out]; rfl, below_drewN HX.out _⟩
      · have g1 : decide (x < 0) = false := decide_eq_false h1
        have g1' : 0 ≤ x := by omega
        by_cases h2 : lim ≤ x
        · have g2 : decide (lim ≤ x) = true := by simpa using h2
          have HN := Lib.hid (ris_f (xs := xs) (lim := lim) (fun h => by
            have h2 := h.bd k (by rw [HL.out]; exact hkn)
            omega))
          clear hr hx hcell hxx hge
          go_upto_region 4 with fail
          go_quiet (fail)
          go_wp2
          go_returns
          exact ⟨_, rfl, by rw [HN.out]; rfl, below_drewN HX.out _⟩
        · have g2 : decide (lim ≤ x) = false := decide_eq_false h2
          have g2' : x < lim := by omega
          by_cases h3 : k = 0
          · subst h3
            have HN := Lib.hid (RisK.succ hr (by rw [prv_zero, hxx]; omega) (by rw [hxx]; omega))
            rw [Nat.add_zero] at ck
            clear hr hx hcell hxx hge
            go_upto_region 4 with fail
            go_quiet (fail)
            go_wp2
            go_roundw
            case rel => exact ⟨0 + 1, by omega, by go_num, HN.out, below_drewN HX.out _⟩
            case measure => simp [intOf]; omega
          · obtain ⟨k0, rfl⟩ : ∃ k0, k = k0 + 1 := ⟨k - 1, by omega⟩
            have g3 : decide ((0 : Int) < ((k0 + 1 : Nat) : Int)) = true := decide_eq_true (by omega)
            have g3' : (0 : Int) < ((k0 + 1 : Nat) : Int) := by omega
            have ck0 := hcell k0 (by omega)
            obtain ⟨y, hyy⟩ : ∃ y, xs.getD k0 0 = y := ⟨_, rfl⟩
            rw [hyy] at ck0
            have pk0 : (k0 : Int) < (n : Int) := by omega
            have wq : IntKind.i64.wrap (((k0 + 1 : Nat) : Int) - 1) = (k0 : Int) := by rw [IntWalk.i64_in _ (by omega)]; omega
            by_cases h4 : x ≤ y
            · have g4 : decide (x ≤ y) = true := by simpa using h4
              have HN := Lib.hid (ris_f (xs := xs) (lim := lim) (fun h => by
                have h2 := (h (k0 + 1) (by rw [HL.out]; exact hkn)).1
                rw [prv_succ] at h2
                omega))
              clear hr hx hcell hxx hyy hge
              go_upto_region 4 with fail
              go_quiet (fail)
              go_wp2
              go_returns
              exact ⟨_, rfl, by rw [HN.out]; rfl, below_drewN HX.out _⟩
            · have g4 : decide (x ≤ y) = false := decide_eq_false h4
              have g4' : y < x := by omega
              have HN := Lib.hid (RisK.succ hr (by rw [prv_succ, hxx, hyy]; omega) (by rw [hxx]; omega))
              clear hr hx hcell hxx hyy hge
              go_upto_region 4 with fail
              go_quiet (fail)
              go_wp2
              go_roundw
              case rel => exact ⟨k0 + 1 + 1, by omega, by go_num, HN.out, below_drewN HX.out _⟩
              case measure => simp [intOf]; omega
    · obtain rfl : k = n := by omega
      have HN := Lib.hid (ris_t (xs := xs) (lim := lim) (fun j hj => hr j (by rw [← HL.out]; exact hj)))
      clear hr hx
      go_wp2
      go_returns
      exact ⟨_, rfl, by rw [HN.out]; rfl, HX.out⟩
end Go.Proofs.Tb
