/- Floor is at most the cost of the best plan. -/
import Derived.Test.YtcjddfhhofoidaaDoorApb
import Derived.Test.YtcjddfhhofoidaaDoorCsw
import Derived.Test.YtcjddfhhofoidaaDoorOpb
import Derived.Test.YtcjddfhhofoidaaDoorHoq
set_option linter.unusedVariables false
set_option linter.unusedSimpArgs false
namespace Go.Proofs.Tb
open Go.RowKit
attribute [local go_sem] cell_set_same

/-- The weights of the classes. -/
def clW (ws : List Int) (cs : List (List Int)) : List Int := cs.map (wS ws)
/-- The least cost of a test that splits all faults. -/
def lsK (n : Nat) (ts : List Tt) : Nat → Int
  | 0 => -1
  | k + 1 => if (0 < (tS ts k).length ∧ (tS ts k).length < n) ∧ (lsK n ts k < 0 ∨ tC ts k < lsK n ts k) then tC ts k else lsK n ts k
theorem lsK_on {n k : Nat} {ts : List Tt} (h1 : 0 < (tS ts k).length) (h2 : (tS ts k).length < n) (h3 : lsK n ts k < 0 ∨ tC ts k < lsK n ts k) : lsK n ts (k + 1) = tC ts k := by rw [lsK, if_pos ⟨⟨h1, h2⟩, h3⟩]
theorem lsK_off {n k : Nat} {ts : List Tt} (h : ¬ ((0 < (tS ts k).length ∧ (tS ts k).length < n) ∧ (lsK n ts k < 0 ∨ tC ts k < lsK n ts k))) : lsK n ts (k + 1) = lsK n ts k := by rw [lsK, if_neg h]
theorem lsK_bd {ws : List Int} {ts : List Tt} (h : Cv ws ts) (n : Nat) : ∀ k, -1 ≤ lsK n ts k ∧ lsK n ts k ≤ 1000
  | 0 => by simp [lsK]
  | k + 1 => by
    have := lsK_bd h n k
    have := cost_bd h k
    unfold lsK
    split <;> omega
theorem wS_take {ws l : List Int} {j : Nat} (hj : j < l.length) : wS ws (l.take (j + 1)) = wS ws (l.take j) + ws.getD (l.getD j 0).toNat 0 := by
  unfold wS
  rw [List.take_succ_eq_append_getElem hj, List.map_append, List.sum_append]
  simp [List.getD, hj]
theorem okF_nn {ws : List Int} {ts : List Tt} (h : Cv ws ts) (j : Nat) : 0 ≤ ws.getD j 0 ∧ ws.getD j 0 ≤ 1000 := okF_all h.2.1 j
theorem wS_pos {ws : List Int} {ts : List Tt} (h : Cv ws ts) {l : List Int} (h0 : l ≠ []) (hl : ∀ x ∈ l, 0 ≤ x ∧ x < (ws.length : Int)) : 1 ≤ wS ws l := by
  cases l with
  | nil => exact absurd rfl h0
  | cons x l =>
    have e : wS ws (x :: l) = ws.getD x.toNat 0 + wS ws l := by simp [wS]
    have h1 := hl x (List.mem_cons_self ..)
    have h2 := h.2.1 x.toNat (by omega)
    have h3 := wS_bd (l := l) (fun j => okF_nn h j)
    rw [e]
    omega
theorem clW_ok {ws : List Int} {ts : List Tt} (h : Cv ws ts) : Wok (clW ws (clsT ws.length ts)) := by
  have hl : (clW ws (clsT ws.length ts)).length = (clsT ws.length ts).length := by unfold clW; rw [List.length_map]
  have h1 : 1 ≤ (clsT ws.length ts).length := clsT_pos ts h.1.1
  have h2 : (clsT ws.length ts).length ≤ ws.length := apC_len _ _
  have h3 := h.len10
  refine ⟨⟨by omega, by omega⟩, fun j hj => ?_⟩
  rw [hl] at hj
  have e : (clW ws (clsT ws.length ts)).getD j 0 = wS ws (clsT ws.length ts)[j] := by unfold clW; simp [List.getD, hj]
  have hm := List.getElem_mem hj
  have hk := clsT_ok ws.length ts
  have h4 := wS_pos h (hk.ne hm) (fun x hx => hk.rng hm hx)
  have h5 := wS_bd (l := (clsT ws.length ts)[j]) (fun j => okF_nn h j)
  have h6 := hk.clen hm
  rw [e]
  omega
theorem clW_take {ws : List Int} {cs : List (List Int)} {q : Nat} (h : q < cs.length) : (clW ws cs).take (q + 1) = (clW ws cs).take q ++ [wS ws (cs.getD q [])] := by
  unfold clW
  rw [← List.map_take, ← List.map_take, List.take_succ_eq_append_getElem h, List.map_append]
  simp [List.getD, h]
/-- What Floor is. -/
def FlP (ws : List Int) (ts : List Tt) (x : Int) : Prop := (lsK ws.length ts ts.length < 0 ∧ x = 0) ∨
  (0 ≤ lsK ws.length ts ts.length ∧ ∃ b ls S, HRk (clW ws (clsT ws.length ts)) ((clsT ws.length ts).length - 1) [b] ls S ∧ x = S * lsK ws.length ts ts.length)
def FlR (ws : List Int) (ts : List Tt) (v : Value) (_ : World) : Prop := (Cv ws ts → ∃ x, v = .tuple #[.int .i64 x, .int .i64 0] ∧ FlP ws ts x) ∧ (¬ Cv ws ts → v = .tuple #[.int .i64 0, .int .i64 1])
theorem HRk.sbd {ws : List Int} (hw : Wok ws) {k : Nat} {bs : List Tt} {ls : List Int} {S : Int} (h : HRk ws k bs ls S) (hk : k ≤ 63) : 0 ≤ S ∧ S ≤ 4032000000 := by
  have := (HRk.ok hw h).sb
  omega
set_option maxHeartbeats 6400000 in
set_option maxRecDepth 100000 in
theorem rfloor_any (A A' : Option Addr) (n c m d : Nat) (ws : List Int) (ts : List Tt) (w : World) (h : Il w A n c ws) (h' : Ts w A' m d ts) :
    Calls Tryd.prog 34 #[.slice A n c, .slice A' m d] w (Ret (FlR ws ts) w) := by
  have hn := h.le
  have hc := h.cap
  have hm := h'.le
  have hd := h'.cap
  have HL := Lib.hid h.len
  have HL' := Lib.hid h'.len
  have H := Lib.hid h
  have H' := Lib.hid h'
  clear h h'
  go_enter Tryd.func34, Tryd.ntmps34
  go_wp2_with fail
  refine (rcheck_any A A' n c m d ws ts w H.out H'.out).mono ?_
  rintro e w1 ⟨v1, rfl, hv1, hb1⟩
  have HB1 := Lib.hid hb1
  by_cases hcv : Cv ws ts
  rotate_left
  · rw [hv1.2 hcv]
    have HE := Lib.hid (show FlR ws ts (.tuple #[.int .i64 0, .int .i64 1]) w1 from ⟨fun h => absurd h hcv, fun _ => rfl⟩)
    clear hv1 hcv hb1
    go_wp2
    go_returns
    exact ⟨_, rfl, HE.out, HB1.out⟩
  rw [hv1.1 hcv]
  have hn10 : n ≤ 10 := by rw [← HL.out]; exact hcv.len10
  have hm16 : m ≤ 16 := by rw [← HL'.out]; exact hcv.1.2.2
  have HV := Lib.hid hcv
  clear hv1 hcv hb1
  go_wp2_with fail
  go_loopw [7, 27] (fun s i wr => ∃ k : Nat, k ≤ m ∧ i = .int .i64 (k : Int) ∧ s = .int .i64 (lsK n ts k) ∧ Ext w1 wr) (fun _ i _ => m - (intOf i).toNat)
  case atStart => exact ⟨0, by omega, rfl, rfl, Ext.refl _⟩
  case round =>
    obtain ⟨k, hk, rfl, rfl, hx⟩ := hrel
    have HX := Lib.hid hx
    by_cases hkm : k < m
    · have pk : (k : Int) < (m : Int) := by omega
      obtain ⟨bT, oT, rfl, hcell⟩ := (H'.out.below (bt HB1.out hx)).at_ (by omega)
      obtain ⟨ck1, A5, n5, c5, ck2, il5⟩ := hcell k hkm
      obtain ⟨x, hxx⟩ : ∃ x, tC ts k = x := ⟨_, rfl⟩
      have hon := lsK_on (n := n) (k := k) (ts := ts)
      have hoff := lsK_off (n := n) (k := k) (ts := ts)
      rw [il5.len, hxx] at hon hoff
      rw [hxx] at ck1
      obtain ⟨L, hL⟩ : ∃ L, lsK n ts k = L := ⟨_, rfl⟩
      rw [hL] at hon hoff ⊢
      have HON := Lib.hid hon
      have HOFF := Lib.hid hoff
      clear hcell hxx il5 hon hoff hL
      go_upto_region 8 with fail
      have b9 : Blk (wr.alloc (.cells #[.int .i64 x, .slice A5 n5 c5] TTE)) wr.heap.size TTE #[.int .i64 x, .slice A5 n5 c5] := Blk.new_ _ _ rfl
      have x9 : Ext wr (wr.alloc (.cells #[.int .i64 x, .slice A5 n5 c5] TTE)) := Ext.allocR _ _
      refine wp_world (fun W1 => Blk W1 wr.heap.size TTE #[.int .i64 x, .slice A5 n5 c5] ∧ Ext wr W1) ⟨b9, x9⟩ ?_
      clear b9 x9 ck1 ck2 hx
      rintro W1 ⟨b9, x9⟩
      obtain ⟨p9, hp9⟩ : ∃ p, wr.heap.size = p := ⟨_, rfl⟩
      rw [hp9] at b9 ⊢
      have c9 := b9.cells
      simp only [cellsAre, Nat.zero_add, Nat.reduceAdd, and_true] at c9
      have HX9 := Lib.hid (bt HX.out x9)
      clear b9 x9 hp9
      by_cases h1 : 0 < n5
      · have p1 : (0 : Int) < (n5 : Int) := by omega
        by_cases h2 : n5 < n
        · have p2 : (n5 : Int) < (n : Int) := by omega
          by_cases h3 : L < 0
          · have HN := Lib.hid (HON.out h1 h2 (Or.inl h3))
            go_wp2
            go_roundw
            case rel => exact ⟨k + 1, by omega, by go_num, by rw [HN.out], HX9.out⟩
            case measure => simp [intOf]; omega
          · have p3 : 0 ≤ L := by omega
            by_cases h4 : x < L
            · have HN := Lib.hid (HON.out h1 h2 (Or.inr h4))
              go_wp2
              go_roundw
              case rel => exact ⟨k + 1, by omega, by go_num, by rw [HN.out], HX9.out⟩
              case measure => simp [intOf]; omega
            · have p4 : L ≤ x := by omega
              have HN := Lib.hid (HOFF.out (by omega))
              go_wp2
              go_roundw
              case rel => exact ⟨k + 1, by omega, by go_num, by rw [HN.out], HX9.out⟩
              case measure => simp [intOf]; omega
        · have p2 : ¬ ((n5 : Int) < (n : Int)) := by omega
          have HN := Lib.hid (HOFF.out (by omega))
          go_wp2
          go_roundw
          case rel => exact ⟨k + 1, by omega, by go_num, by rw [HN.out], HX9.out⟩
          case measure => simp [intOf]; omega
      · obtain rfl : n5 = 0 := by omega
        have HN := Lib.hid (HOFF.out (by omega))
        go_wp2
        go_roundw
        case rel => exact ⟨k + 1, by omega, by go_num, by rw [HN.out], HX9.out⟩
        case measure => simp [intOf]; omega
    · obtain rfl : k = m := by omega
      have hlb := lsK_bd HV.out n k
      have hls : lsK ws.length ts ts.length = lsK n ts k := by rw [HL.out, HL'.out]
      obtain ⟨L, hL⟩ : ∃ L, lsK n ts k = L := ⟨_, rfl⟩
      rw [hL] at hlb hls ⊢
      have HLS := Lib.hid hls
      clear hls hL
      by_cases h3 : L < 0
      · have HE := Lib.hid (show FlR ws ts (.tuple #[.int .i64 0, .int .i64 0]) wr from ⟨fun _ => ⟨0, rfl, Or.inl ⟨by rw [HLS.out]; exact h3, rfl⟩⟩, fun h => absurd HV.out h⟩)
        have XE := Lib.hid (bt HB1.out hx)
        clear hx
        go_wp2
        go_returns
        exact ⟨_, rfl, HE.out, XE.out⟩
      · have p3 : 0 ≤ L := by omega
        obtain ⟨wo, rfl⟩ : ∃ wo, wo = wr := ⟨_, rfl⟩
        have XO := Lib.hid (bt HB1.out hx)
        clear hx
        go_wp2_with fail
        refine (rapart_any A' n k d ts wo (H'.out.below XO.out) (by omega) hm16).mono ?_
        rintro e w2 ⟨v2, rfl, ⟨b, b1, hs2⟩, hb2⟩
        obtain ⟨A9, c9, rfl, gs9⟩ := hs2.gs
        have hck := clsT_ok n ts
        have hcw := clW_ok HV.out
        rw [HL.out] at hcw
        obtain ⟨cs, hcs⟩ : ∃ cs, clsT n ts = cs := ⟨_, rfl⟩
        rw [hcs] at gs9 hck hcw ⊢
        obtain ⟨p, hp⟩ : ∃ p, cs.length = p := ⟨_, rfl⟩
        rw [hp] at gs9 ⊢
        have hcl : (clW ws cs).length = p := by unfold clW; rw [List.length_map, hp]
        have hp10 : p ≤ 10 := by rw [← hp, ← hcs]; exact Nat.le_trans (apC_len _ _) hn10
        have HP := Lib.hid hp
        have HCS := Lib.hid hcs
        have HCK := Lib.hid hck
        have HCW := Lib.hid hcw
        have HCL := Lib.hid hcl
        have g9 := gs9.le
        have g9' := gs9.cap
        have G9 := Lib.hid gs9
        have X2 := Lib.hid (bt XO.out hb2)
        clear hs2 gs9 hb2 hp hcs hck hcw hcl
        go_wp2_with fail
        go_loopw [11, 62] (fun s i wr => ∃ (q : Nat) (A3 : Option Addr) (n3 c3 : Nat), q ≤ p ∧ i = .int .i64 (q : Int) ∧ s = .slice A3 n3 c3 ∧ OwI w2.heap.size wr (.slice A3 n3 c3) ((clW ws cs).take q) ∧ Ext w2 wr) (fun _ i _ => p - (intOf i).toNat)
        case atStart => exact ⟨0, _, _, _, by omega, rfl, rfl, OwI.nil _ _, Ext.refl _⟩
        case round =>
          obtain ⟨q, A3, n3, c3, hq, rfl, rfl, ho, hx⟩ := hrel
          have HO := Lib.hid ho
          have HX2 := Lib.hid hx
          by_cases hqp : q < p
          · have pq : (q : Int) < (p : Int) := by omega
            obtain ⟨bG, oG, rfl, hcG⟩ := (G9.out.below hx).at_ (by omega)
            obtain ⟨A6, n6, c6, kg, ig⟩ := hcG q hqp
            have hqc : q < cs.length := by rw [HP.out]; exact hqp
            have hcq : cs.getD q [] = cs[q] := by simp [List.getD, hqc]
            have hmem := List.getElem_mem hqc
            obtain ⟨cl, hcl⟩ : ∃ cl, cs.getD q [] = cl := ⟨_, rfl⟩
            rw [hcl] at ig
            have hrg : ∀ x ∈ cl, 0 ≤ x ∧ x < (n : Int) := fun x hx => HCK.out.rng hmem (by rw [← hcq, hcl]; exact hx)
            have hln : cl.length ≤ n := by rw [← hcl, hcq]; exact HCK.out.clen hmem
            have HTK := Lib.hid (show (clW ws cs).take (q + 1) = (clW ws cs).take q ++ [wS ws cl] by
              rw [clW_take (by rw [HP.out]; exact hqp), hcl])
            have HLK := Lib.hid (show ((clW ws cs).take q).length ≤ 1000 by rw [List.length_take]; omega)
            have IG := Lib.hid ig
            have HRG := Lib.hid hrg
            have i6 := ig.le
            have i6' := ig.cap
            have hn6 : n6 ≤ 10 := by rw [← ig.len]; omega
            obtain ⟨wi, rfl⟩ : ∃ wi, wi = wr := ⟨_, rfl⟩
            clear hcG hcl ig hrg hln hmem hcq hqc ho hx
            go_wp2_with fail
            go_loopw [14, 68] (fun s i wr => ∃ j : Nat, j ≤ n6 ∧ i = .int .i64 (j : Int) ∧ s = .int .i64 (wS ws (cl.take j)) ∧ Ext wi wr) (fun _ i _ => n6 - (intOf i).toNat)
            case atStart => exact ⟨0, by omega, rfl, rfl, Ext.refl _⟩
            case round =>
              obtain ⟨j, hj, rfl, rfl, hx⟩ := hrel
              have HX3 := Lib.hid hx
              by_cases hjn : j < n6
              · have pj : (j : Int) < (n6 : Int) := by omega
                obtain ⟨b6, o6, rfl, hc6⟩ := (IG.out.below hx).at_ (by omega)
                have ck6 := hc6 j hjn
                have hjl : j < cl.length := by rw [IG.out.len]; exact hjn
                have hyr := HRG.out _ (getD_in (d := 0) hjl)
                obtain ⟨y, hy⟩ : ∃ y : Nat, cl.getD j 0 = (y : Int) := ⟨(cl.getD j 0).toNat, by omega⟩
                rw [hy] at ck6 hyr
                have pyn : (y : Int) < (n : Int) := hyr.2
                have hyn : y < n := by omega
                obtain ⟨bF, oF, rfl, hcF⟩ := (H.out.below (bt X2.out (bt HX2.out hx))).at_ (by omega)
                have ckF := hcF y hyn
                obtain ⟨x, hxx⟩ : ∃ x, ws.getD y 0 = x := ⟨_, rfl⟩
                rw [hxx] at ckF
                have hst := wS_take (ws := ws) hjl
                rw [hy, Int.toNat_natCast, hxx] at hst
                have hb1 := wS_bd (l := cl.take j) (fun j => okF_nn HV.out j)
                have hb2 := wS_bd (l := cl.take (j + 1)) (fun j => okF_nn HV.out j)
                rw [List.length_take] at hb1 hb2
                rw [hst] at hb2
                obtain ⟨F, hF⟩ : ∃ F, wS ws (cl.take j) = F := ⟨_, rfl⟩
                rw [hF] at hb1 hb2 hst ⊢
                have wq : IntKind.i64.wrap (F + x) = F + x := IntWalk.i64_in _ (by omega)
                have HS := Lib.hid hst
                clear hc6 hcF hy hyr hxx hst hb1 hb2 hF hx hjl
                go_wp2
                go_roundw
                case rel => exact ⟨j + 1, by omega, by go_num, by rw [HS.out], HX3.out⟩
                case measure => simp [intOf]; omega
              · obtain rfl : j = n6 := by omega
                rw [show cl.take j = cl from List.take_of_length_le (by rw [IG.out.len]; exact Nat.le_refl _)]
                obtain ⟨B, hB⟩ : ∃ B, wS ws cl = B := ⟨_, rfl⟩
                rw [hB] at HTK ⊢
                have HO2 := Lib.hid (HO.out.below hx)
                have HX4 := Lib.hid (bt HX2.out hx)
                have hsz : w2.heap.size ≤ (wr.alloc (.cells #[.int .i64 B] TIN)).heap.size := Ext.size (bt HX4.out (Ext.allocR _ _))
                clear hx hB
                go_wp2_with (at_builtin; refine wp_appE TIS TIN _ 1 8 int_info Tryd.underlying37 rfl (by omega) (by omega) rfl _ _ rfl w2.heap.size (.slice A3 n3 c3) _ _ rfl (HO2.out.alloc _) ⟨wr.heap.size, 0, none⟩ 1 1 [.int .i64 B] rfl rfl (cell_new wr [.int .i64 B] TIN) (int_one _) (by have := HLK.out; omega) (by omega) hsz ?_; intro v6 w6 hown6 hb6 hg6; have hn6 : OwI w2.heap.size w6 v6 ((clW ws cs).take (q + 1)) := (by rw [HTK.out]; exact OwI.snoc hown6); obtain ⟨A7, n7, c7, hv7, _⟩ := hn6.il3; subst hv7; have HE := Lib.hid (And.intro hn6 (show Ext w2 w6 from Below.trans (bt HX4.out (Ext.allocR wr (.cells #[.int .i64 B] TIN))) hb6)); clear hn6 hown6 hb6 hg6)
                go_roundw
                case rel => exact ⟨q + 1, _, _, _, by omega, by go_num, rfl, HE.out.1, HE.out.2⟩
                case measure => simp [intOf]; omega
          · obtain rfl : q = p := by omega
            rw [show (clW ws cs).take q = clW ws cs from List.take_of_length_le (by rw [HCL.out]; exact Nat.le_refl _)] at ho
            have I3 := Lib.hid ho.ilv
            have XW := Lib.hid (bt X2.out hx)
            have hn3 : n3 = q := by rw [← ho.ilv.len]; exact HCL.out
            subst hn3
            clear ho hx
            go_wp2_with fail
            refine (rcodes_any A3 n3 c3 (clW ws cs) wr I3.out HCW.out).mono ?_
            rintro e w5 ⟨v5, rfl, ⟨A8, c8, b, ls, S, rfl, il8, hr⟩, hb5⟩
            have hsb := HRk.sbd HCW.out hr (by omega)
            have h6 := Int.mul_nonneg hsb.1 p3
            have h7 : S * L ≤ 4032000000 * 1000 := Int.mul_le_mul hsb.2 hlb.2 p3 (by omega)
            have wq : IntKind.i64.wrap (S * L) = S * L := IntWalk.i64_in _ (by omega)
            have HE := Lib.hid (show FlR ws ts (.tuple #[.int .i64 (S * L), .int .i64 0]) w5 from ⟨fun _ => ⟨_, rfl, Or.inr ⟨by rw [HLS.out]; exact p3, b, ls, S, by rw [HL.out, HCS.out, HP.out]; exact hr, by rw [HLS.out]⟩⟩, fun h => absurd HV.out h⟩)
            have XE := Lib.hid (bt XW.out hb5)
            clear il8 hr hb5 hsb h6 h7
            go_wp2
            go_returns
            exact ⟨_, rfl, HE.out, XE.out⟩
theorem rd_kr {ts : List Tt} : ∀ (f : Nat) (set way : List Int) (plan r : List Tt) (es : List En), way.length + f ≤ 62 → rdF ts f set way plan = some (es, r) →
    (∀ e ∈ es, e.2.length ≤ 62) ∧ (es.map fun e => 2 ^ (62 - e.2.length)).sum = 2 ^ (62 - way.length) := by
  intro f
  induction f with
  | zero => intro set way plan r es _ h; simp [rdF] at h
  | succ f ih =>
    intro set way plan r es hf h
    cases plan with
    | nil => simp [rdF] at h
    | cons b rest =>
      unfold rdF at h
      split at h
      · split at h
        · cases h
        · split at h
          · injection h with h
            injection h with h1 h2
            subst h1
            refine ⟨fun e he => ?_, by simp⟩
            simp at he
            subst he
            simp only
            omega
          · cases h
      · split at h
        · have hf' : (way ++ [b.1]).length + f ≤ 62 := by simp; omega
          split at h
          · cases h
          · rename_i e1 r1 h1
            split at h
            · cases h
            · rename_i e2 r2 h2
              injection h with h
              injection h with h3 h4
              subst h3
              obtain ⟨a1, a2⟩ := ih _ _ _ _ _ hf' h1
              obtain ⟨b1, b2⟩ := ih _ _ _ _ _ hf' h2
              refine ⟨fun e he => ?_, ?_⟩
              · rcases List.mem_append.1 he with he | he
                · exact a1 e he
                · exact b1 e he
              · rw [List.map_append, List.sum_append, a2, b2, List.length_append, List.length_singleton]
                have e : 62 - way.length = (62 - (way.length + 1)) + 1 := by omega
                rw [e, Nat.pow_succ]
                omega
        · cases h
/-- A test that splits some faults shows some, but not all of them. -/
theorem sp_len {n : Nat} {xs set : List Int} (hx : Ris xs (n : Int)) (hs : ∀ x ∈ set, 0 ≤ x ∧ x < (n : Int)) (h : spB xs set = true) : 0 < xs.length ∧ xs.length < n := by
  unfold spB at h
  rw [Bool.and_eq_true, decide_eq_true_eq, decide_eq_true_eq] at h
  obtain ⟨h1, h2⟩ := h
  obtain ⟨a, ha⟩ := List.exists_mem_of_length_pos h1
  obtain ⟨y, hy⟩ := List.exists_mem_of_length_pos h2
  obtain ⟨_, ha⟩ := List.mem_filter.1 ha
  obtain ⟨hys, hy⟩ := List.mem_filter.1 hy
  have ha' : a ∈ xs := by unfold shB at ha; simpa using ha
  have hy' : y ∉ xs := by unfold shB at hy; simpa using hy
  refine ⟨List.length_pos_of_mem ha', ?_⟩
  have hnd : xs.Nodup := hx.pw.imp fun h => by omega
  have hle := nodup_le (b := (upL n).filter fun x => decide (x ≠ y)) hnd fun x hxm => by
    obtain ⟨k, hk, rfl⟩ := List.getElem_of_mem hxm
    have := hx.bd k hk
    rw [show xs.getD k 0 = xs[k] by simp [List.getD, hk]] at this
    refine List.mem_filter.2 ⟨upL_mem'.2 this, ?_⟩
    rw [decide_eq_true_eq]
    exact fun e => hy' (by rw [← e]; exact hxm)
  have hfl := flt_len (fun x => decide (x ≠ y)) (upL n)
  have hp : 0 < ((upL n).filter fun x => !decide (x ≠ y)).length := List.length_pos_of_mem (a := y) (List.mem_filter.2 ⟨upL_mem'.2 (hs y hys), by simp⟩)
  rw [upL_len] at hfl
  omega
theorem lsK_le {ws : List Int} {ts : List Tt} (h : Cv ws ts) {n k : Nat} (h1 : 0 < (tS ts k).length ∧ (tS ts k).length < n) : ∀ j, k < j → 0 ≤ lsK n ts j ∧ lsK n ts j ≤ tC ts k
  | 0, hj => absurd hj (by omega)
  | j + 1, hj => by
    have hc := cost_bd h k
    have hcj := cost_bd h j
    by_cases hk : k = j
    · subst hk
      unfold lsK
      split
      · omega
      · rename_i h2
        have : ¬ (lsK n ts k < 0 ∨ tC ts k < lsK n ts k) := fun h3 => h2 ⟨h1, h3⟩
        omega
    · have ih := lsK_le h h1 j (by omega)
      unfold lsK
      split <;> omega
theorem rd_way {ws : List Int} {ts : List Tt} (h : Cv ws ts) : ∀ (f : Nat) (set way : List Int) (plan r : List Tt) (es : List En), (∀ x ∈ set, 0 ≤ x ∧ x < (ws.length : Int)) →
    (∀ k ∈ way, lsK ws.length ts ts.length ≤ tC ts k.toNat) → rdF ts f set way plan = some (es, r) → ∀ e ∈ es, ∀ k ∈ e.2, lsK ws.length ts ts.length ≤ tC ts k.toNat := by
  intro f
  induction f with
  | zero => intro set way plan r es _ _ h; simp [rdF] at h
  | succ f ih =>
    intro set way plan r es hs hw h0
    cases plan with
    | nil => simp [rdF] at h0
    | cons b rest =>
      unfold rdF at h0
      split at h0
      · split at h0
        · cases h0
        · split at h0
          · injection h0 with h0
            injection h0 with h1 h2
            subst h1
            intro e he
            simp at he
            subst he
            exact hw
          · cases h0
      · split at h0
        · rename_i hc
          obtain ⟨hb, _, hsp⟩ := hc
          have hbl : b.1.toNat < ts.length := by omega
          have hw' : ∀ k ∈ way ++ [b.1], lsK ws.length ts ts.length ≤ tC ts k.toNat := by
            intro k hk
            rcases List.mem_append.1 hk with hk | hk
            · exact hw k hk
            · simp at hk
              subst hk
              exact (lsK_le h (sp_len (h.2.2 _ hbl).2 hs hsp) _ hbl).2
          have hg : ∀ p : Int → Bool, ∀ x ∈ set.filter p, 0 ≤ x ∧ x < (ws.length : Int) := fun p x hx => hs x (List.mem_filter.1 hx).1
          split at h0
          · cases h0
          · rename_i e1 r1 h1
            split at h0
            · cases h0
            · rename_i e2 r2 h2
              injection h0 with h0
              injection h0 with h3 h4
              subst h3
              intro e he
              rcases List.mem_append.1 he with he | he
              · exact ih _ _ _ _ _ (hg _) hw' h1 e he
              · exact ih _ _ _ _ _ (hg _) hw' h2 e he
        · cases h0
theorem csW_ge {ts : List Tt} {L : Int} : ∀ {way : List Int}, (∀ k ∈ way, L ≤ tC ts k.toNat) → L * (way.length : Int) ≤ csW ts way
  | [], _ => by simp [csW]
  | k :: way, h => by
    have e : csW ts (k :: way) = tC ts k.toNat + csW ts way := by simp [csW]
    have h1 := h k (List.mem_cons_self ..)
    have h2 := csW_ge fun x hx => h x (List.mem_cons_of_mem _ hx)
    rw [e, List.length_cons, Int.natCast_add, Int.mul_add]
    omega
theorem csE_ge {ws : List Int} {ts : List Tt} {L : Int} (hw : ∀ j, 0 ≤ ws.getD j 0 ∧ ws.getD j 0 ≤ 1000) : ∀ {es : List En}, (∀ e ∈ es, ∀ k ∈ e.2, L ≤ tC ts k.toNat) → L * (es.map fun e => wS ws e.1 * (e.2.length : Int)).sum ≤ csE ws ts es
  | [], _ => by simp [csE]
  | e :: es, h => by
    have e0 : csE ws ts (e :: es) = csW ts e.2 * wS ws e.1 + csE ws ts es := by simp [csE]
    have h1 := csW_ge (h e (List.mem_cons_self ..))
    have h2 := csE_ge hw fun x hx => h x (List.mem_cons_of_mem _ hx)
    have h3 := wS_bd (l := e.1) hw
    have h4 := Int.mul_le_mul_of_nonneg_right h1 h3.1
    rw [e0, List.map_cons, List.sum_cons, Int.mul_add]
    have h5 : L * (wS ws e.1 * (e.2.length : Int)) = L * (e.2.length : Int) * wS ws e.1 := by rw [Int.mul_comm (wS ws e.1), Int.mul_assoc]
    omega
theorem dtK_map {α : Type} (f g : α → Int) (l : List α) : ∀ k, k ≤ l.length → dtK (l.map f) (l.map g) k = ((l.take k).map fun e => f e * g e).sum
  | 0, _ => by simp [dtK]
  | k + 1, hk => by
    have hk' : k < l.length := hk
    rw [List.take_succ_eq_append_getElem hk', List.map_append, List.sum_append, ← dtK_map f g l k (by omega)]
    simp [dtK, List.getD, hk']
theorem perm_back {α β : Type} (f : α → β) : ∀ {m : List β} {l : List α}, (l.map f).Perm m → ∃ l' : List α, l'.Perm l ∧ l'.map f = m
  | [], l, h => by
    have := h.length_eq
    simp at this
    subst this
    exact ⟨[], List.Perm.refl _, rfl⟩
  | b :: t, l, h => by
    obtain ⟨p, R, h1, h2, h3⟩ := perm_map_cons f h
    obtain ⟨l', a1, a2⟩ := perm_back f h3
    exact ⟨p :: l', (List.Perm.cons p a1).trans h1.symm, by rw [List.map_cons, h2, a2]⟩
/-- Floor bounds the cost of the best plan from below. -/
theorem floor_le {ws : List Int} {ts : List Tt} (h : Cv ws ts) {x : Int} (hx : FlP ws ts x) : 0 ≤ x ∧ x ≤ pC ws ts (allS ws) := by
  have h0 : allS ws ≠ 0 := by
    have h1 := Nat.pow_le_pow_right (n := 2) (by omega) h.1.1
    unfold allS; omega
  have hpw : 2 ^ ws.length ≤ 1024 := pow_le_1024 h.len10
  have hc0 := pC_bd h (s := allS ws) (by have := allS_lt ws; omega)
  rcases hx with ⟨_, rfl⟩ | ⟨hL, b, ls, S, hr, rfl⟩
  · exact ⟨Int.le_refl _, hc0.1⟩
  · have hw := clW_ok h
    have hk := (clsT_ok ws.length ts).s
    have hlen : (clW ws (clsT ws.length ts)).length = (clsT ws.length ts).length := by unfold clW; rw [List.length_map]
    have hcl : (clsT ws.length ts).length ≤ 10 := Nat.le_trans (apC_len _ _) h.len10
    have hS := HRk.sbd hw hr (by omega)
    refine ⟨Int.mul_nonneg hS.1 hL, ?_⟩
    have hsh := plL_short h (allS ws) (allS_lt ws) h0
    have hml := mems_len ws.length (allS ws)
    have h10 := h.len10
    obtain ⟨es, e1, e2, e3⟩ := rd_best h (allS ws) (allS_lt ws) h0 _ [] [] (Nat.le_refl _)
    rw [← show upL ws.length = mems ws.length (allS ws) by unfold allS; rw [mems_full]; rfl] at e1 e3
    have hk2 := rd_kr _ _ _ _ _ _ (by simp only [List.length_nil]; omega) e1
    have hway := rd_way h _ _ _ _ _ _ (fun x hx => upL_mem'.1 hx) (fun k hk => by cases hk) e1
    have hge := csE_ge (L := lsK ws.length ts ts.length) (fun j => okF_nn h j) hway
    have hcs : csE ws ts es = pC ws ts (allS ws) := by rw [e2]; simp [csW]
    rw [hcs] at hge
    have hperm : (es.map Prod.fst).Perm (clsT ws.length ts) := (List.perm_ext_iff_of_nodup e3.nodup hk.nodup).2 fun c => ⟨fun hc => e3.sub hk hc, fun hc => hk.sub e3 hc⟩
    obtain ⟨es', p1, p2⟩ := perm_back Prod.fst hperm
    have hW : clW ws (clsT ws.length ts) = es'.map fun e => wS ws e.1 := by unfold clW; rw [← p2, List.map_map]; rfl
    have hKr : KrI (es'.map fun e => (e.2.length : Int)) := by
      refine ⟨fun y hy => ?_, ?_⟩
      · obtain ⟨e, he, rfl⟩ := List.mem_map.1 hy
        have := hk2.1 e (p1.subset he)
        omega
      · rw [List.map_map]
        have h1 : (es'.map ((fun x : Int => 2 ^ (62 - x.toNat)) ∘ fun e : En => (e.2.length : Int))) = es'.map fun e => 2 ^ (62 - e.2.length) := List.map_congr_left fun e _ => by simp
        rw [h1, (p1.map fun e : En => 2 ^ (62 - e.2.length)).sum_nat, hk2.2]
        simp
    have hbest := HRk.best hw hr (xs := es'.map fun e => (e.2.length : Int)) (by rw [hlen, List.length_map, ← p2, List.length_map]) hKr
    rw [hlen, ← p2, List.length_map] at hbest
    rw [p2, hW, dtK_map _ _ es' _ (Nat.le_refl _), List.take_length] at hbest
    have hsum : (es'.map fun e => wS ws e.1 * (e.2.length : Int)).sum = (es.map fun e => wS ws e.1 * (e.2.length : Int)).sum := sumI_perm (p1.map fun e : En => wS ws e.1 * (e.2.length : Int))
    rw [hsum] at hbest
    have hm := Int.mul_le_mul_of_nonneg_right hbest hL
    rw [Int.mul_comm (List.sum _)] at hm
    exact Int.le_trans hm hge
end Go.Proofs.Tb
