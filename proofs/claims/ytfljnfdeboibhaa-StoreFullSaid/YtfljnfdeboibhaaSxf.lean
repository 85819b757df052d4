/- StoreFull: the walk. -/
import Derived.Test.YtfljnfdeboibhaaTwf
import Derived.Laws.BytesArg
set_option linter.unusedVariables false
set_option linter.unusedSimpArgs false
namespace Go.Proofs.Tb
open Go.Maps Go.RowKit Go.Lib
attribute [local go_sem] cell_set_same neqMapL
theorem and1 (y : Int) : ∃ b : Nat, b ≤ 1 ∧ bits .and .i64 y 1 = (b : Int) := by
  have e : bits .and .i64 y 1 = IntKind.i64.wrap ((BitVec.ofInt 64 y &&& BitVec.ofInt 64 1).toNat : Int) := rfl
  have h : (BitVec.ofInt 64 y &&& BitVec.ofInt 64 1).toNat ≤ 1 := by
    rw [BitVec.toNat_and]
    exact Nat.and_le_right
  refine ⟨_, h, ?_⟩
  rw [e, IntWalk.i64_in _ (by omega)]
theorem or1_u8 (y : Int) : ∃ b : Nat, b ≤ 255 ∧ bits .or .u8 y 1 = (b : Int) := by
  have e : bits .or .u8 y 1 = IntKind.u8.wrap ((BitVec.ofInt 8 y ||| BitVec.ofInt 8 1).toNat : Int) := rfl
  have h : (BitVec.ofInt 8 y ||| BitVec.ofInt 8 1).toNat < 256 := (BitVec.ofInt 8 y ||| BitVec.ofInt 8 1).isLt
  refine ⟨_, (by omega : (BitVec.ofInt 8 y ||| BitVec.ofInt 8 1).toNat ≤ 255), ?_⟩
  rw [e]
  obtain ⟨n, hn⟩ : ∃ n, (BitVec.ofInt 8 y ||| BitVec.ofInt 8 1).toNat = n := ⟨_, rfl⟩
  rw [hn] at h ⊢
  unfold IntKind.wrap
  simp [IntKind.signed, IntKind.bits]
  omega
set_option maxHeartbeats 1600000 in
set_option maxRecDepth 100000 in
theorem rdown_any (d m : Nat) (v : Value) (down : Bool) (left : Nat) (w : World) (h : Blk w d TDK #[v, .map (some m), .bool down, .int .i64 (left : Int)]) :
    Calls Try.prog 26 #[.pointer (some ⟨d, 0, none⟩)] w (Ret (fun z _ => z = .bool down) w) := by
  have kd := h.cells
  simp only [cellsAre, Nat.zero_add, Nat.reduceAdd, and_true] at kd
  have H := Lib.hid h
  clear h
  go_enter Try.func26, Try.ntmps26
  go_wp2_with fail
  refine (rmade_any d m v down left w H.out).mono ?_
  rintro e w1 ⟨v1, rfl, rfl, b1⟩
  have k1 := (H.out.below b1).cells
  simp only [cellsAre, Nat.zero_add, Nat.reduceAdd, and_true] at k1
  go_wp2_with fail
  (try simp only [Exit.inBlock, Exit.then])
  refine bodyPost_ret (v := (.bool down)) (by simp [results, Try.results26, go_sem, *]) rfl ?_
  exact ⟨_, rfl, rfl, b1⟩
theorem STx.blk {F : Nat → Prop} {w : World} {s d keep n : Nat} {Vs : List (List Pr)} (h : STx F w s d keep n Vs) : ∃ g v, Blk w d TDK #[v, .map (some g), .bool false, .int .i64 ((0 : Nat) : Int)] := by
  obtain ⟨vs, B, bl, h1, _⟩ := h
  exact h1.dk.blk
/-- Changes that are a batch but for their number. -/
def Gch (o : List Cg) : Prop := ∀ c ∈ o, chgB c = true
theorem Gch.bat {o : List Cg} (h : Gch o) (h1 : 1 ≤ o.length) (h2 : o.length ≤ 16) : batB o = true := by
  unfold batB
  rw [Bool.and_eq_true, Bool.and_eq_true, decide_eq_true_iff, decide_eq_true_iff]
  exact ⟨⟨List.all_eq_true.2 h, h1⟩, h2⟩
/-- The row of changes that StoreFull makes. -/
structure FuS (w W : World) (A : Option Addr) (j c : Nat) (o : List Cg) : Prop where
  ow : OwC w.heap.size W (.slice A j c) o
  ln : o.length = j
  go : Gch o
  ex : Ext w W
set_option maxHeartbeats 6400000 in
set_option maxRecDepth 100000 in
theorem rfull_any (seed : Nat) (hseed : seed ≤ 255) (keep0 : Int) (w : World) :
    Calls Try.prog 5 #[.int .u8 (seed : Int), .int .i64 keep0] w (Ret (fun z _ => z = .bool true) w) := by
  obtain ⟨keep, hkp, eb⟩ := and1 keep0
  obtain ⟨q, hq, eq⟩ := or1_u8 (seed : Int)
  have w1_ : IntKind.i64.wrap (seed : Int) = (seed : Int) := IntWalk.i64_in _ (by omega)
  have w2_ : IntKind.i64.wrap (256 + (seed : Int)) = ((256 + seed : Nat) : Int) := by rw [IntWalk.i64_in _ (by omega)]; omega
  have w3_ : IntKind.i64.wrap (q : Int) = (q : Int) := IntWalk.i64_in _ (by omega)
  obtain ⟨sz, hsz⟩ : ∃ sz, 256 + seed = sz := ⟨_, rfl⟩
  rw [hsz] at w2_
  go_enter Try.func5, Try.ntmps5
  go_wp2_with fail
  refine (rnewdisk_ok (F := fun b => w.heap.size ≤ b) sz (by omega) (by omega) w (fun b h => h)).mono ?_
  rintro e w1 ⟨v1, rfl, ⟨d, rfl, hd⟩, b1⟩
  have X1 := Lib.hid b1
  have HD := Lib.hid hd
  clear hd b1
  go_wp2_with fail
  refine (st_open (keep := keep) HD.out (fun b hb => Nat.le_trans X1.out.size hb) (by omega) (by omega)).mono ?_
  rintro e w2 ⟨⟨s, rfl, hs⟩, hc⟩
  have X2 := Lib.hid (hc.ge X1.out)
  have HS2 := Lib.hid hs
  clear hs hc X1 HD
  go_wp2_with fail
  refine (rlives_any w2).mono ?_
  rintro e w3 ⟨v3, rfl, rfl, b3⟩
  have X3 := Lib.hid (bt X2.out b3)
  have HS3 := Lib.hid (HS2.out.ext b3)
  clear b3 X2 HS2
  go_wp2_with fail
  refine (znew_any keep w3).mono ?_
  rintro e w4 ⟨v4, rfl, hr, bb2⟩
  obtain ⟨A2, m2, c2, rfl, hh2⟩ := hr.form
  clear hh2
  have R4 := Lib.hid hr
  have HS4 := Lib.hid (HS3.out.ext bb2)
  have X4 := Lib.hid (bt X3.out bb2)
  clear hr bb2 HS3 X3
  go_upto_region 8 with fail
  have x5 : Ext w4 (w4.alloc (.cells #[.slice A2 m2 c2, .int .i64 (keep : Int)] TRS)) := Ext.allocR _ _
  refine wp_world (fun W => FiS w W s d w4.heap.size keep sz [[]]) ⟨HS4.out.ext x5, ⟨A2, m2, c2, R4.out.ext x5, Blk.new_ _ _ rfl⟩, bt X4.out x5, X4.out.size, fun l hl => by rw [List.mem_singleton.1 hl]; exact Nat.zero_le _⟩ ?_
  obtain ⟨H, hH⟩ : ∃ H, w4.heap.size = H := ⟨_, rfl⟩
  rw [hH]
  rintro W5 hw5
  have HW5 := Lib.hid hw5
  clear x5 hw5 HS4 R4 X4 hH
  go_wp2_with fail
  go_loopw [11] (fun i wr => ∃ (j : Nat) (Vs : List (List Pr)), j ≤ 30 ∧ i = .int .i64 (j : Int) ∧ Vs.length = j + 1 ∧ (∀ l ∈ Vs, l.length ≤ 9 * j) ∧ FiS w wr s d H keep sz Vs) (fun i _ => 30 - (intOf i).toNat)
  case atStart => exact ⟨0, [[]], by omega, rfl, rfl, (fun l hl => by rw [List.mem_singleton.1 hl]; exact Nat.zero_le _), HW5.out⟩
  case round =>
    clear HW5
    obtain ⟨j, Vs, hj, rfl, hvl, hvz, hw⟩ := hrel
    have HW := Lib.hid hw
    have HVZ := Lib.hid hvz
    clear hw hvz
    by_cases hj3 : j < 30
    · have p1 : (j : Int) < 30 := by omega
      have wj : IntKind.i64.wrap ((j : Int) + 1) = ((j + 1 : Nat) : Int) := by rw [IntWalk.i64_in _ (by omega)]; rfl
      have w9 : IntKind.i64.wrap ((j : Int) * 9) = (j : Int) * 9 := IntWalk.i64_in _ (by omega)
      go_upto_region 12 with fail
      refine wp_world (fun W => FuS wr W (some ⟨wr.heap.size, 0, none⟩) 0 0 []) ⟨own_lit TCG 3 #[] 0 (Nat.le_refl _) (by omega) rfl, rfl, (fun x hx => absurd hx (by simp)), Ext.allocR _ _⟩ ?_
      obtain ⟨W0, rfl⟩ : ∃ W0, W0 = wr := ⟨_, rfl⟩
      rintro W6 hw6
      have HW6 := Lib.hid hw6
      clear hw6
      go_wp2_with fail
      go_loopw [12, 13] (fun v i wr => ∃ (k : Nat) (A5 : Option Addr) (c5 : Nat) (o : List Cg), k ≤ 9 ∧ v = .slice A5 k c5 ∧ i = .int .i64 (k : Int) ∧ FuS W0 wr A5 k c5 o) (fun _ i _ => 9 - (intOf i).toNat)
      case atStart => exact ⟨0, _, _, [], by omega, rfl, rfl, HW6.out⟩
      case round =>
        clear HW6
        obtain ⟨k, A5, c5, o, hk9, rfl, rfl, hv⟩ := hrel
        have HV := Lib.hid hv
        clear hv
        by_cases hk : k < 9
        · have p3 : (k : Int) < 9 := by omega
          have wk : IntKind.i64.wrap ((k : Int) + 1) = ((k + 1 : Nat) : Int) := by rw [IntWalk.i64_in _ (by omega)]; rfl
          have wa : IntKind.i64.wrap ((j : Int) * 9 + (k : Int)) = (j : Int) * 9 + (k : Int) := IntWalk.i64_in _ (by omega)
          have hmul : ((j : Int) * 9 + (k : Int)) * (q : Int) ≤ 279 * 255 := Int.mul_le_mul (by omega) (by omega) (by omega) (by omega)
          have hmul0 : 0 ≤ ((j : Int) * 9 + (k : Int)) * (q : Int) := Int.mul_nonneg (by omega) (by omega)
          obtain ⟨y, hy⟩ : ∃ y : Int, ((j : Int) * 9 + (k : Int)) * (q : Int) = y := ⟨_, rfl⟩
          rw [hy] at hmul hmul0
          have wy : IntKind.i64.wrap y = y := IntWalk.i64_in _ (by omega)
          have HY := Lib.hid hy
          go_upto_region 16 with fail
          obtain ⟨nb, hnb⟩ : ∃ nb : Nat, y % 251 + 1 = (nb : Int) := ⟨(y % 251 + 1).toNat, by omega⟩
          have hnb2 : nb ≤ 251 := by omega
          rw [hnb]
          have wu : IntKind.u8.wrap (nb : Int) = (nb : Int) := by
            unfold IntKind.wrap
            simp [IntKind.signed, IntKind.bits]
            omega
          have x1 : Ext wr (wr.alloc (.cells #[.int .u8 (nb : Int)] TU8)) := Ext.allocR _ _
          have b1 : Blk (wr.alloc (.cells #[.int .u8 (nb : Int)] TU8)) wr.heap.size TU8 #[.int .u8 (nb : Int)] := Blk.new_ _ _ rfl
          have c1 := b1.cells
          simp only [cellsAre, Nat.zero_add, Nat.reduceAdd, and_true] at c1
          have hcv := run_convert_bytes_arg (P := Try.prog) (wr.alloc (.cells #[.int .u8 (nb : Int)] TU8)) TBY TU8 Try.underlying44 Try.underlying5 wr.heap.size 0 1 1 [(nb : Int)] rfl (fun i hi => by obtain rfl : i = 0 := (by omega); exact c1) 9 Try.underlying9
          obtain ⟨sb, hsb⟩ : ∃ sb, strOfNums [(nb : Int)] = sb := ⟨_, rfl⟩
          have hsbs : sb.size = 1 := by rw [← hsb, strOfNums_size]; rfl
          rw [hsb] at hcv
          obtain ⟨ky, hky⟩ : ∃ ky, (⟨#[107, 101, 121]⟩ : ByteArray) ++ sb = ky := ⟨_, rfl⟩
          have hkys : ky.size = 4 := by rw [← hky, ByteArray.size_append, hsbs]; rfl
          obtain ⟨vl, hvl2⟩ : ∃ vl : Str, (⟨#[97, 32, 118, 97, 108, 117, 101, 32, 111, 102, 32, 116, 119, 101, 110, 116, 121, 45, 102, 111, 117, 114, 32, 98]⟩ : ByteArray) = vl := ⟨_, rfl⟩
          have hvls : vl.size = 24 := by rw [← hvl2]; rfl
          obtain ⟨w1, hw1⟩ : ∃ w1, wr.alloc (.cells #[.int .u8 (nb : Int)] TU8) = w1 := ⟨_, rfl⟩
          rw [hw1] at x1
          have HW1 := Lib.hid hw1
          have HKY := Lib.hid hky
          have HS1 := Lib.hid (show wr.heap.size + 1 = w1.heap.size by rw [← hw1]; simp)
          have HVL := Lib.hid hvl2
          have HV1 := Lib.hid (own_below HV.out.ow x1)
          have X1 := Lib.hid x1
          have HSZ := Lib.hid (show W0.heap.size ≤ w1.heap.size from Nat.le_trans HV.out.ex.size x1.size)
          have HG := Lib.hid (show Gch (o ++ [⟨ky, vl, false⟩]) from fun x hx => by
            rcases List.mem_append.1 hx with hx | hx
            · exact HV.out.go x hx
            · rw [List.mem_singleton.1 hx]
              unfold chgB keyB
              rw [hkys, hvls]
              rfl)
          have HOL := Lib.hid HV.out.ln
          have HRL := Lib.hid (show Rv (w1.alloc (.cells #[.string ky, .string vl, .bool false] TCG)) 3 (some ⟨w1.heap.size, 0, none⟩) 1 1 (ccs [⟨ky, vl, false⟩]) from rv_lit TCG 3 #[.string ky, .string vl, .bool false] 1 (by omega) rfl)
          have HVE := Lib.hid HV.out.ex
          clear b1 c1 x1 hnb hsb hkys hvls HV hw1 hky hvl2
          go_upto_region 14 with (at_builtin; rw [HW1.out, HKY.out, HVL.out, HS1.out]; refine wpl_appC rfl _ _ rfl W0.heap.size (.slice A5 k c5) o rfl (own_below HV1.out (Ext.allocR _ _)) (some ⟨w1.heap.size, 0, none⟩) 1 1 [⟨ky, vl, false⟩] rfl HRL.out (by have := HOL.out; omega) (by omega) (Nat.le_trans HSZ.out (by simp)) ?_; intro A8 n8 c8 w8 o8 r8 b8 g8; have HAP := Lib.hid (show FuS W0 w8 A8 n8 c8 (o ++ [⟨ky, vl, false⟩]) from ⟨o8, (by have := r8.len; rw [ccs_len] at this; omega), HG.out, Below.trans (bt (bt HVE.out X1.out) (Ext.allocR _ _)) b8⟩); clear o8 r8 b8 g8)
          obtain rfl : n8 = k + 1 := by have := HAP.out.ln; have := HOL.out; rw [List.length_append, List.length_singleton] at *; omega
          clear HV1 X1 HSZ HG HOL HRL HVE HW1 HKY HVL hcv
          go_wp2_with fail
          exact ⟨⟨k + 1, A8, c8, _, by omega, rfl, rfl, HAP.out⟩, by simp [intOf]; omega⟩
        · obtain rfl : k = 9 := by omega
          obtain ⟨L, hL⟩ : ∃ L, Vs.getD (Vs.length - 1) [] = L := ⟨_, rfl⟩
          have hLm : L.length ≤ 9 * j := by
            rw [← hL, show Vs.getD (Vs.length - 1) [] = Vs[Vs.length - 1] by simp [List.getD, show Vs.length - 1 < Vs.length by omega]]
            exact HVZ.out _ (List.getElem_mem _)
          have hoL : o.length = 9 := HV.out.ln
          have hbt := HV.out.go.bat (by omega) (by omega)
          have HBT := Lib.hid hbt
          have HL := Lib.hid hL
          have HWv := Lib.hid (HW.out.ext HV.out.ex)
          have ROW := Lib.hid (own_rvv HV.out.ow)
          have OOW := Lib.hid HV.out.ow
          clear hL hbt
          go_wp2_with fail
          refine (st_commit HWv.out.st (fun b hb => Nat.le_trans HWv.out.ex.size hb) (by omega) (by omega) (by omega) HL.out (by omega) A5 9 c5 o ROW.out HBT.out).mono ?_
          intro e w7 ha
          cases ha with
          | full hf he hx =>
            subst he
            unfold ansV
            have HW7 := Lib.hid (HWv.out.ext hx)
            have RO7 := Lib.hid (ROW.out.below hx)
            have HFF := Lib.hid hf
            obtain ⟨A6, m6, c6, hr6, hk6⟩ := HW7.out.rv
            have k6 := hk6.cells
            simp only [cellsAre, Nat.zero_add, Nat.reduceAdd, and_true] at k6
            have HR6 := Lib.hid hr6
            have HK6 := Lib.hid hk6
            clear hf hx hr6 hk6 HWv ROW OOW HV HW
            go_wp2_with fail
            refine (zfits_any HR6.out (by omega) (by omega) (by omega) HL.out (fun x hx => by have := HVZ.out x hx; omega) A5 9 c5 o RO7.out (by omega) (sz : Int)).mono ?_
            rintro e w8 ⟨v8, rfl, rfl, b8⟩
            rw [HFF.out]
            have HW8 := Lib.hid (HW7.out.ext b8)
            clear b8 HW7 RO7 k6
            go_wp2_with fail
            refine (st_broken HW8.out.st).mono ?_
            rintro e w9 ⟨v9, rfl, rfl, b9⟩
            have HW9 := Lib.hid (HW8.out.ext b9)
            clear b9 HW8
            obtain ⟨gm, gv, hblk⟩ := HW9.out.st.blk
            have HBK := Lib.hid hblk
            clear hblk
            go_wp2_with fail
            refine (rdown_any d gm gv false 0 w9 HBK.out).mono ?_
            rintro e w10 ⟨v10, rfl, rfl, b10⟩
            have HW10 := Lib.hid (HW9.out.ext b10)
            obtain ⟨A7, m7, c7, hr7, hk7⟩ := HW10.out.rv
            have k7 := hk7.cells
            simp only [cellsAre, Nat.zero_add, Nat.reduceAdd, and_true] at k7
            have HR7 := Lib.hid hr7
            clear b10 HW9 HBK hr7 hk7 HR6 HK6
            go_wp2_with fail
            refine (st_alike HW10.out.st HR7.out (by omega) (by omega) (fun x hx => by have := HVZ.out x hx; omega)).mono ?_
            rintro e w11 ⟨v11, rfl, rfl, b11⟩
            have X11 := Lib.hid (bt HW10.out.ex b11)
            clear b11 HW10 HR7 k7
            go_wp2_with fail
            (try simp only [Exit.inBlock, Exit.then])
            refine bodyPost_ret (v := (.bool true)) (by simp [results, Try.results5, go_sem, *]) rfl ?_
            exact ⟨_, rfl, rfl, X11.out⟩
          | ok he hs7 hc7 =>
            subst he
            unfold ansV
            have HS7 := Lib.hid hs7
            have RL7 := Lib.hid (own_rvv (OwC.chg OOW.out hc7 MF.tcg))
            have X7 := Lib.hid (hc7.ge HWv.out.ex)
            obtain ⟨A6, m6, c6, hr6, hk6⟩ := HWv.out.rv
            have HK7 := Lib.hid (hc7.blk hk6 (MF.trs _ _))
            have HR7 := Lib.hid (hr6.chg hc7 MF.tpa MF.tps)
            have HHW := Lib.hid HWv.out.hw
            have hln9 : (aft L o).length ≤ 9 * (j + 1) := by have := aft_len o L; omega
            have HLE := Lib.hid (show ∀ x ∈ Vs ++ [aft L o], x.length ≤ 9 * (j + 1) from fun x hx => by
              rcases List.mem_append.1 hx with hx | hx
              · have := HVZ.out x hx; omega
              · rw [List.mem_singleton.1 hx]; exact hln9)
            have k7 := HK7.out.cells
            simp only [cellsAre, Nat.zero_add, Nat.reduceAdd, and_true] at k7
            clear hs7 hc7 hk6 hr6 HWv ROW OOW HV HW
            go_wp2_with fail
            refine (zcommit_any HR7.out (by omega) (by omega) HL.out (by omega) A5 9 c5 o RL7.out (by omega)).mono ?_
            rintro e w9 ⟨v9, rfl, hr9, b9⟩
            obtain ⟨A9, m9, c9, rfl, hh9⟩ := hr9.form
            clear hh9
            have HS9 := Lib.hid (HS7.out.ext b9)
            have HR9 := Lib.hid hr9
            have HK9 := Lib.hid (HK7.out.below b9)
            have X9 := Lib.hid (bt X7.out b9)
            have k9 := HK9.out.cells
            simp only [cellsAre, Nat.zero_add, Nat.reduceAdd, and_true] at k9
            have f9 := HK9.out.free
            obtain ⟨Vt, hVt⟩ : ∃ Vt, Vs ++ [aft L o] = Vt := ⟨_, rfl⟩
            have hVtl : Vt.length = Vs.length + 1 := by rw [← hVt, List.length_append, List.length_singleton]
            rw [hVt] at HS9 HR9 HLE
            clear b9 hr9 HS7 HR7 HK7 RL7 X7 k7 hVt
            go_upto_region 23 with fail
            refine wp_world (fun W => FiS w W s d H keep sz Vt) (FiS.put HS9.out ⟨_, _, HK9.out⟩ HR9.out X9.out HHW.out fun x hx => by have := HLE.out x hx; omega).1 ?_
            clear HS9 HR9 HK9 X9 k9 f9
            rintro W10 hw10
            have HW10 := Lib.hid hw10
            obtain ⟨A7, m7, c7, hr7, hk7⟩ := hw10.rv
            have k7 := hk7.cells
            simp only [cellsAre, Nat.zero_add, Nat.reduceAdd, and_true] at k7
            have HR7 := Lib.hid hr7
            clear hw10 hr7 hk7
            go_wp2_with fail
            refine (znewest_any HR7.out (by omega)).mono ?_
            rintro e w11 ⟨v11, rfl, rfl, b11⟩
            rw [show ((Vt.length : Int) - 1) = (Vs.length : Int) by omega]
            have HW11 := Lib.hid (HW10.out.ext b11)
            clear b11 HW10 HR7 k7
            go_wp2_with fail
            exact ⟨⟨j + 1, Vt, by omega, rfl, by omega, HLE.out, HW11.out⟩, by simp [intOf]; omega⟩
    · obtain ⟨A6, m6, c6, hr6, hk6⟩ := HW.out.rv
      have k6 := hk6.cells
      simp only [cellsAre, Nat.zero_add, Nat.reduceAdd, and_true] at k6
      have HR6 := Lib.hid hr6
      clear hr6 hk6
      have p1 : ¬ (j : Int) < 30 := by omega
      go_wp2_with fail
      refine (st_alike HW.out.st HR6.out (by omega) (by omega) (fun x hx => by have := HW.out.le x hx; omega)).mono ?_
      rintro e w12 ⟨v12, rfl, rfl, b12⟩
      have X12 := Lib.hid (bt HW.out.ex b12)
      clear b12 HW HR6 k6
      go_wp2_with fail
      (try simp only [Exit.inBlock, Exit.then])
      refine bodyPost_ret (v := (.bool true)) (by simp [results, Try.results5, go_sem, *]) rfl ?_
      exact ⟨_, rfl, rfl, X12.out⟩
end Go.Proofs.Tb
