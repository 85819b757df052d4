/- The law's alike at a store that has the versions. (With what follows it, in one text.) -/
import Derived.Test.YtfljnfdeboibhaaTwc
set_option linter.unusedVariables false
set_option linter.unusedSimpArgs false
/- The law's alike at a store that has the versions. -/
namespace Go.Proofs.Tb
open Go.Maps Go.RowKit Go.Lib
attribute [local go_sem] cell_set_same neqMapL

theorem verB_cases (N k : Nat) (v : Int) : verB N k v = 0 ∨ verB N k v = 1 ∨ verB N k v = 10 := by
  unfold verB
  split
  · exact .inr (.inl rfl)
  · split
    · exact .inr (.inr rfl)
    · exact .inl rfl
theorem verB_zero {N k : Nat} {v : Nat} (h : verB N k (v : Int) = 0) (hk : 0 < k) : v ≤ N ∧ N - v < k := by
  unfold verB at h
  split at h
  · cases h
  · split at h
    · cases h
    · omega
theorem VsR.vsn {keep : Nat} {vs : List (Nat × MT)} {Vs : List (List Pr)} (h : VsR keep vs Vs) : VsN vs (Vs.length - 1) := by
  have h1 := h.len
  have h2 : 0 < Vs.length := List.length_pos_iff.2 h.nv
  refine ⟨h.pos, by omega, fun i hi => ?_⟩
  obtain ⟨t, h3, _⟩ := h.at_ i hi
  rw [List.getElem?_eq_getElem hi] at h3
  injection h3 with h3
  rw [h3]
theorem sl_empty (x : Str) : sl x ⟨#[]⟩ = false := by
  unfold sl
  rw [show (⟨#[]⟩ : Str).toList = [] by rw [ByteArray.toList, ByteArray.toList.loop]; rfl]
  cases x.toList <;> rfl
theorem rngP_all {l : List Pr} (h : l.length ≤ 1000) : rngP l ⟨#[]⟩ ⟨#[]⟩ 1000 = l := by
  have e : geP ⟨#[]⟩ l = l := List.filter_eq_self.2 fun p _ => by simp [sl_empty]
  unfold rngP
  rw [e]
  exact rng_all (fun p _ => rfl) h
/-- Where alike stands. -/
structure AlS (w W : World) (H : Nat) (A : Option Addr) (n c keep : Nat) : Prop where
  ex : Ext w W
  hd : Blk W H TRS #[.slice A n c, .int .i64 (keep : Int)]
theorem AlS.ext {w W W' : World} {H : Nat} {A : Option Addr} {n c keep : Nat} (h : AlS w W H A n c keep) (x : Ext W W') : AlS w W' H A n c keep := ⟨bt h.ex x, h.hd.below x⟩
set_option maxHeartbeats 6400000 in
set_option maxRecDepth 100000 in
theorem ralike_any {w : World} {s d keep : Nat} {vs : List (Nat × MT)} {B : Nat → Nat} {br : Bool} {Vs : List (List Pr)} {rv : Value} (h : SR w s d keep vs B br) (hv : VsR keep vs Vs) (hr : RSv w rv Vs keep) (hl : Vs.length ≤ 100000) (hk : keep ≤ 100000) (hz : ∀ l ∈ Vs, l.length ≤ 1000) :
    Calls Try.prog 16 #[.pointer (some ⟨s, 0, none⟩), rv] w (Ret (fun z _ => z = .bool true) w) := by
  have hvn := hv.vsn
  have hlen := hv.len
  have hp0 : 0 < Vs.length := List.length_pos_iff.2 hv.nv
  obtain ⟨t0, hf⟩ := hvn.first
  obtain ⟨t1, hla⟩ := hvn.last
  obtain ⟨A, n, c, rfl, hov, hn, hnc, hcc⟩ := hr.form
  obtain ⟨N, hN⟩ : ∃ N, Vs.length - 1 = N := ⟨_, rfl⟩
  rw [hN] at hvn hf hla
  rw [show N - (vs.length - 1) = N - keep by omega] at hla
  have HA := Lib.hid h
  have HV := Lib.hid hv
  have HR := Lib.hid hr
  have HO := Lib.hid hov
  have HZ := Lib.hid hz
  have HF := Lib.hid hf
  have HL := Lib.hid hla
  have HVN := Lib.hid hvn
  have HNN := Lib.hid (show ((Vs.length : Int) - 1) = (N : Int) by omega)
  have HOO := Lib.hid (show ((Vs.length - 1 - keep : Nat) : Int) = ((N - keep : Nat) : Int) by omega)
  have w1_ : IntKind.i64.wrap (((N - keep : Nat) : Int) - 1) = ((N - keep : Nat) : Int) - 1 := IntWalk.i64_in _ (by omega)
  have w2_ : max 0 (((N - keep : Nat) : Int) - 1) = ((N - keep - 1 : Nat) : Int) := by omega
  have w3_ : IntKind.i64.wrap ((N : Int) + 1) = (N : Int) + 1 := IntWalk.i64_in _ (by omega)
  have HNL := Lib.hid hn
  have hn1 : n ≤ 100000 := by omega
  clear h hv hr hov hz hf hla hvn hn
  go_enter Try.func16, Try.ntmps16
  go_upto_region 1 with fail
  refine wp_world (fun W => AlS w W w.heap.size A n c keep) ⟨Ext.allocR _ _, Blk.new_ _ _ rfl⟩ ?_
  rintro W1 hw1
  have HW1 := Lib.hid hw1
  have k1 := hw1.hd.cells
  simp only [cellsAre, Nat.zero_add, Nat.reduceAdd, and_true] at k1
  clear hw1
  go_wp2_with fail
  refine (znewest_any (HR.out.ext HW1.out.ex) (by omega)).mono ?_
  rintro e w2 ⟨v2, rfl, rfl, b2⟩
  rw [HNN.out]
  have HW2 := Lib.hid (HW1.out.ext b2)
  clear k1 HW1 b2
  go_upto_region 2 with fail
  have hst : Ext w2 w2.drew := Ext.drew _
  have kk := fun w' (hh : Ext w2 w') => (HW2.out.hd.below hh).cells
  simp only [cellsAre, Nat.zero_add, Nat.reduceAdd, and_true] at kk
  refine wp_region_adv 8 [] [(0, true, some 11, none), (2, true, some 13, none), (1, false, some 12, none), (3, true, some 14, none), (4, true, some 15, none), (5, true, some 16, some (15, false)), (7, true, some 18, some (15, false)), (6, false, some 17, some (15, false))] (by kernel_rfl) (by kernel_rfl) (by kernel_rfl) (by intro it hit; (repeat (rcases List.mem_cons.1 hit with rfl | hit; (focus (intro o ho ev w; injection ho with ho; subst ho; kernel_rfl)))); cases hit) (fun _ _ _ _ _ => ⟨fun h => h, fun h => h⟩) hst ?_
  repeat (first | (refine wpSeq_pure (v := ?_) rfl ?_ ?_; rotate_left 1; (focus (intro wq_ hSq_; (try dsimp only at hSq_); go_simp; (try with_reducible rfl); done)); (try simp only [Act.put, List.setIfInBounds_toArray, List.set_cons_zero, List.set_cons_succ])) | (refine wpSeq_pureG (v := ?_) rfl rfl ?_ ?_; rotate_left 1; (focus (intro wq_ hSq_; (try dsimp only at hSq_); go_simp; (try with_reducible rfl); done)); (try simp only [Act.put, List.setIfInBounds_toArray, List.set_cons_zero, List.set_cons_succ])) | (refine wpSeq_off rfl rfl ?_; (try simp only [Act.put, List.setIfInBounds_toArray, List.set_cons_zero, List.set_cons_succ])) | (refine wpSeq_offU rfl ?_; (try simp only [Act.put, List.setIfInBounds_toArray, List.set_cons_zero, List.set_cons_succ])))
  first | refine wpSeq_call rfl (fun u1 g1 s1 K hK => ?_) | refine wpSeq_callG rfl rfl (fun u1 g1 s1 K hK => ?_)
  go_simp
  refine (rnewest_any (HA.out.ext (bt HW2.out.ex s1)) HF.out).mono ?_
  rintro e y1 ⟨z1, rfl, rfl, b1⟩
  (try go_wp2_with fail)
  refine hK.out _ _ b1 ?_
  clear hK K
  (try simp only [Act.put, List.setIfInBounds_toArray, List.set_cons_zero, List.set_cons_succ])
  repeat (first | (refine wpSeq_pure (v := ?_) rfl ?_ ?_; rotate_left 1; (focus (intro wq_ hSq_; (try dsimp only at hSq_); go_simp; (try with_reducible rfl); done)); (try simp only [Act.put, List.setIfInBounds_toArray, List.set_cons_zero, List.set_cons_succ])) | (refine wpSeq_pureG (v := ?_) rfl rfl ?_ ?_; rotate_left 1; (focus (intro wq_ hSq_; (try dsimp only at hSq_); go_simp; (try with_reducible rfl); done)); (try simp only [Act.put, List.setIfInBounds_toArray, List.set_cons_zero, List.set_cons_succ])) | (refine wpSeq_off rfl rfl ?_; (try simp only [Act.put, List.setIfInBounds_toArray, List.set_cons_zero, List.set_cons_succ])) | (refine wpSeq_offU rfl ?_; (try simp only [Act.put, List.setIfInBounds_toArray, List.set_cons_zero, List.set_cons_succ])))
  first | refine wpSeq_call rfl (fun u2 g2 s2 K hK => ?_) | refine wpSeq_callG rfl rfl (fun u2 g2 s2 K hK => ?_)
  go_simp
  refine (roldest_any (HA.out.ext (bt HW2.out.ex s2)) HVN.out.pos HL.out).mono ?_
  rintro e y2 ⟨z2, rfl, rfl, b2⟩
  (try go_wp2_with fail)
  refine hK.out _ _ b2 ?_
  clear hK K
  (try simp only [Act.put, List.setIfInBounds_toArray, List.set_cons_zero, List.set_cons_succ])
  repeat (first | (refine wpSeq_pure (v := ?_) rfl ?_ ?_; rotate_left 1; (focus (intro wq_ hSq_; (try dsimp only at hSq_); go_simp; (try with_reducible rfl); done)); (try simp only [Act.put, List.setIfInBounds_toArray, List.set_cons_zero, List.set_cons_succ])) | (refine wpSeq_pureG (v := ?_) rfl rfl ?_ ?_; rotate_left 1; (focus (intro wq_ hSq_; (try dsimp only at hSq_); go_simp; (try with_reducible rfl); done)); (try simp only [Act.put, List.setIfInBounds_toArray, List.set_cons_zero, List.set_cons_succ])) | (refine wpSeq_off rfl rfl ?_; (try simp only [Act.put, List.setIfInBounds_toArray, List.set_cons_zero, List.set_cons_succ])) | (refine wpSeq_offU rfl ?_; (try simp only [Act.put, List.setIfInBounds_toArray, List.set_cons_zero, List.set_cons_succ])))
  intro w3 g3 s3
  (try simp only [endJ, List.drop_succ_cons, List.drop_zero])
  have HW3 := Lib.hid (HW2.out.ext s3)
  clear hst kk g1 s1 b1 g2 s2 b2 g3 s3 HW2
  have k3 := HW3.out.hd.cells
  simp only [cellsAre, Nat.zero_add, Nat.reduceAdd, and_true] at k3
  go_wp2_with fail
  refine (zoldest_any (HR.out.ext HW3.out.ex) (by omega) (by omega)).mono ?_
  rintro e w4 ⟨v4, rfl, rfl, b4⟩
  rw [HOO.out]
  have HW4 := Lib.hid (HW3.out.ext b4)
  have k4 := (HW3.out.hd.below b4).cells
  simp only [cellsAre, Nat.zero_add, Nat.reduceAdd, and_true] at k4
  clear k3 b4 HW3
  go_wp2_with fail
  refine (zoldest_any (HR.out.ext HW4.out.ex) (by omega) (by omega)).mono ?_
  rintro e w5 ⟨v5, rfl, rfl, b5⟩
  rw [HOO.out]
  have HW5 := Lib.hid (HW4.out.ext b5)
  clear k4 b5 HW4
  obtain ⟨lo, hlo⟩ : ∃ lo : Nat, N - keep - 1 = lo := ⟨_, rfl⟩
  rw [hlo] at w2_
  have hloN : lo ≤ N := by omega
  clear hlo
  go_wp2_with fail
  go_loopw [6] (fun i wr => ∃ v : Nat, v ≤ N + 2 ∧ i = .int .i64 (v : Int) ∧ AlS w wr w.heap.size A n c keep) (fun i _ => N + 2 - (intOf i).toNat)
  case atStart => exact ⟨lo, by omega, rfl, HW5.out⟩
  case round =>
    clear HW5
    obtain ⟨v, hvN, rfl, hw⟩ := hrel
    have HW := Lib.hid hw
    clear hw
    by_cases hvl : v ≤ N + 1
    · have pv : (v : Int) ≤ (N : Int) + 1 := by omega
      have wv : IntKind.i64.wrap ((v : Int) + 1) = ((v + 1 : Nat) : Int) := by rw [IntWalk.i64_in _ (by omega)]; rfl
      obtain ⟨er, her⟩ : ∃ er, verB N vs.length (v : Int) = er := ⟨_, rfl⟩
      have HEr := Lib.hid her
      by_cases h0 : er = 0
      · subst h0
        obtain ⟨hvN2, hvk⟩ := verB_zero her (by omega)
        obtain ⟨i, hi⟩ : ∃ i, N - v = i := ⟨_, rfl⟩
        rw [hi] at hvk
        obtain ⟨t, ht1, ht2, _⟩ := HV.out.at_ i hvk
        have hu : (vs[i]).2 = t := by
          rw [List.getElem?_eq_getElem hvk] at ht1
          injection ht1 with ht1
          rw [ht1]
        have hev : Vs.length - 1 - i = v := by omega
        have hvV : v < Vs.length := by omega
        rw [hev] at ht2
        have hvv : Vs.getD v [] = Vs[v] := by simp [List.getD, hvV]
        have hsr := (HV.out.ok _ (List.getElem_mem hvV)).1
        have hsz := HZ.out _ (List.getElem_mem hvV)
        rw [hvv] at ht2
        have hts : t.er.size = (Vs[v]).length := by rw [← ht2, Tr.size_prs]
        have HC := Lib.hid (callsIn_wide.1 (rrange_in (HA.out.ext HW.out.ex) HVN.out (by omega) hvk (v := (v : Int)) (by omega) hu (by rw [ht2]; exact hsr) (by omega) ⟨#[]⟩ ⟨#[]⟩ 1000 (by omega) (by decide)))
        rw [ht2, rngP_all hsz] at HC
        obtain ⟨b, o, Az, cz, rfl, kz, hz⟩ := HO.out.at_ hvV
        obtain ⟨L, hL⟩ : ∃ L, Vs[v] = L := ⟨_, rfl⟩
        rw [hL] at kz hz HC hsz
        have pn : (v : Int) < (n : Int) := by have := HNL.out; omega
        have HZ2 := Lib.hid hz
        clear her hi ht1 ht2 hu hev hvv hsr hts hL hz
        go_wp2_with fail
        refine HC.out.mono ?_
        rintro e w6 ⟨v6, rfl, ⟨z6, rfl, o6⟩, b6⟩
        unfold ansR
        obtain ⟨A6, c6, rfl, r6⟩ := OwP.rv o6
        have HW6 := Lib.hid (HW.out.ext b6)
        have k6 := HW6.out.hd.cells
        simp only [cellsAre, Nat.zero_add, Nat.reduceAdd, and_true] at k6
        have R6 := Lib.hid r6
        clear b6 HW HC o6 r6
        go_wp2_with fail
        refine (zversion_any (HR.out.ext HW6.out.ex) (by omega) (by omega) (by omega) (v : Int)).mono ?_
        rintro e w7 ⟨v7, rfl, rfl, b7⟩
        rw [show verB (Vs.length - 1) (min (keep + 1) Vs.length) (v : Int) = 0 by rw [hN, ← hlen]; exact HEr.out]
        have HW7 := Lib.hid (HW6.out.ext b7)
        have R7 := Lib.hid (R6.out.below b7)
        have k7 := HW7.out.hd.cells
        simp only [cellsAre, Nat.zero_add, Nat.reduceAdd, and_true] at k7
        have kz7 := ext_cell HW7.out.ex kz
        clear b7 HW6 k6 R6 kz
        go_wp2_with fail
        refine (zsame_any A6 Az _ c6 _ cz L w7 R7.out (HZ2.out.below HW7.out.ex) (by omega)).mono ?_
        rintro e w8 ⟨v8, rfl, rfl, b8⟩
        have HW8 := Lib.hid (HW7.out.ext b8)
        clear b8 HW7 R7 kz7 k7
        go_wp2_with fail
        exact ⟨⟨v + 1, by omega, rfl, HW8.out⟩, by simp [intOf]; omega⟩
      · have HC := Lib.hid (rrange_err (HA.out.ext HW.out.ex) HVN.out (by omega) (v : Int) er her h0 ⟨#[]⟩ ⟨#[]⟩ 1000)
        have q1 : decide (er = er) = true := by simp
        have q0 : decide (er = 0) = false := by simpa using h0
        clear her
        go_wp2_with fail
        refine HC.out.mono ?_
        rintro e w6 ⟨v6, rfl, rfl, b6⟩
        unfold ansR
        have HW6 := Lib.hid (HW.out.ext b6)
        have k6 := HW6.out.hd.cells
        simp only [cellsAre, Nat.zero_add, Nat.reduceAdd, and_true] at k6
        clear b6 HW HC
        go_wp2_with fail
        refine (zversion_any (HR.out.ext HW6.out.ex) (by omega) (by omega) (by omega) (v : Int)).mono ?_
        rintro e w7 ⟨v7, rfl, rfl, b7⟩
        rw [show verB (Vs.length - 1) (min (keep + 1) Vs.length) (v : Int) = er by rw [hN, ← hlen]; exact HEr.out]
        have HW7 := Lib.hid (HW6.out.ext b7)
        have k7 := HW7.out.hd.cells
        simp only [cellsAre, Nat.zero_add, Nat.reduceAdd, and_true] at k7
        clear b7 HW6 k6
        go_wp2_with fail
        exact ⟨⟨v + 1, by omega, rfl, HW7.out⟩, by simp [intOf]; omega⟩
    · have pv : ¬ (v : Int) ≤ (N : Int) + 1 := by omega
      go_wp2_with fail
      (try simp only [Exit.inBlock, Exit.then])
      refine bodyPost_ret (v := (.bool true)) (by simp [results, Try.results16, go_sem, *]) rfl ?_
      exact ⟨_, rfl, rfl, HW.out.ex⟩
end Go.Proofs.Tb
/- The law's lives and opened. -/
namespace Go.Proofs.Tb
open Go.Maps Go.RowKit Go.Lib
attribute [local go_sem] cell_set_same neqMapL

/-- Get at a kept version. -/
theorem st_get {F : Nat → Prop} {w : World} {s d keep n : Nat} {Vs : List (List Pr)} (h : STx F w s d keep n Vs) (hV : Vs.length ≤ 100000) {v : Nat} (hv : v < Vs.length) (hk : Vs.length - 1 - v ≤ keep) (k : Str) (hk1 : keyB k = true) (hk2 : k.size ≤ 1000000000) :
    Calls Try.prog 47 #[.pointer (some ⟨s, 0, none⟩), .int .i64 (v : Int), .string k] w (Ret (fun z _ => z = ansG (fndP (Vs.getD v []) k) 0) w) := by
  obtain ⟨vs, B, bl, h1, h2, h3, h4⟩ := h
  have hlen := h2.len
  have hi : Vs.length - 1 - v < vs.length := by omega
  obtain ⟨t, ht1, ht2, _⟩ := h2.at_ _ hi
  have hu : (vs[Vs.length - 1 - v]).2 = t := by
    rw [List.getElem?_eq_getElem hi] at ht1
    injection ht1 with ht1
    rw [ht1]
  have ho := (h2.okAt hi).1
  rw [show Vs.length - 1 - (Vs.length - 1 - v) = v by omega] at ht2 ho
  have := rget_ok h1.sr h2.vsn (by omega) hi (v := (v : Int)) (by omega) hu (by rw [ht2]; exact ho) k hk1 hk2
  rw [ht2] at this
  exact this
/-- alike at a store. -/
theorem st_alike {F : Nat → Prop} {w : World} {s d keep n : Nat} {Vs : List (List Pr)} {rv : Value} (h : STx F w s d keep n Vs) (hr : RSv w rv Vs keep) (hl : Vs.length ≤ 100000) (hk : keep ≤ 100000) (hz : ∀ l ∈ Vs, l.length ≤ 1000) :
    Calls Try.prog 16 #[.pointer (some ⟨s, 0, none⟩), rv] w (Ret (fun z _ => z = .bool true) w) := by
  obtain ⟨vs, B, bl, h1, h2, h3, h4⟩ := h
  exact ralike_any h1.sr h2 hr hl hk hz
def sA : Str := ⟨#[97]⟩
def sB : Str := ⟨#[98]⟩
def s1_ : Str := ⟨#[49]⟩
def s2_ : Str := ⟨#[50]⟩
def sE : Str := ByteArray.empty
def cs1 : List Cg := [⟨sA, s1_, false⟩]
def cs2 : List Cg := [⟨sA, sE, true⟩, ⟨sB, s2_, false⟩]
theorem aft1 : aft [] cs1 = [(sA, s1_)] := rfl
theorem aft2 : aft [(sA, s1_)] cs2 = [(sB, s2_)] := by
  have e : delP [(sA, s1_)] sA = [] := by
    unfold delP low high
    simp only [List.filter_cons, sl_irrefl, List.filter_nil, Bool.false_eq_true, if_false, List.append_nil]
  show apP (apP [(sA, s1_)] ⟨sA, sE, true⟩) ⟨sB, s2_, false⟩ = _
  have e2 : apP [(sA, s1_)] ⟨sA, sE, true⟩ = [] := e
  rw [e2]
  rfl
theorem fit_small (Vs : List (List Pr)) (keep : Nat) (L : List Pr) (h1 : Vs.length ≤ 2) (h2 : ∀ l ∈ Vs, l.length ≤ 3) (h3 : L.length ≤ 3) (n : Nat) (hn : 324 ≤ n) : fitB Vs keep L (n : Int) = true := by
  unfold fitB
  rw [decide_eq_true_iff]
  have hm : ∀ l ∈ (Vs ++ [L]).drop (Vs.length - 1 - keep), l.length ≤ 3 := fun l hl => by
    rcases List.mem_append.1 (List.mem_of_mem_drop hl) with h | h
    · exact h2 l h
    · rw [List.mem_singleton.1 h]; exact h3
  have := fitN_le _ hm
  have hl : ((Vs ++ [L]).drop (Vs.length - 1 - keep)).length ≤ 3 := by rw [List.length_drop, List.length_append, List.length_singleton]; omega
  have h5 : ((Vs ++ [L]).drop (Vs.length - 1 - keep)).length * (4 * (3 + 24)) ≤ 3 * (4 * (3 + 24)) := Nat.mul_le_mul_right _ hl
  omega
theorem fit1 : fitB [[]] 1 (aft [] cs1) ((512 : Nat) : Int) = true := fit_small _ _ _ (by decide) (fun l hl => by rw [List.mem_singleton.1 hl]; decide) (by rw [aft1]; decide) _ (by omega)
theorem fit2 : fitB ([[]] ++ [[(sA, s1_)]]) 1 (aft [(sA, s1_)] cs2) ((512 : Nat) : Int) = true := by
  refine fit_small _ _ _ (Nat.le_refl _) (fun l hl => ?_) (by rw [aft2]; decide) _ (by omega)
  rcases List.mem_cons.1 hl with rfl | hl
  · decide
  · rw [List.mem_singleton.1 hl]; decide
/-- A Commit that fits. -/
theorem st_commit_fit {F : Nat → Prop} {w : World} {s d keep n : Nat} {Vs : List (List Pr)} (h : STx F w s d keep n Vs) (hF : ∀ b, w.heap.size ≤ b → F b) (hn : 2 ≤ n) (hk : keep ≤ 18) (hV : Vs.length ≤ 1000) {L : List Pr} (hL : Vs.getD (Vs.length - 1) [] = L) (hLl : L.length ≤ 10000)
    (A : Option Addr) (m c : Nat) (cs : List Cg) (hr : Rv w 3 A m c (ccs cs)) (hb : batB cs = true) (hfit : fitB Vs keep (aft L cs) (n : Int) = true) :
    Calls Try.prog 13 #[.pointer (some ⟨s, 0, none⟩), .slice A m c] w fun e w' => e = ansV (Vs.length : Int) 0 ∧ STx F w' s d keep n (Vs ++ [aft L cs]) ∧ Chg (MF F) w w' := by
  refine (st_commit h hF hn hk hV hL hLl A m c cs hr hb).mono ?_
  intro e w' ha
  cases ha with
  | ok a b c => exact ⟨a, b, c⟩
  | full hf _ _ => rw [hfit] at hf; cases hf
theorem Chg.ge {w0 w w' : World} (h : Chg (MF fun b => w0.heap.size ≤ b) w w') (hx : Ext w0 w) : Ext w0 w' := by
  have h1 : Below w0.heap.size w w' := h.below (fun b o hb => hb.1) hx.size
  exact Below.trans hx h1
set_option maxHeartbeats 6400000 in
set_option maxRecDepth 100000 in
theorem rlives_any (w : World) : Calls Try.prog 11 #[] w (Ret (fun z _ => z = .bool true) w) := by
  go_enter Try.func11, Try.ntmps11
  go_wp2_with fail
  refine (rnewdisk_ok (F := fun b => w.heap.size ≤ b) 512 (by omega) (by omega) w (fun b h => h)).mono ?_
  rintro e w1 ⟨v1, rfl, ⟨d, rfl, hd⟩, b1⟩
  have X1 := Lib.hid b1
  have HD := Lib.hid hd
  clear hd b1
  go_wp2_with fail
  refine (st_open (keep := 1) HD.out (fun b hb => Nat.le_trans X1.out.size hb) (by omega) (by omega)).mono ?_
  rintro e w2 ⟨⟨s, rfl, hs⟩, hc⟩
  have X2 := Lib.hid (hc.ge X1.out)
  have HS := Lib.hid hs
  clear hs hc X1 HD
  go_wp2_with fail
  have hr3 : Rv (w2.alloc (.cells #[.string ⟨#[97]⟩, .string ⟨#[49]⟩, .bool false] TCG)) 3 (some ⟨w2.heap.size, 0, none⟩) 1 1 (ccs cs1) := rv_lit TCG 3 #[.string ⟨#[97]⟩, .string ⟨#[49]⟩, .bool false] 1 (by omega) rfl
  have x3 : Ext w2 (w2.alloc (.cells #[.string ⟨#[97]⟩, .string ⟨#[49]⟩, .bool false] TCG)) := Ext.allocR _ _
  have X3 := Lib.hid (bt X2.out x3)
  have hs3 := HS.out.ext x3
  have f3 := fit1
  refine (st_commit_fit hs3 (fun b hb => Nat.le_trans X3.out.size hb) (by omega) (by omega) (by decide) (L := []) rfl (by decide) _ _ _ cs1 hr3 (by decide) f3).mono ?_
  rintro e w4 ⟨rfl, hs4, hc4⟩
  rw [aft1] at hs4
  unfold ansV
  have X4 := Lib.hid (hc4.ge X3.out)
  have HS4 := Lib.hid hs4
  clear hs4 hc4 hs3 hr3 x3 X3 HS X2 f3
  go_wp2_with fail
  have hr5 : Rv (w4.alloc (.cells #[.string ⟨#[97]⟩, .string ⟨#[]⟩, .bool true, .string ⟨#[98]⟩, .string ⟨#[50]⟩, .bool false] TCG)) 3 (some ⟨w4.heap.size, 0, none⟩) 2 2 (ccs cs2) := rv_lit TCG 3 #[.string ⟨#[97]⟩, .string ⟨#[]⟩, .bool true, .string ⟨#[98]⟩, .string ⟨#[50]⟩, .bool false] 2 (by omega) rfl
  have x5 : Ext w4 (w4.alloc (.cells #[.string ⟨#[97]⟩, .string ⟨#[]⟩, .bool true, .string ⟨#[98]⟩, .string ⟨#[50]⟩, .bool false] TCG)) := Ext.allocR _ _
  have X5 := Lib.hid (bt X4.out x5)
  have hs5 := HS4.out.ext x5
  have f5 := fit2
  refine (st_commit_fit hs5 (fun b hb => Nat.le_trans X5.out.size hb) (by omega) (by omega) (by decide) (L := [(sA, s1_)]) rfl (by decide) _ _ _ cs2 hr5 (by decide) f5).mono ?_
  rintro e w6 ⟨rfl, hs6, hc6⟩
  rw [aft2] at hs6
  unfold ansV
  have X6 := Lib.hid (hc6.ge X5.out)
  have HS6 := Lib.hid hs6
  clear hs6 hc6 hs5 hr5 x5 X5 HS4 X4 f5
  go_wp2_with fail
  refine (st_get HS6.out (by decide) (v := 1) (by decide) (by decide) sA (by decide) (by decide)).mono ?_
  rintro e w7 ⟨v7, rfl, rfl, b7⟩
  rw [show ansG (fndP (([[]] ++ [[(sA, s1_)]] ++ [[(sB, s2_)]] : List (List Pr)).getD 1 []) sA) 0 = .tuple #[.string ⟨#[49]⟩, .bool true, .int .i64 0] from rfl]
  have X7 := Lib.hid (bt X6.out b7)
  have HS7 := Lib.hid (HS6.out.ext b7)
  clear b7 X6 HS6
  go_wp2_with fail
  refine (st_get HS7.out (by decide) (v := 2) (by decide) (by decide) sA (by decide) (by decide)).mono ?_
  rintro e w8 ⟨v8, rfl, rfl, b8⟩
  rw [show ansG (fndP (([[]] ++ [[(sA, s1_)]] ++ [[(sB, s2_)]] : List (List Pr)).getD 2 []) sA) 0 = .tuple #[.string ByteArray.empty, .bool false, .int .i64 0] from rfl]
  have X8 := Lib.hid (bt X7.out b8)
  clear b8 X7 HS7
  go_wp2_with fail
  (try simp only [Exit.inBlock, Exit.then])
  refine bodyPost_ret (v := (.bool true)) (by simp [results, Try.results11, go_sem, *]) rfl ?_
  exact ⟨_, rfl, rfl, X8.out⟩
end Go.Proofs.Tb

