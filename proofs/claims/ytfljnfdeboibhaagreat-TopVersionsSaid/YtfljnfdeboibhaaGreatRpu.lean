/- TopVersions: the walk. -/
import Derived.Test.YtfljnfdeboibhaaGreatRpt
import Derived.Deep.CutBlock
import Derived.Deep.CutRange
set_option linter.unusedVariables false
set_option linter.unusedSimpArgs false
namespace Go.Proofs.Tb
open Go.Maps Go.RowKit Go.Lib
attribute [local go_sem] cell_set_same neqMapL

abbrev TA3 : TypeId := 105
/-- Rows of changes in memory. -/
structure ChX (w : World) (A : Option Addr) (n c : Nat) : Prop where
  le : n ≤ c
  cap : c ≤ 9223372036854775807
  at_ : ∀ j, j < n → ∃ b o, A = some ⟨b, o, none⟩ ∧ ∃ A' n' c' cs, w.cell? ⟨b, o + j, none⟩ = some (.slice A' n' c') ∧ Rv w 3 A' n' c' (ccs cs) ∧ ∀ x ∈ cs, x.k.size ≤ 9223372036854775807 ∧ x.v.size ≤ 9223372036854775807
/-- The versions that are committed first. -/
structure VsT (Vs : List (List Pr)) (j : Nat) : Prop where
  ln : Vs.length = j + 1
  ze : Vs.getD 0 [] = []
  le : ∀ x ∈ Vs, x.length ≤ 6 * j
  ky : ∀ x ∈ Vs, KyV x
theorem VsT.zero : VsT [[]] 0 := ⟨rfl, rfl, fun x hx => by rw [List.mem_singleton.1 hx]; exact Nat.zero_le _, fun x hx => by rw [List.mem_singleton.1 hx]; exact fun p hp => by cases hp⟩
theorem VsT.at_ {Vs : List (List Pr)} {j : Nat} (h : VsT Vs j) {v : Nat} (hv : v < j + 1) : Vs.getD v [] ∈ Vs := by
  rw [List.getD_eq_getElem?_getD, List.getElem?_eq_getElem (by rw [h.ln]; exact hv)]
  exact List.getElem_mem _
theorem VsT.snoc {Vs : List (List Pr)} {j : Nat} (h : VsT Vs j) {o : List Cg} (ho : SmC o) (hl : o.length ≤ 6) : VsT (Vs ++ [aft (lastV Vs) o]) (j + 1) := by
  have hm : lastV Vs ∈ Vs := h.at_ (v := Vs.length - 1) (by rw [h.ln]; omega)
  refine ⟨by rw [List.length_append, h.ln]; rfl, ?_, fun x hx => ?_, fun x hx => ?_⟩
  · have := h.ze
    rw [List.getD_eq_getElem?_getD, List.getElem?_append_left (by rw [h.ln]; omega)]
    rw [List.getD_eq_getElem?_getD] at this
    exact this
  · rcases List.mem_append.1 hx with hx | hx
    · have := h.le x hx; omega
    · rw [List.mem_singleton.1 hx]
      have h1 := aft_len o (lastV Vs)
      have h2 := h.le _ hm
      omega
  · rcases List.mem_append.1 hx with hx | hx
    · exact h.ky x hx
    · rw [List.mem_singleton.1 hx]; exact (h.ky _ hm).aft ho
/-- A list of changes is put on the second store. -/
theorem tri_putsP {w W : World} {s d p dp q dq : Nat} {Vs Ps Qs : List (List Pr)} (h : Tri w W s d p dp q dq Vs Ps Qs 0) {k : Nat} (hk : Ps.length ≤ k) (hk5 : k ≤ 400) {L L' : List Pr} (hL : lastV Ps = L) {A : Option Addr} {n c : Nat} {l : List Cg} (hr : OwC 0 W (.slice A n c) l) (hc : ∀ x ∈ l, chgB x = true) (hn : n ≤ 100) (hm : ∀ x ∈ Ps, x.length ≤ 400) (hLn : L.length ≤ 100) (ha : aft L l = L') :
    Calls Tryz.prog 55 #[.pointer (some ⟨p, 0, none⟩), .slice A n c] W fun e W' => e = .returned (.bool true) ∧ ∃ Ps', Tri w W' s d p dp q dq Vs Ps' Qs 0 ∧ Ps'.length ≤ k + 100 ∧ lastV Ps' = L' ∧ (∀ x ∈ Ps', x.length ≤ 400) ∧ ∀ A n c l, OwC 0 W (.slice A n c) l → OwC 0 W' (.slice A n c) l := by
  obtain ⟨G, g1, g2, g3, g4⟩ := h.onP
  have hll : l.length = n := by have := (own_rvv hr).len; rw [ccs_len] at this; omega
  refine (tputs_any (m := 400) g1 g2 (by omega) (by omega) hL A n c l (fun X hX => own_rvv (OwC.chg hr hX MF.tcg)) (by omega) hc hm (by omega) (by decide) (by omega)).mono ?_
  rintro e W' ⟨rfl, Ps', hp⟩
  refine ⟨rfl, Ps', g4 W' Ps' hp.st hp.ch, by have := hp.ln; omega, ?_, hp.le, fun A n c l ho => OwC.chg ho hp.ch MF.tcg⟩
  rw [hp.ls, List.take_of_length_le (by omega)]; exact ha
/-- A list of changes is put on the third store. -/
theorem tri_putsQ {w W : World} {s d p dp q dq : Nat} {Vs Ps Qs : List (List Pr)} (h : Tri w W s d p dp q dq Vs Ps Qs 0) {k : Nat} (hk : Qs.length ≤ k) (hk5 : k ≤ 400) {L L' : List Pr} (hL : lastV Qs = L) {A : Option Addr} {n c : Nat} {l : List Cg} (hr : OwC 0 W (.slice A n c) l) (hc : ∀ x ∈ l, chgB x = true) (hn : n ≤ 100) (hm : ∀ x ∈ Qs, x.length ≤ 400) (hLn : L.length ≤ 100) (ha : aft L l = L') :
    Calls Tryz.prog 55 #[.pointer (some ⟨q, 0, none⟩), .slice A n c] W fun e W' => e = .returned (.bool true) ∧ ∃ Qs', Tri w W' s d p dp q dq Vs Ps Qs' 0 ∧ Qs'.length ≤ k + 100 ∧ lastV Qs' = L' ∧ (∀ x ∈ Qs', x.length ≤ 400) ∧ ∀ A n c l, OwC 0 W (.slice A n c) l → OwC 0 W' (.slice A n c) l := by
  obtain ⟨G, g1, g2, g3, g4⟩ := h.onQ
  have hll : l.length = n := by have := (own_rvv hr).len; rw [ccs_len] at this; omega
  refine (tputs_any (m := 400) g1 g2 (by omega) (by omega) hL A n c l (fun X hX => own_rvv (OwC.chg hr hX MF.tcg)) (by omega) hc hm (by omega) (by decide) (by omega)).mono ?_
  rintro e W' ⟨rfl, Qs', hp⟩
  refine ⟨rfl, Qs', g4 W' Qs' 0 hp.st hp.ch, by have := hp.ln; omega, ?_, hp.le, fun A n c l ho => OwC.chg ho hp.ch MF.tcg⟩
  rw [hp.ls, List.take_of_length_le (by omega)]; exact ha
set_option maxHeartbeats 12800000 in
set_option maxRecDepth 100000 in
theorem rversions_any (A : Option Addr) (nx cx : Nat) (p0 p1 p2 act : Int) (w : World) (h : ChX w A nx cx) :
    Calls Tryz.prog 12 #[.slice A nx cx, .agg #[.int .i64 p0, .int .i64 p1, .int .i64 p2], .int .i64 act] w (Ret (fun z _ => z = .bool true) w) := by
  obtain ⟨ka, hka, eka⟩ := and15 act
  have hle := h.le
  have hcp := h.cap
  have HX := Lib.hid h
  have wka : IntKind.i64.wrap ((ka : Int) + 1) = ((ka + 1 : Nat) : Int) := by rw [IntWalk.i64_in _ (by omega)]; rfl
  clear h
  go_enter Tryz.func12, Tryz.ntmps12
  go_upto_region 1 with fail
  have x0 : Ext w (w.alloc (.cells #[.int .i64 p0, .int .i64 p1, .int .i64 p2] TA3)) := Ext.allocR _ _
  refine wp_world (fun W => Ext w W ∧ Blk W w.heap.size TA3 #[.int .i64 p0, .int .i64 p1, .int .i64 p2]) ⟨x0, Blk.new_ _ _ rfl⟩ ?_
  obtain ⟨P, hP⟩ : ∃ P, w.heap.size = P := ⟨_, rfl⟩
  rw [hP]
  rintro W0 ⟨hx0, hp0⟩
  have X0 := Lib.hid hx0
  have B0 := Lib.hid hp0
  clear x0 hx0 hp0 hP
  go_wp2_with fail
  refine (rnewdisk_ok (F := fun b => w.heap.size ≤ b) 4096 (by omega) (by omega) W0 (fun b hb => Nat.le_trans X0.out.size hb)).mono ?_
  rintro e w1 ⟨v1, rfl, ⟨d, rfl, hd⟩, b1⟩
  have X1 := Lib.hid (bt X0.out b1)
  have B1 := Lib.hid (B0.out.below b1)
  have HD1 := Lib.hid hd
  clear hd b1 X0 B0
  go_wp2_with fail
  refine (st_open (keep := 8) HD1.out (fun b hb => Nat.le_trans X1.out.size hb) (by omega) (by omega)).mono ?_
  rintro e w2 ⟨⟨s, rfl, hs⟩, hc⟩
  have HS2 := Lib.hid (show STl (fun b => w.heap.size ≤ b) w2 s d 8 4096 [[]] 0 from hs)
  have X2 := Lib.hid (hc.ge X1.out)
  have B2 := Lib.hid (hc.blk B1.out (fun hx => by
    have : TA3 = TDK ∨ TA3 = TBY ∨ TA3 = TSE := hx.2
    revert this
    decide))
  clear hs hc X1 B1 HD1
  go_upto_block 0 with fail
  go_cut [6, 11, 12, 13] from 66 to 87 (fun v6 v11 v12 v13 wx => ∃ (j : Nat) (Vs : List (List Pr)), j ≤ 6 ∧ VsT Vs j ∧ STl (fun b => w.heap.size ≤ b) wx s d 8 4096 Vs 0 ∧ Ext w wx ∧ Blk wx P TA3 #[.int .i64 p0, .int .i64 p1, .int .i64 p2])
  case first =>
    go_wp2_with fail
    go_loopw [11] (fun i wr => ∃ (j : Nat) (Vs : List (List Pr)), j ≤ nx ∧ j ≤ 6 ∧ i = .int .i64 (j : Int) ∧ VsT Vs j ∧ STl (fun b => w.heap.size ≤ b) wr s d 8 4096 Vs 0 ∧ Ext w wr ∧ Blk wr P TA3 #[.int .i64 p0, .int .i64 p1, .int .i64 p2]) (fun i _ => nx - (intOf i).toNat)
    case atStart => exact ⟨0, [[]], by omega, by omega, rfl, VsT.zero, HS2.out, X2.out, B2.out⟩
    case round =>
      clear HS2 X2 B2
      obtain ⟨j, Vs, hjn, hj6, rfl, hvt, hs, hx, hb⟩ := hrel
      have HVT := Lib.hid hvt
      have HS := Lib.hid hs
      have X := Lib.hid hx
      have HB := Lib.hid hb
      clear hvt hs hx hb
      by_cases hjj : j < nx ∧ j < 6
      · have q1 : (j : Int) < (nx : Int) := by omega
        have q2 : (j : Int) < 6 := by omega
        have wj : IntKind.i64.wrap ((j : Int) + 1) = ((j + 1 : Nat) : Int) := by rw [IntWalk.i64_in _ (by omega)]; rfl
        obtain ⟨b, o, rfl, Ab, nb, cb, bs, kb, hrb, hsb⟩ := HX.out.at_ j hjj.1
        have kb1 := ext_cell X.out kb
        have HRB := Lib.hid (And.intro hrb hsb)
        clear kb hrb hsb
        go_wp2_with fail
        refine (tsome_any Ab nb cb bs wr (HRB.out.1.below X.out) HRB.out.2).mono ?_
        rintro e w4 ⟨v4, rfl, ⟨l, hol, hl1, hl6, hsm⟩, b4⟩
        obtain ⟨Al, cl, rfl, hrl⟩ := own_rv hol
        have HS4 := Lib.hid (HS.out.ext b4)
        have X4 := Lib.hid (bt X.out b4)
        have HB4 := Lib.hid (HB.out.below b4)
        have RL := Lib.hid hrl
        have HSM := Lib.hid (And.intro hl1 (And.intro hl6 hsm))
        clear hol b4 hrl hl1 hl6 hsm HRB kb1 HS X HB
        have hVT := HVT.out.ln
        go_wp2_with fail
        refine (st_commit_z HS4.out (fun b hb => Nat.le_trans X4.out.size hb) (by omega) (by omega) (by omega) (L := lastV Vs) rfl (by have h1 := HVT.out.le _ (HVT.out.at_ (v := Vs.length - 1) (by omega)); unfold lastV; omega) Al _ cl l RL.out (HSM.out.2.2.bat HSM.out.1 HSM.out.2.1) (fit_gen (m := 36) (fun x hx => by have := HVT.out.le x hx; omega) (by
          have h1 := HVT.out.le _ (HVT.out.at_ (v := Vs.length - 1) (by omega))
          have h2 := aft_len l (lastV Vs)
          have h3 := HSM.out.2.1
          unfold lastV at h2 ⊢
          omega) (by decide))).mono ?_
        rintro e w5 ha
        rcases ha with ⟨lf', rfl, hlf, hs5, hc5⟩ | ⟨h0, _⟩
        · obtain rfl : lf' = 0 := hlf rfl
          unfold ansV
          have HS5 := Lib.hid hs5
          have X5 := Lib.hid (hc5.ge X4.out)
          have HB5 := Lib.hid (hc5.blk HB4.out (fun hx => by
            have : TA3 = TDK ∨ TA3 = TBY ∨ TA3 = TSE := hx.2
            revert this
            decide))
          have HV5 := Lib.hid (HVT.out.snoc HSM.out.2.2 HSM.out.2.1)
          clear hs5 hlf hc5 HS4 X4 HB4 RL HSM HVT hVT
          go_wp2_with fail
          exact ⟨⟨j + 1, _, by omega, by omega, by go_num, HV5.out, HS5.out, X5.out, HB5.out⟩, by simp [intOf]; omega⟩
        · exact absurd rfl h0
      · rcases Nat.lt_or_ge j nx with hlt | hge
        · have q1 : (j : Int) < (nx : Int) := by omega
          have q2 : ¬ (j : Int) < 6 := by omega
          go_wp2_with fail
          go_meet
          exact ⟨j, Vs, hj6, HVT.out, HS.out, X.out, HB.out⟩
        · have q1 : ¬ (j : Int) < (nx : Int) := by omega
          go_wp2_with fail
          go_meet
          exact ⟨j, Vs, hj6, HVT.out, HS.out, X.out, HB.out⟩
  case rest =>
    obtain ⟨j, Vs, hj6, hvt, hs, hx, hb⟩ := hcut
    have HVT := Lib.hid hvt
    have HS := Lib.hid hs
    have X := Lib.hid hx
    have HB := Lib.hid hb
    clear hvt hs hx hb HS2 X2 B2 HX hle hcp
    have hVl := HVT.out.ln
    obtain ⟨nv, hnv⟩ : ∃ nv, j + 1 = nv := ⟨_, rfl⟩
    have hnv1 : 1 ≤ nv := by omega
    have hnv7 : nv ≤ 7 := by omega
    have HNV := Lib.hid (show Vs.length = nv by omega)
    have wnv : IntKind.i64.wrap (((nv - 1 : Nat) : Int) + 1) = (nv : Int) := by rw [IntWalk.i64_in _ (by omega)]; omega
    have HVT2 := Lib.hid (show (∀ x ∈ Vs, x.length ≤ 36) ∧ (∀ x ∈ Vs, KyV x) ∧ Vs.getD 0 [] = [] ∧ ∀ v, v < nv → Vs.getD v [] ∈ Vs from ⟨fun x hx => by have := HVT.out.le x hx; omega, HVT.out.ky, HVT.out.ze, fun v hv => HVT.out.at_ (by omega)⟩)
    have HSR := Lib.hid (show ∀ v, v < nv → Srtd (Vs.getD v []) from fun v hv => by
      obtain ⟨vs, B, _, g2⟩ := HS.out.srE
      exact (g2.ok _ (HVT2.out.2.2.2 v hv)).1)
    clear hVl hnv HVT hj6
    go_wp2_with fail
    refine (st_newest2 HS.out).mono ?_
    rintro e w1 ⟨v1, rfl, rfl, b1⟩
    rw [show ((Vs.length - 1 : Nat) : Int) = ((nv - 1 : Nat) : Int) by rw [HNV.out]]
    have HS1 := Lib.hid (HS.out.ext b1)
    have X1 := Lib.hid (bt X.out b1)
    have HB1 := Lib.hid (HB.out.below b1)
    clear b1 HS X HB
    have kq := fun w' (hh : Ext w1 w') => (HB1.out.below hh).cells
    simp only [cellsAre, Nat.zero_add, Nat.reduceAdd, and_true] at kq
    have hst : Ext w1 w1.drew := Ext.drew _
    go_upto_region 12 with fail
    refine wp_region_adv 11 [] [(0, true, some 91, none), (1, true, some 92, none), (2, true, some 93, none), (4, true, some 95, none), (5, true, some 96, none), (6, true, some 97, none), (8, true, some 99, none), (9, true, some 100, none), (10, true, some 101, none), (3, false, some 94, none), (7, false, some 98, none)] (by kernel_rfl) (by kernel_rfl) (by kernel_rfl) (by intro it hit; (repeat (rcases List.mem_cons.1 hit with rfl | hit; (focus (intro o ho ev w; injection ho with ho; subst ho; kernel_rfl)))); cases hit) (fun _ _ _ _ _ => ⟨fun h => h, fun h => h⟩) hst ?_
    repeat (first | (refine wpSeq_pure (v := ?_) rfl ?_ ?_; rotate_left 1; (focus (intro wq_ hSq_; (try dsimp only at hSq_); go_simp; (try with_reducible rfl); done)); (try simp only [Act.put, List.setIfInBounds_toArray, List.set_cons_zero, List.set_cons_succ])) | (refine wpSeq_pureG (v := ?_) rfl rfl ?_ ?_; rotate_left 1; (focus (intro wq_ hSq_; (try dsimp only at hSq_); go_simp; (try with_reducible rfl); done)); (try simp only [Act.put, List.setIfInBounds_toArray, List.set_cons_zero, List.set_cons_succ])) | (refine wpSeq_off rfl rfl ?_; (try simp only [Act.put, List.setIfInBounds_toArray, List.set_cons_zero, List.set_cons_succ])) | (refine wpSeq_offU rfl ?_; (try simp only [Act.put, List.setIfInBounds_toArray, List.set_cons_zero, List.set_cons_succ])))
    first | refine wpSeq_call rfl (fun u1 g1 s1 K hK => ?_) | refine wpSeq_callG rfl rfl (fun u1 g1 s1 K hK => ?_)
    go_simp
    refine (tfold_any p0 nv hnv1 (by omega) u1).mono ?_
    rintro e y1 ⟨z1, rfl, ⟨a, ha, rfl⟩, bb1⟩
    (try go_wp2_with fail)
    refine hK.out _ _ bb1 ?_
    clear hK K
    (try simp only [Act.put, List.setIfInBounds_toArray, List.set_cons_zero, List.set_cons_succ])
    repeat (first | (refine wpSeq_pure (v := ?_) rfl ?_ ?_; rotate_left 1; (focus (intro wq_ hSq_; (try dsimp only at hSq_); go_simp; (try with_reducible rfl); done)); (try simp only [Act.put, List.setIfInBounds_toArray, List.set_cons_zero, List.set_cons_succ])) | (refine wpSeq_pureG (v := ?_) rfl rfl ?_ ?_; rotate_left 1; (focus (intro wq_ hSq_; (try dsimp only at hSq_); go_simp; (try with_reducible rfl); done)); (try simp only [Act.put, List.setIfInBounds_toArray, List.set_cons_zero, List.set_cons_succ])) | (refine wpSeq_off rfl rfl ?_; (try simp only [Act.put, List.setIfInBounds_toArray, List.set_cons_zero, List.set_cons_succ])) | (refine wpSeq_offU rfl ?_; (try simp only [Act.put, List.setIfInBounds_toArray, List.set_cons_zero, List.set_cons_succ])))
    first | refine wpSeq_call rfl (fun u2 g2 s2 K hK => ?_) | refine wpSeq_callG rfl rfl (fun u2 g2 s2 K hK => ?_)
    go_simp
    refine (tfold_any p1 nv hnv1 (by omega) u2).mono ?_
    rintro e y2 ⟨z2, rfl, ⟨b, hb, rfl⟩, bb2⟩
    (try go_wp2_with fail)
    refine hK.out _ _ bb2 ?_
    clear hK K
    (try simp only [Act.put, List.setIfInBounds_toArray, List.set_cons_zero, List.set_cons_succ])
    repeat (first | (refine wpSeq_pure (v := ?_) rfl ?_ ?_; rotate_left 1; (focus (intro wq_ hSq_; (try dsimp only at hSq_); go_simp; (try with_reducible rfl); done)); (try simp only [Act.put, List.setIfInBounds_toArray, List.set_cons_zero, List.set_cons_succ])) | (refine wpSeq_pureG (v := ?_) rfl rfl ?_ ?_; rotate_left 1; (focus (intro wq_ hSq_; (try dsimp only at hSq_); go_simp; (try with_reducible rfl); done)); (try simp only [Act.put, List.setIfInBounds_toArray, List.set_cons_zero, List.set_cons_succ])) | (refine wpSeq_off rfl rfl ?_; (try simp only [Act.put, List.setIfInBounds_toArray, List.set_cons_zero, List.set_cons_succ])) | (refine wpSeq_offU rfl ?_; (try simp only [Act.put, List.setIfInBounds_toArray, List.set_cons_zero, List.set_cons_succ])))
    intro w2_ g3 s3
    (try simp only [endJ, List.drop_succ_cons, List.drop_zero])
    have HS2 := Lib.hid (HS1.out.ext s3)
    have X2 := Lib.hid (bt X1.out s3)
    clear hst kq g1 s1 bb1 g2 s2 bb2 g3 s3 HS1 X1 HB1
    go_wp2_with fail
    refine (tfold_any p2 nv hnv1 (by omega) w2_).mono ?_
    rintro e w3 ⟨v3, rfl, ⟨c, hc, rfl⟩, b3⟩
    have HS3 := Lib.hid (HS2.out.ext b3)
    have X3 := Lib.hid (bt X2.out b3)
    have HABC := Lib.hid (show a < nv ∧ b < nv ∧ c < nv from ⟨ha, hb, hc⟩)
    clear b3 HS2 X2 ha hb hc
    go_wp2_with fail
    refine (st_diff_ok HS3.out (by rw [HNV.out]; omega) (a := 0) (b := a) (by have := HABC.out; rw [HNV.out]; omega) (by have := HABC.out; rw [HNV.out]; omega) (by rw [HNV.out]; omega) (by rw [HNV.out]; omega) (fun x hx => by have := HVT2.out.1 x hx; omega)).mono ?_
    rintro e w4 ⟨v_, rfl, ⟨z_, l1, rfl, hdf_, ho_⟩, bd_⟩
    unfold ansR
    obtain ⟨A1, c1, rfl, _⟩ := ho_.rv
    have HS4 := Lib.hid (HS3.out.ext bd_)
    have X4 := Lib.hid (bt X3.out bd_)
    have D1 := Lib.hid hdf_
    have O1 := Lib.hid ho_
    have BD := Lib.hid bd_
    clear bd_ hdf_ ho_ HS3 X3
    go_wp2_with fail
    refine (st_diff_ok HS4.out (by rw [HNV.out]; omega) (a := a) (b := b) (by have := HABC.out; rw [HNV.out]; omega) (by have := HABC.out; rw [HNV.out]; omega) (by rw [HNV.out]; omega) (by rw [HNV.out]; omega) (fun x hx => by have := HVT2.out.1 x hx; omega)).mono ?_
    rintro e w5 ⟨v_, rfl, ⟨z_, l2, rfl, hdf_, ho_⟩, bd_⟩
    unfold ansR
    obtain ⟨A2, c2, rfl, _⟩ := ho_.rv
    have HS5 := Lib.hid (HS4.out.ext bd_)
    have X5 := Lib.hid (bt X4.out bd_)
    have D2 := Lib.hid hdf_
    have O2 := Lib.hid ho_
    have BD := Lib.hid bd_
    clear bd_ hdf_ ho_ HS4 X4
    have O1 := Lib.hid (own_below O1.out BD.out)
    clear BD
    go_wp2_with fail
    refine (st_diff_ok HS5.out (by rw [HNV.out]; omega) (a := b) (b := c) (by have := HABC.out; rw [HNV.out]; omega) (by have := HABC.out; rw [HNV.out]; omega) (by rw [HNV.out]; omega) (by rw [HNV.out]; omega) (fun x hx => by have := HVT2.out.1 x hx; omega)).mono ?_
    rintro e w6 ⟨v_, rfl, ⟨z_, l3, rfl, hdf_, ho_⟩, bd_⟩
    unfold ansR
    obtain ⟨A3, c3, rfl, _⟩ := ho_.rv
    have HS6 := Lib.hid (HS5.out.ext bd_)
    have X6 := Lib.hid (bt X5.out bd_)
    have D3 := Lib.hid hdf_
    have O3 := Lib.hid ho_
    have BD := Lib.hid bd_
    clear bd_ hdf_ ho_ HS5 X5
    have O1 := Lib.hid (own_below O1.out BD.out)
    have O2 := Lib.hid (own_below O2.out BD.out)
    clear BD
    go_wp2_with fail
    refine (st_diff_ok HS6.out (by rw [HNV.out]; omega) (a := a) (b := c) (by have := HABC.out; rw [HNV.out]; omega) (by have := HABC.out; rw [HNV.out]; omega) (by rw [HNV.out]; omega) (by rw [HNV.out]; omega) (fun x hx => by have := HVT2.out.1 x hx; omega)).mono ?_
    rintro e w7 ⟨v_, rfl, ⟨z_, l4, rfl, hdf_, ho_⟩, bd_⟩
    unfold ansR
    obtain ⟨A4, c4, rfl, _⟩ := ho_.rv
    have HS7 := Lib.hid (HS6.out.ext bd_)
    have X7 := Lib.hid (bt X6.out bd_)
    have D4 := Lib.hid hdf_
    have O4 := Lib.hid ho_
    have BD := Lib.hid bd_
    clear bd_ hdf_ ho_ HS6 X6
    have O1 := Lib.hid (own_below O1.out BD.out)
    have O2 := Lib.hid (own_below O2.out BD.out)
    have O3 := Lib.hid (own_below O3.out BD.out)
    clear BD
    obtain ⟨n1, hn1⟩ : ∃ n1, l1.length = n1 := ⟨_, rfl⟩
    obtain ⟨n2, hn2⟩ : ∃ n2, l2.length = n2 := ⟨_, rfl⟩
    obtain ⟨n3, hn3⟩ : ∃ n3, l3.length = n3 := ⟨_, rfl⟩
    obtain ⟨n4, hn4⟩ : ∃ n4, l4.length = n4 := ⟨_, rfl⟩
    have HN := Lib.hid (And.intro hn1 (And.intro hn2 (And.intro hn3 hn4)))
    rw [hn1, hn2, hn3, hn4]
    have R1 := Lib.hid (show OwC 0 w7 (.slice A1 n1 c1) l1 from by rw [← hn1]; exact OwC.lower O1.out (Nat.zero_le _))
    have R2 := Lib.hid (show OwC 0 w7 (.slice A2 n2 c2) l2 from by rw [← hn2]; exact OwC.lower O2.out (Nat.zero_le _))
    have R3 := Lib.hid (show OwC 0 w7 (.slice A3 n3 c3) l3 from by rw [← hn3]; exact OwC.lower O3.out (Nat.zero_le _))
    have R4 := Lib.hid (show OwC 0 w7 (.slice A4 n4 c4) l4 from by rw [← hn4]; exact OwC.lower O4.out (Nat.zero_le _))
    clear hn1 hn2 hn3 hn4 O1 O2 O3 O4
    go_wp2_with fail
    refine (rnewdisk_ok (F := fun b => w7.heap.size ≤ b) 4096 (by omega) (by omega) w7 (fun b hb => hb)).mono ?_
    rintro e w8 ⟨v8, rfl, ⟨dp, rfl, hd8⟩, b8⟩
    have HS8 := Lib.hid (HS7.out.old.ext b8)
    have X8 := Lib.hid (bt X7.out b8)
    have HD8 := Lib.hid (And.intro hd8 (show w7.heap.size ≤ w8.heap.size from Ext.size b8))
    have R8 := Lib.hid (And.intro (own_below R1.out b8) (And.intro (own_below R2.out b8) (And.intro (own_below R3.out b8) (own_below R4.out b8))))
    clear b8 hd8 HS7 R1 R2 R3 R4
    go_wp2_with fail
    refine (st_open (keep := 0) HD8.out.1 (fun b hb => Nat.le_trans HD8.out.2 hb) (by omega) (by omega)).mono ?_
    rintro e w9 ⟨⟨p, rfl, hp9⟩, hc9⟩
    have HS9 := Lib.hid (HS8.out.apart hc9 (fun b hb hg => by have := hb.2; omega))
    have HP9 := Lib.hid (show STl (fun b => w7.heap.size ≤ b) w9 p dp 0 4096 [[]] 0 from hp9)
    have X9 := Lib.hid (chgG_below X8.out (fun b hb => Nat.le_trans X7.out.size hb) hc9)
    have R9 := Lib.hid (And.intro (OwC.chg R8.out.1 hc9 MF.tcg) (And.intro (OwC.chg R8.out.2.1 hc9 MF.tcg) (And.intro (OwC.chg R8.out.2.2.1 hc9 MF.tcg) (OwC.chg R8.out.2.2.2 hc9 MF.tcg))))
    have H79 := Lib.hid (show w7.heap.size ≤ w9.heap.size from Nat.le_trans HD8.out.2 hc9.size)
    clear hp9 hc9 HS8 HD8 X8 R8
    go_wp2_with fail
    refine (rnewdisk_ok (F := fun b => w9.heap.size ≤ b) 4096 (by omega) (by omega) w9 (fun b hb => hb)).mono ?_
    rintro e wa ⟨va, rfl, ⟨dq, rfl, hda⟩, ba⟩
    have HSa := Lib.hid (HS9.out.ext ba)
    have HPa := Lib.hid (HP9.out.old.ext ba)
    have Xa := Lib.hid (bt X9.out ba)
    have HDa := Lib.hid (And.intro hda (show w9.heap.size ≤ wa.heap.size from Ext.size ba))
    have Ra := Lib.hid (And.intro (own_below R9.out.1 ba) (And.intro (own_below R9.out.2.1 ba) (And.intro (own_below R9.out.2.2.1 ba) (own_below R9.out.2.2.2 ba))))
    clear ba hda HS9 HP9 R9
    go_wp2_with fail
    refine (st_open (keep := 0) HDa.out.1 (fun b hb => Nat.le_trans HDa.out.2 hb) (by omega) (by omega)).mono ?_
    rintro e wb ⟨⟨q, rfl, hqb⟩, hcb⟩
    have HT0 := Lib.hid (show Tri w wb s d p dp q dq Vs [[]] [[]] 0 from ⟨⟨_, _, _, HSa.out.apart hcb (fun b hb hg => by have h1 := hb.2; have h2 := H79.out; omega), HPa.out.apart hcb (fun b hb hg => by have h1 := hb.2; omega), STl.old (F := fun b => w9.heap.size ≤ b) hqb, fun b hb => by
        have h1 := H79.out
        have h2 := HDa.out.2
        have h3 := hcb.size
        rcases hb with hb | hb | hb
        · have := hb.2; omega
        · have := hb.2; omega
        · exact hb.2, fun b hb => by
        have h1 := H79.out
        refine ⟨fun hg => ?_, fun hg => ?_⟩
        · have := hb.2; have := hg.1; omega
        · have := hb.2; have := hg.1; omega, fun b hb hg => by have := hb.2; have := hg.1; omega, fun b hb => by
        have h1 := H79.out
        have h2 := Ext.size X7.out
        rcases hb with hb | hb | hb
        · exact hb.1
        · exact Nat.le_trans h2 hb.1
        · exact Nat.le_trans (Nat.le_trans h2 h1) hb.1⟩, chgG_below Xa.out (fun b hb => Nat.le_trans X9.out.size hb) hcb⟩)
    have RB := Lib.hid (And.intro (OwC.chg Ra.out.1 hcb MF.tcg) (And.intro (OwC.chg Ra.out.2.1 hcb MF.tcg) (And.intro (OwC.chg Ra.out.2.2.1 hcb MF.tcg) (OwC.chg Ra.out.2.2.2 hcb MF.tcg))))
    clear hqb hcb HSa HPa HDa Xa Ra H79 X9 X7
    obtain ⟨La, hLa⟩ : ∃ L, Vs.getD a [] = L := ⟨_, rfl⟩
    obtain ⟨Lb, hLb⟩ : ∃ L, Vs.getD b [] = L := ⟨_, rfl⟩
    obtain ⟨Lc, hLc⟩ : ∃ L, Vs.getD c [] = L := ⟨_, rfl⟩
    have HC := Lib.hid (show ((∀ x ∈ l1, chgB x = true) ∧ (∀ x ∈ l2, chgB x = true) ∧ (∀ x ∈ l3, chgB x = true) ∧ ∀ x ∈ l4, chgB x = true) ∧ (n1 ≤ 100 ∧ n2 ≤ 100 ∧ n3 ≤ 100 ∧ n4 ≤ 100) ∧ (aft [] l1 = La ∧ aft La l2 = Lb ∧ aft Lb l3 = Lc ∧ aft La l4 = Lc) ∧ La.length ≤ 36 ∧ Lb.length ≤ 36 ∧ Lc.length ≤ 36 ∧ KyV Lc ∧ Srtd Lc from by
      obtain ⟨z1, z2, z3, z4⟩ := HVT2.out
      obtain ⟨ha, hb, hc⟩ := HABC.out
      have d1 := D1.out
      have d2 := D2.out
      have d3 := D3.out
      have d4 := D4.out
      rw [z3] at d1
      have sa := HSR.out a ha
      have sb := HSR.out b hb
      have sc := HSR.out c hc
      have ma := z4 a ha
      have mb := z4 b hb
      have mc := z4 c hc
      rw [hLa] at d1 d2 d4 sa ma
      rw [hLb] at d2 d3 sb mb
      rw [hLc] at d3 d4 sc mc
      have e0 : KyV ([] : List Pr) := fun p hp => by cases hp
      have y1 := z1 _ ma
      have y2 := z1 _ mb
      have y3 := z1 _ mc
      have t1 := d1.len
      have t2 := d2.len
      have t3 := d3.len
      have t4 := d4.len
      obtain ⟨x1, x2, x3, x4⟩ := HN.out
      rw [List.length_nil] at t1
      exact ⟨⟨d1.chg e0 (z2 _ ma), d2.chg (z2 _ ma) (z2 _ mb), d3.chg (z2 _ mb) (z2 _ mc), d4.chg (z2 _ ma) (z2 _ mc)⟩, ⟨by omega, by omega, by omega, by omega⟩, ⟨d1.aft ((List.Pairwise.nil : Srtd [])) sa, d2.aft sa sb, d3.aft sb sc, d4.aft sa sc⟩, y1, y2, y3, z2 _ mc, sc⟩)
    have HLc := Lib.hid hLc
    clear hLa hLb hLc D1 D2 D3 D4 HSR HN
    go_wp2_with fail
    refine (tri_putsP HT0.out (k := 1) (by decide) (by omega) (L := []) (L' := La) rfl RB.out.1 HC.out.1.1 HC.out.2.1.1 (fun x hx => by rw [List.mem_singleton.1 hx]; exact Nat.zero_le _) (Nat.zero_le _) HC.out.2.2.1.1).mono ?_
    rintro e wc1 ⟨rfl, Ps1, t1_, m1_, g1_, e1_, r1_⟩
    have HT1 := Lib.hid t1_
    have HM1 := Lib.hid (And.intro m1_ (And.intro g1_ e1_))
    have RB1 := Lib.hid (And.intro (r1_ _ _ _ _ RB.out.1) (And.intro (r1_ _ _ _ _ RB.out.2.1) (And.intro (r1_ _ _ _ _ RB.out.2.2.1) (r1_ _ _ _ _ RB.out.2.2.2))))
    clear t1_ m1_ g1_ e1_ r1_ HT0 RB
    go_wp2_with fail
    refine (tri_putsP HT1.out HM1.out.1 (by omega) HM1.out.2.1 RB1.out.2.1 HC.out.1.2.1 HC.out.2.1.2.1 HM1.out.2.2 (by have := HC.out.2.2.2.1; omega) HC.out.2.2.1.2.1).mono ?_
    rintro e wc2 ⟨rfl, Ps2, t1_, m1_, g1_, e1_, r1_⟩
    have HT2 := Lib.hid t1_
    have HM2 := Lib.hid (And.intro m1_ (And.intro g1_ e1_))
    have RB2 := Lib.hid (And.intro (r1_ _ _ _ _ RB1.out.1) (And.intro (r1_ _ _ _ _ RB1.out.2.1) (And.intro (r1_ _ _ _ _ RB1.out.2.2.1) (r1_ _ _ _ _ RB1.out.2.2.2))))
    clear t1_ m1_ g1_ e1_ r1_ HT1 RB1 HM1
    go_wp2_with fail
    refine (tri_putsP HT2.out HM2.out.1 (by omega) HM2.out.2.1 RB2.out.2.2.1 HC.out.1.2.2.1 HC.out.2.1.2.2.1 HM2.out.2.2 (by have := HC.out.2.2.2.2.1; omega) HC.out.2.2.1.2.2.1).mono ?_
    rintro e wc3 ⟨rfl, Ps3, t1_, m1_, g1_, e1_, r1_⟩
    have HT3 := Lib.hid t1_
    have HM3 := Lib.hid (And.intro m1_ (And.intro g1_ e1_))
    have RB3 := Lib.hid (And.intro (r1_ _ _ _ _ RB2.out.1) (r1_ _ _ _ _ RB2.out.2.2.2))
    clear t1_ m1_ g1_ e1_ r1_ HT2 RB2 HM2
    go_wp2_with fail
    refine (tri_putsQ HT3.out (k := 1) (by decide) (by omega) (L := []) (L' := La) rfl RB3.out.1 HC.out.1.1 HC.out.2.1.1 (fun x hx => by rw [List.mem_singleton.1 hx]; exact Nat.zero_le _) (Nat.zero_le _) HC.out.2.2.1.1).mono ?_
    rintro e wc4 ⟨rfl, Qs4, t1_, m1_, g1_, e1_, r1_⟩
    have HT4 := Lib.hid t1_
    have HM4 := Lib.hid (And.intro m1_ (And.intro g1_ e1_))
    have RB4 := Lib.hid (r1_ _ _ _ _ RB3.out.2)
    clear t1_ m1_ g1_ e1_ r1_ HT3 RB3
    go_wp2_with fail
    refine (tri_putsQ HT4.out HM4.out.1 (by omega) HM4.out.2.1 RB4.out HC.out.1.2.2.2 HC.out.2.1.2.2.2 HM4.out.2.2 (by have := HC.out.2.2.2.1; omega) HC.out.2.2.1.2.2.2).mono ?_
    rintro e wc5 ⟨rfl, Qs, t1_, m1_, g1_, e1_, r1_⟩
    have HT5 := Lib.hid t1_
    have HM5 := Lib.hid (And.intro m1_ (And.intro g1_ e1_))
    clear t1_ m1_ g1_ e1_ r1_ HT4 RB4 HM4
    obtain ⟨Fs5, Fp5, Fq5, x1_, x2_, x3_, _⟩ := HT5.out.ex
    have HS5 := Lib.hid (And.intro x1_ (And.intro x2_ x3_))
    clear x1_ x2_ x3_
    go_wp2_with fail
    refine (tequal_any HS5.out.2.1 HS5.out.2.2 (by have := HM3.out.1; omega) (by have := HM5.out.1; omega) (fun x hx => by have := HM3.out.2.2 x hx; omega) (fun x hx => by have := HM5.out.2.2 x hx; omega) (by rw [HM3.out.2.1, HM5.out.2.1])).mono ?_
    rintro e wd ⟨vd, rfl, rfl, bd_⟩
    have HT6 := Lib.hid (HT5.out.ext bd_)
    clear bd_ HT5 HM3 HS5
    obtain ⟨Fs6, Fp6, Fq6, x1_, x2_, x3_, _⟩ := HT6.out.ex
    have HS6 := Lib.hid (And.intro x1_ x3_)
    clear x1_ x2_ x3_
    go_wp2_with fail
    refine (st_range_last HS6.out.1 (by rw [HNV.out]; omega) (fun x hx => by have := HVT2.out.1 x hx; omega) (v := c) (by rw [HNV.out]; exact HABC.out.2.2) (by rw [HNV.out]; omega)).mono ?_
    rintro e we ⟨ve, rfl, ⟨Aw, cw, rfl, ow⟩, bd_⟩
    rw [HLc.out] at ow ⊢
    obtain ⟨nc, hnc⟩ : ∃ n, Lc.length = n := ⟨_, rfl⟩
    have HNC := Lib.hid (show Lc.length = nc ∧ nc ≤ 36 from ⟨hnc, by rw [← hnc]; exact HC.out.2.2.2.2.2.1⟩)
    rw [hnc] at ow ⊢
    have HT7 := Lib.hid (HT6.out.ext bd_)
    have OW7 := Lib.hid (OwP.lower ow (Nat.zero_le _))
    clear ow bd_ hnc HT6 HS6 HLc
    obtain ⟨Fs7, Fp7, Fq7, x1_, x2_, x3_, _⟩ := HT7.out.ex
    have HS7 := Lib.hid x3_
    clear x1_ x2_ x3_
    go_wp2_with fail
    refine (st_newest2 HS7.out).mono ?_
    rintro e wf ⟨vf, rfl, rfl, bd_⟩
    obtain ⟨nq, hnq⟩ : ∃ n, Qs.length = n := ⟨_, rfl⟩
    have HNQ := Lib.hid (show Qs.length = nq ∧ nq ≤ 201 from ⟨hnq, by rw [← hnq]; exact HM5.out.1⟩)
    have hq1 : 1 ≤ nq := by have := HS7.out.posE; omega
    have hq2 := HNQ.out.2
    rw [hnq]
    have HT8 := Lib.hid (HT7.out.ext bd_)
    have HS8 := Lib.hid (HS7.out.ext bd_)
    have OW8 := Lib.hid (own_below OW7.out bd_)
    clear hnq bd_ HT7 HS7 OW7
    go_wp2_with fail
    refine (st_range_last HS8.out (by have := HNQ.out; omega) (fun x hx => by have := HM5.out.2.2 x hx; omega) (v := nq - 1) (by have := HNQ.out; omega) (by have := HNQ.out; omega)).mono ?_
    rintro e wg ⟨vg, rfl, ⟨Ax, cx_, rfl, ow⟩, bd_⟩
    have hls : Qs.getD (nq - 1) [] = Lc := by have := HM5.out.2.1; unfold lastV at this; rw [HNQ.out.1] at this; exact this
    rw [hls, HNC.out.1] at ow ⊢
    have HLQ := Lib.hid hls
    have HT9 := Lib.hid (HT8.out.ext bd_)
    have OW9 := Lib.hid (And.intro (own_below OW8.out bd_) (OwP.lower ow (Nat.zero_le _)))
    clear ow bd_ hls HT8 HS8 OW8
    go_wp2_with fail
    refine (tpairs_any Aw Ax nc cw nc cx_ Lc wg (own_rvv OW9.out.1) (own_rvv OW9.out.2) (by have := HNC.out; omega)).mono ?_
    rintro e wh ⟨vh, rfl, rfl, bd_⟩
    have HTa := Lib.hid (HT9.out.ext bd_)
    have OWa := Lib.hid (own_below OW9.out.2 bd_)
    clear bd_ HT9 OW9
    obtain ⟨Ga, x1_, x2_, x3_, x4_⟩ := HTa.out.onQ
    have HQa := Lib.hid (And.intro x1_ (And.intro x2_ x3_))
    have XQa := Lib.hid HTa.out.xx
    clear x1_ x2_ x3_ x4_ HTa
    go_wp2_with fail
    refine (st_arm HQa.out.1 ((ka : Int) + 1) (by omega)).mono ?_
    rintro e wi ⟨⟨vi, rfl⟩, hqi, hci⟩
    rw [show (max 0 ((ka : Int) + 1)).toNat = ka + 1 by omega] at hqi
    have HQb := Lib.hid (And.intro hqi (And.intro (fun (b : Nat) (hb : wi.heap.size ≤ b) => HQa.out.2.1 b (Nat.le_trans hci.size hb)) HQa.out.2.2))
    have Xb := Lib.hid (chgG_below XQa.out HQa.out.2.2 hci)
    have OWb := Lib.hid (OwP.chg OWa.out hci MF.tpa)
    clear hqi hci HQa XQa OWa
    go_wp2_with fail
    have xl : Ext wi (wi.alloc (.cells #[.string sLast, .string ⟨#[120]⟩, .bool false] TCG)) := Ext.allocR _ _
    refine (st_commit_z (HQb.out.1.ext xl) (fun b hb => HQb.out.2.1 b (Nat.le_trans xl.size hb)) (by decide) (by omega) (by have := HNQ.out; omega) (L := Lc) HM5.out.2.1 (by have := HNC.out; omega) _ 1 1 cLast (rv_lit TCG 3 #[.string sLast, .string ⟨#[120]⟩, .bool false] 1 (by omega) rfl) (by decide) (fit_gen (m := 400) HM5.out.2.2 (by
      rw [last_len HC.out.2.2.2.2.2.2.1]; have := HNC.out; omega) (by decide))).mono ?_
    rintro e wj ha
    rcases ha with ⟨lf', rfl, _, hsj, hcj⟩ | ⟨_, rfl, hdj, hcj⟩
    · unfold ansV
      have HSj := Lib.hid hsj
      have Xj := Lib.hid (chgG_below (bt Xb.out xl) HQb.out.2.2 hcj)
      clear hsj hcj xl
      rw [HNQ.out.1]
      go_wp2_with fail
      refine (stl_broken HSj.out).mono ?_
      rintro e wk ⟨vk, rfl, rfl, bd_⟩
      have Xk := Lib.hid (bt Xj.out bd_)
      clear bd_ HSj Xj
      go_wp2_with fail
      (try simp only [Exit.inBlock, Exit.then])
      refine bodyPost_ret (v := (.bool true)) (by simp [results, Tryz.results12, go_sem, *]) rfl ?_
      exact ⟨_, rfl, rfl, Xk.out⟩
    · unfold ansV
      have HDj := Lib.hid (And.intro hdj (fun (b : Nat) (hb : wj.heap.size ≤ b) => HQb.out.2.1 b (Nat.le_trans xl.size (Nat.le_trans hcj.size hb))))
      have Xj := Lib.hid (chgG_below (bt Xb.out xl) HQb.out.2.2 hcj)
      have OWj := Lib.hid (OwP.chg (own_below OWb.out xl) hcj MF.tpa)
      have HGj := Lib.hid HQb.out.2.2
      clear hdj hcj xl HQb Xb OWb
      go_wp2_with fail
      obtain ⟨y0, ey0, hy0⟩ : ∃ y : Nat, act % 256 = (y : Int) ∧ y < 256 := ⟨(act % 256).toNat, by omega, by omega⟩
      obtain ⟨y1, ey1, hy1⟩ : ∃ y : Nat, act / 256 % 256 = (y : Int) ∧ y < 256 := ⟨(act / 256 % 256).toNat, by omega, by omega⟩
      rw [ey0, ey1]
      have xl : Ext wj (wj.alloc (.cells #[.int .u8 (y0 : Int), .int .u8 1, .int .u8 0, .int .u8 1, .int .u8 (y1 : Int), .int .u8 1, .int .u8 1, .int .u8 0, .int .u8 1] TU8)) := Ext.allocR _ _
      have hol : World.ownsRow (wj.alloc (.cells #[.int .u8 (y0 : Int), .int .u8 1, .int .u8 0, .int .u8 1, .int .u8 (y1 : Int), .int .u8 1, .int .u8 1, .int .u8 0, .int .u8 1] TU8)) wj.heap.size TU8 1 (.slice (some ⟨wj.heap.size, 0, none⟩) 9 9) 9 (bc [y0, 1, 0, 1, y1, 1, 1, 0, 1]) := own_lit TU8 1 #[.int .u8 (y0 : Int), .int .u8 1, .int .u8 0, .int .u8 1, .int .u8 (y1 : Int), .int .u8 1, .int .u8 1, .int .u8 0, .int .u8 1] 9 (Nat.le_refl _) (by omega) rfl
      refine (std_restart (HDj.out.1.ext xl) (fun b hb => HDj.out.2 b (Nat.le_trans xl.size hb)) (by decide) _ 9 9 [y0, 1, 0, 1, y1, 1, 1, 0, 1] (fun W hW => own_rvv (hW.own hol fun b cs _ => MF.u8 b cs)) (fun b hb => by
        simp only [List.mem_cons, List.not_mem_nil, or_false] at hb
        omega)).mono ?_
      rintro e wk ⟨⟨vk, rfl⟩, Qs', hqs, hdk, hck⟩
      have HDk := Lib.hid (And.intro hdk (fun (b : Nat) (hb : wk.heap.size ≤ b) => HDj.out.2 b (Nat.le_trans xl.size (Nat.le_trans hck.size hb))))
      have Xk := Lib.hid (chgG_below (bt Xj.out xl) HGj.out hck)
      have OWk := Lib.hid (OwP.chg (own_below OWj.out xl) hck MF.tpa)
      have HQS := Lib.hid hqs
      clear hdk hck hqs xl hol ey0 ey1 hy0 hy1 HDj Xj OWj HGj
      have HQ5 := Lib.hid (show ∀ x ∈ Qs', x.length ≤ 400 from fun x hx => by
        rcases HQS.out with h | h
        · rw [h] at hx; exact HM5.out.2.2 x hx
        · rw [h] at hx
          rcases List.mem_append.1 hx with hx | hx
          · exact HM5.out.2.2 x hx
          · rw [List.mem_singleton.1 hx, last_len HC.out.2.2.2.2.2.2.1]; have := HNC.out; omega)
      obtain ⟨mq, hmq⟩ : ∃ m, Qs'.length = m := ⟨_, rfl⟩
      have HMQ := Lib.hid (show Qs'.length = mq ∧ 1 ≤ mq ∧ mq ≤ 202 from ⟨hmq, by
        rcases HQS.out with h | h
        · rw [← hmq, h]; have := HNQ.out; omega
        · rw [← hmq, h, List.length_append, List.length_singleton]; omega, by
        rcases HQS.out with h | h
        · rw [← hmq, h]; have := HNQ.out; omega
        · rw [← hmq, h, List.length_append, List.length_singleton]; have := HNQ.out; omega⟩)
      clear hmq
      go_wp2_with fail
      refine (dks_open HDk.out.1 HDk.out.2 (by omega) (by have := HMQ.out; omega) (fun x hx => by have := HQ5.out x hx; omega) 0 (by omega)).mono ?_
      rintro e wl ⟨vl, rfl, ⟨s2, rfl, hs2⟩, bd_⟩
      have HSl := Lib.hid hs2
      have Xl := Lib.hid (bt Xk.out bd_)
      have OWl := Lib.hid (own_below OWk.out bd_)
      clear bd_ hs2 HDk Xk OWk
      go_wp2_with fail
      refine (st_newest2 HSl.out).mono ?_
      rintro e wm ⟨vm, rfl, rfl, bd_⟩
      have hm1 := HMQ.out.2.1
      have hm2 := HMQ.out.2.2
      rw [HMQ.out.1]
      have HSm := Lib.hid (HSl.out.ext bd_)
      have Xm := Lib.hid (bt Xl.out bd_)
      have OWm := Lib.hid (own_below OWl.out bd_)
      clear bd_ HSl Xl OWl
      go_wp2_with fail
      refine (st_range_last HSm.out (by have := HMQ.out; omega) (fun x hx => by have := HQ5.out x hx; omega) (v := mq - 1) (by have := HMQ.out; omega) (by have := HMQ.out; omega)).mono ?_
      rintro e wn ⟨vn, rfl, ⟨An, cn, rfl, ow⟩, bd_⟩
      obtain ⟨Ln, hLn⟩ : ∃ L, Qs'.getD (mq - 1) [] = L := ⟨_, rfl⟩
      rw [hLn] at ow ⊢
      have HLN := Lib.hid (show Qs'.getD (mq - 1) [] = Ln ∧ (Ln = Lc ∨ Ln = aft Lc cLast) from ⟨hLn, by
        rcases HQS.out with h | h
        · left
          have h1 := HMQ.out.1
          have h2 := HNQ.out.1
          rw [← hLn, ← HLQ.out, h, ← h1, h, h2]
        · right
          have h1 := HMQ.out.1
          rw [← hLn, ← h1, h, List.length_append, List.length_singleton, Nat.add_sub_cancel]
          simp [List.getD]⟩)
      obtain ⟨nn, hnn⟩ : ∃ n, Ln.length = n := ⟨_, rfl⟩
      have HNN := Lib.hid hnn
      rw [hnn] at ow ⊢
      have HSn := Lib.hid (HSm.out.ext bd_)
      have Xn := Lib.hid (bt Xm.out bd_)
      have OWn := Lib.hid (And.intro (own_below OWm.out bd_) (OwP.lower ow (Nat.zero_le _)))
      clear bd_ ow hLn hnn HSm Xm OWm
      go_wp2_with fail
      refine (st_newest2 HSn.out).mono ?_
      rintro e wo ⟨vo, rfl, rfl, bd_⟩
      rw [HMQ.out.1]
      have HSo := Lib.hid (HSn.out.ext bd_)
      have Xo := Lib.hid (bt Xn.out bd_)
      have OWo := Lib.hid (And.intro (own_below OWn.out.1 bd_) (own_below OWn.out.2 bd_))
      clear bd_ HSn Xn OWn
      go_wp2_with fail
      refine (st_get HSo.out (by have := HMQ.out; omega) (v := mq - 1) (by have := HMQ.out; omega) (by have := HMQ.out; omega) sLast (by decide) (by decide)).mono ?_
      rintro e wp_ ⟨vp, rfl, rfl, bd_⟩
      rw [HLN.out.1]
      have Xp := Lib.hid (bt Xo.out bd_)
      have OWp := Lib.hid (And.intro (own_below OWo.out.1 bd_) (own_below OWo.out.2 bd_))
      clear bd_ HSo Xo OWo
      rcases HLN.out.2 with hl | hl
      · subst hl
        rw [fndP_none HC.out.2.2.2.2.2.2.1.last]
        unfold ansG
        obtain rfl : nn = nc := by rw [← HNN.out]; exact HNC.out.1
        go_wp2_with fail
        refine (tpairs_any An Ax nn cn nn cx_ Ln wp_ (own_rvv OWp.out.2) (own_rvv OWp.out.1) (by have := HNC.out; omega)).mono ?_
        rintro e wq ⟨vq, rfl, rfl, bd_⟩
        have Xq := Lib.hid (bt Xp.out bd_)
        clear bd_ Xp OWp
        go_wp2_with fail
        (try simp only [Exit.inBlock, Exit.then])
        refine bodyPost_ret (v := (.bool true)) (by simp [results, Tryz.results12, go_sem, *]) rfl ?_
        exact ⟨_, rfl, rfl, Xq.out⟩
      · subst hl
        rw [last_fnd HC.out.2.2.2.2.2.2.2]
        unfold ansG
        obtain rfl : nn = nc + 1 := by rw [← HNN.out, last_len HC.out.2.2.2.2.2.2.1, HNC.out.1]
        have hnc36 := HNC.out.2
        go_wp2_with fail
        (try simp only [Exit.inBlock, Exit.then])
        refine bodyPost_ret (v := (.bool true)) (by simp [results, Tryz.results12, go_sem, *]) rfl ?_
        exact ⟨_, rfl, rfl, Xp.out⟩
end Go.Proofs.Tb
