/- Contract of solve. -/
import Derived.Test.YtjiccpacpcongaaUe
set_option linter.unusedVariables false
set_option linter.unusedSimpArgs false
namespace Go.Proofs.Tb
open Go.RowKit Go.Lib
attribute [local go_sem] cell_set_same

set_option maxHeartbeats 12800000 in
set_option maxRecDepth 100000 in
theorem rsolve_any {q P u base rb rc : Nat} (hq : Q4 q) (hP : 1 ≤ P) (hP2 : P ≤ 1000) (hu : 1 ≤ u) (hu2 : u ≤ 900) {M0 : List (List Int)} (w : World) (hb : base ≤ w.heap.size) (hrb : rb < w.heap.size) (hM : OwM base w (.slice (some ⟨rb, 0, none⟩) P rc) M0) (hl : M0.length = P) (hr : ∀ i, i < P → RoK (q : Int) u (M0.getD i [])) (v0 : Nat → Int) (hv : ∀ i, i < P → Sat (q : Int) u (M0.getD i []) v0) :
    Calls Try.prog 27 #[.int .i64 (q : Int), .slice (some ⟨rb, 0, none⟩) P rc, .int .i64 (u : Int)] w fun e w' => ∃ z l, e = .returned (.tuple #[z, .bool true]) ∧ OwC w.heap.size w' z l ∧ l.length = u ∧ (∀ x ∈ l, 0 ≤ x ∧ x < (q : Int)) ∧ (∀ i, i < P → Sat (q : Int) u (M0.getD i []) (ro l)) ∧ Below base w w' := by
  have hmf : ∀ (fn : Fn) (first cap : Array Value) (w : World), (Instr.makeFunc fn first cap).run Try.prog w = .ok (.func fn first cap) w := fun _ _ _ _ => rfl
  have hqb : 5 ≤ q ∧ q ≤ 13 := by rcases hq with h | h | h | h <;> omega
  obtain ⟨hq5, hq13⟩ := hqb
  obtain ⟨S, hS⟩ : ∃ S : (Nat → Int) → Prop, (fun v => ∀ i, i < P → Sat (q : Int) u (M0.getD i []) v) = S := ⟨_, rfl⟩
  have HG0 := Lib.hid (show GeI (q : Int) P u S M0 [] 0 0 from by rw [← hS]; exact GeI.start hl hr)
  have HV0 := Lib.hid (show S v0 from by rw [← hS]; exact hv)
  have HS := Lib.hid (fun l (h : S (ro l)) => (show ∀ i, i < P → Sat (q : Int) u (M0.getD i []) (ro l) from by rw [← hS] at h; exact h))
  have x1 : Ext w (w.alloc (.cells #[.int .i64 (q : Int)] TFD)) := Ext.allocR _ _
  have hbx := Blk.new_ (w := w) TFD #[.int .i64 (q : Int)] rfl
  obtain ⟨w1, hw1⟩ : ∃ w1, w.alloc (.cells #[.int .i64 (q : Int)] TFD) = w1 := ⟨_, rfl⟩
  rw [hw1] at x1 hbx
  obtain ⟨w2, hmk, hol, hx2⟩ := make_full u w1 w.heap.size (Ext.size x1) (by omega)
  obtain ⟨lb, hlb⟩ : ∃ lb, w1.heap.size = lb := ⟨_, rfl⟩
  obtain ⟨bf, hbf⟩ : ∃ bf, w.heap.size = bf := ⟨_, rfl⟩
  rw [hlb] at hmk hol
  rw [hbf] at hbx
  have HSV := Lib.hid (show SvS q P u base S w w2 rb rc bf lb u M0 [] (List.replicate u 0) 0 0 from ⟨HG0.out, LdK.start u, (hM.n.ext (bt x1 hx2)).mono (fun b hb => by have := Ext.size x1; rw [hlb] at this; omega), hol, hbx.below hx2, Below.mono (bt x1 hx2) hb⟩)
  have HHQ := Lib.hid hq
  have HHB := Lib.hid hb
  have HRB := Lib.hid (show base ≤ rb ∧ rb < bf from ⟨(by obtain ⟨zs, ho, _⟩ := hM; exact own_geE ho rb rfl), by rw [← hbf]; exact hrb⟩)
  have HBF := Lib.hid hbf
  clear hb hrb hM hl hr hv hS hol hx2 hbx x1 HG0 hq hbf
  go_enter Try.func27, Try.ntmps27
  go_wp2_with fail
  rw [HBF.out]
  clear hmk hw1
  go_loopw [11, 26] (fun dv iv wr => ∃ (c k : Nat) (M : List (List Int)) (piv : List Nat) (lead : List Int), c ≤ u ∧ dv = .int .i64 (k : Int) ∧ iv = .int .i64 (c : Int) ∧ SvS q P u base S w wr rb rc bf lb u M piv lead c k) (fun _ i _ => u - (intOf i).toNat)
  case atStart => exact ⟨0, 0, _, _, _, by omega, rfl, rfl, HSV.out⟩
  case round =>
    clear HSV
    obtain ⟨c, k, M, piv, lead, hc, rfl, rfl, hsv⟩ := hrel
    have HSV := Lib.hid hsv
    have hkP := hsv.ge.kP
    clear hsv
    obtain ⟨W, rfl⟩ : ∃ W, W = wr := ⟨_, rfl⟩
    by_cases hcu : c < u
    · have pc : (c : Int) < (u : Int) := by omega
      have wc : IntKind.i64.wrap ((c : Int) + 1) = ((c + 1 : Nat) : Int) := by rw [IntWalk.i64_in _ (by omega)]; rfl
      go_upto_block 2 with fail
      go_cut [13] (fun s wx => ∃ a : Nat, s = .int .i64 (a : Int) ∧ k ≤ a ∧ a ≤ P ∧ (∀ i, k ≤ i → i < a → mt M i c = 0) ∧ (a < P → mt M a c ≠ 0) ∧ wx = W)
      case first =>
        go_wp2_with fail
        go_loopw [13] (fun s wx => ∃ a : Nat, s = .int .i64 (a : Int) ∧ k ≤ a ∧ a ≤ P ∧ (∀ i, k ≤ i → i < a → mt M i c = 0) ∧ wx = W) (fun s _ => P - (intOf s).toNat)
        case atStart => exact ⟨k, rfl, Nat.le_refl _, hkP, fun i h1 h2 => by omega, rfl⟩
        case round =>
          obtain ⟨a, rfl, hka, haP, hz, rfl⟩ := hrel
          have HZ := Lib.hid hz
          clear hz
          by_cases haP2 : a < P
          · have pa : (a : Int) < (P : Int) := by omega
            have wa : IntKind.i64.wrap ((a : Int) + 1) = ((a + 1 : Nat) : Int) := by rw [IntWalk.i64_in _ (by omega)]; rfl
            obtain ⟨⟨z, kz, oz, _⟩, _⟩ := HSV.out.md.at_ haP2
            have hrk := HSV.out.ge.row a haP2
            have hll := hrk.1
            obtain ⟨A1, c1, ez, _⟩ := oz.form
            rw [hll] at ez
            subst ez
            obtain ⟨b1, rfl, _, _, hc1⟩ := oz.cell (by omega)
            have kc := hc1 c (by omega)
            have pcu : (c : Int) < ((u + 1 : Nat) : Int) := by omega
            obtain ⟨x, hx⟩ : ∃ x, ro (M.getD a []) c = x := ⟨_, rfl⟩
            rw [hx] at kc
            have HXX := Lib.hid hx
            clear hc1 oz hrk hll hx
            by_cases hx0 : x = 0
            · have HX0 := Lib.hid hx0
              go_wp2_with fail
              exact ⟨⟨a + 1, by go_num, by omega, by omega, fun i h1 h2 => (by
                by_cases hia : i = a
                · subst hia; unfold mt; rw [HXX.out, HX0.out]
                · exact HZ.out i h1 (by omega)), trivial⟩, by simp [intOf]; omega⟩
            · have HX0 := Lib.hid hx0
              go_wp2_with fail
              go_meet
              exact ⟨a, rfl, hka, by omega, HZ.out, fun _ => (by unfold mt; rw [HXX.out]; exact HX0.out), rfl⟩
          · obtain rfl : a = P := by omega
            go_wp2_with fail
            go_meet
            exact ⟨a, rfl, hka, Nat.le_refl _, HZ.out, fun h => absurd h (Nat.lt_irrefl _), rfl⟩
      case rest =>
        obtain ⟨a, rfl, hka, haP, hz, hnz, rfl⟩ := hcut
        obtain ⟨W, rfl⟩ : ∃ W, W = wc := ⟨_, rfl⟩
        have HZ := Lib.hid hz
        have HNZ := Lib.hid hnz
        clear hz hnz
        by_cases haP2 : a < P
        · have pa : (a : Int) < (P : Int) := by omega
          have hkP2 : k < P := by omega
          have pk : (k : Int) < (P : Int) := by omega
          go_upto_region 11 with fail
          go_cut [] (fun wx => MdS q P u base w wx rb rc bf lb u (swR M k a) lead)
          case first =>
            have HM0 := Lib.hid (HSV.out.md.ext HHB.out (Ext.drew W))
            obtain ⟨wd, hwd⟩ : ∃ wd, W.drew = wd := ⟨_, rfl⟩
            obtain ⟨⟨za, kza, oza, hza⟩, hfr⟩ := HSV.out.md.at_ haP2
            obtain ⟨⟨zk, kzk, ozk, hzk⟩, _⟩ := HSV.out.md.at_ hkP2
            obtain ⟨Aa, ca, ea, _⟩ := oza.form
            rw [(HSV.out.ge.row a haP2).1] at ea
            subst ea
            obtain ⟨Ak, ck, ek, _⟩ := ozk.form
            rw [(HSV.out.ge.row k hkP2).1] at ek
            subst ek
            have KZA := Lib.hid (And.intro (ext_cell (Ext.drew W) kza) (And.intro (oza.below (Ext.drew W)) hza))
            have KZK := Lib.hid (And.intro (ext_cell (Ext.drew W) kzk) (And.intro (ozk.below (Ext.drew W)) hzk))
            clear kza oza hza kzk ozk hzk hfr
            refine wp_region_brn (S := (fun _ => True)) (by kernel_rfl) (by kernel_rfl) (fun _ _ _ _ _ => ⟨fun h => h, fun h => h⟩) ?_
            intro hsel_ hQ_
            rw [hwd] at HM0 KZA KZK ⊢
            clear hwd
            obtain ⟨M1, hM1⟩ : ∃ M1, (M.set k (M.getD a [])).set a (M.getD k []) = M1 := ⟨_, rfl⟩
            have HM1 := Lib.hid hM1
            have hfr := (HM0.out.at_ hkP2).2
            have HMA := Lib.hid (HM0.out.set_ (k := k) (by have := (HSV.out.md.om.m); obtain ⟨zs, ho, _⟩ := this; exact own_geE ho rb rfl) hkP2 KZA.out.2.1 KZA.out.2.2)
            have HOK := Lib.hid (HM0.out.keep hkP2 KZA.out.2.1 KZK.out.2.1)
            obtain ⟨wa, hwa⟩ : ∃ wa, wd.setCell ⟨rb, k, none⟩ (.slice Aa (u + 1) ca) = wa := ⟨_, rfl⟩
            rw [hwa] at HMA HOK
            have HMB := Lib.hid (HMA.out.set_ (k := a) (by have := (HSV.out.md.om.m); obtain ⟨zs, ho, _⟩ := this; exact own_geE ho rb rfl) haP2 HOK.out KZK.out.2.2)
            rw [hM1] at HMB
            obtain ⟨wb, hwb⟩ : ∃ wb, wa.setCell ⟨rb, a, none⟩ (.slice Ak (u + 1) ck) = wb := ⟨_, rfl⟩
            rw [hwb] at HMB
            obtain ⟨⟨zz, kzz, _, _⟩, hfra⟩ := HMA.out.at_ haP2
            have KW := Lib.hid (And.intro hfr (And.intro hfra kzz))
            have HWA := Lib.hid hwa
            have HWB := Lib.hid hwb
            clear hM1 hfr hfra kzz hwa hwb
            refine wpB_chunk (f := 6) (L' := #[true, true, true, true, true, true, true, false, true, true, true, false, false, false, false, false]) hsel_ hQ_ [(0, true, some 50, none), (1, true, some 51, none), (2, true, some 52, none), (3, true, some 53, none), (4, true, some 54, none), (5, true, some 55, none), (6, true, some 56, none), (8, true, some 58, none), (9, true, some 59, none), (10, true, some 60, none)] _ _ _ (by kernel_rfl) trivial ?_
            repeat (first | (refine wpSeqB_pure (v := ?_) rfl ?_ ?_; rotate_left 1; (focus (intro wq_ hSq_; (try dsimp only at hSq_); go_simp; (try with_reducible rfl); done)); (try simp only [Act.put, List.setIfInBounds_toArray, List.set_cons_zero, List.set_cons_succ])) | (refine wpSeqB_pureG (v := ?_) rfl rfl ?_ ?_; rotate_left 1; (focus (intro wq_ hSq_; (try dsimp only at hSq_); go_simp; (try with_reducible rfl); done)); (try simp only [Act.put, List.setIfInBounds_toArray, List.set_cons_zero, List.set_cons_succ])) | (refine wpSeqB_off rfl rfl ?_; (try simp only [Act.put, List.setIfInBounds_toArray, List.set_cons_zero, List.set_cons_succ])) | (refine wpSeqB_offU rfl ?_; (try simp only [Act.put, List.setIfInBounds_toArray, List.set_cons_zero, List.set_cons_succ])))
            intro s0
            clear s0
            refine wpB_two 7 11 (by kernel_rfl) rfl rfl rfl rfl ?_ ?_
            · intro K hK
              have k1 := KZA.out.1
              go_simp
              refine hK.out _ _ trivial ?_
              clear hK K k1
              (try simp only [List.getElem_toArray, List.getElem_cons_succ, List.getElem_cons_zero, Act.put, List.setIfInBounds_toArray, List.set_cons_zero, List.set_cons_succ])
              refine wpB_chunk (f := 0) (L' := #[true, true, true, true, true, true, true, true, true, true, true, true, true, true, true, true]) hsel_ hQ_ [(11, false, some 61, none), (12, true, some 62, none), (13, false, none, none), (14, true, some 63, none), (15, false, none, none)] _ _ _ (by kernel_rfl) trivial ?_
              repeat (first | (refine wpSeqB_pure (v := ?_) rfl ?_ ?_; rotate_left 1; (focus (intro wq_ hSq_; (try dsimp only at hSq_); go_simp; (try with_reducible rfl); done)); (try simp only [Act.put, List.setIfInBounds_toArray, List.set_cons_zero, List.set_cons_succ])) | (refine wpSeqB_pureG (v := ?_) rfl rfl ?_ ?_; rotate_left 1; (focus (intro wq_ hSq_; (try dsimp only at hSq_); go_simp; (try with_reducible rfl); done)); (try simp only [Act.put, List.setIfInBounds_toArray, List.set_cons_zero, List.set_cons_succ])) | (refine wpSeqB_off rfl rfl ?_; (try simp only [Act.put, List.setIfInBounds_toArray, List.set_cons_zero, List.set_cons_succ])) | (refine wpSeqB_offU rfl ?_; (try simp only [Act.put, List.setIfInBounds_toArray, List.set_cons_zero, List.set_cons_succ])))
              have k1 := KZK.out.1
              first | refine wpSeqB_call rfl (fun K hK => ?_) | refine wpSeqB_callG rfl rfl (fun K hK => ?_)
              go_simp
              clear k1
              refine hK.out _ _ trivial ?_
              clear hK K
              (try simp only [List.getElem_toArray, List.getElem_cons_succ, List.getElem_cons_zero, Act.put, List.setIfInBounds_toArray, List.set_cons_zero, List.set_cons_succ])
              repeat (first | (refine wpSeqB_pure (v := ?_) rfl ?_ ?_; rotate_left 1; (focus (intro wq_ hSq_; (try dsimp only at hSq_); go_simp; (try with_reducible rfl); done)); (try simp only [Act.put, List.setIfInBounds_toArray, List.set_cons_zero, List.set_cons_succ])) | (refine wpSeqB_pureG (v := ?_) rfl rfl ?_ ?_; rotate_left 1; (focus (intro wq_ hSq_; (try dsimp only at hSq_); go_simp; (try with_reducible rfl); done)); (try simp only [Act.put, List.setIfInBounds_toArray, List.set_cons_zero, List.set_cons_succ])) | (refine wpSeqB_off rfl rfl ?_; (try simp only [Act.put, List.setIfInBounds_toArray, List.set_cons_zero, List.set_cons_succ])) | (refine wpSeqB_offU rfl ?_; (try simp only [Act.put, List.setIfInBounds_toArray, List.set_cons_zero, List.set_cons_succ])))
              have k1 := KZK.out.1
              have f1 := KW.out.1
              first | refine wpSeqB_call rfl (fun K hK => ?_) | refine wpSeqB_callG rfl rfl (fun K hK => ?_)
              go_simp
              rw [HWA.out]
              clear k1 f1
              refine hK.out _ _ trivial ?_
              clear hK K
              (try simp only [List.getElem_toArray, List.getElem_cons_succ, List.getElem_cons_zero, Act.put, List.setIfInBounds_toArray, List.set_cons_zero, List.set_cons_succ])
              repeat (first | (refine wpSeqB_pure (v := ?_) rfl ?_ ?_; rotate_left 1; (focus (intro wq_ hSq_; (try dsimp only at hSq_); go_simp; (try with_reducible rfl); done)); (try simp only [Act.put, List.setIfInBounds_toArray, List.set_cons_zero, List.set_cons_succ])) | (refine wpSeqB_pureG (v := ?_) rfl rfl ?_ ?_; rotate_left 1; (focus (intro wq_ hSq_; (try dsimp only at hSq_); go_simp; (try with_reducible rfl); done)); (try simp only [Act.put, List.setIfInBounds_toArray, List.set_cons_zero, List.set_cons_succ])) | (refine wpSeqB_off rfl rfl ?_; (try simp only [Act.put, List.setIfInBounds_toArray, List.set_cons_zero, List.set_cons_succ])) | (refine wpSeqB_offU rfl ?_; (try simp only [Act.put, List.setIfInBounds_toArray, List.set_cons_zero, List.set_cons_succ])))
              have f2 := KW.out.2.1
              have k2 := KW.out.2.2
              first | refine wpSeqB_call rfl (fun K hK => ?_) | refine wpSeqB_callG rfl rfl (fun K hK => ?_)
              go_simp
              rw [HWB.out]
              clear f2 k2
              refine hK.out _ _ trivial ?_
              clear hK K
              intro s_
              clear s_
              refine wpB_end (by kernel_rfl) ?_
              go_wp2_with fail
              go_meet
              exact (by have := HMB.out; rw [← HM1.out] at this; exact this)
            · intro K hK
              have k1 := KZK.out.1
              go_simp
              refine hK.out _ _ trivial ?_
              clear hK K k1
              (try simp only [List.getElem_toArray, List.getElem_cons_succ, List.getElem_cons_zero, Act.put, List.setIfInBounds_toArray, List.set_cons_zero, List.set_cons_succ])
              refine wpB_chunk (f := 0) (L' := #[true, true, true, true, true, true, true, true, true, true, true, true, true, true, true, true]) hsel_ hQ_ [(7, false, some 57, none), (12, true, some 62, none), (13, false, none, none), (14, true, some 63, none), (15, false, none, none)] _ _ _ (by kernel_rfl) trivial ?_
              repeat (first | (refine wpSeqB_pure (v := ?_) rfl ?_ ?_; rotate_left 1; (focus (intro wq_ hSq_; (try dsimp only at hSq_); go_simp; (try with_reducible rfl); done)); (try simp only [Act.put, List.setIfInBounds_toArray, List.set_cons_zero, List.set_cons_succ])) | (refine wpSeqB_pureG (v := ?_) rfl rfl ?_ ?_; rotate_left 1; (focus (intro wq_ hSq_; (try dsimp only at hSq_); go_simp; (try with_reducible rfl); done)); (try simp only [Act.put, List.setIfInBounds_toArray, List.set_cons_zero, List.set_cons_succ])) | (refine wpSeqB_off rfl rfl ?_; (try simp only [Act.put, List.setIfInBounds_toArray, List.set_cons_zero, List.set_cons_succ])) | (refine wpSeqB_offU rfl ?_; (try simp only [Act.put, List.setIfInBounds_toArray, List.set_cons_zero, List.set_cons_succ])))
              have k1 := KZA.out.1
              first | refine wpSeqB_call rfl (fun K hK => ?_) | refine wpSeqB_callG rfl rfl (fun K hK => ?_)
              go_simp
              clear k1
              refine hK.out _ _ trivial ?_
              clear hK K
              (try simp only [List.getElem_toArray, List.getElem_cons_succ, List.getElem_cons_zero, Act.put, List.setIfInBounds_toArray, List.set_cons_zero, List.set_cons_succ])
              repeat (first | (refine wpSeqB_pure (v := ?_) rfl ?_ ?_; rotate_left 1; (focus (intro wq_ hSq_; (try dsimp only at hSq_); go_simp; (try with_reducible rfl); done)); (try simp only [Act.put, List.setIfInBounds_toArray, List.set_cons_zero, List.set_cons_succ])) | (refine wpSeqB_pureG (v := ?_) rfl rfl ?_ ?_; rotate_left 1; (focus (intro wq_ hSq_; (try dsimp only at hSq_); go_simp; (try with_reducible rfl); done)); (try simp only [Act.put, List.setIfInBounds_toArray, List.set_cons_zero, List.set_cons_succ])) | (refine wpSeqB_off rfl rfl ?_; (try simp only [Act.put, List.setIfInBounds_toArray, List.set_cons_zero, List.set_cons_succ])) | (refine wpSeqB_offU rfl ?_; (try simp only [Act.put, List.setIfInBounds_toArray, List.set_cons_zero, List.set_cons_succ])))
              have k1 := KZK.out.1
              have f1 := KW.out.1
              first | refine wpSeqB_call rfl (fun K hK => ?_) | refine wpSeqB_callG rfl rfl (fun K hK => ?_)
              go_simp
              rw [HWA.out]
              clear k1 f1
              refine hK.out _ _ trivial ?_
              clear hK K
              (try simp only [List.getElem_toArray, List.getElem_cons_succ, List.getElem_cons_zero, Act.put, List.setIfInBounds_toArray, List.set_cons_zero, List.set_cons_succ])
              repeat (first | (refine wpSeqB_pure (v := ?_) rfl ?_ ?_; rotate_left 1; (focus (intro wq_ hSq_; (try dsimp only at hSq_); go_simp; (try with_reducible rfl); done)); (try simp only [Act.put, List.setIfInBounds_toArray, List.set_cons_zero, List.set_cons_succ])) | (refine wpSeqB_pureG (v := ?_) rfl rfl ?_ ?_; rotate_left 1; (focus (intro wq_ hSq_; (try dsimp only at hSq_); go_simp; (try with_reducible rfl); done)); (try simp only [Act.put, List.setIfInBounds_toArray, List.set_cons_zero, List.set_cons_succ])) | (refine wpSeqB_off rfl rfl ?_; (try simp only [Act.put, List.setIfInBounds_toArray, List.set_cons_zero, List.set_cons_succ])) | (refine wpSeqB_offU rfl ?_; (try simp only [Act.put, List.setIfInBounds_toArray, List.set_cons_zero, List.set_cons_succ])))
              have f2 := KW.out.2.1
              have k2 := KW.out.2.2
              first | refine wpSeqB_call rfl (fun K hK => ?_) | refine wpSeqB_callG rfl rfl (fun K hK => ?_)
              go_simp
              rw [HWB.out]
              clear f2 k2
              refine hK.out _ _ trivial ?_
              clear hK K
              intro s_
              clear s_
              refine wpB_end (by kernel_rfl) ?_
              go_wp2_with fail
              go_meet
              exact (by have := HMB.out; rw [← HM1.out] at this; exact this)
          case rest =>
            have HM1 := Lib.hid hcut
            clear hcut
            obtain ⟨W1, rfl⟩ : ∃ W1, W1 = wc := ⟨_, rfl⟩
            have hra := HSV.out.ge.row a haP2
            obtain ⟨r, hrr⟩ : ∃ r, M.getD a [] = r := ⟨_, rfl⟩
            rw [hrr] at hra
            have hrow : (swR M k a).getD k [] = r := by
              rw [swR_at (by rw [HSV.out.ge.len]; exact hkP2) (by rw [HSV.out.ge.len]; exact haP2)]
              by_cases hak : k = a
              · subst hak; rw [if_pos rfl]; exact hrr
              · rw [if_neg hak, if_pos rfl]; exact hrr
            obtain ⟨⟨zk, kzk, ozk, _⟩, hfr⟩ := HM1.out.at_ hkP2
            rw [hrow] at ozk
            obtain ⟨A1, c1, ez, _⟩ := ozk.form
            rw [hra.1] at ez
            subst ez
            obtain ⟨b1, rfl, _, _, hc1⟩ := ozk.cell (by omega)
            have kc := hc1 c (by omega)
            have hxn := HNZ.out haP2
            have hxr := hra.at_ (j := c) (by omega)
            unfold mt at hxn
            rw [hrr] at hxn
            obtain ⟨x, hx⟩ : ∃ x, ro r c = x := ⟨_, rfl⟩
            rw [hx] at kc hxn hxr
            have hinv := inv_ok HHQ.out (a := x) (by omega) hxr.2
            obtain ⟨n, hn⟩ : ∃ n, pwI (q : Int) x (q - 2) = n := ⟨_, rfl⟩
            have hnin := pwI_in (q := (q : Int)) (by omega) x (q - 2)
            rw [hn] at hinv hnin
            have HINV := Lib.hid (fun w' => rinv_any (q := q) (by omega) (by omega) hxr w')
            rw [hn] at HINV
            obtain ⟨u1, hu1⟩ : ∃ u1, u + 1 = u1 := ⟨_, rfl⟩
            have wu : IntKind.i64.wrap ((u : Int) + 1) = (u1 : Int) := by rw [IntWalk.i64_in _ (by omega), ← hu1]; rfl
            have hu1b : u1 ≤ 1000 := by omega
            have hu1c : 0 < u1 := by omega
            have HSAME := Lib.hid (fun (y : Int) (w' : World) => rsame_any y u1 hu1b hu1c w')
            have pcu1 : (c : Int) < (u1 : Int) := by omega
            have HU1 := Lib.hid hu1
            rw [hu1] at kzk ozk
            have HROW := Lib.hid (And.intro hrr (And.intro hra (And.intro hx (And.intro hinv hnin))))
            have HOZ := Lib.hid ozk
            have HEM := Lib.hid (fun (v : World) {A A2 : Option Addr} {c c2 : Nat} (h1 : Rv v 1 A u1 c (ci r)) (h2 : Rv v 1 A2 u1 c2 (ci (List.replicate u1 n))) (hb : Blk v bf TFD #[.int .i64 (q : Int)]) => each_mul_any hq5 hq13 hu1 (by omega) hra hnin v h1 h2 hb)
            have HFR := Lib.hid hfr
            have kz := fun w' (hh : Ext W1 w') => ext_cell hh kzk
            have kx := fun w' (hh : Ext W1 w') => ext_cell hh kc
            have kb := fun w' (hh : Ext W1 w') => (HM1.out.bx.below hh).cells
            simp only [cellsAre, Nat.zero_add, Nat.reduceAdd, and_true] at kb
            clear hrow kzk ozk hc1 kc hxn hxr hinv hnin hn hrr hra hx hfr hu1
            go_upto_region 12 with fail
            have hst : Ext W1 W1.drew := Ext.drew _
            refine wp_region_adv 20 [] [(0, true, some 64, none), (1, true, some 65, none), (2, true, some 66, none), (3, true, some 67, none), (4, true, some 68, none), (5, true, some 69, none), (6, true, some 70, none), (7, true, some 71, none), (8, true, some 72, none), (9, true, some 73, none), (10, true, some 74, none), (11, true, some 75, none), (12, true, some 76, none), (13, true, some 77, none), (14, true, some 78, none), (16, true, some 80, none), (17, true, some 81, none), (15, false, some 79, none), (18, false, some 82, none), (19, false, some 83, none)] (by kernel_rfl) (by kernel_rfl) (by kernel_rfl) (by intro it hit; (repeat (rcases List.mem_cons.1 hit with rfl | hit; (focus (intro o ho ev w; injection ho with ho; subst ho; kernel_rfl)))); cases hit) (fun _ _ _ _ _ => ⟨fun h => h, fun h => h⟩) hst ?_
            repeat (first | (refine wpSeq_pure (v := ?_) rfl ?_ ?_; rotate_left 1; (focus (intro wq_ hSq_; (try dsimp only at hSq_); go_simp; (try with_reducible rfl); done)); (try simp only [Act.put, List.setIfInBounds_toArray, List.set_cons_zero, List.set_cons_succ])) | (refine wpSeq_pureG (v := ?_) rfl rfl ?_ ?_; rotate_left 1; (focus (intro wq_ hSq_; (try dsimp only at hSq_); go_simp; (try with_reducible rfl); done)); (try simp only [Act.put, List.setIfInBounds_toArray, List.set_cons_zero, List.set_cons_succ])) | (refine wpSeq_off rfl rfl ?_; (try simp only [Act.put, List.setIfInBounds_toArray, List.set_cons_zero, List.set_cons_succ])) | (refine wpSeq_offU rfl ?_; (try simp only [Act.put, List.setIfInBounds_toArray, List.set_cons_zero, List.set_cons_succ])))
            first | refine wpSeq_call rfl (fun v1 g1 s1 K hK => ?_) | refine wpSeq_callG rfl rfl (fun v1 g1 s1 K hK => ?_)
            go_simp
            refine (HINV.out v1).mono ?_
            rintro e y1 ⟨z, rfl, rfl, bb1⟩
            (try go_wp2_with fail)
            refine hK.out _ _ bb1 ?_
            clear hK K
            (try simp only [Act.put, List.setIfInBounds_toArray, List.set_cons_zero, List.set_cons_succ])
            repeat (first | (refine wpSeq_pure (v := ?_) rfl ?_ ?_; rotate_left 1; (focus (intro wq_ hSq_; (try dsimp only at hSq_); go_simp; (try with_reducible rfl); done)); (try simp only [Act.put, List.setIfInBounds_toArray, List.set_cons_zero, List.set_cons_succ])) | (refine wpSeq_pureG (v := ?_) rfl rfl ?_ ?_; rotate_left 1; (focus (intro wq_ hSq_; (try dsimp only at hSq_); go_simp; (try with_reducible rfl); done)); (try simp only [Act.put, List.setIfInBounds_toArray, List.set_cons_zero, List.set_cons_succ])) | (refine wpSeq_off rfl rfl ?_; (try simp only [Act.put, List.setIfInBounds_toArray, List.set_cons_zero, List.set_cons_succ])) | (refine wpSeq_offU rfl ?_; (try simp only [Act.put, List.setIfInBounds_toArray, List.set_cons_zero, List.set_cons_succ])))
            first | refine wpSeq_call rfl (fun v2 g2 s2 K hK => ?_) | refine wpSeq_callG rfl rfl (fun v2 g2 s2 K hK => ?_)
            go_simp
            refine (HSAME.out n v2).mono ?_
            rintro e y2 ⟨z2, rfl, oz2, bb2⟩
            obtain ⟨A2, c2, e2, rv2⟩ := oz2.form
            rw [List.length_replicate] at e2 rv2
            subst e2
            (try go_wp2_with fail)
            refine hK.out _ _ bb2 ?_
            clear hK K
            (try simp only [Act.put, List.setIfInBounds_toArray, List.set_cons_zero, List.set_cons_succ])
            repeat (first | (refine wpSeq_pure (v := ?_) rfl ?_ ?_; rotate_left 1; (focus (intro wq_ hSq_; (try dsimp only at hSq_); go_simp; (try with_reducible rfl); done)); (try simp only [Act.put, List.setIfInBounds_toArray, List.set_cons_zero, List.set_cons_succ])) | (refine wpSeq_pureG (v := ?_) rfl rfl ?_ ?_; rotate_left 1; (focus (intro wq_ hSq_; (try dsimp only at hSq_); go_simp; (try with_reducible rfl); done)); (try simp only [Act.put, List.setIfInBounds_toArray, List.set_cons_zero, List.set_cons_succ])) | (refine wpSeq_off rfl rfl ?_; (try simp only [Act.put, List.setIfInBounds_toArray, List.set_cons_zero, List.set_cons_succ])) | (refine wpSeq_offU rfl ?_; (try simp only [Act.put, List.setIfInBounds_toArray, List.set_cons_zero, List.set_cons_succ])))
            first | refine wpSeq_call rfl (fun v3 g3 s3 K hK => ?_) | refine wpSeq_callG rfl rfl (fun v3 g3 s3 K hK => ?_)
            go_simp
            refine (HEM.out v3 (OwC.rv (HOZ.out.below s3)) (rv2.below g3) (HM1.out.bx.below s3)).mono ?_
            rintro e y3 ⟨z3, rfl, ⟨A3, c3, rfl, oz3⟩, bb3⟩
            (try go_wp2_with fail)
            refine hK.out _ _ bb3 ?_
            clear hK K
            (try simp only [Act.put, List.setIfInBounds_toArray, List.set_cons_zero, List.set_cons_succ])
            repeat (first | (refine wpSeq_pure (v := ?_) rfl ?_ ?_; rotate_left 1; (focus (intro wq_ hSq_; (try dsimp only at hSq_); go_simp; (try with_reducible rfl); done)); (try simp only [Act.put, List.setIfInBounds_toArray, List.set_cons_zero, List.set_cons_succ])) | (refine wpSeq_pureG (v := ?_) rfl rfl ?_ ?_; rotate_left 1; (focus (intro wq_ hSq_; (try dsimp only at hSq_); go_simp; (try with_reducible rfl); done)); (try simp only [Act.put, List.setIfInBounds_toArray, List.set_cons_zero, List.set_cons_succ])) | (refine wpSeq_off rfl rfl ?_; (try simp only [Act.put, List.setIfInBounds_toArray, List.set_cons_zero, List.set_cons_succ])) | (refine wpSeq_offU rfl ?_; (try simp only [Act.put, List.setIfInBounds_toArray, List.set_cons_zero, List.set_cons_succ])))
            intro wz gz sz
            (try simp only [endJ, List.drop_succ_cons, List.drop_zero])
            have HMZ := Lib.hid (HM1.out.ext HHB.out sz)
            have HOZ3 := Lib.hid (show OwC 0 wz (.slice A3 u1 c3) (scR (q : Int) r n) from (oz3.below gz).lower (Nat.zero_le _))
            have HN3 := Lib.hid (show ∀ b, (Value.slice A3 u1 c3).ownBlock = some b → b ≠ lb from fun b hb => by
              have h1 := own_geE oz3 b hb
              have h2 := own_lt HM1.out.ol lb rfl
              have h3 := Ext.size s3
              omega)
            have hfz := (HMZ.out.at_ hkP2).2
            obtain ⟨zq, kzq, _, _⟩ := (HMZ.out.at_ hkP2).1
            have HFZ := Lib.hid (And.intro hfz kzq)
            clear kz kx kb hst s1 g1 bb1 s2 g2 bb2 s3 g3 bb3 gz sz oz3 rv2 oz2 hfz kzq HOZ HEM HFR
            have hf1 := HFZ.out.1
            have hk1 := HFZ.out.2
            go_upto_region 13 with fail
            have HM2 := Lib.hid (HMZ.out.set_ HRB.out.1 hkP2 HOZ3.out HN3.out)
            obtain ⟨W2, hW2⟩ : ∃ W2, wz.setCell ⟨rb, k, none⟩ (.slice A3 u1 c3) = W2 := ⟨_, rfl⟩
            rw [hW2] at HM2 ⊢
            obtain ⟨p, hp⟩ : ∃ p, scR (q : Int) r n = p := ⟨_, rfl⟩
            rw [hp] at HM2
            have HPK := Lib.hid (show RoK (q : Int) u p from by rw [← hp]; exact scR_ok (by omega) HROW.out.2.1 n)
            have HP := Lib.hid hp
            have HM1L := Lib.hid HM1.out.ln
            have HE0 := Lib.hid (ElS.start (q := (q : Int)) (c := c) (p := p) HM1L.out hkP2)
            have HRK := Lib.hid (fun i (hi : i < P) => (show RoK (q : Int) u ((swR M k a).getD i []) from by
              rw [swR_at (by rw [HSV.out.ge.len]; exact hkP2) (by rw [HSV.out.ge.len]; exact haP2)]
              split
              · exact HSV.out.ge.row k hkP2
              · split
                · exact HSV.out.ge.row a haP2
                · exact HSV.out.ge.row i hi))
            clear hf1 hk1 hp hW2 HFZ HMZ HM1 HOZ3 HN3 HINV
            go_wp2_with fail
            go_loopw [87] (fun i wr => ∃ (ii : Nat) (M3 : List (List Int)), ii ≤ P ∧ i = .int .i64 (ii : Int) ∧ ElS (q : Int) P k c ii p (swR M k a) M3 ∧ MdS q P u base w wr rb rc bf lb u M3 lead) (fun i _ => P - (intOf i).toNat)
            case atStart => exact ⟨0, _, Nat.zero_le _, rfl, HE0.out, HM2.out⟩
            case round =>
              clear HE0 HM2
              obtain ⟨ii, M3, hii, rfl, hel, hmd⟩ := hrel
              have HEL := Lib.hid hel
              have HMD := Lib.hid hmd
              clear hel hmd
              obtain ⟨W3, rfl⟩ : ∃ W3, W3 = wr := ⟨_, rfl⟩
              by_cases hiP : ii < P
              · have pi_ : (ii : Int) < (P : Int) := by omega
                have wi_ : IntKind.i64.wrap ((ii : Int) + 1) = ((ii + 1 : Nat) : Int) := by rw [IntWalk.i64_in _ (by omega)]; rfl
                have hrow3 : M3.getD ii [] = if ii = k then p else (swR M k a).getD ii [] := by
                  by_cases hik : ii = k
                  · rw [if_pos hik, hik]; exact HEL.out.lead
                  · rw [if_neg hik, HEL.out.rest ii hiP hik, if_neg (Nat.lt_irrefl _)]
                obtain ⟨rr, hrr⟩ : ∃ rr, (if ii = k then p else (swR M k a).getD ii []) = rr := ⟨_, rfl⟩
                have hrk : RoK (q : Int) u rr := by
                  rw [← hrr]
                  split
                  · exact HPK.out
                  · exact HRK.out ii hiP
                rw [hrr] at hrow3
                obtain ⟨⟨z3, kz3, oz3, _⟩, hfr3⟩ := HMD.out.at_ hiP
                rw [hrow3] at oz3
                obtain ⟨A4, c4, ez, _⟩ := oz3.form
                rw [hrk.1, HU1.out] at ez
                subst ez
                obtain ⟨b4, rfl, _, _, hc4⟩ := oz3.cell hu1c
                have kc4 := hc4 c (by have := HU1.out; omega)
                obtain ⟨y, hy⟩ : ∃ y, ro rr c = y := ⟨_, rfl⟩
                rw [hy] at kc4
                have HR3 := Lib.hid (And.intro hrow3 (And.intro hrr (And.intro hrk hy)))
                have HOZ := Lib.hid oz3
                clear hrow3 hrr hrk oz3 hc4 hy hfr3
                by_cases hik : ii = k
                · subst hik
                  go_wp2_with fail
                  exact ⟨⟨ii + 1, M3, by omega, by go_num, HEL.out.same (Or.inl rfl), HMD.out⟩, by simp [intOf]; omega⟩
                · have pik : ¬ (ii : Int) = (k : Int) := by omega
                  by_cases hy0 : y = 0
                  · have HY0 := Lib.hid hy0
                    go_wp2_with fail
                    exact ⟨⟨ii + 1, M3, by omega, by go_num, HEL.out.same (Or.inr (by
                      have h1 := HR3.out.2.1
                      rw [if_neg hik] at h1
                      rw [h1, HR3.out.2.2.2, HY0.out])), HMD.out⟩, by simp [intOf]; omega⟩
                  · have HY0 := Lib.hid hy0
                    have hyr := HR3.out.2.2.1.at_ (j := c) (by omega)
                    rw [HR3.out.2.2.2] at hyr
                    obtain ⟨⟨zp, kzp, ozp, _⟩, _⟩ := HMD.out.at_ hkP2
                    rw [HEL.out.lead] at ozp
                    obtain ⟨A5, c5, ep, _⟩ := ozp.form
                    rw [HPK.out.1, HU1.out] at ep
                    subst ep
                    have HEM := Lib.hid (fun (v : World) {A A2 : Option Addr} {c c2 : Nat} (h1 : Rv v 1 A u1 c (ci p)) (h2 : Rv v 1 A2 u1 c2 (ci (List.replicate u1 y))) (hb : Blk v bf TFD #[.int .i64 (q : Int)]) => each_mul_any hq5 hq13 HU1.out hu1b HPK.out hyr v h1 h2 hb)
                    have HES := Lib.hid (fun (v : World) {A A2 : Option Addr} {c c2 : Nat} (h1 : Rv v 1 A u1 c (ci rr)) (h2 : Rv v 1 A2 u1 c2 (ci (scR (q : Int) p y))) (hb : Blk v bf TFD #[.int .i64 (q : Int)]) => each_sub_any hq5 hq13 HU1.out hu1b HR3.out.2.2.1 HPK.out y v h1 h2 hb)
                    have HZP := Lib.hid ozp
                    have kz := fun w' (hh : Ext W3 w') => ext_cell hh kz3
                    have kp := fun w' (hh : Ext W3 w') => ext_cell hh kzp
                    clear hyr ozp
                    have pb1 : ((ii : Int) != (k : Int)) = true := by simpa using pik
                    have pb2 : (y != 0) = true := by simpa using hy0
                    go_upto_region 18 with fail
                    have hst : Ext W3 W3.drew := Ext.drew _
                    clear kz3 kzp kc4
                    refine wp_region_adv 18 [] [(0, true, some 104, none), (1, true, some 105, none), (2, true, some 106, none), (3, true, some 107, none), (4, true, some 108, none), (5, true, some 109, none), (6, true, some 110, none), (7, true, some 111, none), (8, true, some 112, none), (9, true, some 113, none), (10, true, some 114, none), (11, true, some 115, none), (12, true, some 116, none), (13, true, some 117, none), (14, true, some 118, none), (15, false, some 119, none), (16, false, some 120, none), (17, false, some 121, none)] (by kernel_rfl) (by kernel_rfl) (by kernel_rfl) (by intro it hit; (repeat (rcases List.mem_cons.1 hit with rfl | hit; (focus (intro o ho ev w; injection ho with ho; subst ho; kernel_rfl)))); cases hit) (fun _ _ _ _ _ => ⟨fun h => h, fun h => h⟩) hst ?_
                    repeat (first | (refine wpSeq_pure (v := ?_) rfl ?_ ?_; rotate_left 1; (focus (intro wq_ hSq_; (try dsimp only at hSq_); go_simp; (try with_reducible rfl); done)); (try simp only [Act.put, List.setIfInBounds_toArray, List.set_cons_zero, List.set_cons_succ])) | (refine wpSeq_pureG (v := ?_) rfl rfl ?_ ?_; rotate_left 1; (focus (intro wq_ hSq_; (try dsimp only at hSq_); go_simp; (try with_reducible rfl); done)); (try simp only [Act.put, List.setIfInBounds_toArray, List.set_cons_zero, List.set_cons_succ])) | (refine wpSeq_off rfl rfl ?_; (try simp only [Act.put, List.setIfInBounds_toArray, List.set_cons_zero, List.set_cons_succ])) | (refine wpSeq_offU rfl ?_; (try simp only [Act.put, List.setIfInBounds_toArray, List.set_cons_zero, List.set_cons_succ])))
                    first | refine wpSeq_call rfl (fun v1 g1 s1 K hK => ?_) | refine wpSeq_callG rfl rfl (fun v1 g1 s1 K hK => ?_)
                    go_simp
                    refine (HSAME.out y v1).mono ?_
                    rintro e y1 ⟨z1, rfl, oz1, bb1⟩
                    obtain ⟨A6, c6, e6, rv6⟩ := oz1.form
                    rw [List.length_replicate] at e6 rv6
                    subst e6
                    (try go_wp2_with fail)
                    refine hK.out _ _ bb1 ?_
                    clear hK K
                    (try simp only [Act.put, List.setIfInBounds_toArray, List.set_cons_zero, List.set_cons_succ])
                    repeat (first | (refine wpSeq_pure (v := ?_) rfl ?_ ?_; rotate_left 1; (focus (intro wq_ hSq_; (try dsimp only at hSq_); go_simp; (try with_reducible rfl); done)); (try simp only [Act.put, List.setIfInBounds_toArray, List.set_cons_zero, List.set_cons_succ])) | (refine wpSeq_pureG (v := ?_) rfl rfl ?_ ?_; rotate_left 1; (focus (intro wq_ hSq_; (try dsimp only at hSq_); go_simp; (try with_reducible rfl); done)); (try simp only [Act.put, List.setIfInBounds_toArray, List.set_cons_zero, List.set_cons_succ])) | (refine wpSeq_off rfl rfl ?_; (try simp only [Act.put, List.setIfInBounds_toArray, List.set_cons_zero, List.set_cons_succ])) | (refine wpSeq_offU rfl ?_; (try simp only [Act.put, List.setIfInBounds_toArray, List.set_cons_zero, List.set_cons_succ])))
                    first | refine wpSeq_call rfl (fun v2 g2 s2 K hK => ?_) | refine wpSeq_callG rfl rfl (fun v2 g2 s2 K hK => ?_)
                    go_simp
                    refine (HEM.out v2 (OwC.rv (HZP.out.below s2)) (rv6.below g2) (HMD.out.bx.below s2)).mono ?_
                    rintro e y2 ⟨z2, rfl, ⟨A7, c7, rfl, oz7⟩, bb2⟩
                    (try go_wp2_with fail)
                    refine hK.out _ _ bb2 ?_
                    clear hK K
                    (try simp only [Act.put, List.setIfInBounds_toArray, List.set_cons_zero, List.set_cons_succ])
                    repeat (first | (refine wpSeq_pure (v := ?_) rfl ?_ ?_; rotate_left 1; (focus (intro wq_ hSq_; (try dsimp only at hSq_); go_simp; (try with_reducible rfl); done)); (try simp only [Act.put, List.setIfInBounds_toArray, List.set_cons_zero, List.set_cons_succ])) | (refine wpSeq_pureG (v := ?_) rfl rfl ?_ ?_; rotate_left 1; (focus (intro wq_ hSq_; (try dsimp only at hSq_); go_simp; (try with_reducible rfl); done)); (try simp only [Act.put, List.setIfInBounds_toArray, List.set_cons_zero, List.set_cons_succ])) | (refine wpSeq_off rfl rfl ?_; (try simp only [Act.put, List.setIfInBounds_toArray, List.set_cons_zero, List.set_cons_succ])) | (refine wpSeq_offU rfl ?_; (try simp only [Act.put, List.setIfInBounds_toArray, List.set_cons_zero, List.set_cons_succ])))
                    first | refine wpSeq_call rfl (fun v3 g3 s3 K hK => ?_) | refine wpSeq_callG rfl rfl (fun v3 g3 s3 K hK => ?_)
                    go_simp
                    refine (HES.out v3 (OwC.rv (HOZ.out.below s3)) (OwC.rv (oz7.below g3)) (HMD.out.bx.below s3)).mono ?_
                    rintro e y3 ⟨z8, rfl, ⟨A8, c8, rfl, oz8⟩, bb3⟩
                    (try go_wp2_with fail)
                    refine hK.out _ _ bb3 ?_
                    clear hK K
                    (try simp only [Act.put, List.setIfInBounds_toArray, List.set_cons_zero, List.set_cons_succ])
                    repeat (first | (refine wpSeq_pure (v := ?_) rfl ?_ ?_; rotate_left 1; (focus (intro wq_ hSq_; (try dsimp only at hSq_); go_simp; (try with_reducible rfl); done)); (try simp only [Act.put, List.setIfInBounds_toArray, List.set_cons_zero, List.set_cons_succ])) | (refine wpSeq_pureG (v := ?_) rfl rfl ?_ ?_; rotate_left 1; (focus (intro wq_ hSq_; (try dsimp only at hSq_); go_simp; (try with_reducible rfl); done)); (try simp only [Act.put, List.setIfInBounds_toArray, List.set_cons_zero, List.set_cons_succ])) | (refine wpSeq_off rfl rfl ?_; (try simp only [Act.put, List.setIfInBounds_toArray, List.set_cons_zero, List.set_cons_succ])) | (refine wpSeq_offU rfl ?_; (try simp only [Act.put, List.setIfInBounds_toArray, List.set_cons_zero, List.set_cons_succ])))
                    intro wz gz sz
                    (try simp only [endJ, List.drop_succ_cons, List.drop_zero])
                    have HMZ := Lib.hid (HMD.out.ext HHB.out sz)
                    have HOZ8 := Lib.hid (show OwC 0 wz (.slice A8 u1 c8) (elR (q : Int) p y rr) from (oz8.below gz).lower (Nat.zero_le _))
                    have HN8 := Lib.hid (show ∀ b, (Value.slice A8 u1 c8).ownBlock = some b → b ≠ lb from fun b hb => by
                      have h1 := own_geE oz8 b hb
                      have h2 := own_lt HMD.out.ol lb rfl
                      have h3 := Ext.size s3
                      omega)
                    have hf1 := (HMZ.out.at_ hiP).2
                    obtain ⟨zq, hk1, _, _⟩ := (HMZ.out.at_ hiP).1
                    clear kz kp hst s1 g1 bb1 s2 g2 bb2 s3 g3 bb3 gz sz oz8 oz7 rv6 oz1 HEM HES HZP
                    go_wp2_with fail
                    exact ⟨⟨ii + 1, M3.set ii (elR (q : Int) p y rr), by omega, by go_num, (by
                      have h1 := HR3.out.2.1
                      rw [if_neg hik] at h1
                      have h2 := HEL.out.put hik hiP (by rw [h1, HR3.out.2.2.2]; exact HY0.out)
                      rw [h1, HR3.out.2.2.2] at h2
                      exact h2), HMZ.out.set_ HRB.out.1 hiP HOZ8.out HN8.out⟩, by simp [intOf]; omega⟩
              · obtain rfl : ii = P := by omega
                have wk_ : IntKind.i64.wrap ((k : Int) + 1) = ((k + 1 : Nat) : Int) := by rw [IntWalk.i64_in _ (by omega)]; rfl
                obtain ⟨b6, e6, hb6, hf6, hc6⟩ := HMD.out.ol.cell (by omega)
                injection e6 with e6
                injection e6 with e6
                subst e6
                have k6 := hc6 c hcu
                have f6 := hf6 c
                have HGE := Lib.hid (HSV.out.ge.step (by omega) hcu hka haP2 (n := n) (by unfold mt; rw [HROW.out.1, HROW.out.2.2.1]; exact HROW.out.2.2.2.1) (show Elm (q : Int) ii k a c n M M3 from ⟨HEL.out.len, by rw [HEL.out.lead, HROW.out.1, HP.out], fun j hj hne => by rw [HEL.out.rest j hj hne, if_pos hj, HROW.out.1, HP.out]⟩))
                have HLD := Lib.hid (LdK.step HSV.out.ge HSV.out.ld hcu)
                have HME := Lib.hid (HMD.out.led HHB.out (by omega) c ((k + 1 : Nat) : Int))
                clear hf6 hc6
                go_wp2_with fail
                go_roundw
                case rel =>
                  exact ⟨c + 1, k + 1, M3, piv ++ [c], lead.set c ((k + 1 : Nat) : Int), by omega, by go_num, by go_num, ⟨HGE.out, HLD.out, HME.out.om, HME.out.ol, HME.out.bx, HME.out.bl⟩⟩
                case measure => simp [intOf]; omega
        · obtain rfl : a = P := by omega
          go_wp2_with fail
          exact ⟨⟨c + 1, k, M, piv, lead, by omega, rfl, by go_num, ⟨HSV.out.ge.skip hcu HZ.out, HSV.out.ld, HSV.out.om, HSV.out.ol, HSV.out.bx, HSV.out.bl⟩⟩, by simp [intOf]; omega⟩
    · obtain rfl : c = u := by omega
      have HGE := Lib.hid HSV.out.ge
      have HLD := Lib.hid HSV.out.ld
      have HMD := Lib.hid HSV.out.md
      have hrc : P ≤ rc := by
        obtain ⟨zs, ho, _⟩ := HSV.out.om
        have := (own_rvv ho).le
        have h2 := HSV.out.ge.len
        omega
      clear HSV
      have wPk : (P : Int) - (k : Int) = ((P - k : Nat) : Int) := by omega
      have hwW := HMD.out.bl.size
      have hsW : w.heap.size ≤ W.heap.size := by have := own_lt HMD.out.ol lb rfl; have := own_geE HMD.out.ol lb rfl; omega
      obtain ⟨w8, hmk8, ho8, hx8⟩ := make_full c W w.heap.size hsW (by omega)
      obtain ⟨ob, hob⟩ : ∃ ob, W.heap.size = ob := ⟨_, rfl⟩
      rw [hob] at hmk8 ho8
      have HO8 := Lib.hid (And.intro ho8 (And.intro hx8 hob))
      clear ho8 hx8 hob hwW hsW
      by_cases hkr : k = rc
      · have hPk : P - k = 0 := by omega
        have pkr : (k : Int) = (rc : Int) := by omega
        go_upto_region 24 with fail
        go_loopw [135] (fun i wr => i = .int .i64 0 ∧ wr = W) (fun i _ => 0)
        case atStart => exact ⟨rfl, rfl⟩
        case round =>
          obtain ⟨rfl, rfl⟩ := hrel
          obtain ⟨W, rfl⟩ : ∃ W, W = wr := ⟨_, rfl⟩
          go_wp2_with fail
          go_loopw [149] (fun i wr => ∃ j : Nat, j ≤ c ∧ i = .int .i64 (j : Int) ∧ OwC w.heap.size wr (.slice (some ⟨ob, 0, none⟩) c c) (tabK c (outF M lead c) j) ∧ Ext W wr) (fun i _ => c - (intOf i).toNat)
          case atStart => exact ⟨0, Nat.zero_le _, rfl, by rw [tabK_zero]; exact HO8.out.1, HO8.out.2.1⟩
          case round =>
            obtain ⟨j, hj, rfl, ho, hx⟩ := hrel
            have HO := Lib.hid ho
            have HX := Lib.hid hx
            clear ho hx
            obtain ⟨W3, rfl⟩ : ∃ W3, W3 = wr := ⟨_, rfl⟩
            by_cases hjc : j < c
            · have pj : (j : Int) < (c : Int) := by omega
              have wj : IntKind.i64.wrap ((j : Int) + 1) = ((j + 1 : Nat) : Int) := by rw [IntWalk.i64_in _ (by omega)]; rfl
              obtain ⟨b6, e6, _, _, hc6⟩ := HMD.out.ol.cell (by omega)
              injection e6 with e6
              injection e6 with e6
              subst e6
              have k6 := ext_cell HX.out (hc6 j hjc)
              clear hc6
              have hld := HLD.out.2.2 j hjc
              obtain ⟨y, hy⟩ : ∃ y, ro lead j = y := ⟨_, rfl⟩
              rw [hy] at k6 hld
              have HY := Lib.hid hy
              clear hy
              by_cases hy0 : y = 0
              · have HY0 := Lib.hid hy0
                have py : ¬ 0 < y := by omega
                clear hld
                go_wp2_with fail
                exact ⟨⟨j + 1, by omega, by go_num, by rw [tabK_skip (by unfold outF; rw [HY.out, HY0.out, if_pos rfl])]; exact HO.out, HX.out⟩, by simp [intOf]; omega⟩
              · obtain ⟨i, hi, hji, hyi⟩ := hld.resolve_left hy0
                clear hji hld
                subst hyi
                have py : 0 < (i : Int) + 1 := by omega
                have wy : IntKind.i64.wrap ((i : Int) + 1 - 1) = (i : Int) := by rw [IntWalk.i64_in _ (by omega)]; omega
                have hiP : i < P := by omega
                have piP : (i : Int) < (P : Int) := by omega
                obtain ⟨⟨z, kz, oz, _⟩, _⟩ := HMD.out.at_ hiP
                obtain ⟨A1, c1, ez, _⟩ := oz.form
                rw [(HGE.out.row i hiP).1] at ez
                subst ez
                obtain ⟨b1, rfl, _, _, hc1⟩ := oz.cell (by omega)
                have kc := ext_cell HX.out (hc1 c (by omega))
                have kz2 := ext_cell HX.out kz
                have pc1 : (c : Int) < ((c + 1 : Nat) : Int) := by omega
                obtain ⟨b7, e7, hb7, hf7, hc7⟩ := HO.out.cell (by omega)
                injection e7 with e7
                injection e7 with e7
                subst e7
                have k7 := hc7 j hjc
                have f7 := hf7 j
                have HV := Lib.hid (show outF M lead c j = ro (M.getD i []) c from by
                  unfold outF mt
                  rw [HY.out, if_neg (by omega), Int.add_sub_cancel, Int.toNat_natCast])
                clear hc1 kz oz hc7 hf7 hy0
                go_wp2_with fail
                refine ⟨⟨j + 1, by omega, by go_num, by rw [← tabK_set hjc, HV.out]; exact HO.out.set_ j _, HX.out.setCell (p := ⟨ob, j, none⟩) (by rw [HO8.out.2.2]; exact Nat.le_refl _) _⟩, by simp [intOf]; omega⟩
            · obtain rfl : j = c := by omega
              go_wp2_with fail
              go_returns
              refine ⟨_, (List.range j).map (outF M lead j), rfl, by rw [← tabK_all]; exact HO.out, by simp, fun x hx => ?_, HS.out _ (outF_sol HGE.out HLD.out HV0.out), HMD.out.bl.trans (Below.mono HX.out (Nat.le_trans HHB.out HMD.out.bl.size))⟩
              obtain ⟨i, hi, rfl⟩ := List.mem_map.1 hx
              exact outF_in (by omega) HGE.out HLD.out (List.mem_range.1 hi)
      · have pkr : (k : Int) < (rc : Int) := by omega
        go_upto_region 24 with fail
        go_loopw [135] (fun i wr => ∃ j : Nat, j ≤ P - k ∧ i = .int .i64 (j : Int) ∧ wr = W) (fun i _ => P - k - (intOf i).toNat)
        case atStart => exact ⟨0, Nat.zero_le _, rfl, rfl⟩
        case round =>
          obtain ⟨j, hj, rfl, rfl⟩ := hrel
          obtain ⟨W, rfl⟩ : ∃ W, W = wr := ⟨_, rfl⟩
          by_cases hjp : j < P - k
          · have pj : (j : Int) < ((P - k : Nat) : Int) := by omega
            have wj : IntKind.i64.wrap ((j : Int) + 1) = ((j + 1 : Nat) : Int) := by rw [IntWalk.i64_in _ (by omega)]; rfl
            have hkj : k + j < P := by omega
            have hz0 := HGE.out.sums HV0.out (i := k + j) (by omega) hkj
            have hrk := HGE.out.row (k + j) hkj
            obtain ⟨⟨z, kz, oz, _⟩, _⟩ := HMD.out.at_ hkj
            obtain ⟨A1, c1, ez, _⟩ := oz.form
            rw [hrk.1] at ez
            subst ez
            obtain ⟨b1, rfl, _, _, hc1⟩ := oz.cell (by omega)
            have kc := hc1 c (by omega)
            unfold mt at hz0
            rw [hz0] at kc
            have pc1 : (c : Int) < ((c + 1 : Nat) : Int) := by omega
            clear hz0 hrk oz hc1
            go_wp2_with fail
            exact ⟨⟨j + 1, by omega, by go_num, trivial⟩, by simp [intOf]; omega⟩
          · obtain rfl : j = P - k := by omega
            go_wp2_with fail
            go_loopw [149] (fun i wr => ∃ j : Nat, j ≤ c ∧ i = .int .i64 (j : Int) ∧ OwC w.heap.size wr (.slice (some ⟨ob, 0, none⟩) c c) (tabK c (outF M lead c) j) ∧ Ext W wr) (fun i _ => c - (intOf i).toNat)
            case atStart => exact ⟨0, Nat.zero_le _, rfl, by rw [tabK_zero]; exact HO8.out.1, HO8.out.2.1⟩
            case round =>
              obtain ⟨j, hj, rfl, ho, hx⟩ := hrel
              have HO := Lib.hid ho
              have HX := Lib.hid hx
              clear ho hx
              obtain ⟨W3, rfl⟩ : ∃ W3, W3 = wr := ⟨_, rfl⟩
              by_cases hjc : j < c
              · have pj : (j : Int) < (c : Int) := by omega
                have wj : IntKind.i64.wrap ((j : Int) + 1) = ((j + 1 : Nat) : Int) := by rw [IntWalk.i64_in _ (by omega)]; rfl
                obtain ⟨b6, e6, _, _, hc6⟩ := HMD.out.ol.cell (by omega)
                injection e6 with e6
                injection e6 with e6
                subst e6
                have k6 := ext_cell HX.out (hc6 j hjc)
                clear hc6
                have hld := HLD.out.2.2 j hjc
                obtain ⟨y, hy⟩ : ∃ y, ro lead j = y := ⟨_, rfl⟩
                rw [hy] at k6 hld
                have HY := Lib.hid hy
                clear hy
                by_cases hy0 : y = 0
                · have HY0 := Lib.hid hy0
                  have py : ¬ 0 < y := by omega
                  clear hld
                  go_wp2_with fail
                  exact ⟨⟨j + 1, by omega, by go_num, by rw [tabK_skip (by unfold outF; rw [HY.out, HY0.out, if_pos rfl])]; exact HO.out, HX.out⟩, by simp [intOf]; omega⟩
                · obtain ⟨i, hi, hji, hyi⟩ := hld.resolve_left hy0
                  clear hji hld
                  subst hyi
                  have py : 0 < (i : Int) + 1 := by omega
                  have wy : IntKind.i64.wrap ((i : Int) + 1 - 1) = (i : Int) := by rw [IntWalk.i64_in _ (by omega)]; omega
                  have hiP : i < P := by omega
                  have piP : (i : Int) < (P : Int) := by omega
                  obtain ⟨⟨z, kz, oz, _⟩, _⟩ := HMD.out.at_ hiP
                  obtain ⟨A1, c1, ez, _⟩ := oz.form
                  rw [(HGE.out.row i hiP).1] at ez
                  subst ez
                  obtain ⟨b1, rfl, _, _, hc1⟩ := oz.cell (by omega)
                  have kc := ext_cell HX.out (hc1 c (by omega))
                  have kz2 := ext_cell HX.out kz
                  have pc1 : (c : Int) < ((c + 1 : Nat) : Int) := by omega
                  obtain ⟨b7, e7, hb7, hf7, hc7⟩ := HO.out.cell (by omega)
                  injection e7 with e7
                  injection e7 with e7
                  subst e7
                  have k7 := hc7 j hjc
                  have f7 := hf7 j
                  have HV := Lib.hid (show outF M lead c j = ro (M.getD i []) c from by
                    unfold outF mt
                    rw [HY.out, if_neg (by omega), Int.add_sub_cancel, Int.toNat_natCast])
                  clear hc1 kz oz hc7 hf7 hy0
                  go_wp2_with fail
                  refine ⟨⟨j + 1, by omega, by go_num, by rw [← tabK_set hjc, HV.out]; exact HO.out.set_ j _, HX.out.setCell (p := ⟨ob, j, none⟩) (by rw [HO8.out.2.2]; exact Nat.le_refl _) _⟩, by simp [intOf]; omega⟩
              · obtain rfl : j = c := by omega
                go_wp2_with fail
                go_returns
                refine ⟨_, (List.range j).map (outF M lead j), rfl, by rw [← tabK_all]; exact HO.out, by simp, fun x hx => ?_, HS.out _ (outF_sol HGE.out HLD.out HV0.out), HMD.out.bl.trans (Below.mono HX.out (Nat.le_trans HHB.out HMD.out.bl.size))⟩
                obtain ⟨i, hi, rfl⟩ := List.mem_map.1 hx
                exact outF_in (by omega) HGE.out HLD.out (List.mem_range.1 hi)
end Go.Proofs.Tb
