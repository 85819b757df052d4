/- Contracts of package rate: corners, Hull. -/
import Derived.Test.YtcbffkkcldnegaaRate1
import Derived.Test.YtcbffkkcldnegaaRef1
import Derived.Test.YtcbffkkcldnegaaHul
import Derived.Test.YtcbffkkcldnegaaAdv
import Derived.Deep.DeepCutAuto
set_option linter.unusedVariables false
set_option linter.unusedSimpArgs false
namespace Go.Proofs.Tb
open Go.RowKit
attribute [local go_sem] cell_set_same

theorem field_B0 (x y : Value) (w : World) : (Instr.field TBD (.agg #[x, y]) 0).run Try.prog w = .ok x w := by kernel_rfl
attribute [local go_sem] field_B0
set_option maxRecDepth 100000 in
theorem is_slice_hi (A : Option Addr) (n c k : Nat) (w : World) (hk : k ≤ c) : (Instr.sliceAt TS (.slice A n c) none (some (.int .i64 (k : Int))) none).run Try.prog w = .ok (.slice A k c) w := by
  obtain ⟨i0, hi, hz0, hz1, hz2⟩ := info_parts int_info
  have e : ∀ s : Nat, sliced A 0 k c s = .slice A k c := by
    intro s
    unfold sliced
    rw [Nat.zero_mul, Nat.sub_zero, Nat.sub_zero]
    cases A with
    | none => simp
    | some a => simp [Addr.add]
  rw [run_sliceAt_slice _ _ _ _ _ _ Try.underlying33, run_slice_h _ _ _ _ _ Try.underlying33 .i64 (k : Int) (by omega) (by omega)]
  have hi' : Try.prog.info? (Try.prog.elem TS) = some i0 := hi
  simp [sizeOf, typeInfo, hi', Result.andThen, e]
theorem Ow.pop {base n c : Nat} {w : World} {A : Option Addr} {cs : List Nat} (h : Ow base w (.slice A n c) cs) {k : Nat} (hk : k ≤ cs.length) : Ow base w (.slice A k c) (cs.take k) := by
  obtain ⟨hl, h2⟩ := h
  have hk2 : (cs.take k).length = k := by simp; omega
  unfold Ow World.ownsRow
  rw [hk2]
  refine ⟨by simp; omega, ?_⟩
  rcases h2 with ⟨he, h0⟩ | ⟨g, cap, cur, he, hb, hh, hn, hm, hs, ht⟩
  · injection he with e1 e2 e3
    have : k = 0 := by omega
    subst e1 e2 e3 this
    exact Or.inl ⟨rfl, rfl⟩
  · injection he with e1 e2 e3
    subst e1 e2 e3
    refine Or.inr ⟨g, c, cur, rfl, hb, hh, by omega, hm, hs, ?_⟩
    rw [List.map_take, ← ht, List.take_take]
    congr 1
    omega
theorem Ow.below {base : Nat} {w w' : World} {v : Value} {cs : List Nat} (h : Ow base w v cs) (hb : Below w.heap.size w w') : Ow base w' v cs := by
  obtain ⟨hl, h2⟩ := h
  refine ⟨hl, ?_⟩
  rcases h2 with h2 | ⟨g, cap, cur, he, hg, hh, hn, hm, hs, ht⟩
  · exact Or.inl h2
  · exact Or.inr ⟨g, cap, cur, he, hg, (hb.block g (block_lt hh)).trans hh, hn, hm, hs, ht⟩
/-- Offsets seen from one side. -/
def ysg (rs : List Rdg) (sg : Int) (i : Nat) : Int := sg * ofs rs i
theorem trn_sg (rs : List Rdg) (sg : Int) (i j k : Nat) : trn (tm rs) (ysg rs sg) i j k = -(bo rs i j k * sg) := by unfold trn ysg bo; grind
/-- The corners of the first k readings, the last one first. -/
def CorI (t y : Nat → Int) (k : Nat) (st : List Nat) : Prop := (k = 0 ∧ st = []) ∨ ∃ b l, st = b :: l ∧ Chn t y st ∧ b + 1 = k
def CorJ (t y : Nat → Int) (k : Nat) (st : List Nat) : Prop := (k = 0 ∧ st = []) ∨ CSt t y k st
section
variable {t y : Nat → Int} {k n : Nat} {st l : List Nat} {b c : Nat}
theorem CorI.start : CorI t y 0 [] := Or.inl ⟨rfl, rfl⟩
theorem CorI.inn (h : CorI t y k st) : CorJ t y k st := by
  rcases h with h | ⟨b, l, rfl, h1, rfl⟩
  · exact Or.inl h
  · exact Or.inr (CSt.start h1)
theorem CorJ.one (h : CorJ t y k st) (hl : st.length < 2) : CorI t y (k + 1) (k :: st) := by
  rcases h with ⟨rfl, rfl⟩ | h
  · exact Or.inr ⟨0, [], rfl, rfl, rfl⟩
  · obtain ⟨c, l, rfl, _⟩ := id h
    refine Or.inr ⟨k, c :: l, rfl, h.push fun b hb => ?_, rfl⟩
    cases l with
    | nil => cases hb
    | cons => simp at hl; omega
theorem CorJ.brk (h : CorJ t y k (c :: b :: l)) (hp : 0 < trn t y b c k) : CorI t y (k + 1) (k :: c :: b :: l) := by
  rcases h with ⟨_, h⟩ | h
  · cases h
  · exact Or.inr ⟨k, _, rfl, h.push fun b' hb => by injection hb with hb; rw [← hb]; exact hp, rfl⟩
theorem CorJ.pop (mono : ∀ i j, i < j → j < n → t i < t j) (h : CorJ t y k (c :: b :: l)) (hk : k < n) (hp : trn t y b c k ≤ 0) : CorJ t y k (b :: l) := by
  rcases h with ⟨_, h⟩ | h
  · cases h
  · exact Or.inr (h.pop mono hk hp)
theorem CorJ.lt (h : CorJ t y k (c :: b :: l)) : b < c ∧ c < k := by
  rcases h with ⟨_, h⟩ | ⟨c', l', he, hc, hck, _⟩
  · cases h
  · injection he with e1 e2
    subst e1
    exact ⟨hc.1, hck⟩
end
theorem rev_top {c b : Nat} {l : List Nat} : (c :: b :: l).reverse.getD (l.length + 1) 0 = c ∧ (c :: b :: l).reverse.getD l.length 0 = b := by
  constructor <;> simp [List.getD]
theorem rev_pop {c b : Nat} {l : List Nat} : (c :: b :: l).reverse.take (l.length + 1) = (b :: l).reverse := by
  rw [List.reverse_cons, List.take_append_of_le_length (by simp), List.take_of_length_le (by simp)]
/-- What corners returns. -/
def CorR (rs : List Rdg) (sg : Int) (v : Value) (w : World) : Prop := ∃ b l, Chn (tm rs) (ysg rs sg) (b :: l) ∧ b + 1 = rs.length ∧ SL TN w v ((b :: l).reverse.map I64)

set_option maxHeartbeats 3200000 in
set_option maxRecDepth 100000 in
theorem rcorners_any (A : Option Addr) (n c : Nat) (rs : List Rdg) (sg : Int) (w : World) (h : Rd w A n c rs) (hv : Vld rs) (hsg : sg = 1 ∨ sg = -1) :
    Calls Try.prog 84 #[.slice A n c, .int .i64 sg] w (Ret (CorR rs sg) w) := by
  have hn := h.le
  have hc := h.cap
  have hn64 : n ≤ 64 := by have := hv.2.1; have := h.len; omega
  have H := Lib.hid h
  have HV := Lib.hid hv
  have HL := Lib.hid h.len
  have HSG := Lib.hid hsg
  have HM : Hid (∀ i j, i < j → j < n → tm rs i < tm rs j) := fun i j h1 h2 => hv.mono_tm h1 (by rw [h.len]; exact h2)
  clear h hv hsg
  go_enter Try.func84, Try.ntmps84
  go_wp2
  go_loopw [5, 11] (fun v x wr => ∃ (k : Nat) (st : List Nat), x = .int .i64 k ∧ k ≤ n ∧ CorI (tm rs) (ysg rs sg) k st ∧ st.length ≤ k ∧ Ow w.heap.size wr v st.reverse ∧ Below w.heap.size w wr) (fun _ x _ => n - (intOf x).toNat)
  case atStart => exact ⟨0, [], rfl, Nat.zero_le _, CorI.start, Nat.le_refl _, Ow.nil _ _, Below.refl _ _⟩
  case round =>
    obtain ⟨k, st, rfl, hk, hci, hlen, hown, hbw⟩ := hrel
    obtain ⟨wi, rfl⟩ : ∃ wo : World, wo = wr := ⟨_, rfl⟩
    have HC := Lib.hid hci
    have HO := Lib.hid hown
    have HBW := Lib.hid hbw
    clear hci hown hbw
    by_cases hkn : k < n
    · have g1 : decide ((k : Int) < (n : Int)) = true := by simp; omega
      go_wp2
      go_loopw [5] (fun v wr => ∃ st : List Nat, CorJ (tm rs) (ysg rs sg) k st ∧ st.length ≤ k ∧ Ow w.heap.size wr v st.reverse ∧ Below w.heap.size w wr) (fun v _ => match v with | .slice _ n _ => n | _ => 0)
      case atStart => exact ⟨st, HC.out.inn, hlen, HO.out, HBW.out⟩
      case round =>
        clear HC HO HBW hlen st
        obtain ⟨st, hcj, hlen, hown, hbw⟩ := hrel
        obtain ⟨wj, rfl⟩ : ∃ wo : World, wo = wr := ⟨_, rfl⟩
        obtain ⟨A', n', c', rfl, hsl⟩ := hown.sl
        have hn' : st.length = n' := by have := hsl.len; simpa using this
        have hle' := hsl.le
        have hcap' := hsl.cap
        have HC := Lib.hid hcj
        have HO := Lib.hid hown
        have HBW := Lib.hid hbw
        have HSL := Lib.hid hsl
        have hn64' : n' ≤ 64 := by omega
        clear hcj hown hbw hsl
        by_cases h2 : 2 ≤ n'
        · have g2 : decide ((2 : Int) ≤ (n' : Int)) = true := by simp; omega
          obtain ⟨cc, b, l, rfl⟩ : ∃ cc b l, st = cc :: b :: l := by
            match st, hn' with
            | [], hn' => simp at hn'; omega
            | [x], hn' => simp at hn'; omega
            | x :: y :: l, _ => exact ⟨x, y, l, rfl⟩
          have hm : n' = l.length + 2 := by simp at hn'; omega
          obtain ⟨m, hlm⟩ : ∃ m, l.length = m := ⟨_, rfl⟩
          rw [hlm] at hm
          have HLM := Lib.hid hlm
          subst hm
          obtain ⟨b0, o0, rfl, hcl⟩ := HSL.out.at_int (by omega)
          have c1 := hcl (m + 1) (by omega)
          have c2 := hcl m (by omega)
          rw [← hlm, rev_top.1, hlm] at c1
          rw [← hlm, rev_top.2, hlm] at c2
          obtain ⟨hbc, hck⟩ := HC.out.lt
          obtain ⟨t, o, rfl, hcell⟩ := (H.out.below HBW.out).at_ (by omega)
          obtain ⟨a1, a2⟩ := hcell b (by omega)
          obtain ⟨a3, a4⟩ := hcell cc (by omega)
          obtain ⟨a5, a6⟩ := hcell k hkn
          have oi := (HV.out.2.2 b (by rw [HL.out]; omega))
          have oj := (HV.out.2.2 cc (by rw [HL.out]; omega))
          have ok := (HV.out.2.2 k (by rw [HL.out]; exact hkn))
          have xb := HV.out.bo_bd (i := b) (j := cc) (k := k) (by rw [HL.out]; omega) (by rw [HL.out]; omega) (by rw [HL.out]; exact hkn)
          have HBO : Hid (∀ W, Calls Try.prog 109 #[.agg #[.int .i64 (rs.getD b (0, 0)).1, .int .i64 (rs.getD b (0, 0)).2], .agg #[.int .i64 (rs.getD cc (0, 0)).1, .int .i64 (rs.getD cc (0, 0)).2], .agg #[.int .i64 (rs.getD k (0, 0)).1, .int .i64 (rs.getD k (0, 0)).2]] W (Ret (fun v _ => v = .agg #[.int .i64 (bo rs b cc k), .int .i64 (br rs b k)]) W)) := fun W =>
            rbent_any _ _ _ _ _ _ W ⟨oi.1, oi.2.1, oi.2.2.1, oi.2.2.2.1⟩ ⟨oj.1, oj.2.1, oj.2.2.1, oj.2.2.2.1⟩ ⟨ok.1, ok.2.1, ok.2.2.1, ok.2.2.2.1⟩
          have HT : Hid (trn (tm rs) (ysg rs sg) b cc k = -(bo rs b cc k * sg)) := trn_sg rs sg b cc k
          clear hcl hcell oi oj ok hlm
          obtain ⟨ti, eti⟩ : ∃ x, (rs.getD b (0, 0)).1 = x := ⟨_, rfl⟩
          obtain ⟨yi, eyi⟩ : ∃ x, (rs.getD b (0, 0)).2 = x := ⟨_, rfl⟩
          obtain ⟨tj, etj⟩ : ∃ x, (rs.getD cc (0, 0)).1 = x := ⟨_, rfl⟩
          obtain ⟨yj, eyj⟩ : ∃ x, (rs.getD cc (0, 0)).2 = x := ⟨_, rfl⟩
          obtain ⟨tk, etk⟩ : ∃ x, (rs.getD k (0, 0)).1 = x := ⟨_, rfl⟩
          obtain ⟨yk, eyk⟩ : ∃ x, (rs.getD k (0, 0)).2 = x := ⟨_, rfl⟩
          rw [eti, eyi, etj, eyj, etk, eyk] at HBO
          rw [eti] at a1
          rw [eyi] at a2
          rw [etj] at a3
          rw [eyj] at a4
          rw [etk] at a5
          rw [eyk] at a6
          clear eti eyi etj eyj etk eyk
          obtain ⟨off, eoff⟩ : ∃ x, bo rs b cc k = x := ⟨_, rfl⟩
          obtain ⟨run, erun⟩ : ∃ x, br rs b k = x := ⟨_, rfl⟩
          rw [eoff, erun] at HBO
          rw [eoff] at HT xb
          clear eoff erun
          obtain ⟨u, hu⟩ : ∃ x, off * sg = x := ⟨_, rfl⟩
          rw [hu] at HT
          have ub : -8000000000000 ≤ u ∧ u ≤ 8000000000000 := by rcases HSG.out with h | h <;> subst h <;> omega
          have HU := Lib.hid hu
          have UB := Lib.hid ub
          have p1 : IntKind.i64.wrap (((m + 2 : Nat) : Int) - 2) = (m : Int) := by rw [IntWalk.i64_in _ (by omega)]; omega
          have p2 : IntKind.i64.wrap (((m + 2 : Nat) : Int) - 1) = ((m + 1 : Nat) : Int) := by rw [IntWalk.i64_in _ (by omega)]; omega
          have r1 : (m : Int) < ((m + 2 : Nat) : Int) := by omega
          have r2 : ((m + 1 : Nat) : Int) < ((m + 2 : Nat) : Int) := by omega
          have rb : (b : Int) < (n : Int) := by omega
          have rc : (cc : Int) < (n : Int) := by omega
          have rk : (k : Int) < (n : Int) := by omega
          clear hu
          have hx : ∀ W, Ext wj W → (W.cell? ⟨b0, o0 + m, none⟩ = some (.int .i64 (b : Int)) ∧ W.cell? ⟨b0, o0 + (m + 1), none⟩ = some (.int .i64 (cc : Int))) := fun W hh => ⟨Ext.cell hh c2, Ext.cell hh c1⟩
          have hst : Ext wj wj.drew := Ext.drew _
          go_upto_region 6 with fail
          go_quiet (fail)
          clear p1 p2 r1 r2 c1 c2 hx
          go_upto_region 7 with fail
          refine wp_world (fun W => Ext wj W) (by exact below_drewN (Below.refl _ _) _) ?_
          intro W1 hx1
          have HX1 := Lib.hid hx1
          have d1 := Ext.cell hx1 a1
          have d2 := Ext.cell hx1 a2
          have d3 := Ext.cell hx1 a3
          have d4 := Ext.cell hx1 a4
          have d5 := Ext.cell hx1 a5
          have d6 := Ext.cell hx1 a6
          clear a1 a2 a3 a4 a5 a6 hst hx1
          have k1 := fun w' (hh : Ext W1 w') => (show (w'.cell? ⟨t, o + b * 2, none⟩ = some (.int .i64 ti) ∧ w'.cell? ⟨t, o + b * 2 + 1, none⟩ = some (.int .i64 yi)) ∧ (w'.cell? ⟨t, o + cc * 2, none⟩ = some (.int .i64 tj) ∧ w'.cell? ⟨t, o + cc * 2 + 1, none⟩ = some (.int .i64 yj)) ∧ (w'.cell? ⟨t, o + k * 2, none⟩ = some (.int .i64 tk) ∧ w'.cell? ⟨t, o + k * 2 + 1, none⟩ = some (.int .i64 yk)) from
            ⟨⟨Ext.cell hh d1, Ext.cell hh d2⟩, ⟨Ext.cell hh d3, Ext.cell hh d4⟩, ⟨Ext.cell hh d5, Ext.cell hh d6⟩⟩)
          clear d1 d2 d3 d4 d5 d6
          have hst : Ext W1 W1.drew := Ext.drew _
          refine wp_region_adv 15 [] [(0, true, some 29, none), (1, true, some 30, none), (2, true, some 31, none), (3, true, some 32, none), (4, true, some 33, none), (5, true, some 34, none), (6, true, some 35, none), (7, true, some 36, none), (8, true, some 37, none), (9, true, some 38, none), (10, true, some 39, none), (11, true, some 40, none), (14, true, some 43, none), (12, false, some 41, none), (13, true, some 42, none)] (by kernel_rfl) (by kernel_rfl) (by kernel_rfl) (by intro it hit; (repeat (rcases List.mem_cons.1 hit with rfl | hit; (focus (intro o ho ev w; injection ho with ho; subst ho; kernel_rfl)))); cases hit) (fun _ _ _ _ _ => ⟨fun h => h, fun h => h⟩) hst ?_
          repeat (first | (refine wpSeq_pure (v := ?_) rfl ?_ ?_; rotate_left 1; (focus (intro wq_ hSq_; (try dsimp only at hSq_); go_simp; (try with_reducible rfl); done)); (try simp only [Act.put, List.setIfInBounds_toArray, List.set_cons_zero, List.set_cons_succ])) | (refine wpSeq_pureG (v := ?_) rfl rfl ?_ ?_; rotate_left 1; (focus (intro wq_ hSq_; (try dsimp only at hSq_); go_simp; (try with_reducible rfl); done)); (try simp only [Act.put, List.setIfInBounds_toArray, List.set_cons_zero, List.set_cons_succ])) | (refine wpSeq_off rfl rfl ?_; (try simp only [Act.put, List.setIfInBounds_toArray, List.set_cons_zero, List.set_cons_succ])))
          first | refine wpSeq_call rfl (fun u1 g1' s1 K hK => ?_) | refine wpSeq_callG rfl rfl (fun u1 g1' s1 K hK => ?_)
          go_simp
          refine (HBO.out u1).mono ?_
          rintro e y1 ⟨z1, rfl, rfl, b1'⟩
          (try go_wp2_with fail)
          refine hK.out _ _ b1' ?_
          clear hK K
          (try simp only [Act.put, List.setIfInBounds_toArray, List.set_cons_zero, List.set_cons_succ])
          repeat (first | (refine wpSeq_pure (v := ?_) rfl ?_ ?_; rotate_left 1; (focus (intro wq_ hSq_; (try dsimp only at hSq_); go_simp; (try with_reducible rfl); done)); (try simp only [Act.put, List.setIfInBounds_toArray, List.set_cons_zero, List.set_cons_succ])) | (refine wpSeq_pureG (v := ?_) rfl rfl ?_ ?_; rotate_left 1; (focus (intro wq_ hSq_; (try dsimp only at hSq_); go_simp; (try with_reducible rfl); done)); (try simp only [Act.put, List.setIfInBounds_toArray, List.set_cons_zero, List.set_cons_succ])) | (refine wpSeq_off rfl rfl ?_; (try simp only [Act.put, List.setIfInBounds_toArray, List.set_cons_zero, List.set_cons_succ])))
          intro wz gz sz_
          (try simp only [endJ, List.drop_succ_cons, List.drop_zero])
          have HZ := Lib.hid (show Ext wj wz from bt HX1.out sz_)
          clear k1 hst g1' s1 b1' gz sz_ ub
          have p1 : -8000000000000 ≤ off * sg := by rw [HU.out]; exact UB.out.1
          have p2 : off * sg ≤ 8000000000000 := by rw [HU.out]; exact UB.out.2
          by_cases hu : u < 0
          · have g3 : decide (off * sg < 0) = true := by rw [HU.out]; simpa using hu
            have HCI := Lib.hid (HC.out.brk (by rw [HT.out]; omega))
            have HO2 := Lib.hid (HO.out.below HZ.out)
            have HB2 := Lib.hid (bt HBW.out HZ.out)
            have hl3 : (cc :: b :: l).length ≤ k := hlen
            have HLL := Lib.hid hl3
            clear hu hl3 hlen
            go_wp2_with (at_builtin; refine wp_app1 rfl _ _ rfl w.heap.size _ (cc :: b :: l).reverse rfl HO2.out _ k rfl rfl (by have := HLL.out; simp at this ⊢; omega) HB2.out.size ?_; intro v' w1 hown1 hb1)
            go_roundw
            case rel => exact ⟨k + 1, k :: cc :: b :: l, by go_num, by omega, HCI.out, by have := HLL.out; simp at this ⊢; omega, by rw [List.reverse_cons]; exact hown1, HB2.out.trans hb1⟩
            case measure => first | (simp [intOf]; done) | (simp [intOf]; omega)
          · have g3 : decide (off * sg < 0) = false := by rw [HU.out]; simpa using hu
            have HCJ := Lib.hid (HC.out.pop HM.out hkn (by rw [HT.out]; omega))
            have HOP := Lib.hid (Ow.pop HO.out (k := m + 1) (by simp; have := HLM.out; omega))
            have HO2 : Hid (Ow w.heap.size wz (.slice (some ⟨b0, o0, none⟩) (m + 1) c') (b :: l).reverse) := by
              have h1 := HOP.out.below HZ.out
              rw [← HLM.out, rev_pop, HLM.out] at h1
              exact h1
            have HB2 := Lib.hid (bt HBW.out HZ.out)
            have HLL : Hid ((b :: l).length ≤ k) := by show _ ≤ _; simp at hlen ⊢; omega
            have s1 := fun w => is_slice_hi (some ⟨b0, o0, none⟩) (m + 2) c' (m + 1) w (by omega)
            have p3 : m + 2 - 1 = m + 1 := by omega
            clear hu hlen
            go_wp2
            go_roundw
            case rel => exact ⟨b :: l, HCJ.out, HLL.out, HO2.out, HB2.out⟩
            case measure => first | (simp; done) | (simp; omega)
        · have g2 : decide ((2 : Int) ≤ (n' : Int)) = false := by simp; omega
          have HCI := Lib.hid (HC.out.one (by omega))
          have HO2 := Lib.hid HO.out
          have HB2 := Lib.hid HBW.out
          have HLL := Lib.hid hlen
          clear hlen
          go_wp2_with (at_builtin; refine wp_app1 rfl _ _ rfl w.heap.size _ (st).reverse rfl HO2.out _ k rfl rfl (by have := HLL.out; simp at this ⊢; omega) HB2.out.size ?_; intro v' w1 hown1 hb1)
          go_roundw
          case rel => exact ⟨k + 1, k :: st, by go_num, by omega, HCI.out, by have := HLL.out; simp at this ⊢; omega, by rw [List.reverse_cons]; exact hown1, HB2.out.trans hb1⟩
          case measure => first | (simp [intOf]; done) | (simp [intOf]; omega)
    · have : k = n := by omega
      subst this
      have g1 : decide ((k : Int) < (k : Int)) = false := by simp
      obtain ⟨A', n', c', hv', hil⟩ := HO.out.sl
      subst hv'
      have HIL := Lib.hid hil
      have HST : Hid (∃ b l, st = b :: l ∧ Chn (tm rs) (ysg rs sg) st ∧ b + 1 = k) := by
        rcases HC.out with ⟨h0, _⟩ | h
        · exact absurd h0 (by have := HV.out.1; have := HL.out; omega)
        · exact h
      clear hil
      go_wp2
      go_returns
      obtain ⟨b, l, rfl, hch, hb1⟩ := HST.out
      exact ⟨_, rfl, ⟨b, l, hch, by rw [HL.out]; exact hb1, HIL.out.toSL⟩, HBW.out⟩

/-- What Hull returns. -/
def HulR (rs : List Rdg) (v : Value) (w : World) : Prop :=
  (¬ Vld rs → v = .tuple #[.slice none 0 0, .slice none 0 0, .int .i64 1]) ∧
  (Vld rs → ∃ v1 v2, CorR rs 1 v1 w ∧ CorR rs (-1) v2 w ∧ v = .tuple #[v1, v2, .int .i64 0])
theorem CorR.below {rs : List Rdg} {sg : Int} {v : Value} {w w' : World} (h : CorR rs sg v w) (hb : Below w.heap.size w w') : CorR rs sg v w' := by
  obtain ⟨b, l, h1, h2, h3⟩ := h
  exact ⟨b, l, h1, h2, h3.below hb⟩
theorem CorR.form {rs : List Rdg} {sg : Int} {v : Value} {w : World} (h : CorR rs sg v w) : ∃ A n c, v = .slice A n c := by
  obtain ⟨b, l, h1, h2, A, n, c, h3, _⟩ := h
  exact ⟨_, _, _, h3⟩
set_option maxHeartbeats 1600000 in
theorem rhull_any (A : Option Addr) (n c : Nat) (rs : List Rdg) (w : World) (h : Rd w A n c rs) :
    Calls Try.prog 40 #[.slice A n c] w (Ret (HulR rs) w) := by
  have H := Lib.hid h
  clear h
  go_enter Try.func40, Try.ntmps40
  go_wp2_with fail
  refine (rvalid_any _ _ _ rs _ H.out).mono ?_
  rintro e w1 ⟨v1, rfl, rfl, hb1⟩
  by_cases hv : Vld rs
  · rw [vld_true hv]
    have HV := Lib.hid hv
    have HB1 := Lib.hid hb1
    clear hv hb1
    go_wp2_with fail
    refine (rcorners_any _ _ _ rs 1 _ (H.out.below HB1.out) HV.out (Or.inl rfl)).mono ?_
    rintro e w2 ⟨v2, rfl, h2, hb2⟩
    obtain ⟨A2, n2, c2, rfl⟩ := h2.form
    have H2 := Lib.hid h2
    have HB2 := Lib.hid (bt HB1.out hb2)
    clear h2 hb2
    go_wp2_with fail
    refine (rcorners_any _ _ _ rs (-1) _ (H.out.below HB2.out) HV.out (Or.inr rfl)).mono ?_
    rintro e w3 ⟨v3, rfl, h3, hb3⟩
    obtain ⟨A3, n3, c3, rfl⟩ := h3.form
    have H3 := Lib.hid h3
    have H2 := Lib.hid (H2.out.below hb3)
    have HB3 := Lib.hid (bt HB2.out hb3)
    clear h3 hb3
    go_wp2
    go_ret3
    exact ⟨_, rfl, ⟨fun hno => absurd HV.out hno, fun _ => ⟨_, _, H2.out, H3.out, rfl⟩⟩, HB3.out⟩
  · rw [vld_false hv]
    have HV := Lib.hid hv
    clear hv
    go_wp2
    go_ret3
    exact ⟨_, rfl, ⟨fun _ => rfl, fun h => absurd h HV.out⟩, hb1⟩
end Go.Proofs.Tb
