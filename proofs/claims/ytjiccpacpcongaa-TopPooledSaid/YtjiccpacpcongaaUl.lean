/- members, Members. -/
import Derived.Test.YtjiccpacpcongaaUk
set_option linter.unusedVariables false
set_option linter.unusedSimpArgs false
namespace Go.Proofs.Tb
open Go.RowKit Go.Lib
attribute [local go_sem] cell_set_same

def dgL (q i k : Nat) : List Int := (List.range k).map fun j => ((i / q ^ j % q : Nat) : Int)
theorem dgL_two {q i : Nat} (hq : 0 < q) (hi : i < q * q) : dgL q i 2 = [((i % q : Nat) : Int), ((i / q : Nat) : Int)] := by
  have h1 : i / q < q := Nat.div_lt_of_lt_mul hi
  show [((i / q ^ 0 % q : Nat) : Int), ((i / q ^ 1 % q : Nat) : Int)] = _
  rw [Nat.pow_zero, Nat.div_one, Nat.pow_one, Nat.mod_eq_of_lt h1]
def mbL (q : Nat) (l : List Int) (k : Nat) : List Int := (List.range k).map fun (x : Nat) => (x : Int) * (q : Int) + hv (q : Int) l (x : Int)
set_option maxHeartbeats 6400000 in
set_option maxRecDepth 100000 in
theorem rmembers_any {q P i : Nat} (hq : Q4 q) (hP : 2 ≤ P) (hPq : P ≤ q) (hi : i < q * q) (w : World) : Calls Try.prog 11 #[poolV q P, .int .i64 (i : Int)] w (Ret (fun z w' => OwC w.heap.size w' z (mbL q (dgL q i 2) P)) w) := by
  have hb : 5 ≤ q ∧ q ≤ 13 := by rcases hq with h | h | h | h <;> omega
  obtain ⟨hb1, hb2⟩ := hb
  have hib : i ≤ 200 := by have : q * q ≤ 13 * 13 := Nat.mul_le_mul hb2 hb2; omega
  have hq0 : ¬ (q : Int) = 0 := by omega
  have x1 : Ext w (w.alloc (.cells #[.int .i64 (q : Int), .int .i64 2, .int .i64 (P : Int)] TPO)) := Ext.allocR _ _
  have X1 := Lib.hid x1
  have hB := Blk.new_ (w := w) TPO #[.int .i64 (q : Int), .int .i64 2, .int .i64 (P : Int)] rfl
  have HB := Lib.hid hB
  clear x1 hB hq hi
  go_enter Try.func11, Try.ntmps11
  go_wp2_with fail
  obtain ⟨w1_, hw1⟩ : ∃ w1_, w.alloc (.cells #[.int .i64 (q : Int), .int .i64 2, .int .i64 (P : Int)] TPO) = w1_ := ⟨_, rfl⟩
  obtain ⟨B, hB⟩ : ∃ B, w.heap.size = B := ⟨_, rfl⟩
  rw [hw1] at X1 HB ⊢
  rw [hB] at HB ⊢
  have HBB := Lib.hid hB
  clear hw1 hB
  go_loopw [1, 5, 11] (fun it dv kv wr => ∃ (k : Nat) (A : Option Addr) (n c : Nat), k ≤ 2 ∧ kv = .int .i64 (k : Int) ∧ it = .int .i64 ((i / q ^ k : Nat) : Int) ∧ dv = .slice A n c ∧ OwC w.heap.size wr (.slice A n c) (dgL q i k) ∧ Blk wr B TPO #[.int .i64 (q : Int), .int .i64 2, .int .i64 (P : Int)] ∧ Ext w wr) (fun _ _ kv _ => 2 - (intOf kv).toNat)
  case atStart => exact ⟨0, none, 0, 0, by omega, rfl, by rw [Nat.pow_zero, Nat.div_one], rfl, World.ownsRow_nil _ _ _ _, HB.out, X1.out⟩
  case round =>
    clear HB X1
    obtain ⟨k, A, n, c, hk, rfl, rfl, rfl, ho, hbk, hx⟩ := hrel
    have hn := ho.len
    unfold dgL at hn
    rw [List.length_map, List.length_range] at hn
    subst hn
    have HO := Lib.hid ho
    have HBK := Lib.hid hbk
    have HX := Lib.hid hx
    have kb := hbk.cells
    simp only [cellsAre, Nat.zero_add, Nat.reduceAdd, and_true] at kb
    have hsz := Ext.size hx
    clear ho hbk hx
    obtain ⟨W, rfl⟩ : ∃ W, W = wr := ⟨_, rfl⟩
    obtain ⟨it, hit⟩ : ∃ it, i / q ^ k = it := ⟨_, rfl⟩
    have hitb : it ≤ 200 := by rw [← hit]; exact Nat.le_trans (Nat.div_le_self _ _) hib
    have HIT := Lib.hid hit
    rw [hit]
    by_cases hk2 : k < 2
    · have pk : (k : Int) < 2 := by omega
      have wk : IntKind.i64.wrap ((k : Int) + 1) = ((k + 1 : Nat) : Int) := by rw [IntWalk.i64_in _ (by omega)]; rfl
      have pr : ((it : Nat) : Int) % (q : Int) = ((it % q : Nat) : Int) := rfl
      have pd : ((it : Nat) : Int) / (q : Int) = ((it / q : Nat) : Int) := rfl
      obtain ⟨r, hr⟩ : ∃ r, it % q = r := ⟨_, rfl⟩
      obtain ⟨dd, hdd⟩ : ∃ dd, it / q = dd := ⟨_, rfl⟩
      have wdd : IntKind.i64.wrap ((dd : Nat) : Int) = (dd : Int) := by rw [IntWalk.i64_in _ (by have := Nat.div_le_self it q; omega)]
      rw [hr] at pr
      rw [hdd] at pd
      have HRD := Lib.hid (And.intro hr hdd)
      clear hit hr hdd
      go_upto_region 5 with (at_builtin; refine wpl_appC rfl _ _ rfl w.heap.size (.slice A k c) _ rfl (HO.out.below (Ext.allocR W (.cells #[.int .i64 (r : Int)] TIN))) (some ⟨W.heap.size, 0, none⟩) 1 1 [(r : Int)] rfl (rv_one W _) (by unfold dgL; simp; omega) (by omega) (by simp; omega) ?_; intro A2 n2 c2 w2 o2 b2 g2; have HO2 := Lib.hid (And.intro o2 (And.intro (show Ext w w2 from Below.trans (bt HX.out (Ext.allocR _ _)) b2) g2)); clear o2 b2 g2)
      have HBK2 := Lib.hid (show Blk w2 B TPO #[.int .i64 (q : Int), .int .i64 2, .int .i64 (P : Int)] from grow_blk HO2.out.2.2 (HO.out.below (Ext.allocR W (.cells #[.int .i64 (r : Int)] TIN))) (show TIN ≠ TPO by decide) (HBK.out.alloc (.cells #[.int .i64 (r : Int)] TIN)))
      have kb2 := HBK2.out.cells
      simp only [cellsAre, Nat.zero_add, Nat.reduceAdd, and_true] at kb2
      go_wp2_with fail
      exact ⟨⟨k + 1, A2, n2, c2, by omega, by go_num, by rw [Nat.pow_succ, ← Nat.div_div_eq_div_mul, HIT.out, HRD.out.2], rfl, (by
        have h1 := HO2.out.1
        have h2 : dgL q i (k + 1) = dgL q i k ++ [(r : Int)] := by
          unfold dgL
          rw [List.range_succ, List.map_append, ← HRD.out.1, ← HIT.out]
          rfl
        rw [h2]; exact h1), HBK2.out, HO2.out.2.1⟩, by simp [intOf]; omega⟩
    · obtain rfl : k = 2 := by omega
      rw [show (((2 : Nat)) : Int) = (2 : Int) from rfl]
      obtain ⟨dg, hdg⟩ : ∃ dg, dgL q i 2 = dg := ⟨_, rfl⟩
      have hdl : dg.length = 2 := by rw [← hdg]; unfold dgL; simp
      have hdr : ∀ a ∈ dg, 0 ≤ a ∧ a < (q : Int) := fun a ha => by
        rw [← hdg] at ha
        unfold dgL at ha
        obtain ⟨j, _, rfl⟩ := List.mem_map.1 ha
        have := Nat.mod_lt (i / q ^ j) (show 0 < q by omega)
        omega
      rw [hdg] at HO
      have HDGE := Lib.hid hdg
      have HDG := Lib.hid (And.intro hdl hdr)
      clear hdg hdl hdr hit HIT
      go_wp2_with fail
      go_loopw [6, 29] (fun ov xv wr => ∃ (x : Nat) (A' : Option Addr) (n' c' : Nat), x ≤ P ∧ xv = .int .i64 (x : Int) ∧ ov = .slice A' n' c' ∧ OwC W.heap.size wr (.slice A' n' c') (mbL q dg x) ∧ Ext W wr) (fun _ xv _ => P - (intOf xv).toNat)
      case atStart => exact ⟨0, none, 0, 0, by omega, rfl, rfl, World.ownsRow_nil _ _ _ _, Ext.refl _⟩
      case round =>
        obtain ⟨x, A', n', c', hx, rfl, rfl, ho, hxx⟩ := hrel
        have hn := ho.len
        unfold mbL at hn
        rw [List.length_map, List.length_range] at hn
        subst hn
        have HO1 := Lib.hid ho
        have HXX := Lib.hid hxx
        have kb3 := (HBK.out.below hxx).cells
        simp only [cellsAre, Nat.zero_add, Nat.reduceAdd, and_true] at kb3
        have hsz2 := Ext.size hxx
        clear ho hxx
        obtain ⟨W3, rfl⟩ : ∃ W3, W3 = wr := ⟨_, rfl⟩
        by_cases hxP : x < P
        · have px : (x : Int) < (P : Int) := by omega
          have wx_ : IntKind.i64.wrap ((x : Int) + 1) = ((x + 1 : Nat) : Int) := by rw [IntWalk.i64_in _ (by omega)]; rfl
          have hxq : x * q ≤ 13 * 13 := Nat.mul_le_mul (by omega) hb2
          obtain ⟨xq, hxq_⟩ : ∃ xq, x * q = xq := ⟨_, rfl⟩
          have wxq : IntKind.i64.wrap ((x : Int) * (q : Int)) = (xq : Int) := by rw [← Int.natCast_mul, hxq_, IntWalk.i64_in _ (by omega)]
          rw [hxq_] at hxq
          have hvr := hv_in (q := (q : Int)) (by omega) dg (x : Int)
          have HVAL := Lib.hid (fun (v : World) (hh : Ext W3 v) => rvalue_any (q := q) (by omega) (by omega) (x := (x : Int)) (by omega) v (OwC.rv (HO.out.below (bt HXX.out hh))) HDG.out.1 (by omega) HDG.out.2)
          obtain ⟨y, hy⟩ : ∃ y, hv (q : Int) dg (x : Int) = y := ⟨_, rfl⟩
          rw [hy] at hvr HVAL
          have wsum : IntKind.i64.wrap ((xq : Int) + y) = (xq : Int) + y := by rw [IntWalk.i64_in _ (by omega)]
          have HXY := Lib.hid (show mbL q dg (x + 1) = mbL q dg x ++ [(xq : Int) + y] from by
            unfold mbL
            rw [List.range_succ, List.map_append, ← hy, ← hxq_]
            rfl)
          have kk := fun w' (hh : Ext W3 w') => (HBK.out.below (bt HXX.out hh)).cells
          simp only [cellsAre, Nat.zero_add, Nat.reduceAdd, and_true] at kk
          clear hxq_ hvr hy kb3 kb
          go_upto_region 11 with fail
          have hst : Ext W3 W3.drew := Ext.drew _
          refine wp_region_adv 11 [] [(0, true, some 32, none), (1, true, some 33, none), (2, true, some 34, none), (3, true, some 35, none), (4, true, some 36, none), (5, true, some 37, none), (6, true, some 38, none), (7, true, some 39, none), (8, false, some 40, none), (9, true, some 41, none), (10, false, some 42, none)] (by kernel_rfl) (by kernel_rfl) (by kernel_rfl) (by intro it hit; (repeat (rcases List.mem_cons.1 hit with rfl | hit; (focus (intro o ho ev w; injection ho with ho; subst ho; kernel_rfl)))); cases hit) (fun _ _ _ _ _ => ⟨fun h => h, fun h => h⟩) hst ?_
          repeat (first | (refine wpSeq_pure (v := ?_) rfl ?_ ?_; rotate_left 1; (focus (intro wq_ hSq_; (try dsimp only at hSq_); go_simp; (try with_reducible rfl); done)); (try simp only [Act.put, List.setIfInBounds_toArray, List.set_cons_zero, List.set_cons_succ])) | (refine wpSeq_pureG (v := ?_) rfl rfl ?_ ?_; rotate_left 1; (focus (intro wq_ hSq_; (try dsimp only at hSq_); go_simp; (try with_reducible rfl); done)); (try simp only [Act.put, List.setIfInBounds_toArray, List.set_cons_zero, List.set_cons_succ])) | (refine wpSeq_off rfl rfl ?_; (try simp only [Act.put, List.setIfInBounds_toArray, List.set_cons_zero, List.set_cons_succ])) | (refine wpSeq_offU rfl ?_; (try simp only [Act.put, List.setIfInBounds_toArray, List.set_cons_zero, List.set_cons_succ])))
          first | refine wpSeq_call rfl (fun v1 g1 s1 K hK => ?_) | refine wpSeq_callG rfl rfl (fun v1 g1 s1 K hK => ?_)
          go_simp
          refine (HVAL.out v1 s1).mono ?_
          rintro e y1 ⟨z1, rfl, rfl, bb1⟩
          (try go_wp2_with fail)
          refine hK.out _ _ bb1 ?_
          clear hK K
          (try simp only [Act.put, List.setIfInBounds_toArray, List.set_cons_zero, List.set_cons_succ])
          repeat (first | (refine wpSeq_pure (v := ?_) rfl ?_ ?_; rotate_left 1; (focus (intro wq_ hSq_; (try dsimp only at hSq_); go_simp; (try with_reducible rfl); done)); (try simp only [Act.put, List.setIfInBounds_toArray, List.set_cons_zero, List.set_cons_succ])) | (refine wpSeq_pureG (v := ?_) rfl rfl ?_ ?_; rotate_left 1; (focus (intro wq_ hSq_; (try dsimp only at hSq_); go_simp; (try with_reducible rfl); done)); (try simp only [Act.put, List.setIfInBounds_toArray, List.set_cons_zero, List.set_cons_succ])) | (refine wpSeq_off rfl rfl ?_; (try simp only [Act.put, List.setIfInBounds_toArray, List.set_cons_zero, List.set_cons_succ])) | (refine wpSeq_offU rfl ?_; (try simp only [Act.put, List.setIfInBounds_toArray, List.set_cons_zero, List.set_cons_succ])))
          first | refine wpSeq_call rfl (fun v2 g2 s2 K hK => ?_) | refine wpSeq_callG rfl rfl (fun v2 g2 s2 K hK => ?_)
          go_simp
          (try go_wp2_with fail)
          refine hK.out _ _ (Ext.allocR _ _) ?_
          clear hK K
          (try simp only [Act.put, List.setIfInBounds_toArray, List.set_cons_zero, List.set_cons_succ])
          repeat (first | (refine wpSeq_pure (v := ?_) rfl ?_ ?_; rotate_left 1; (focus (intro wq_ hSq_; (try dsimp only at hSq_); go_simp; (try with_reducible rfl); done)); (try simp only [Act.put, List.setIfInBounds_toArray, List.set_cons_zero, List.set_cons_succ])) | (refine wpSeq_pureG (v := ?_) rfl rfl ?_ ?_; rotate_left 1; (focus (intro wq_ hSq_; (try dsimp only at hSq_); go_simp; (try with_reducible rfl); done)); (try simp only [Act.put, List.setIfInBounds_toArray, List.set_cons_zero, List.set_cons_succ])) | (refine wpSeq_off rfl rfl ?_; (try simp only [Act.put, List.setIfInBounds_toArray, List.set_cons_zero, List.set_cons_succ])) | (refine wpSeq_offU rfl ?_; (try simp only [Act.put, List.setIfInBounds_toArray, List.set_cons_zero, List.set_cons_succ])))
          intro wz gz sz
          (try simp only [endJ, List.drop_succ_cons, List.drop_zero])
          have HRX := Lib.hid ((rv_one v2 ((xq : Int) + y)).below gz)
          have HOX := Lib.hid (HO1.out.below sz)
          have HXZ := Lib.hid (bt HXX.out sz)
          have hszz := Ext.size HXZ.out
          obtain ⟨bq, hbq⟩ : ∃ bq, v2.heap.size = bq := ⟨_, rfl⟩
          rw [hbq] at HRX ⊢
          clear kk hst s1 g1 bb1 s2 g2 gz sz hbq
          go_wp2_with (at_builtin; refine wpl_appC rfl _ _ rfl W.heap.size (.slice A' x c') (mbL q dg x) rfl HOX.out (some ⟨bq, 0, none⟩) 1 1 [(xq : Int) + y] rfl HRX.out (by unfold mbL; simp; omega) (by omega) hszz ?_; intro A4 n4 c4 w4 o4 b4 g4; have HO4 := Lib.hid (And.intro o4 (show Ext W w4 from Below.trans HXZ.out b4)); clear o4 b4 g4)
          go_roundw
          case rel => exact ⟨x + 1, A4, n4, c4, by omega, by go_num, rfl, by rw [HXY.out]; exact HO4.out.1, HO4.out.2⟩
          case measure => simp [intOf]; omega
        · obtain rfl : x = P := by omega
          go_wp2_with fail
          go_returns
          exact ⟨_, rfl, by rw [HDGE.out]; exact HO1.out.lower hsz, bt HX.out HXX.out⟩
set_option maxHeartbeats 3200000 in
set_option maxRecDepth 100000 in
theorem rMembers_any {q P i : Nat} (hq : Q4 q) (hP : 2 ≤ P) (hPq : P ≤ q) (hi : i < q * q) (w : World) : Calls Try.prog 5 #[poolV q P, .int .i64 (i : Int)] w (Ret (fun z w' => ∃ z1, z = .tuple #[z1, .int .i64 0] ∧ OwC w.heap.size w' z1 (mbL q (dgL q i 2) P)) w) := by
  have HI := Lib.hid (fun w' => ritems_any hq hP hPq w')
  have HM := Lib.hid (fun w' => rmembers_any hq hP hPq hi w')
  obtain ⟨s, hs⟩ : ∃ s, q * q = s := ⟨_, rfl⟩
  rw [hs] at HI hi
  have p1 : ¬ (s : Int) ≤ (i : Int) := by omega
  have p2 : ¬ (i : Int) < 0 := by omega
  have x1 : Ext w (w.alloc (.cells #[.int .i64 (q : Int), .int .i64 2, .int .i64 (P : Int)] TPO)) := Ext.allocR _ _
  have X1 := Lib.hid x1
  have hB := Blk.new_ (w := w) TPO #[.int .i64 (q : Int), .int .i64 2, .int .i64 (P : Int)] rfl
  have HB := Lib.hid hB
  clear x1 hB hs
  go_enter Try.func5, Try.ntmps5
  go_wp2_with fail
  obtain ⟨w1_, hw1⟩ : ∃ w1_, w.alloc (.cells #[.int .i64 (q : Int), .int .i64 2, .int .i64 (P : Int)] TPO) = w1_ := ⟨_, rfl⟩
  obtain ⟨B, hB⟩ : ∃ B, w.heap.size = B := ⟨_, rfl⟩
  have HBE := Lib.hid hB
  rw [hw1] at X1 HB ⊢
  rw [hB] at HB ⊢
  clear hw1 hB
  refine (HI.out w1_).mono ?_
  rintro e w2 ⟨z, rfl, rfl, b2⟩
  have HB2 := Lib.hid (HB.out.below b2)
  have X2 := Lib.hid (bt X1.out b2)
  have kb := HB2.out.cells
  simp only [cellsAre, Nat.zero_add, Nat.reduceAdd, and_true] at kb
  clear b2
  go_wp2_with fail
  refine (HM.out w2).mono ?_
  rintro e w3 ⟨z3, rfl, o3, b3⟩
  obtain ⟨A3, c3, e3, _⟩ := o3.form
  subst e3
  have X3 := Lib.hid (And.intro (o3.lower (Ext.size X2.out)) (bt X2.out b3))
  clear o3 b3
  go_wp2_with fail
  go_returns
  exact ⟨_, rfl, ⟨_, rfl, X3.out.1⟩, X3.out.2⟩
end Go.Proofs.Tb
