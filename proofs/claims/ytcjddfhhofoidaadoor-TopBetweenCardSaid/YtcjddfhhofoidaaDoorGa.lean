/- The reference's numbers and Told. -/
import Derived.Test.YtcjddfhhofoidaaDoorRb
set_option linter.unusedVariables false
set_option linter.unusedSimpArgs false
namespace Go.Proofs.Tb
open Go.RowKit
attribute [local go_sem] cell_set_same

set_option maxHeartbeats 1600000 in
theorem znumbers_any (A : Option Addr) (n c : Nat) (ts : List Tt) (w : World) (h : Ts w A n c ts) (hs : n ≤ 1000000) :
    Calls Tryd.prog 53 #[.slice A n c] w (Ret (fun v w' => OwI w.heap.size w' v (upL n)) w) := by
  have hn := h.le
  have hc := h.cap
  clear h
  go_enter Tryd.func53, Tryd.ntmps53
  go_wp2_with fail
  have hb0 : Below w.heap.size w (w.alloc (.cells #[] TIN)) := by go_grown
  have hw0 := OwI.empty w
  go_loopw [3, 4] (fun v i wr => ∃ k : Nat, k ≤ n ∧ i = .int .i64 (k : Int) ∧ OwI w.heap.size wr v (upL k) ∧ Below w.heap.size w wr) (fun _ i _ => n - (intOf i).toNat)
  case atStart => exact ⟨0, by omega, rfl, hw0, hb0⟩
  case round =>
    clear hw0 hb0
    obtain ⟨k, hk, rfl, hown, hbw⟩ := hrel
    have HO := Lib.hid hown
    have HBW := Lib.hid hbw
    clear hown hbw
    have hll := upL_len k
    by_cases hkn : k < n
    · have g1 : decide ((k : Int) < (n : Int)) = true := by simp; omega
      have hz : w.heap.size ≤ wr.heap.size := HBW.out.size
      go_wp2_with (at_builtin; refine wp_appE TIS TIN _ 1 8 int_info Tryd.underlying37 rfl (by omega) (by omega) rfl _ _ rfl w.heap.size _ _ _ rfl (HO.out.alloc _) ⟨wr.heap.size, 0, none⟩ 1 1 [.int .i64 (k : Int)] rfl rfl (cell_new wr [.int .i64 (k : Int)] TIN) (int_one _) (by omega) (by omega) (by simp; omega) ?_; intro v3 w3 hown3 hb3 _)
      have HN : OwI w.heap.size w3 v3 (upL (k + 1)) := by rw [upL_succ]; exact OwI.snoc hown3
      have HN2 := HBW.out.trans (((Below.refl w.heap.size wr).alloc hz _).trans hb3)
      clear hown3 hb3 HO HBW hll
      go_roundw
      case rel => exact ⟨k + 1, by omega, by go_num, HN, HN2⟩
      case measure => simp [intOf]; omega
    · have hkn2 : k = n := by omega
      subst hkn2
      have g1 : decide ((k : Int) < (k : Int)) = false := by simp
      go_wp2
      go_returns
      exact ⟨_, rfl, HO.out, HBW.out⟩
/-- Does the k-th of some tests tell two faults apart? -/
def tdk (ts : List Tt) (ks : List Int) (a b : Int) (k : Nat) : Bool := shB (tS ts (ks.getD k 0).toNat) a != shB (tS ts (ks.getD k 0).toNat) b
def tdB (ts : List Tt) (ks : List Int) (a b : Int) : Bool := (List.range ks.length).any (tdk ts ks a b)
theorem tdB_t {ts : List Tt} {ks : List Int} {a b : Int} {k : Nat} (hk : k < ks.length) (h : tdk ts ks a b k = true) : tdB ts ks a b = true := by
  unfold tdB
  rw [List.any_eq_true]
  exact ⟨k, List.mem_range.2 hk, h⟩
theorem tdB_f {ts : List Tt} {ks : List Int} {a b : Int} (h : ∀ k, k < ks.length → tdk ts ks a b k = false) : tdB ts ks a b = false := by
  unfold tdB
  rw [List.any_eq_false]
  intro k hk
  rw [h k (List.mem_range.1 hk)]
  exact Bool.false_ne_true
set_option maxHeartbeats 3200000 in
set_option maxRecDepth 100000 in
theorem ztold_any (A A' : Option Addr) (n c m d : Nat) (ts : List Tt) (ks : List Int) (a b : Int) (w : World) (h : Ts w A n c ts) (h' : Il w A' m d ks) (hk : ∀ j, j < m → 0 ≤ ks.getD j 0 ∧ ks.getD j 0 < (n : Int)) :
    Calls Tryd.prog 54 #[.slice A n c, .slice A' m d, .int .i64 a, .int .i64 b] w (Ret (fun v _ => v = .bool (tdB ts ks a b)) w) := by
  have hn := h.le
  have hc := h.cap
  have hm := h'.le
  have hd := h'.cap
  have HL := Lib.hid h.len
  have HL' := Lib.hid h'.len
  have H := Lib.hid h
  have H' := Lib.hid h'
  have HK := Lib.hid hk
  clear h h' hk
  go_enter Tryd.func54, Tryd.ntmps54
  go_wp2_with fail
  go_loopw [9] (fun i wr => ∃ k : Nat, k ≤ m ∧ i = .int .i64 (k : Int) ∧ (∀ j, j < k → tdk ts ks a b j = false) ∧ Below w.heap.size w wr) (fun i _ => m - (intOf i).toNat)
  case atStart => exact ⟨0, by omega, rfl, fun j hj => absurd hj (by omega), Below.refl _ _⟩
  case round =>
    obtain ⟨k, hk, rfl, hr, hbw⟩ := hrel
    have HBW := Lib.hid hbw
    have HR := Lib.hid hr
    clear hr
    by_cases hkm : k < m
    · have pk : (k : Int) < (m : Int) := by omega
      obtain ⟨bS, oS, rfl, hcs⟩ := (H'.out.below hbw).at_ (by omega)
      have ck := hcs k hkm
      have hq := HK.out k hkm
      obtain ⟨q, hqe⟩ : ∃ q : Nat, ks.getD k 0 = (q : Int) := ⟨(ks.getD k 0).toNat, by omega⟩
      have HQ := Lib.hid (show (ks.getD k 0).toNat = q by omega)
      rw [hqe] at ck hq
      have hqn : q < n := by omega
      have pq : (q : Int) < (n : Int) := by omega
      obtain ⟨bT, oT, rfl, hcell⟩ := (H.out.below hbw).at_ (by omega)
      obtain ⟨ck1, A5, n5, c5, ck2, il5⟩ := hcell q hqn
      obtain ⟨x, hx⟩ : ∃ x, tC ts q = x := ⟨_, rfl⟩
      rw [hx] at ck1
      have IL5 := Lib.hid il5
      have kS := fun w' (hh : Ext wr w') => (show w'.cell? ⟨bS, oS + k, none⟩ = some (.int .i64 (q : Int)) from Ext.cell hh ck)
      have kT1 := fun w' (hh : Ext wr w') => (show w'.cell? ⟨bT, oT + q * 2, none⟩ = some (.int .i64 x) from Ext.cell hh ck1)
      have kT2 := fun w' (hh : Ext wr w') => (show w'.cell? ⟨bT, oT + q * 2 + 1, none⟩ = some (.slice A5 n5 c5) from Ext.cell hh ck2)
      have hst : Ext wr wr.drew := Ext.drew _
      clear hcs hcell hx il5 ck ck1 ck2 hq hqe hbw
      go_upto_region 4 with fail
      refine wp_region_adv 17 [] [(0, true, some 16, none), (1, true, some 17, none), (2, true, some 18, none), (3, true, some 19, none), (4, true, some 20, none), (5, true, some 21, none), (6, true, some 22, none), (7, true, some 23, none), (9, true, some 25, none), (10, true, some 26, none), (11, true, some 27, none), (12, true, some 28, none), (13, true, some 29, none), (14, true, some 30, none), (15, true, some 31, none), (16, true, some 32, none), (8, false, some 24, none)] (by kernel_rfl) (by kernel_rfl) (by kernel_rfl) (by intro it hit; (repeat (rcases List.mem_cons.1 hit with rfl | hit; (focus (intro o ho ev w; injection ho with ho; subst ho; kernel_rfl)))); cases hit) (fun _ _ _ _ _ => ⟨fun h => h, fun h => h⟩) hst ?_
      repeat (first | (refine wpSeq_pure (v := ?_) rfl ?_ ?_; rotate_left 1; (focus (intro wq_ hSq_; (try dsimp only at hSq_); go_simp; (try with_reducible rfl); done)); (try simp only [Act.put, List.setIfInBounds_toArray, List.set_cons_zero, List.set_cons_succ])) | (refine wpSeq_pureG (v := ?_) rfl rfl ?_ ?_; rotate_left 1; (focus (intro wq_ hSq_; (try dsimp only at hSq_); go_simp; (try with_reducible rfl); done)); (try simp only [Act.put, List.setIfInBounds_toArray, List.set_cons_zero, List.set_cons_succ])) | (refine wpSeq_off rfl rfl ?_; (try simp only [Act.put, List.setIfInBounds_toArray, List.set_cons_zero, List.set_cons_succ])))
      first | refine wpSeq_call rfl (fun u1 g1 s1 K hK => ?_) | refine wpSeq_callG rfl rfl (fun u1 g1 s1 K hK => ?_)
      go_simp
      refine (zshows_any A5 n5 c5 (tS ts q) x a u1 (IL5.out.below s1)).mono ?_
      rintro e y1 ⟨z1, rfl, rfl, b1⟩
      (try go_wp2_with fail)
      refine hK.out _ _ b1 ?_
      clear hK K
      (try simp only [Act.put, List.setIfInBounds_toArray, List.set_cons_zero, List.set_cons_succ])
      repeat (first | (refine wpSeq_pure (v := ?_) rfl ?_ ?_; rotate_left 1; (focus (intro wq_ hSq_; (try dsimp only at hSq_); go_simp; (try with_reducible rfl); done)); (try simp only [Act.put, List.setIfInBounds_toArray, List.set_cons_zero, List.set_cons_succ])) | (refine wpSeq_pureG (v := ?_) rfl rfl ?_ ?_; rotate_left 1; (focus (intro wq_ hSq_; (try dsimp only at hSq_); go_simp; (try with_reducible rfl); done)); (try simp only [Act.put, List.setIfInBounds_toArray, List.set_cons_zero, List.set_cons_succ])) | (refine wpSeq_off rfl rfl ?_; (try simp only [Act.put, List.setIfInBounds_toArray, List.set_cons_zero, List.set_cons_succ])))
      intro wz gz sz_
      (try simp only [endJ, List.drop_succ_cons, List.drop_zero])
      go_wp2_with fail
      refine (zshows_any A5 n5 c5 (tS ts q) x b wz (IL5.out.below sz_)).mono ?_
      rintro e y2 ⟨z2, rfl, rfl, b2⟩
      have HZ := Lib.hid (bt HBW.out (bt sz_ b2))
      have HTK : Hid (tdk ts ks a b k = (shB (tS ts q) a != shB (tS ts q) b)) := show tdk ts ks a b k = _ by unfold tdk; rw [HQ.out]
      obtain ⟨sa, hsa⟩ : ∃ sa, shB (tS ts q) a = sa := ⟨_, rfl⟩
      obtain ⟨sb, hsb⟩ : ∃ sb, shB (tS ts q) b = sb := ⟨_, rfl⟩
      rw [hsa, hsb] at HTK ⊢
      clear hst g1 s1 b1 b2 gz sz_ kS kT1 kT2 hsa hsb
      cases sa
      · cases sb
        · have HN := Lib.hid (show ∀ j, j < k + 1 → tdk ts ks a b j = false from fun j hj => by
            rcases Nat.lt_or_eq_of_le (Nat.le_of_lt_succ hj) with h | rfl
            · exact HR.out j h
            · exact HTK.out)
          clear HR
          go_wp2
          go_roundw
          case rel => exact ⟨k + 1, by omega, by go_num, HN.out, HZ.out⟩
          case measure => simp [intOf]; omega
        · have HT := Lib.hid (tdB_t (ts := ts) (ks := ks) (a := a) (b := b) (by rw [HL'.out]; exact hkm) HTK.out)
          go_wp2
          go_returns
          exact ⟨_, rfl, by rw [HT.out]; rfl, HZ.out⟩
      · cases sb
        · have HT := Lib.hid (tdB_t (ts := ts) (ks := ks) (a := a) (b := b) (by rw [HL'.out]; exact hkm) HTK.out)
          go_wp2
          go_returns
          exact ⟨_, rfl, by rw [HT.out]; rfl, HZ.out⟩
        · have HN := Lib.hid (show ∀ j, j < k + 1 → tdk ts ks a b j = false from fun j hj => by
            rcases Nat.lt_or_eq_of_le (Nat.le_of_lt_succ hj) with h | rfl
            · exact HR.out j h
            · exact HTK.out)
          clear HR
          go_wp2
          go_roundw
          case rel => exact ⟨k + 1, by omega, by go_num, HN.out, HZ.out⟩
          case measure => simp [intOf]; omega
    · obtain rfl : k = m := by omega
      have HF := Lib.hid (tdB_f (ts := ts) (ks := ks) (a := a) (b := b) (fun j hj => HR.out j (by rw [← HL'.out]; exact hj)))
      clear HR hbw
      go_wp2
      go_returns
      exact ⟨_, rfl, by rw [HF.out]; rfl, HBW.out⟩
end Go.Proofs.Tb
