/- same, each, the closures of solve. -/
import Derived.Test.YtjiccpacpcongaaUc
set_option linter.unusedVariables false
set_option linter.unusedSimpArgs false
namespace Go.Proofs.Tb
open Go.RowKit Go.Lib
attribute [local go_sem] cell_set_same

/-- A row of n places, the first k made. -/
def tabK (n : Nat) (g : Nat → Int) (k : Nat) : List Int := (List.range n).map fun j => if j < k then g j else 0
theorem tabK_len (n : Nat) (g : Nat → Int) (k : Nat) : (tabK n g k).length = n := by unfold tabK; simp
theorem tabK_at {n : Nat} {g : Nat → Int} {k j : Nat} (hj : j < n) : ro (tabK n g k) j = if j < k then g j else 0 := ro_range _ _ hj
theorem tabK_zero (n : Nat) (g : Nat → Int) : tabK n g 0 = List.replicate n 0 := list_ro (by rw [tabK_len, List.length_replicate]) fun k hk => by
  rw [tabK_len] at hk
  rw [tabK_at hk, if_neg (by omega)]
  unfold ro
  rw [List.getD_eq_getElem?_getD, List.getElem?_replicate, if_pos hk]
  rfl
theorem tabK_set {n : Nat} {g : Nat → Int} {k : Nat} (hk : k < n) : (tabK n g k).set k (g k) = tabK n g (k + 1) := list_ro (by rw [List.length_set, tabK_len, tabK_len]) fun j hj => by
  rw [List.length_set, tabK_len] at hj
  have e1 : ro ((tabK n g k).set k (g k)) j = if j = k then g k else ro (tabK n g k) j := getD_set' _ _ _ _ _ (by rw [tabK_len]; exact hk)
  rw [e1, tabK_at hj, tabK_at hj]
  by_cases hjk : j = k
  · subst hjk; rw [if_pos rfl, if_pos (by omega)]
  · rw [if_neg hjk]
    by_cases h2 : j < k
    · rw [if_pos h2, if_pos (by omega)]
    · rw [if_neg h2, if_neg (by omega)]
theorem tabK_all (n : Nat) (g : Nat → Int) : tabK n g n = (List.range n).map g := list_ro (by rw [tabK_len, List.length_map, List.length_range]) fun k hk => by
  rw [tabK_len] at hk
  rw [tabK_at hk, if_pos hk, ro_range _ _ hk]
theorem map_same (n : Nat) (x : Int) : (List.range n).map (fun _ => x) = List.replicate n x := by
  rw [List.map_const', List.length_range]
set_option maxHeartbeats 3200000 in
set_option maxRecDepth 100000 in
theorem rsame_any (x : Int) (cnt : Nat) (hc : cnt ≤ 1000) (h0 : 0 < cnt) (w : World) :
    Calls Try.prog 33 #[.int .i64 x, .int .i64 (cnt : Int)] w (Ret (fun z w' => OwC w.heap.size w' z (List.replicate cnt x)) w) := by
  obtain ⟨w1, hmk, ho, hx1⟩ := make_full cnt w w.heap.size (Nat.le_refl _) (by omega)
  have HO := Lib.hid (And.intro ho hx1)
  clear ho hx1
  go_enter Try.func33, Try.ntmps33
  go_wp2_with fail
  obtain ⟨P, hP⟩ : ∃ P, w.heap.size = P := ⟨_, rfl⟩
  rw [hP] at HO
  rw [hP]
  clear hmk
  go_loopw [11] (fun i wr => ∃ k : Nat, k ≤ cnt ∧ i = .int .i64 (k : Int) ∧ OwC P wr (.slice (some ⟨P, 0, none⟩) cnt cnt) (tabK cnt (fun _ => x) k) ∧ Ext w wr) (fun i _ => cnt - (intOf i).toNat)
  case atStart => exact ⟨0, by omega, rfl, by rw [tabK_zero]; exact HO.out.1, HO.out.2⟩
  case round =>
    clear HO
    obtain ⟨k, hk, rfl, ho, hx⟩ := hrel
    obtain ⟨b, e, hbg, hfr, hce⟩ := ho.cell h0
    injection e with e
    injection e with e1
    subst e1
    have HO := Lib.hid ho
    have HX := Lib.hid hx
    clear hx ho
    obtain ⟨W, rfl⟩ : ∃ W, W = wr := ⟨_, rfl⟩
    by_cases hkn : k < cnt
    · have pk : (k : Int) < (cnt : Int) := by omega
      have wk : IntKind.i64.wrap ((k : Int) + 1) = ((k + 1 : Nat) : Int) := by rw [IntWalk.i64_in _ (by omega)]; rfl
      have kc := hce k hkn
      have kf := hfr k
      clear hce hfr
      go_wp2_with fail
      refine ⟨⟨k + 1, by omega, by go_num, ?_, ?_⟩, by simp [intOf]; omega⟩
      · rw [← tabK_set hkn]; exact HO.out.set_ k x
      · exact HX.out.setCell (p := ⟨P, k, none⟩) (by rw [hP]; exact Nat.le_refl _) _
    · obtain rfl : k = cnt := by omega
      clear hce hfr
      go_wp2_with fail
      go_returns
      exact ⟨_, rfl, (show OwC P W (.slice (some ⟨P, 0, none⟩) k k) (List.replicate k x) from by rw [← map_same, ← tabK_all]; exact HO.out), HX.out⟩
set_option maxHeartbeats 3200000 in
set_option maxRecDepth 100000 in
theorem reach_any (g : Int → Int → Int) (FN : FuncId) (bf : Nat) (ok : Int → Prop) {A A' : Option Addr} {n c c' : Nat} {l m : List Int} (w : World) (hl : Rv w 1 A n c (ci l)) (hm : Rv w 1 A' n c' (ci m)) (hln : l.length = n) (hmn : m.length = n) (h0 : 0 < n) (hn : n ≤ 1000) (hlo : ∀ j, j < n → ok (ro l j)) (hmo : ∀ j, j < n → ok (ro m j))
    (hcf : ∀ (args : Array Value) (W : World), (callFunc FN args).run Try.prog W = .ok (.enter FN args) W) (hop : ∀ a b W, ok a → ok b → Ext w W → Calls Try.prog FN #[.int .i64 a, .int .i64 b, .pointer (some ⟨bf, 0, none⟩)] W (Ret (fun z _ => z = .int .i64 (g a b)) W)) :
    Calls Try.prog 32 #[.func (.func FN) #[] #[.pointer (some ⟨bf, 0, none⟩)], .slice A n c, .slice A' n c'] w (Ret (fun z w' => OwC w.heap.size w' z ((List.range n).map fun j => g (ro l j) (ro m j))) w) := by
  obtain ⟨w1, hmk, ho, hx1⟩ := make_full n w w.heap.size (Nat.le_refl _) (by omega)
  have HO := Lib.hid (And.intro ho hx1)
  have HL := Lib.hid hl
  have HM := Lib.hid hm
  have HLN := Lib.hid (And.intro hln hmn)
  have HOK := Lib.hid (And.intro hlo hmo)
  have HOP := Lib.hid hop
  have hle := hl.le
  have hcp := hl.cap
  have hle2 := hm.le
  have hcp2 := hm.cap
  clear ho hx1 hl hm hln hmn hlo hmo hop
  go_enter Try.func32, Try.ntmps32
  go_wp2_with fail
  obtain ⟨P, hP⟩ : ∃ P, w.heap.size = P := ⟨_, rfl⟩
  rw [hP] at HO
  rw [hP]
  clear hmk
  go_loopw [14] (fun i wr => ∃ k : Nat, k ≤ n ∧ i = .int .i64 (k : Int) ∧ OwC P wr (.slice (some ⟨P, 0, none⟩) n n) (tabK n (fun j => g (ro l j) (ro m j)) k) ∧ Ext w wr) (fun i _ => n - (intOf i).toNat)
  case atStart => exact ⟨0, by omega, rfl, by rw [tabK_zero]; exact HO.out.1, HO.out.2⟩
  case round =>
    clear HO
    obtain ⟨k, hk, rfl, ho, hx⟩ := hrel
    have HO := Lib.hid ho
    have HX := Lib.hid hx
    clear hx ho
    obtain ⟨W, rfl⟩ : ∃ W, W = wr := ⟨_, rfl⟩
    by_cases hkn : k < n
    · have pk : (k : Int) < (n : Int) := by omega
      have wk : IntKind.i64.wrap ((k : Int) + 1) = ((k + 1 : Nat) : Int) := by rw [IntWalk.i64_in _ (by omega)]; rfl
      obtain ⟨b1, o1, rfl, hc1⟩ := HL.out.at_ h0
      obtain ⟨b2, o2, rfl, hc2⟩ := HM.out.at_ h0
      have ka := hc1 k _ (ci_at (by rw [HLN.out.1]; exact hkn))
      have kb := hc2 k _ (ci_at (by rw [HLN.out.2]; exact hkn))
      have HST := Lib.hid (tabK_set (n := n) (g := fun j => g (ro l j) (ro m j)) hkn)
      have HOA := Lib.hid (HOK.out.1 k hkn)
      have HOB := Lib.hid (HOK.out.2 k hkn)
      obtain ⟨x, hx⟩ : ∃ x, ro l k = x := ⟨_, rfl⟩
      obtain ⟨y, hy⟩ : ∃ y, ro m k = y := ⟨_, rfl⟩
      have HXY := Lib.hid (And.intro hx hy)
      rw [hx] at ka HOA
      rw [hy] at kb HOB
      clear hc1 hc2 hx hy
      go_upto_region 5 with fail
      have hst : Ext W W.drew := Ext.drew _
      have kk := fun w' (hh : Ext W w') => ext_cell (bt HX.out hh) ka
      have kk2 := fun w' (hh : Ext W w') => ext_cell (bt HX.out hh) kb
      clear ka kb
      refine wp_region_adv 12 [] [(0, true, some 17, none), (1, true, some 18, none), (2, true, some 19, none), (3, true, some 20, none), (4, true, some 21, none), (5, true, some 22, none), (6, true, some 23, none), (7, true, some 24, none), (8, true, some 25, none), (9, true, some 26, none), (10, true, some 27, none), (11, false, some 28, none)] (by kernel_rfl) (by kernel_rfl) (by kernel_rfl) (by intro it hit; (repeat (rcases List.mem_cons.1 hit with rfl | hit; (focus (intro o ho ev w; injection ho with ho; subst ho; kernel_rfl)))); cases hit) (fun _ _ _ _ _ => ⟨fun h => h, fun h => h⟩) hst ?_
      repeat (first | (refine wpSeq_pure (v := ?_) rfl ?_ ?_; rotate_left 1; (focus (intro wq_ hSq_; (try dsimp only at hSq_); go_simp; (try with_reducible rfl); done)); (try simp only [Act.put, List.setIfInBounds_toArray, List.set_cons_zero, List.set_cons_succ])) | (refine wpSeq_pureG (v := ?_) rfl rfl ?_ ?_; rotate_left 1; (focus (intro wq_ hSq_; (try dsimp only at hSq_); go_simp; (try with_reducible rfl); done)); (try simp only [Act.put, List.setIfInBounds_toArray, List.set_cons_zero, List.set_cons_succ])) | (refine wpSeq_off rfl rfl ?_; (try simp only [Act.put, List.setIfInBounds_toArray, List.set_cons_zero, List.set_cons_succ])) | (refine wpSeq_offU rfl ?_; (try simp only [Act.put, List.setIfInBounds_toArray, List.set_cons_zero, List.set_cons_succ])))
      first | refine wpSeq_call rfl (fun u gu su K hK => ?_) | refine wpSeq_callG rfl rfl (fun u gu su K hK => ?_)
      go_simp
      refine (HOP.out x y u HOA.out HOB.out (bt HX.out su)).mono ?_
      rintro e y1 ⟨z, rfl, rfl, bb⟩
      (try go_wp2_with fail)
      refine hK.out _ _ bb ?_
      clear hK K
      (try simp only [Act.put, List.setIfInBounds_toArray, List.set_cons_zero, List.set_cons_succ])
      repeat (first | (refine wpSeq_pure (v := ?_) rfl ?_ ?_; rotate_left 1; (focus (intro wq_ hSq_; (try dsimp only at hSq_); go_simp; (try with_reducible rfl); done)); (try simp only [Act.put, List.setIfInBounds_toArray, List.set_cons_zero, List.set_cons_succ])) | (refine wpSeq_pureG (v := ?_) rfl rfl ?_ ?_; rotate_left 1; (focus (intro wq_ hSq_; (try dsimp only at hSq_); go_simp; (try with_reducible rfl); done)); (try simp only [Act.put, List.setIfInBounds_toArray, List.set_cons_zero, List.set_cons_succ])) | (refine wpSeq_off rfl rfl ?_; (try simp only [Act.put, List.setIfInBounds_toArray, List.set_cons_zero, List.set_cons_succ])) | (refine wpSeq_offU rfl ?_; (try simp only [Act.put, List.setIfInBounds_toArray, List.set_cons_zero, List.set_cons_succ])))
      intro wz gz sz
      (try simp only [endJ, List.drop_succ_cons, List.drop_zero])
      have HOZ := Lib.hid (HO.out.below sz)
      have HXZ := Lib.hid (bt HX.out sz)
      obtain ⟨b9, e9, hbg, hfr, hce⟩ := HOZ.out.cell h0
      injection e9 with e9
      injection e9 with e9
      subst e9
      have kc := hce k hkn
      have kf := hfr k
      clear gu su bb gz sz hst kk kk2 hce hfr
      go_wp2_with fail
      refine ⟨⟨k + 1, by omega, by go_num, ?_, ?_⟩, by simp [intOf]; omega⟩
      · rw [← HST.out, HXY.out.1, HXY.out.2]; exact HOZ.out.set_ k _
      · exact HXZ.out.setCell (p := ⟨P, k, none⟩) (by rw [hP]; exact Nat.le_refl _) _
    · obtain rfl : k = n := by omega
      go_wp2_with fail
      go_returns
      have HF := (show OwC P W (.slice (some ⟨P, 0, none⟩) k k) ((List.range k).map fun j => g (ro l j) (ro m j)) from by rw [← tabK_all]; exact HO.out)
      first
        | exact ⟨_, rfl, HF, HX.out⟩
        | exact ⟨_, rfl, by rw [hP]; exact HF, HX.out⟩
theorem rmulc_any {q : Nat} (hq : 1 < q) (hq2 : q ≤ 1000) {a b : Int} (ha : 0 ≤ a ∧ a < (q : Int)) (hb : 0 ≤ b ∧ b < (q : Int)) {bf : Nat} (w : World) (hf : w.cell? ⟨bf, 0, none⟩ = some (.int .i64 (q : Int))) :
    Calls Try.prog 30 #[.int .i64 a, .int .i64 b, .pointer (some ⟨bf, 0, none⟩)] w (Ret (fun z _ => z = .int .i64 (a * b % (q : Int))) w) := by
  have HM := Lib.hid (fun w' => rmul_any (q := q) hq hq2 ha hb w')
  clear ha hb
  go_enter Try.func30, Try.ntmps30
  go_wp2_with fail
  refine (HM.out w).mono ?_
  rintro e w1 ⟨z, rfl, rfl, b1⟩
  have HB := Lib.hid (show Ext w w1 from b1)
  clear b1
  go_wp2_with fail
  go_returns
  exact ⟨_, rfl, rfl, HB.out⟩
theorem rsubc_any {q : Nat} (hq : 1 < q) (hq2 : q ≤ 1000) {a b : Int} (ha : 0 ≤ a ∧ a < (q : Int)) (hb : 0 ≤ b ∧ b < (q : Int)) {bf : Nat} (w : World) (hf : w.cell? ⟨bf, 0, none⟩ = some (.int .i64 (q : Int))) :
    Calls Try.prog 31 #[.int .i64 a, .int .i64 b, .pointer (some ⟨bf, 0, none⟩)] w (Ret (fun z _ => z = .int .i64 ((a - b + (q : Int)) % (q : Int))) w) := by
  have HM := Lib.hid (fun w' => rsub_any (q := q) hq hq2 ha hb w')
  clear ha hb
  go_enter Try.func31, Try.ntmps31
  go_wp2_with fail
  refine (HM.out w).mono ?_
  rintro e w1 ⟨z, rfl, rfl, b1⟩
  have HB := Lib.hid (show Ext w w1 from b1)
  clear b1
  go_wp2_with fail
  go_returns
  exact ⟨_, rfl, by rw [Int.add_emod_right]; rfl, HB.out⟩
theorem enter30 (args : Array Value) (W : World) : (callFunc 30 args).run Try.prog W = .ok (.enter 30 args) W := rfl
theorem enter31 (args : Array Value) (W : World) : (callFunc 31 args).run Try.prog W = .ok (.enter 31 args) W := rfl
end Go.Proofs.Tb
