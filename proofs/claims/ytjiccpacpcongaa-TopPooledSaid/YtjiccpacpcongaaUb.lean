/- The field's operations: add, sub, mul, inverse, value, powers, same. -/
import Derived.Test.YtjiccpacpcongaaUa
set_option linter.unusedVariables false
set_option linter.unusedSimpArgs false
namespace Go.Proofs.Tb
open Go.RowKit Go.Lib
attribute [local go_sem] cell_set_same

theorem emod_nn {a : Int} {q : Nat} (ha : 0 ≤ a) : ∃ x : Nat, a = (x : Int) := ⟨a.toNat, by omega⟩
theorem rmul_any {q : Nat} (hq : 1 < q) (hq2 : q ≤ 1000) {a b : Int} (ha : 0 ≤ a ∧ a < (q : Int)) (hb : 0 ≤ b ∧ b < (q : Int)) (w : World) :
    Calls Try.prog 24 #[.int .i64 (q : Int), .int .i64 a, .int .i64 b] w (Ret (fun z _ => z = .int .i64 (a * b % (q : Int))) w) := by
  obtain ⟨x, rfl⟩ : ∃ x : Nat, a = (x : Int) := ⟨a.toNat, by omega⟩
  obtain ⟨y, rfl⟩ : ∃ y : Nat, b = (y : Int) := ⟨b.toNat, by omega⟩
  have hxy : x * y ≤ 1000 * 1000 := Nat.mul_le_mul (by omega) (by omega)
  obtain ⟨m, hm⟩ : ∃ m : Nat, x * y = m := ⟨_, rfl⟩
  have e : (x : Int) * (y : Int) = (m : Int) := by rw [← hm]; rfl
  rw [hm] at hxy
  have w1 : IntKind.i64.wrap ((x : Int) * (y : Int)) = (m : Int) := by rw [e, IntWalk.i64_in _ (by omega)]
  have hq0 : ¬ ((q : Nat) : Int) = 0 := by omega
  rw [e]
  clear e hm ha hb hq hq2 hxy
  go_enter Try.func24, Try.ntmps24
  go_wp2
  go_returns
  exact ⟨_, rfl, rfl, Below.refl _ _⟩
theorem radd_any {q : Nat} (hq : 1 < q) (hq2 : q ≤ 1000) {a b : Int} (ha : 0 ≤ a ∧ a < (q : Int)) (hb : 0 ≤ b ∧ b < (q : Int)) (w : World) :
    Calls Try.prog 23 #[.int .i64 (q : Int), .int .i64 a, .int .i64 b] w (Ret (fun z _ => z = .int .i64 ((a + b) % (q : Int))) w) := by
  have w1 : IntKind.i64.wrap (a + b) = a + b := by rw [IntWalk.i64_in _ (by omega)]
  obtain ⟨m, hm⟩ : ∃ m : Nat, a + b = (m : Int) := ⟨(a + b).toNat, by omega⟩
  have hq0 : ¬ ((q : Nat) : Int) = 0 := by omega
  rw [hm] at w1 ⊢
  clear ha hb hq hq2
  go_enter Try.func23, Try.ntmps23
  go_wp2
  go_returns
  exact ⟨_, rfl, rfl, Below.refl _ _⟩
theorem rsub_any {q : Nat} (hq : 1 < q) (hq2 : q ≤ 1000) {a b : Int} (ha : 0 ≤ a ∧ a < (q : Int)) (hb : 0 ≤ b ∧ b < (q : Int)) (w : World) :
    Calls Try.prog 26 #[.int .i64 (q : Int), .int .i64 a, .int .i64 b] w (Ret (fun z _ => z = .int .i64 ((a - b + (q : Int)) % (q : Int))) w) := by
  obtain ⟨m, hm⟩ : ∃ m : Nat, a - b + (q : Int) = (m : Int) := ⟨(a - b + (q : Int)).toNat, by omega⟩
  have w0 : IntKind.i64.wrap (a - b) = a - b := by rw [IntWalk.i64_in _ (by omega)]
  have w1 : IntKind.i64.wrap (a - b + (q : Int)) = (m : Int) := by rw [IntWalk.i64_in _ (by omega), hm]
  have hq0 : ¬ ((q : Nat) : Int) = 0 := by omega
  rw [hm]
  clear ha hb hq hq2 hm
  go_enter Try.func26, Try.ntmps26
  go_wp2
  go_returns
  exact ⟨_, rfl, rfl, Below.refl _ _⟩
set_option maxHeartbeats 1600000 in
theorem rinv_any {q : Nat} (hq : 2 < q) (hq2 : q ≤ 1000) {a : Int} (ha : 0 ≤ a ∧ a < (q : Int)) (w : World) :
    Calls Try.prog 34 #[.int .i64 (q : Int), .int .i64 a] w (Ret (fun z _ => z = .int .i64 (pwI (q : Int) a (q - 2))) w) := by
  have pq : IntKind.i64.wrap ((q : Int) - 2) = ((q - 2 : Nat) : Int) := by rw [IntWalk.i64_in _ (by omega)]; omega
  obtain ⟨n, hn⟩ : ∃ n, q - 2 = n := ⟨_, rfl⟩
  rw [hn] at pq ⊢
  have HM := Lib.hid (fun (k : Nat) (w' : World) => rmul_any (q := q) (by omega) hq2 (a := pwI (q : Int) a k) (b := a) (pwI_in (by omega) a k) ha w')
  have hnb : n ≤ 1000 := by omega
  clear ha hn
  go_enter Try.func34, Try.ntmps34
  go_wp2_with fail
  go_loopw [5, 8] (fun v i wr => ∃ k : Nat, k ≤ n ∧ v = .int .i64 (pwI (q : Int) a k) ∧ i = .int .i64 (k : Int) ∧ Ext w wr) (fun _ i _ => n - (intOf i).toNat)
  case atStart => exact ⟨0, by omega, rfl, rfl, Ext.refl _⟩
  case round =>
    obtain ⟨k, hk, rfl, rfl, hx⟩ := hrel
    have HX := Lib.hid hx
    clear hx
    obtain ⟨W, rfl⟩ : ∃ W, W = wr := ⟨_, rfl⟩
    by_cases hkn : k < n
    · have pk : (k : Int) < (n : Int) := by omega
      have wk : IntKind.i64.wrap ((k : Int) + 1) = ((k + 1 : Nat) : Int) := by rw [IntWalk.i64_in _ (by omega)]; rfl
      go_wp2_with fail
      refine (HM.out k W).mono ?_
      rintro e w1 ⟨z, rfl, rfl, b1⟩
      have HX1 := Lib.hid (bt HX.out b1)
      clear b1
      go_wp2_with fail
      exact ⟨⟨k + 1, by omega, rfl, by go_num, HX1.out⟩, by simp [intOf]; omega⟩
    · obtain rfl : k = n := by omega
      go_wp2_with fail
      go_returns
      exact ⟨_, rfl, rfl, HX.out⟩
set_option maxHeartbeats 3200000 in
set_option maxRecDepth 100000 in
theorem rvalue_any {q : Nat} (hq : 1 < q) (hq2 : q ≤ 1000) {A : Option Addr} {n c : Nat} {l : List Int} {x : Int} (hx : 0 ≤ x ∧ x < (q : Int)) (w : World) (hl : Rv w 1 A n c (ci l)) (hn : l.length = n) (hn2 : n ≤ 1000) (hr : ∀ a ∈ l, 0 ≤ a ∧ a < (q : Int)) :
    Calls Try.prog 17 #[.int .i64 (q : Int), .slice A n c, .int .i64 x] w (Ret (fun z _ => z = .int .i64 (hv (q : Int) l x)) w) := by
  have HL := Lib.hid hl
  have HN := Lib.hid hn
  have HM := Lib.hid (fun (k : Nat) (w' : World) => rmul_any (q := q) hq hq2 (a := hv (q : Int) (l.drop k) x) (b := x) (hv_in (by omega) _ _) hx w')
  have HA := Lib.hid (fun (a b : Int) (ha : 0 ≤ a ∧ a < (q : Int)) (hb : 0 ≤ b ∧ b < (q : Int)) (w' : World) => radd_any (q := q) hq hq2 ha hb w')
  have HR := Lib.hid hr
  have hle := hl.le
  have hcp := hl.cap
  have p0 : IntKind.i64.wrap ((n : Int) - 1) = (n : Int) - 1 := by rw [IntWalk.i64_in _ (by omega)]
  clear hl hn hx hr
  go_enter Try.func17, Try.ntmps17
  go_wp2_with fail
  go_loopw [7, 8] (fun v i wr => ∃ k : Nat, k ≤ n ∧ v = .int .i64 (hv (q : Int) (l.drop k) x) ∧ i = .int .i64 ((k : Int) - 1) ∧ Ext w wr) (fun _ i _ => (intOf i + 1).toNat)
  case atStart => exact ⟨n, Nat.le_refl _, by rw [List.drop_of_length_le (by rw [HN.out]; exact Nat.le_refl _)]; rfl, rfl, Ext.refl _⟩
  case round =>
    obtain ⟨k, hk, rfl, rfl, hx⟩ := hrel
    have HX := Lib.hid hx
    clear hx
    obtain ⟨W, rfl⟩ : ∃ W, W = wr := ⟨_, rfl⟩
    by_cases hkn : 0 < k
    · obtain ⟨j, rfl⟩ : ∃ j, k = j + 1 := ⟨k - 1, by omega⟩
      obtain ⟨jj, hjj⟩ : ∃ jj : Int, ((j + 1 : Nat) : Int) - 1 = jj := ⟨_, rfl⟩
      have ejj : jj = (j : Int) := by omega
      subst ejj
      rw [hjj]
      have pj : 0 ≤ (j : Int) := by omega
      have pjn : (j : Int) < (n : Int) := by omega
      have wj : IntKind.i64.wrap ((j : Int) - 1) = (j : Int) - 1 := by rw [IntWalk.i64_in _ (by omega)]
      have hjl : j < l.length := by rw [HN.out]; omega
      obtain ⟨b, o, rfl, hc⟩ := HL.out.at_ (by omega)
      have kc := hc j _ (ci_at hjl)
      have hra := HR.out (ro l j) (by unfold ro; rw [List.getD_eq_getElem?_getD, List.getElem?_eq_getElem hjl]; exact List.getElem_mem hjl)
      have hdr : hv (q : Int) (l.drop j) x = (hv (q : Int) (l.drop (j + 1)) x * x % (q : Int) + ro l j) % (q : Int) := by
        rw [List.drop_eq_getElem_cons hjl]
        show (hv (q : Int) (l.drop (j + 1)) x * x % (q : Int) + l[j]) % (q : Int) = _
        unfold ro
        rw [List.getD_eq_getElem?_getD, List.getElem?_eq_getElem hjl]
        rfl
      have HDR := Lib.hid hdr
      have HRA := Lib.hid hra
      have HMK := Lib.hid (fun w' => HM.out (j + 1) w')
      obtain ⟨y, hy⟩ : ∃ y, ro l j = y := ⟨_, rfl⟩
      obtain ⟨v, hv_⟩ : ∃ v, hv (q : Int) (l.drop (j + 1)) x = v := ⟨_, rfl⟩
      rw [hy] at kc HDR HRA
      rw [hv_] at HDR HMK ⊢
      clear hc hjl hdr hra hy hv_ hjj
      go_upto_region 5 with fail
      have hst : Ext W W.drew := Ext.drew _
      have kk := fun w' (hh : Ext W w') => ext_cell (bt HX.out hh) kc
      clear kc
      refine wp_region_adv 9 [] [(0, true, some 16, none), (1, true, some 17, none), (2, true, some 18, none), (3, true, some 19, none), (5, true, some 21, none), (6, true, some 22, none), (7, true, some 23, none), (8, true, some 24, none), (4, false, some 20, none)] (by kernel_rfl) (by kernel_rfl) (by kernel_rfl) (by intro it hit; (repeat (rcases List.mem_cons.1 hit with rfl | hit; (focus (intro o ho ev w; injection ho with ho; subst ho; kernel_rfl)))); cases hit) (fun _ _ _ _ _ => ⟨fun h => h, fun h => h⟩) hst ?_
      repeat (first | (refine wpSeq_pure (v := ?_) rfl ?_ ?_; rotate_left 1; (focus (intro wq_ hSq_; (try dsimp only at hSq_); go_simp; (try with_reducible rfl); done)); (try simp only [Act.put, List.setIfInBounds_toArray, List.set_cons_zero, List.set_cons_succ])) | (refine wpSeq_pureG (v := ?_) rfl rfl ?_ ?_; rotate_left 1; (focus (intro wq_ hSq_; (try dsimp only at hSq_); go_simp; (try with_reducible rfl); done)); (try simp only [Act.put, List.setIfInBounds_toArray, List.set_cons_zero, List.set_cons_succ])) | (refine wpSeq_off rfl rfl ?_; (try simp only [Act.put, List.setIfInBounds_toArray, List.set_cons_zero, List.set_cons_succ])) | (refine wpSeq_offU rfl ?_; (try simp only [Act.put, List.setIfInBounds_toArray, List.set_cons_zero, List.set_cons_succ])))
      first | refine wpSeq_call rfl (fun u gu su K hK => ?_) | refine wpSeq_callG rfl rfl (fun u gu su K hK => ?_)
      go_simp
      refine (HMK.out u).mono ?_
      rintro e y1 ⟨z, rfl, rfl, b1⟩
      (try go_wp2_with fail)
      refine hK.out _ _ b1 ?_
      clear hK K
      (try simp only [Act.put, List.setIfInBounds_toArray, List.set_cons_zero, List.set_cons_succ])
      repeat (first | (refine wpSeq_pure (v := ?_) rfl ?_ ?_; rotate_left 1; (focus (intro wq_ hSq_; (try dsimp only at hSq_); go_simp; (try with_reducible rfl); done)); (try simp only [Act.put, List.setIfInBounds_toArray, List.set_cons_zero, List.set_cons_succ])) | (refine wpSeq_pureG (v := ?_) rfl rfl ?_ ?_; rotate_left 1; (focus (intro wq_ hSq_; (try dsimp only at hSq_); go_simp; (try with_reducible rfl); done)); (try simp only [Act.put, List.setIfInBounds_toArray, List.set_cons_zero, List.set_cons_succ])) | (refine wpSeq_off rfl rfl ?_; (try simp only [Act.put, List.setIfInBounds_toArray, List.set_cons_zero, List.set_cons_succ])) | (refine wpSeq_offU rfl ?_; (try simp only [Act.put, List.setIfInBounds_toArray, List.set_cons_zero, List.set_cons_succ])))
      intro wz gz sz
      (try simp only [endJ, List.drop_succ_cons, List.drop_zero])
      have HXZ := Lib.hid (bt HX.out sz)
      clear gu su b1 gz sz hst kk
      go_wp2_with fail
      refine (HA.out (v * x % (q : Int)) y ⟨Int.emod_nonneg _ (by omega), Int.emod_lt_of_pos _ (by omega)⟩ HRA.out wz).mono ?_
      rintro e y2 ⟨z, rfl, rfl, b2⟩
      have HX2 := Lib.hid (bt HXZ.out b2)
      clear b2
      go_wp2_with fail
      exact ⟨⟨j, by omega, by rw [HDR.out, Int.emod_add_emod], rfl, HX2.out⟩, by simp [intOf]⟩
    · obtain rfl : k = 0 := by omega
      go_wp2_with fail
      go_returns
      exact ⟨_, rfl, rfl, HX.out⟩
end Go.Proofs.Tb
