/- The reference: contract of After. (With what follows it, in one text.) -/
import Derived.Test.YtfljnfdeboibhaaTwa
set_option linter.unusedVariables false
set_option linter.unusedSimpArgs false
/- The reference: contract of After. -/
namespace Go.Proofs.Tb
open Go.Maps Go.RowKit Go.Lib
attribute [local go_sem] cell_set_same neqMapL binOp_string_gtr'

theorem low_take_succ (k : Str) (l : List Pr) {q : Nat} (hq : q < l.length) : low k (l.take (q + 1)) = low k (l.take q) ++ (if sl (l[q]).1 k = true then [l[q]] else []) := by
  rw [List.take_succ_eq_append_getElem hq, low_app]
  congr 1
  unfold low
  rw [List.filter_cons]
  split <;> rfl
theorem high_take_succ (k : Str) (l : List Pr) {q : Nat} (hq : q < l.length) : high k (l.take (q + 1)) = high k (l.take q) ++ (if sl k (l[q]).1 = true then [l[q]] else []) := by
  rw [List.take_succ_eq_append_getElem hq, high_app]
  congr 1
  unfold high
  rw [List.filter_cons]
  split <;> rfl
theorem low_len1 (k : Str) (l : List Pr) : (low k l).length ≤ l.length := List.length_filter_le _ _
theorem high_len1 (k : Str) (l : List Pr) : (high k l).length ≤ l.length := List.length_filter_le _ _
/-- A row that is being made from some world on. -/
structure MkP (w W : World) (A : Option Addr) (n c : Nat) (l : List Pr) : Prop where
  ow : OwP w.heap.size W (.slice A n c) l
  ex : Ext w W
theorem OwP.rvv {base : Nat} {w : World} {A : Option Addr} {n c : Nat} {l : List Pr} (h : OwP base w (.slice A n c) l) : Rv w 2 A n c (pcs l) := own_rvv h
theorem MkP.len {w W : World} {A : Option Addr} {n c : Nat} {l : List Pr} (h : MkP w W A n c l) : n = l.length ∧ n ≤ c ∧ c ≤ 9223372036854775807 := by
  obtain ⟨A', c', e, _⟩ := own_rv h.ow
  injection e with e1 e2 e3
  exact ⟨e2, (own_rvv h.ow).le, (own_rvv h.ow).cap⟩
theorem MkP.ext {w W W' : World} {A : Option Addr} {n c : Nat} {l : List Pr} (h : MkP w W A n c l) (hx : Ext W W') : MkP w W' A n c l := ⟨own_below h.ow hx, bt h.ex hx⟩
theorem MkP.app {w W W' : World} {A A' : Option Addr} {n c n' c' : Nat} {l l2 : List Pr} (h : MkP w W A n c l) (ho : OwP w.heap.size W' (.slice A' n' c') (l ++ l2)) (hb : Below w.heap.size W W') : MkP w W' A' n' c' (l ++ l2) := ⟨ho, Below.trans h.ex hb⟩
set_option maxHeartbeats 12800000 in
set_option maxRecDepth 100000 in
theorem zafter_any (A : Option Addr) (n c : Nat) (l : List Pr) (A2 : Option Addr) (n2 c2 : Nat) (cs : List Cg) (w : World) (h1 : Rv w 2 A n c (pcs l)) (h2 : Rv w 3 A2 n2 c2 (ccs cs)) (hn : l.length ≤ 100000) (hcs : cs.length ≤ 1000) :
    Calls Try.prog 59 #[.slice A n c, .slice A2 n2 c2] w (Ret (fun z w' => OwP w.heap.size w' z (aft l cs)) w) := by
  have hln : l.length = n := by have := h1.len; rw [pcs_len] at this; omega
  have hcl : cs.length = n2 := by have := h2.len; rw [ccs_len] at this; omega
  have hle1 := h1.le
  have hcp1 := h1.cap
  have hle2 := h2.le
  have hcp2 := h2.cap
  have H1 := Lib.hid h1
  have H2 := Lib.hid h2
  have HL := Lib.hid hn
  have HCL := Lib.hid hcl
  have hn2 : n2 ≤ 1000 := by omega
  have hnn : n ≤ 100000 := by omega
  clear h1 h2 hln hcl hn hcs
  go_enter Try.func59, Try.ntmps59
  go_upto_region 2 with (at_builtin; refine wpl_appP rfl _ _ rfl w.heap.size (.slice (some ⟨w.heap.size, 0, none⟩) 0 0) [] rfl (own_lit TPA 2 #[] 0 (Nat.le_refl _) (by omega) rfl) A n c l rfl (H1.out.below (Ext.allocR _ _)) (by simp) (by omega) (by simp) ?_; intro A5 n5 c5 w5 o5 r5 b5 g5; have HZ := Lib.hid (show MkP w w5 A5 n5 c5 (aft l (cs.take 0)) from ⟨o5, Below.trans (Ext.allocR _ _) b5⟩); clear o5 r5 b5 g5)
  go_wp2_with fail
  go_loopw [5, 6] (fun v i wr => ∃ (j : Nat) (A5 : Option Addr) (n5 c5 : Nat), j ≤ n2 ∧ i = .int .i64 (j : Int) ∧ v = .slice A5 n5 c5 ∧ MkP w wr A5 n5 c5 (aft l (cs.take j))) (fun _ i _ => n2 - (intOf i).toNat)
  case atStart => exact ⟨0, A5, n5, c5, by omega, rfl, rfl, HZ.out⟩
  case round =>
    clear HZ
    obtain ⟨j, A6, n6, c6, hj, rfl, rfl, hw⟩ := hrel
    obtain ⟨hn6, hle6, hcp6⟩ := hw.len
    have hn6l : n6 ≤ 101000 := by
      have h1 := aft_len (cs.take j) l
      have h2 := HL.out
      have h3 : (cs.take j).length ≤ j := by rw [List.length_take]; omega
      omega
    have HW := Lib.hid hw
    by_cases hjn : j < n2
    · have pj : (j : Int) < (n2 : Int) := by omega
      have hjl : j < cs.length := by rw [HCL.out]; exact hjn
      obtain ⟨bc, oc, rfl, hcc⟩ := (H2.out.below hw.ex).at_ (by omega)
      obtain ⟨q1, q2, q3⟩ := ccs_at cs j hjl
      have k1 := hcc _ _ q1
      have k2 := hcc _ _ q2
      have k3 := hcc _ _ q3
      rw [← Nat.add_assoc] at k2 k3
      have HE := Lib.hid (aft_take_succ l cs hjl)
      obtain ⟨x, hx0⟩ : ∃ x, cs[j] = x := ⟨_, rfl⟩
      rw [hx0] at k1 k2 k3 HE
      obtain ⟨ck, cv, gone⟩ := x
      have KC := Lib.hid (And.intro k1 (And.intro k2 k3))
      obtain ⟨o, ho⟩ : ∃ o, aft l (cs.take j) = o := ⟨_, rfl⟩
      rw [ho] at HW HE hn6
      have HN6 := Lib.hid hn6
      clear hcc q1 q2 q3 hx0 hjl hw ho k1 k2 k3 hn6
      obtain ⟨W0, rfl⟩ : ∃ W0, W0 = wr := ⟨_, rfl⟩
      go_wp2_with fail
      have hz0 : MkP W0 (W0.alloc (.cells #[] TPA)) (some ⟨W0.heap.size, 0, none⟩) 0 0 (low ck (o.take 0)) := ⟨own_lit TPA 2 #[] 0 (Nat.le_refl _) (by omega) rfl, Ext.allocR _ _⟩
      have HZ0 := Lib.hid hz0
      clear hz0
      go_loopw [7, 8] (fun v i W => ∃ (q : Nat) (A7 : Option Addr) (n7 c7 : Nat), q ≤ n6 ∧ i = .int .i64 (q : Int) ∧ v = .slice A7 n7 c7 ∧ MkP W0 W A7 n7 c7 (low ck (o.take q))) (fun _ i _ => n6 - (intOf i).toNat)
      case atStart => exact ⟨0, _, 0, 0, by omega, rfl, rfl, HZ0.out⟩
      case round =>
        clear HZ0
        obtain ⟨q, A7, n7, c7, hq, rfl, rfl, hz⟩ := hrel
        by_cases hqn : q < n6
        · have pq : (q : Int) < (n6 : Int) := by omega
          have hqo : q < o.length := by rw [← HN6.out]; exact hqn
          have HNX := Lib.hid (low_take_succ ck o hqo)
          have hll := low_len1 ck (o.take q)
          obtain ⟨bo, oo, rfl, hco⟩ := ((OwP.rvv HW.out.ow).below hz.ex).at_ (by omega)
          obtain ⟨p1, p2⟩ := pcs_at o q hqo
          have o1 := hco _ _ p1
          have o2 := hco _ _ p2
          rw [← Nat.add_assoc] at o2
          have kc := ext_cell hz.ex KC.out.1
          obtain ⟨x, hx0⟩ : ∃ x, o[q] = x := ⟨_, rfl⟩
          rw [hx0] at o1 o2 HNX
          obtain ⟨xk, xv⟩ := x
          have m1 := fun w' (hh : Ext wr w') => ext_cell hh o1
          have mc := fun w' (hh : Ext wr w') => ext_cell hh kc
          have O2 := Lib.hid (And.intro o1 o2)
          have hst : Ext wr wr.drew := Ext.drew _
          have HZW := Lib.hid hz
          clear hco p1 p2 o1 o2 kc hx0 hz
          go_upto_region 9 with fail
          refine wp_region_adv 10 [] [(0, true, some 26, none), (1, true, some 27, none), (2, true, some 28, none), (3, true, some 29, none), (4, true, some 30, none), (5, true, some 31, none), (6, true, some 32, none), (7, true, some 33, none), (8, true, some 34, none), (9, true, some 35, none)] (by kernel_rfl) (by kernel_rfl) (by kernel_rfl) (by intro it hit; (repeat (rcases List.mem_cons.1 hit with rfl | hit; (focus (intro o ho ev w; injection ho with ho; subst ho; kernel_rfl)))); cases hit) (fun _ _ _ _ _ => ⟨fun h => h, fun h => h⟩) hst ?_
          repeat (first | (refine wpSeq_pure (v := ?_) rfl ?_ ?_; rotate_left 1; (focus (intro wq_ hSq_; (try dsimp only at hSq_); go_simp; (try with_reducible rfl); done)); (try simp only [Act.put, List.setIfInBounds_toArray, List.set_cons_zero, List.set_cons_succ])) | (refine wpSeq_pureG (v := ?_) rfl rfl ?_ ?_; rotate_left 1; (focus (intro wq_ hSq_; (try dsimp only at hSq_); go_simp; (try with_reducible rfl); done)); (try simp only [Act.put, List.setIfInBounds_toArray, List.set_cons_zero, List.set_cons_succ])) | (refine wpSeq_off rfl rfl ?_; (try simp only [Act.put, List.setIfInBounds_toArray, List.set_cons_zero, List.set_cons_succ])) | (refine wpSeq_offU rfl ?_; (try simp only [Act.put, List.setIfInBounds_toArray, List.set_cons_zero, List.set_cons_succ])))
          intro wz gz sz_
          (try simp only [endJ, List.drop_succ_cons, List.drop_zero])
          have HZ := Lib.hid (HZW.out.ext sz_)
          have o1 := ext_cell sz_ O2.out.1
          have o2 := ext_cell sz_ O2.out.2
          clear m1 mc hst gz sz_ HZW
          cases hsl : sl xk ck with
          | true =>
            have d1 : Op.bytesLess xk.toList ck.toList = true := hsl
            have HN2 := Lib.hid (show low ck (o.take (q + 1)) = low ck (o.take q) ++ [(xk, xv)] by rw [HNX.out, if_pos hsl])
            clear hsl
            go_wp2_with (at_builtin; refine wpl_appP rfl _ _ rfl W0.heap.size (.slice A7 n7 c7) (low ck (o.take q)) rfl (own_below HZ.out.ow (Ext.allocR wz (.cells #[.string xk, .string xv] TPA))) (some ⟨wz.heap.size, 0, none⟩) 1 1 [(xk, xv)] rfl (rv_lit TPA 2 #[.string xk, .string xv] 1 (by omega) rfl) (by (try rw [List.length_append]); have := HN6.out; have := List.length_take_le q o; omega) (by omega) (by have := Ext.size HZ.out.ex; simp; omega) ?_; intro A8 n8 c8 w8 o8 r8 b8 g8; have HAP := Lib.hid ((HZ.out.ext (Ext.allocR wz (.cells #[.string xk, .string xv] TPA))).app o8 b8); clear o8 r8 b8 g8)
            go_roundw
            case rel => exact ⟨q + 1, A8, n8, c8, by omega, by go_num, rfl, by rw [HN2.out]; exact HAP.out⟩
            case measure => simp [intOf]; omega
          | false =>
            have d1 : Op.bytesLess xk.toList ck.toList = false := hsl
            have HN2 := Lib.hid (show low ck (o.take (q + 1)) = low ck (o.take q) by rw [HNX.out, if_neg (by rw [hsl]; exact Bool.false_ne_true), List.append_nil])
            clear hsl
            go_wp2_with fail
            go_roundw
            case rel => exact ⟨q + 1, A7, n7, c7, by omega, by go_num, rfl, by rw [HN2.out]; exact HZ.out⟩
            case measure => simp [intOf]; omega
        · obtain rfl : n6 = q := by omega
          have HZ1 := Lib.hid (show MkP W0 wr A7 n7 c7 (low ck o) by
            have h1 := hz
            rw [List.take_of_length_le (by rw [← HN6.out]; exact Nat.le_refl _)] at h1
            exact h1)
          have kg := ext_cell hz.ex KC.out.2.2
          have hll := low_len1 ck o
          obtain ⟨W1, rfl⟩ : ∃ W1, W1 = wr := ⟨_, rfl⟩
          cases gone with
          | true =>
            have HE2 := Lib.hid (show aft l (cs.take (j + 1)) = low ck o ++ high ck o by rw [HE.out]; rfl)
            have HZ2 := Lib.hid (show MkP W0 W1 A7 n7 c7 (low ck o ++ high ck (o.take 0)) by
              have e : low ck o ++ high ck (o.take 0) = low ck o := by simp [high]
              rw [e]; exact HZ1.out)
            have hbl : (low ck o).length ≤ 200000 := by have := HN6.out; omega
            obtain ⟨L0, hL0⟩ : ∃ L0, low ck o = L0 := ⟨_, rfl⟩
            rw [hL0] at HE2 HZ2 hbl
            clear hz HZ1 hL0 hll
            go_wp2_with fail
            go_loopw [7, 9] (fun v i W => ∃ (q : Nat) (A7 : Option Addr) (n7 c7 : Nat), q ≤ n6 ∧ i = .int .i64 (q : Int) ∧ v = .slice A7 n7 c7 ∧ MkP W0 W A7 n7 c7 (L0 ++ high ck (o.take q))) (fun _ i _ => n6 - (intOf i).toNat)
            case atStart => exact ⟨0, A7, n7, c7, by omega, rfl, rfl, HZ2.out⟩
            case round =>
              clear HZ2
              obtain ⟨q, A7, n7, c7, hq, rfl, rfl, hz⟩ := hrel
              by_cases hqn : q < n6
              · have pq : (q : Int) < (n6 : Int) := by omega
                have hqo : q < o.length := by rw [← HN6.out]; exact hqn
                have HNX := Lib.hid (high_take_succ ck o hqo)
                have hll := high_len1 ck (o.take q)
                obtain ⟨bo, oo, rfl, hco⟩ := ((OwP.rvv HW.out.ow).below hz.ex).at_ (by omega)
                obtain ⟨p1, p2⟩ := pcs_at o q hqo
                have o1 := hco _ _ p1
                have o2 := hco _ _ p2
                rw [← Nat.add_assoc] at o2
                have kc := ext_cell hz.ex KC.out.1
                obtain ⟨x, hx0⟩ : ∃ x, o[q] = x := ⟨_, rfl⟩
                rw [hx0] at o1 o2 HNX
                obtain ⟨xk, xv⟩ := x
                have m1 := fun w' (hh : Ext wr w') => ext_cell hh o1
                have mc := fun w' (hh : Ext wr w') => ext_cell hh kc
                have O2 := Lib.hid (And.intro o1 o2)
                have hst : Ext wr wr.drew := Ext.drew _
                have HZW := Lib.hid hz
                clear hco p1 p2 o1 o2 kc hx0 hz
                go_upto_region 16 with fail
                refine wp_region_adv 10 [] [(0, true, some 70, none), (1, true, some 71, none), (2, true, some 72, none), (3, true, some 73, none), (4, true, some 74, none), (5, true, some 75, none), (6, true, some 76, none), (7, true, some 77, none), (8, true, some 78, none), (9, true, some 79, none)] (by kernel_rfl) (by kernel_rfl) (by kernel_rfl) (by intro it hit; (repeat (rcases List.mem_cons.1 hit with rfl | hit; (focus (intro o ho ev w; injection ho with ho; subst ho; kernel_rfl)))); cases hit) (fun _ _ _ _ _ => ⟨fun h => h, fun h => h⟩) hst ?_
                repeat (first | (refine wpSeq_pure (v := ?_) rfl ?_ ?_; rotate_left 1; (focus (intro wq_ hSq_; (try dsimp only at hSq_); go_simp; (try with_reducible rfl); done)); (try simp only [Act.put, List.setIfInBounds_toArray, List.set_cons_zero, List.set_cons_succ])) | (refine wpSeq_pureG (v := ?_) rfl rfl ?_ ?_; rotate_left 1; (focus (intro wq_ hSq_; (try dsimp only at hSq_); go_simp; (try with_reducible rfl); done)); (try simp only [Act.put, List.setIfInBounds_toArray, List.set_cons_zero, List.set_cons_succ])) | (refine wpSeq_off rfl rfl ?_; (try simp only [Act.put, List.setIfInBounds_toArray, List.set_cons_zero, List.set_cons_succ])) | (refine wpSeq_offU rfl ?_; (try simp only [Act.put, List.setIfInBounds_toArray, List.set_cons_zero, List.set_cons_succ])))
                intro wz gz sz_
                (try simp only [endJ, List.drop_succ_cons, List.drop_zero])
                have HZ := Lib.hid (HZW.out.ext sz_)
                have o1 := ext_cell sz_ O2.out.1
                have o2 := ext_cell sz_ O2.out.2
                clear m1 mc hst gz sz_ HZW
                cases hsl : sl ck xk with
                | true =>
                  have d1 : Op.bytesLess ck.toList xk.toList = true := hsl
                  have HN2 := Lib.hid (show L0 ++ high ck (o.take (q + 1)) = L0 ++ high ck (o.take q) ++ [(xk, xv)] by rw [HNX.out, if_pos hsl, List.append_assoc])
                  clear hsl
                  go_wp2_with (at_builtin; refine wpl_appP rfl _ _ rfl W0.heap.size (.slice A7 n7 c7) (L0 ++ high ck (o.take q)) rfl (own_below HZ.out.ow (Ext.allocR wz (.cells #[.string xk, .string xv] TPA))) (some ⟨wz.heap.size, 0, none⟩) 1 1 [(xk, xv)] rfl (rv_lit TPA 2 #[.string xk, .string xv] 1 (by omega) rfl) (by (try rw [List.length_append]); have := HN6.out; have := List.length_take_le q o; omega) (by omega) (by have := Ext.size HZ.out.ex; simp; omega) ?_; intro A8 n8 c8 w8 o8 r8 b8 g8; have HAP := Lib.hid ((HZ.out.ext (Ext.allocR wz (.cells #[.string xk, .string xv] TPA))).app o8 b8); clear o8 r8 b8 g8)
                  go_roundw
                  case rel => exact ⟨q + 1, A8, n8, c8, by omega, by go_num, rfl, by rw [HN2.out]; exact HAP.out⟩
                  case measure => simp [intOf]; omega
                | false =>
                  have d1 : Op.bytesLess ck.toList xk.toList = false := hsl
                  have HN2 := Lib.hid (show high ck (o.take (q + 1)) = high ck (o.take q) by rw [HNX.out, if_neg (by rw [hsl]; exact Bool.false_ne_true), List.append_nil])
                  clear hsl
                  go_wp2_with fail
                  go_roundw
                  case rel => exact ⟨q + 1, A7, n7, c7, by omega, by go_num, rfl, by rw [HN2.out]; exact HZ.out⟩
                  case measure => simp [intOf]; omega
              · obtain rfl : n6 = q := by omega
                have HZ1 := Lib.hid (show MkP w wr A7 n7 c7 (aft l (cs.take (j + 1))) by
                  have h1 := hz
                  rw [List.take_of_length_le (by rw [← HN6.out]; exact Nat.le_refl _)] at h1
                  rw [HE2.out]
                  exact ⟨own_lower h1.ow (Ext.size HW.out.ex), bt HW.out.ex h1.ex⟩)
                clear hz
                go_wp2_with fail
                go_roundw
                case rel => exact ⟨j + 1, A7, n7, c7, by omega, by go_num, rfl, HZ1.out⟩
                case measure => simp [intOf]; omega
          | false =>
            have HE2 := Lib.hid (show aft l (cs.take (j + 1)) = (low ck o ++ [(ck, cv)]) ++ high ck o by rw [HE.out]; show low ck o ++ (ck, cv) :: high ck o = _; simp)
            have kk := fun w' (hh : Ext W1 w') => ext_cell (bt hz.ex hh) KC.out.1
            have kv := fun w' (hh : Ext W1 w') => ext_cell (bt hz.ex hh) KC.out.2.1
            have hst : Ext W1 W1.drew := Ext.drew _
            clear hz
            go_upto_region 12 with fail
            refine wp_region_adv 13 [] [(0, true, some 50, none), (1, true, some 51, none), (2, true, some 52, none), (3, true, some 53, none), (4, true, some 54, none), (5, true, some 55, none), (6, true, some 56, none), (7, true, some 57, none), (8, true, some 58, none), (9, true, some 59, none), (10, true, some 60, none), (11, true, some 61, none), (12, false, some 62, none)] (by kernel_rfl) (by kernel_rfl) (by kernel_rfl) (by intro it hit; (repeat (rcases List.mem_cons.1 hit with rfl | hit; (focus (intro o ho ev w; injection ho with ho; subst ho; kernel_rfl)))); cases hit) (fun _ _ _ _ _ => ⟨fun h => h, fun h => h⟩) hst ?_
            repeat (first | (refine wpSeq_pure (v := ?_) rfl ?_ ?_; rotate_left 1; (focus (intro wq_ hSq_; (try dsimp only at hSq_); go_simp; (try with_reducible rfl); done)); (try simp only [Act.put, List.setIfInBounds_toArray, List.set_cons_zero, List.set_cons_succ])) | (refine wpSeq_pureG (v := ?_) rfl rfl ?_ ?_; rotate_left 1; (focus (intro wq_ hSq_; (try dsimp only at hSq_); go_simp; (try with_reducible rfl); done)); (try simp only [Act.put, List.setIfInBounds_toArray, List.set_cons_zero, List.set_cons_succ])) | (refine wpSeq_off rfl rfl ?_; (try simp only [Act.put, List.setIfInBounds_toArray, List.set_cons_zero, List.set_cons_succ])) | (refine wpSeq_offU rfl ?_; (try simp only [Act.put, List.setIfInBounds_toArray, List.set_cons_zero, List.set_cons_succ])))
            first | refine wpSeq_call rfl (fun u1 g1 s1 K hK => ?_) | refine wpSeq_callG rfl rfl (fun u1 g1 s1 K hK => ?_)
            go_simp
            (try go_wp2_with fail)
            refine hK.out _ _ (Ext.allocR _ _) ?_
            clear hK K
            (try simp only [Act.put, List.setIfInBounds_toArray, List.set_cons_zero, List.set_cons_succ])
            repeat (first | (refine wpSeq_pure (v := ?_) rfl ?_ ?_; rotate_left 1; (focus (intro wq_ hSq_; (try dsimp only at hSq_); go_simp; (try with_reducible rfl); done)); (try simp only [Act.put, List.setIfInBounds_toArray, List.set_cons_zero, List.set_cons_succ])) | (refine wpSeq_pureG (v := ?_) rfl rfl ?_ ?_; rotate_left 1; (focus (intro wq_ hSq_; (try dsimp only at hSq_); go_simp; (try with_reducible rfl); done)); (try simp only [Act.put, List.setIfInBounds_toArray, List.set_cons_zero, List.set_cons_succ])) | (refine wpSeq_off rfl rfl ?_; (try simp only [Act.put, List.setIfInBounds_toArray, List.set_cons_zero, List.set_cons_succ])) | (refine wpSeq_offU rfl ?_; (try simp only [Act.put, List.setIfInBounds_toArray, List.set_cons_zero, List.set_cons_succ])))
            intro wz gz sz_
            (try simp only [endJ, List.drop_succ_cons, List.drop_zero])
            have HRX := Lib.hid ((rv_lit (w := u1) TPA 2 #[.string ck, .string cv] 1 (by omega) rfl).below gz)
            have HZX := Lib.hid (HZ1.out.ext sz_)
            obtain ⟨b1, hb1⟩ : ∃ b1, u1.heap.size = b1 := ⟨_, rfl⟩
            rw [hb1] at HRX ⊢
            clear kk kv kg hst s1 g1 gz sz_ hb1 HZ1
            go_upto_region 13 with (at_builtin; refine wpl_appP rfl _ _ rfl W0.heap.size (.slice A7 n7 c7) (low ck o) rfl HZX.out.ow (some ⟨b1, 0, none⟩) 1 1 [(ck, cv)] rfl HRX.out (by have := HN6.out; omega) (by omega) (Ext.size HZX.out.ex) ?_; intro A8 n8 c8 w8 o8 r8 b8 g8; have HAP := Lib.hid (show MkP W0 w8 A8 n8 c8 (low ck o ++ [(ck, cv)]) from HZX.out.app o8 b8); clear o8 r8 b8 g8)
            have HZ2 := Lib.hid (show MkP W0 w8 A8 n8 c8 ((low ck o ++ [(ck, cv)]) ++ high ck (o.take 0)) by
              have e : (low ck o ++ [(ck, cv)]) ++ high ck (o.take 0) = low ck o ++ [(ck, cv)] := by simp [high]
              rw [e]; exact HAP.out)
            have hbl : (low ck o ++ [(ck, cv)]).length ≤ 200000 := by rw [List.length_append, List.length_singleton]; have := HN6.out; omega
            obtain ⟨L0, hL0⟩ : ∃ L0, low ck o ++ [(ck, cv)] = L0 := ⟨_, rfl⟩
            rw [hL0] at HE2 HZ2 hbl
            clear HZX HRX HAP hL0 hll
            go_wp2_with fail
            go_loopw [7, 9] (fun v i W => ∃ (q : Nat) (A7 : Option Addr) (n7 c7 : Nat), q ≤ n6 ∧ i = .int .i64 (q : Int) ∧ v = .slice A7 n7 c7 ∧ MkP W0 W A7 n7 c7 (L0 ++ high ck (o.take q))) (fun _ i _ => n6 - (intOf i).toNat)
            case atStart => exact ⟨0, A8, n8, c8, by omega, rfl, rfl, HZ2.out⟩
            case round =>
              clear HZ2
              obtain ⟨q, A7, n7, c7, hq, rfl, rfl, hz⟩ := hrel
              by_cases hqn : q < n6
              · have pq : (q : Int) < (n6 : Int) := by omega
                have hqo : q < o.length := by rw [← HN6.out]; exact hqn
                have HNX := Lib.hid (high_take_succ ck o hqo)
                have hll := high_len1 ck (o.take q)
                obtain ⟨bo, oo, rfl, hco⟩ := ((OwP.rvv HW.out.ow).below hz.ex).at_ (by omega)
                obtain ⟨p1, p2⟩ := pcs_at o q hqo
                have o1 := hco _ _ p1
                have o2 := hco _ _ p2
                rw [← Nat.add_assoc] at o2
                have kc := ext_cell hz.ex KC.out.1
                obtain ⟨x, hx0⟩ : ∃ x, o[q] = x := ⟨_, rfl⟩
                rw [hx0] at o1 o2 HNX
                obtain ⟨xk, xv⟩ := x
                have m1 := fun w' (hh : Ext wr w') => ext_cell hh o1
                have mc := fun w' (hh : Ext wr w') => ext_cell hh kc
                have O2 := Lib.hid (And.intro o1 o2)
                have hst : Ext wr wr.drew := Ext.drew _
                have HZW := Lib.hid hz
                clear hco p1 p2 o1 o2 kc hx0 hz
                go_upto_region 16 with fail
                refine wp_region_adv 10 [] [(0, true, some 70, none), (1, true, some 71, none), (2, true, some 72, none), (3, true, some 73, none), (4, true, some 74, none), (5, true, some 75, none), (6, true, some 76, none), (7, true, some 77, none), (8, true, some 78, none), (9, true, some 79, none)] (by kernel_rfl) (by kernel_rfl) (by kernel_rfl) (by intro it hit; (repeat (rcases List.mem_cons.1 hit with rfl | hit; (focus (intro o ho ev w; injection ho with ho; subst ho; kernel_rfl)))); cases hit) (fun _ _ _ _ _ => ⟨fun h => h, fun h => h⟩) hst ?_
                repeat (first | (refine wpSeq_pure (v := ?_) rfl ?_ ?_; rotate_left 1; (focus (intro wq_ hSq_; (try dsimp only at hSq_); go_simp; (try with_reducible rfl); done)); (try simp only [Act.put, List.setIfInBounds_toArray, List.set_cons_zero, List.set_cons_succ])) | (refine wpSeq_pureG (v := ?_) rfl rfl ?_ ?_; rotate_left 1; (focus (intro wq_ hSq_; (try dsimp only at hSq_); go_simp; (try with_reducible rfl); done)); (try simp only [Act.put, List.setIfInBounds_toArray, List.set_cons_zero, List.set_cons_succ])) | (refine wpSeq_off rfl rfl ?_; (try simp only [Act.put, List.setIfInBounds_toArray, List.set_cons_zero, List.set_cons_succ])) | (refine wpSeq_offU rfl ?_; (try simp only [Act.put, List.setIfInBounds_toArray, List.set_cons_zero, List.set_cons_succ])))
                intro wz gz sz_
                (try simp only [endJ, List.drop_succ_cons, List.drop_zero])
                have HZ := Lib.hid (HZW.out.ext sz_)
                have o1 := ext_cell sz_ O2.out.1
                have o2 := ext_cell sz_ O2.out.2
                clear m1 mc hst gz sz_ HZW
                cases hsl : sl ck xk with
                | true =>
                  have d1 : Op.bytesLess ck.toList xk.toList = true := hsl
                  have HN2 := Lib.hid (show L0 ++ high ck (o.take (q + 1)) = L0 ++ high ck (o.take q) ++ [(xk, xv)] by rw [HNX.out, if_pos hsl, List.append_assoc])
                  clear hsl
                  go_wp2_with (at_builtin; refine wpl_appP rfl _ _ rfl W0.heap.size (.slice A7 n7 c7) (L0 ++ high ck (o.take q)) rfl (own_below HZ.out.ow (Ext.allocR wz (.cells #[.string xk, .string xv] TPA))) (some ⟨wz.heap.size, 0, none⟩) 1 1 [(xk, xv)] rfl (rv_lit TPA 2 #[.string xk, .string xv] 1 (by omega) rfl) (by (try rw [List.length_append]); have := HN6.out; have := List.length_take_le q o; omega) (by omega) (by have := Ext.size HZ.out.ex; simp; omega) ?_; intro A8 n8 c8 w8 o8 r8 b8 g8; have HAP := Lib.hid ((HZ.out.ext (Ext.allocR wz (.cells #[.string xk, .string xv] TPA))).app o8 b8); clear o8 r8 b8 g8)
                  go_roundw
                  case rel => exact ⟨q + 1, A8, n8, c8, by omega, by go_num, rfl, by rw [HN2.out]; exact HAP.out⟩
                  case measure => simp [intOf]; omega
                | false =>
                  have d1 : Op.bytesLess ck.toList xk.toList = false := hsl
                  have HN2 := Lib.hid (show high ck (o.take (q + 1)) = high ck (o.take q) by rw [HNX.out, if_neg (by rw [hsl]; exact Bool.false_ne_true), List.append_nil])
                  clear hsl
                  go_wp2_with fail
                  go_roundw
                  case rel => exact ⟨q + 1, A7, n7, c7, by omega, by go_num, rfl, by rw [HN2.out]; exact HZ.out⟩
                  case measure => simp [intOf]; omega
              · obtain rfl : n6 = q := by omega
                have HZ1 := Lib.hid (show MkP w wr A7 n7 c7 (aft l (cs.take (j + 1))) by
                  have h1 := hz
                  rw [List.take_of_length_le (by rw [← HN6.out]; exact Nat.le_refl _)] at h1
                  rw [HE2.out]
                  exact ⟨own_lower h1.ow (Ext.size HW.out.ex), bt HW.out.ex h1.ex⟩)
                clear hz
                go_wp2_with fail
                go_roundw
                case rel => exact ⟨j + 1, A7, n7, c7, by omega, by go_num, rfl, HZ1.out⟩
                case measure => simp [intOf]; omega
    · obtain rfl : j = n2 := by omega
      have HZ := Lib.hid (show OwP w.heap.size wr (.slice A6 n6 c6) (aft l cs) by
        have h1 := hw.ow
        rw [List.take_of_length_le (by rw [HCL.out]; exact Nat.le_refl _)] at h1
        exact h1)
      clear hw
      go_wp2
      go_returns
      exact ⟨_, rfl, HZ.out, HW.out.ex⟩
end Go.Proofs.Tb
/- The reference: contract of Commit. -/
namespace Go.Proofs.Tb
open Go.Maps Go.RowKit Go.Lib
attribute [local go_sem] cell_set_same neqMapL

theorem slc_one1 (A : Option Addr) (n c : Nat) : ∀ u ∈ [Value.slice A n c], u.oneCell' = true := fun u hu => by rw [List.mem_singleton.1 hu]; rfl
/-- The rows' values are slices. -/
theorem RowsP.one {base : Nat} {w : World} {zs : List Value} {ls : List (List Pr)} (h : RowsP base w zs ls) : ∀ u ∈ zs, u.oneCell' = true := fun u hu => by
  obtain ⟨i, hi, rfl⟩ := List.getElem_of_mem hu
  have h2 := h.2 i (by rw [← h.1]; exact hi)
  obtain ⟨A, c, e, _⟩ := OwP.rv h2
  have e2 : zs.getD i nlP = zs[i] := by simp [List.getD, hi]
  rw [e2] at e
  rw [e]; rfl
theorem RowsP.ext {base : Nat} {w w' : World} {zs : List Value} {ls : List (List Pr)} (h : RowsP base w zs ls) (hx : Ext w w') : RowsP base w' zs ls := ⟨h.1, fun i hi => own_below (h.2 i hi) hx⟩
theorem RowsP.snoc {base : Nat} {w : World} {zs : List Value} {ls : List (List Pr)} (h : RowsP base w zs ls) {z : Value} {l : List Pr} (hz : OwP base w z l) : RowsP base w (zs ++ [z]) (ls ++ [l]) := by
  refine ⟨by rw [List.length_append, List.length_append, h.1]; rfl, fun i hi => ?_⟩
  rw [List.length_append, List.length_singleton] at hi
  simp only [List.getD, List.getElem?_append]
  by_cases h1 : i < ls.length
  · rw [if_pos (by rw [h.1]; exact h1), if_pos h1]
    exact h.2 i h1
  · obtain rfl : i = ls.length := by omega
    rw [if_neg (by rw [h.1]; omega), if_neg (by omega), h.1, Nat.sub_self]
    exact hz
/-- What is known all along. -/
def SC (w : World) (bx : Nat) (v : Value) (keep : Nat) (w' : World) : Prop := Ext w w' ∧ Blk w' bx TRS #[v, .int .i64 (keep : Int)]
set_option maxHeartbeats 6400000 in
set_option maxRecDepth 100000 in
theorem zcommit_any {w : World} {rv : Value} {Vs : List (List Pr)} {keep : Nat} (h : RSv w rv Vs keep) (hp : 1 ≤ Vs.length) (hl : Vs.length ≤ 100000) {L : List Pr} (hL : Vs.getD (Vs.length - 1) [] = L) (hLl : L.length ≤ 100000)
    (A2 : Option Addr) (n2 c2 : Nat) (cs : List Cg) (h2 : Rv w 3 A2 n2 c2 (ccs cs)) (hcs : cs.length ≤ 1000) :
    Calls Try.prog 18 #[rv, .slice A2 n2 c2] w (Ret (fun z w' => RSv w' z (Vs ++ [aft L cs]) keep) w) := by
  obtain ⟨A, n, c, rfl, ⟨zs, ho, hr⟩, hn, hle, hcp⟩ := h.form
  rw [← hn] at ho hp
  obtain ⟨b, o, rfl, hc⟩ := (own_rvv ho).at_ (by omega)
  obtain ⟨q, hq⟩ : ∃ q, Vs.length - 1 = q := ⟨_, rfl⟩
  have hqn : q < n := by omega
  have hnq : (n : Int) - 1 = (q : Int) := by omega
  obtain ⟨z, hz⟩ : ∃ z, zs.getD q nlP = z := ⟨_, rfl⟩
  have hzl : zs.length = n := by rw [hr.1, hn]
  have hrz := hr.2 q (by omega)
  rw [hz, ← hq, hL] at hrz
  obtain ⟨Az, cz, rfl, hrz2⟩ := OwP.rv hrz
  have kz := hc q (.slice Az L.length cz) (by rw [← hz]; simp [List.getD, show q < zs.length by omega])
  obtain ⟨nz, hnz⟩ : ∃ nz, L.length = nz := ⟨_, rfl⟩
  rw [hnz] at kz hrz2 hLl
  have KZ := Lib.hid kz
  have HRZ := Lib.hid hrz2
  have HNZ := Lib.hid hnz
  have HO := Lib.hid ho
  have HR := Lib.hid hr
  have H := Lib.hid h
  have H2 := Lib.hid h2
  have HN := Lib.hid hn
  have HNQ := Lib.hid hnq
  have hle2 := h2.le
  have hcp2 := h2.cap
  have hnl : n ≤ 100000 := by omega
  have hHL := Lib.hid hl
  have HZL := Lib.hid hzl
  clear h h2 hn hc hq hz hzl hrz hrz2 hnz ho hr kz hnq hL hl
  go_enter Try.func18, Try.ntmps18
  go_upto_region 1 with fail
  obtain ⟨W1, hW1⟩ : ∃ W1, W1 = (w.alloc (.cells #[.slice (some ⟨b, o, none⟩) n c, .int .i64 (keep : Int)] TRS)).alloc (.cells #[.slice none 0 0, .int .i64 0] TRS) := ⟨_, rfl⟩
  have hb1 : Blk W1 w.heap.size TRS #[.slice (some ⟨b, o, none⟩) n c, .int .i64 (keep : Int)] := by rw [hW1]; exact (Blk.new_ _ _ rfl).alloc _
  have hb2 : Blk W1 (w.heap.size + 1) TRS #[.slice none 0 0, .int .i64 0] := by rw [hW1]; exact Blk.new_ _ _ (by simp)
  have hx1 : Ext w W1 := by rw [hW1]; exact bt (Ext.allocR _ _) (Ext.allocR _ _)
  rw [← hW1]
  have k1 := hb1.cells
  simp only [cellsAre, Nat.zero_add, Nat.reduceAdd, and_true] at k1
  have HB := Lib.hid (And.intro hb1 hb2)
  have X1 := Lib.hid hx1
  have hs1 := hb1.lt
  clear hb1 hb2 hx1 hW1
  go_upto_region 2 with (at_builtin; refine wpl_appR TPV TPS (.slice none 0 0) 1 24 ps_info Try.underlying26 rfl (by omega) (by omega) rfl _ _ rfl W1.heap.size (.slice (some ⟨W1.heap.size, 0, none⟩) 0 0) 0 [] rfl (own_lit TPS 1 #[] 0 (Nat.le_refl _) (by omega) rfl) (some ⟨b, o, none⟩) n c zs rfl ((own_rvv HO.out).below (bt X1.out (Ext.allocR _ _))) HR.out.one (by omega) (by omega) (by simp) ?_; intro v5 w5 o5 g5 b5; obtain ⟨A5, c5, ev5, _⟩ := own_rv o5; subst ev5; have HZ := Lib.hid (And.intro o5 (show Ext W1 w5 from Below.trans (Ext.allocR _ _) b5)); clear o5 g5 b5)
  have hS5 : SC w w.heap.size (.slice (some ⟨b, o, none⟩) n c) keep w5 := ⟨bt X1.out HZ.out.2, HB.out.1.below HZ.out.2⟩
  have hS0 : SC w w.heap.size (.slice (some ⟨b, o, none⟩) n c) keep w5.drew := ⟨bt hS5.1 (Ext.drew _), hS5.2.below (Ext.drew _)⟩
  have kb := fun w' (hh : SC w w.heap.size (.slice (some ⟨b, o, none⟩) n c) keep w') => hh.2.cells
  have kz := fun w' (hh : SC w w.heap.size (.slice (some ⟨b, o, none⟩) n c) keep w') => ext_cell hh.1 KZ.out
  simp only [cellsAre, Nat.zero_add, Nat.reduceAdd, and_true] at kb
  have hX0 : Ext w5 w5.drew := Ext.drew _
  clear hS5 k1
  refine wp_region_brn (S := (SC w w.heap.size (.slice (some ⟨b, o, none⟩) n c) keep)) (by kernel_rfl) (by kernel_rfl) (fun _ _ _ _ _ => ⟨fun h => h, fun h => h⟩) ?_
  intro hsel_ hQ_
  obtain ⟨wd, hwd⟩ : ∃ wd, w5.drew = wd := ⟨_, rfl⟩
  rw [hwd] at hS0 hX0 ⊢
  clear hwd
  refine wpB_chunk (f := 0) (L' := #[true, true, true, true, true, true, true, true, true, true, true, true, true, true, true]) hsel_ hQ_ [(0, true, some 10, none), (1, true, some 11, none), (2, true, some 12, none), (3, true, some 13, none), (7, true, some 17, none), (11, true, some 21, none), (12, true, some 22, none), (4, false, some 14, none), (5, true, some 15, none), (6, true, some 16, none), (8, false, some 18, none), (9, false, some 19, none), (10, false, some 20, none), (13, true, some 23, none), (14, false, none, none)] _ _ _ (by kernel_rfl) hS0 ?_
  repeat (first | (refine wpSeqB_pure (v := ?_) rfl ?_ ?_; rotate_left 1; (focus (intro wq_ hSq_; (try dsimp only at hSq_); go_simp; (try with_reducible rfl); done)); (try simp only [Act.put, List.setIfInBounds_toArray, List.set_cons_zero, List.set_cons_succ])) | (refine wpSeqB_pureG (v := ?_) rfl rfl ?_ ?_; rotate_left 1; (focus (intro wq_ hSq_; (try dsimp only at hSq_); go_simp; (try with_reducible rfl); done)); (try simp only [Act.put, List.setIfInBounds_toArray, List.set_cons_zero, List.set_cons_succ])) | (refine wpSeqB_off rfl rfl ?_; (try simp only [Act.put, List.setIfInBounds_toArray, List.set_cons_zero, List.set_cons_succ])) | (refine wpSeqB_offU rfl ?_; (try simp only [Act.put, List.setIfInBounds_toArray, List.set_cons_zero, List.set_cons_succ])))
  first | refine wpSeqB_call rfl (fun K hK => ?_) | refine wpSeqB_callG rfl rfl (fun K hK => ?_)
  go_simp
  refine (znewest_any (H.out.ext hS0.1) (by have := hHL.out; omega)).mono ?_
  rintro e y1 ⟨z1, rfl, rfl, b1⟩
  rw [← HN.out, HNQ.out]
  have s1 : SC w w.heap.size (.slice (some ⟨b, o, none⟩) n c) keep y1 := ⟨bt hS0.1 b1, hS0.2.below b1⟩
  have X1' := Lib.hid (show Ext w5 y1 from bt hX0 b1)
  clear b1
  refine hK.out _ _ s1 ?_
  clear hK K
  (try simp only [List.getElem_toArray, List.getElem_cons_succ, List.getElem_cons_zero, Act.put, List.setIfInBounds_toArray, List.set_cons_zero, List.set_cons_succ])
  repeat (first | (refine wpSeqB_pure (v := ?_) rfl ?_ ?_; rotate_left 1; (focus (intro wq_ hSq_; (try dsimp only at hSq_); go_simp; (try with_reducible rfl); done)); (try simp only [Act.put, List.setIfInBounds_toArray, List.set_cons_zero, List.set_cons_succ])) | (refine wpSeqB_pureG (v := ?_) rfl rfl ?_ ?_; rotate_left 1; (focus (intro wq_ hSq_; (try dsimp only at hSq_); go_simp; (try with_reducible rfl); done)); (try simp only [Act.put, List.setIfInBounds_toArray, List.set_cons_zero, List.set_cons_succ])) | (refine wpSeqB_off rfl rfl ?_; (try simp only [Act.put, List.setIfInBounds_toArray, List.set_cons_zero, List.set_cons_succ])) | (refine wpSeqB_offU rfl ?_; (try simp only [Act.put, List.setIfInBounds_toArray, List.set_cons_zero, List.set_cons_succ])))
  first | refine wpSeqB_call rfl (fun K hK => ?_) | refine wpSeqB_callG rfl rfl (fun K hK => ?_)
  go_simp
  refine (zafter_any Az nz cz L A2 n2 c2 cs y1 (HRZ.out.below s1.1) (H2.out.below s1.1) (by have := HNZ.out; omega) hcs).mono ?_
  rintro e y2 ⟨z2, rfl, o2, b2⟩
  have s2 : SC w w.heap.size (.slice (some ⟨b, o, none⟩) n c) keep y2 := ⟨bt s1.1 b2, s1.2.below b2⟩
  have X2' := Lib.hid (show Ext w5 y2 from bt X1'.out b2)
  have O2 := Lib.hid (own_lower o2 (Nat.zero_le _))
  obtain ⟨A7, c7, ez2, _⟩ := OwP.rv o2
  obtain ⟨n7, hn7⟩ : ∃ n7, (aft L cs).length = n7 := ⟨_, rfl⟩
  rw [hn7] at ez2
  subst ez2
  clear b2 o2 hn7
  refine hK.out _ _ s2 ?_
  clear hK K
  (try simp only [List.getElem_toArray, List.getElem_cons_succ, List.getElem_cons_zero, Act.put, List.setIfInBounds_toArray, List.set_cons_zero, List.set_cons_succ])
  repeat (first | (refine wpSeqB_pure (v := ?_) rfl ?_ ?_; rotate_left 1; (focus (intro wq_ hSq_; (try dsimp only at hSq_); go_simp; (try with_reducible rfl); done)); (try simp only [Act.put, List.setIfInBounds_toArray, List.set_cons_zero, List.set_cons_succ])) | (refine wpSeqB_pureG (v := ?_) rfl rfl ?_ ?_; rotate_left 1; (focus (intro wq_ hSq_; (try dsimp only at hSq_); go_simp; (try with_reducible rfl); done)); (try simp only [Act.put, List.setIfInBounds_toArray, List.set_cons_zero, List.set_cons_succ])) | (refine wpSeqB_off rfl rfl ?_; (try simp only [Act.put, List.setIfInBounds_toArray, List.set_cons_zero, List.set_cons_succ])) | (refine wpSeqB_offU rfl ?_; (try simp only [Act.put, List.setIfInBounds_toArray, List.set_cons_zero, List.set_cons_succ])))
  first | refine wpSeqB_call rfl (fun K hK => ?_) | refine wpSeqB_callG rfl rfl (fun K hK => ?_)
  go_simp
  have x3 : Ext y2 (y2.alloc (.cells #[.slice A7 n7 c7] TPS)) := Ext.allocR _ _
  have s3 : SC w w.heap.size (.slice (some ⟨b, o, none⟩) n c) keep (y2.alloc (.cells #[.slice A7 n7 c7] TPS)) := ⟨bt s2.1 x3, s2.2.below x3⟩
  have HR3 := Lib.hid (rv_lit (w := y2) TPS 1 #[.slice A7 n7 c7] 1 (by omega) rfl)
  have X3' := Lib.hid (bt X2'.out x3)
  have O3 := Lib.hid (own_below O2.out x3)
  obtain ⟨y3, hy3⟩ : ∃ y3, y2.alloc (.cells #[.slice A7 n7 c7] TPS) = y3 := ⟨_, rfl⟩
  obtain ⟨b3, hb3⟩ : ∃ b3, y2.heap.size = b3 := ⟨_, rfl⟩
  rw [hy3] at s3 HR3 X3' O3 ⊢
  rw [hb3] at HR3 ⊢
  clear x3 hy3 hb3
  refine hK.out _ _ s3 ?_
  clear hK K
  (try simp only [List.getElem_toArray, List.getElem_cons_succ, List.getElem_cons_zero, Act.put, List.setIfInBounds_toArray, List.set_cons_zero, List.set_cons_succ])
  repeat (first | (refine wpSeqB_pure (v := ?_) rfl ?_ ?_; rotate_left 1; (focus (intro wq_ hSq_; (try dsimp only at hSq_); go_simp; (try with_reducible rfl); done)); (try simp only [Act.put, List.setIfInBounds_toArray, List.set_cons_zero, List.set_cons_succ])) | (refine wpSeqB_pureG (v := ?_) rfl rfl ?_ ?_; rotate_left 1; (focus (intro wq_ hSq_; (try dsimp only at hSq_); go_simp; (try with_reducible rfl); done)); (try simp only [Act.put, List.setIfInBounds_toArray, List.set_cons_zero, List.set_cons_succ])) | (refine wpSeqB_off rfl rfl ?_; (try simp only [Act.put, List.setIfInBounds_toArray, List.set_cons_zero, List.set_cons_succ])) | (refine wpSeqB_offU rfl ?_; (try simp only [Act.put, List.setIfInBounds_toArray, List.set_cons_zero, List.set_cons_succ])))
  first | refine wpSeqB_call rfl (fun K hK => ?_) | refine wpSeqB_callG rfl rfl (fun K hK => ?_)
  refine wp_appR TPV TPS (.slice none 0 0) 1 24 ps_info Try.underlying26 rfl (by omega) (by omega) _ _ (by rfl) W1.heap.size (.slice A5 n c5) n zs (by rfl) (own_below (by have h1 := HZ.out.1; rw [Nat.zero_add] at h1; exact h1) X3'.out) (some ⟨b3, 0, none⟩) 1 1 [.slice A7 n7 c7] (by rfl) HR3.out (slc_one1 _ _ _) (by omega) (by omega) (Nat.le_trans (Ext.size HZ.out.2) (Ext.size X3'.out)) ?_
  intro v6 w6 o6 g6 b6
  obtain ⟨A6, c6, ev6, _⟩ := own_rv o6
  subst ev6
  have hb6 : Blk w6 w.heap.size TRS #[.slice (some ⟨b, o, none⟩) n c, .int .i64 (keep : Int)] := grow_blk g6 (own_below (by have h1 := HZ.out.1; rw [Nat.zero_add] at h1; exact h1) X3'.out) (show TPS ≠ TRS by decide) s3.2
  have hr6 : Blk w6 (w.heap.size + 1) TRS #[.slice none 0 0, .int .i64 0] := grow_blk g6 (own_below (by have h1 := HZ.out.1; rw [Nat.zero_add] at h1; exact h1) X3'.out) (show TPS ≠ TRS by decide) ((HB.out.2.below HZ.out.2).below X3'.out)
  have hx6 : Ext w w6 := Below.trans s3.1 (Below.mono b6 (Ext.size X1.out))
  have s6 : SC w w.heap.size (.slice (some ⟨b, o, none⟩) n c) keep w6 := ⟨hx6, hb6⟩
  have HV := Lib.hid (show OwV 0 w6 (.slice A6 (n + 1) c6) (Vs ++ [aft L cs]) from ⟨zs ++ [.slice A7 n7 c7], by rw [List.length_append, List.length_singleton, ← HN.out]; exact own_lower o6 (Nat.zero_le _), (HR.out.ext hx6).snoc (own_keep O3.out fun g cs _ _ hb => (grow_blk g6 (own_below (by have h1 := HZ.out.1; rw [Nat.zero_add] at h1; exact h1) X3'.out) (show TPS ≠ TPA by decide) hb).trans hb.symm)⟩)
  have k6 := hr6.cells
  have f6 := hr6.free
  simp only [cellsAre, Nat.zero_add, Nat.reduceAdd, and_true] at k6
  have HR6 := Lib.hid hr6
  clear o6 g6 b6 hb6 hr6
  refine hK.out _ _ s6 ?_
  clear hK K
  (try simp only [List.getElem_toArray, List.getElem_cons_succ, List.getElem_cons_zero, Act.put, List.setIfInBounds_toArray, List.set_cons_zero, List.set_cons_succ])
  repeat (first | (refine wpSeqB_pure (v := ?_) rfl ?_ ?_; rotate_left 1; (focus (intro wq_ hSq_; (try dsimp only at hSq_); go_simp; (try with_reducible rfl); done)); (try simp only [Act.put, List.setIfInBounds_toArray, List.set_cons_zero, List.set_cons_succ])) | (refine wpSeqB_pureG (v := ?_) rfl rfl ?_ ?_; rotate_left 1; (focus (intro wq_ hSq_; (try dsimp only at hSq_); go_simp; (try with_reducible rfl); done)); (try simp only [Act.put, List.setIfInBounds_toArray, List.set_cons_zero, List.set_cons_succ])) | (refine wpSeqB_off rfl rfl ?_; (try simp only [Act.put, List.setIfInBounds_toArray, List.set_cons_zero, List.set_cons_succ])) | (refine wpSeqB_offU rfl ?_; (try simp only [Act.put, List.setIfInBounds_toArray, List.set_cons_zero, List.set_cons_succ])))
  first | refine wpSeqB_call rfl (fun K hK => ?_) | refine wpSeqB_callG rfl rfl (fun K hK => ?_)
  go_simp
  have B9 := (HR6.out.set_ 0 (.slice A6 (n + 1) c6)).set_ 1 (.int .i64 (keep : Int))
  have x9 : Below w.heap.size w6 ((w6.setCell ⟨w.heap.size + 1, 0, none⟩ (.slice A6 (n + 1) c6)).setCell ⟨w.heap.size + 1, 1, none⟩ (.int .i64 (keep : Int))) := ((Below.refl _ _).setCell (p := ⟨w.heap.size + 1, 0, none⟩) (by simp) _).setCell (p := ⟨w.heap.size + 1, 1, none⟩) (by simp) _
  obtain ⟨y9, hy9⟩ : ∃ y9, (w6.setCell ⟨w.heap.size + 1, 0, none⟩ (.slice A6 (n + 1) c6)).setCell ⟨w.heap.size + 1, 1, none⟩ (.int .i64 (keep : Int)) = y9 := ⟨_, rfl⟩
  have hv9 : OwV 0 y9 (.slice A6 (n + 1) c6) (Vs ++ [aft L cs]) := by
    rw [← hy9]
    have c9 : Chg (fun b o => b = w.heap.size + 1 ∧ ∃ cs, o = .cells cs TRS (0, 0)) w6 ((w6.setCell ⟨w.heap.size + 1, 0, none⟩ (.slice A6 (n + 1) c6)).setCell ⟨w.heap.size + 1, 1, none⟩ (.int .i64 (keep : Int))) := (Chg.setB HR6.out ⟨rfl, _, rfl⟩ _ _).trans (Chg.setB (HR6.out.set_ 0 _) ⟨rfl, _, rfl⟩ _ _)
    refine HV.out.chg c9 (fun b cs hX => ?_) (fun b cs hX => ?_)
    · obtain ⟨_, cs', hX⟩ := hX
      injection hX with _ hX
      revert hX
      decide
    · obtain ⟨_, cs', hX⟩ := hX
      injection hX with _ hX
      revert hX
      decide
  rw [hy9] at B9 x9 ⊢
  have hx9 : Ext w y9 := Below.trans s6.1 x9
  have s9 : SC w w.heap.size (.slice (some ⟨b, o, none⟩) n c) keep y9 := ⟨hx9, by rw [← hy9]; exact (s6.2.far (p := ⟨w.heap.size + 1, 0, none⟩) (by simp) _).far (p := ⟨w.heap.size + 1, 1, none⟩) (by simp) _⟩
  have B9' : Blk y9 (w.heap.size + 1) TRS #[.slice A6 (n + 1) c6, .int .i64 (keep : Int)] := B9
  have k9 := B9'.cells
  simp only [cellsAre, Nat.zero_add, Nat.reduceAdd, and_true] at k9
  refine hK.out _ _ s9 ?_
  clear hK K k6 f6 hy9 x9 B9 B9'
  intro s_
  refine wpB_end (by kernel_rfl) ?_
  clear s_ kb kz hS0 hX0 s1 s2 s3 s6
  go_wp2_with fail
  (try simp only [Exit.inBlock, Exit.then])
  refine bodyPost_ret (v := (.agg #[.slice A6 (n + 1) c6, .int .i64 (keep : Int)])) (by simp [results, Try.results18, go_sem, *]) rfl ?_
  exact ⟨_, rfl, ⟨A6, n + 1, c6, rfl, hv9⟩, hx9⟩
end Go.Proofs.Tb
/- The reference: contract of Fits. -/
namespace Go.Proofs.Tb
open Go.Maps Go.RowKit Go.Lib
attribute [local go_sem] cell_set_same neqMapL

/-- The blocks that some versions want. -/
def fitN : List (List Pr) → Nat
  | [] => 0
  | l :: ls => 4 * (l.length + 24) + fitN ls
theorem fitN_take_succ : ∀ (ls : List (List Pr)) {j : Nat} (hj : j < ls.length), fitN (ls.take (j + 1)) = fitN (ls.take j) + 4 * ((ls[j]).length + 24)
  | l :: ls, 0, _ => by simp [fitN]
  | l :: ls, j + 1, hj => by
    have := fitN_take_succ ls (j := j) (by simpa using hj)
    simp only [List.take_succ_cons, fitN, List.getElem_cons_succ]
    omega
theorem fitN_le {m : Nat} : ∀ (ls : List (List Pr)), (∀ l ∈ ls, l.length ≤ m) → fitN ls ≤ ls.length * (4 * (m + 24))
  | [], _ => Nat.zero_le _
  | l :: ls, h => by
    have h1 := h l List.mem_cons_self
    have h2 := fitN_le ls fun x hx => h x (List.mem_cons_of_mem _ hx)
    simp only [fitN, List.length_cons, Nat.add_mul, Nat.one_mul]
    omega
def fitB (Vs : List (List Pr)) (keep : Nat) (L : List Pr) (blocks : Int) : Bool := decide ((fitN ((Vs ++ [L]).drop (Vs.length - 1 - keep)) : Int) ≤ blocks)
theorem OwV.at_ {w : World} {A : Option Addr} {n c : Nat} {ls : List (List Pr)} (h : OwV 0 w (.slice A n c) ls) {q : Nat} (hq : q < ls.length) : ∃ b o Az cz, A = some ⟨b, o, none⟩ ∧ w.cell? ⟨b, o + q, none⟩ = some (.slice Az (ls[q]).length cz) ∧ Rv w 2 Az (ls[q]).length cz (pcs ls[q]) := by
  obtain ⟨zs, ho, hr⟩ := h
  have hn : n = ls.length := by
    obtain ⟨A', c', e, _⟩ := own_rv ho
    injection e
  obtain ⟨b, o, hA, hc⟩ := (own_rvv ho).at_ (by omega)
  have h2 := hr.2 q hq
  have e : ls.getD q [] = ls[q] := by simp [List.getD, hq]
  rw [e] at h2
  obtain ⟨Az, cz, ez, hz⟩ := OwP.rv h2
  refine ⟨b, o, Az, cz, hA, hc q _ ?_, hz⟩
  have hqz : q < zs.length := by rw [hr.1]; exact hq
  rw [← ez]
  simp [List.getD, hqz]
set_option maxHeartbeats 6400000 in
set_option maxRecDepth 100000 in
theorem zfits_any {w : World} {rv : Value} {Vs : List (List Pr)} {keep : Nat} (h : RSv w rv Vs keep) (hp : 1 ≤ Vs.length) (hl : Vs.length ≤ 1000) (hk : keep ≤ 1000) {L : List Pr} (hL : Vs.getD (Vs.length - 1) [] = L) (hLl : ∀ l ∈ Vs, l.length ≤ 10000)
    (A2 : Option Addr) (n2 c2 : Nat) (cs : List Cg) (h2 : Rv w 3 A2 n2 c2 (ccs cs)) (hcs : cs.length ≤ 1000) (blocks : Int) :
    Calls Try.prog 17 #[rv, .slice A2 n2 c2, .int .i64 blocks] w (Ret (fun z _ => z = .bool (fitB Vs keep (aft L cs) blocks)) w) := by
  obtain ⟨A, n, c, rfl, hov, hn, hle, hcp⟩ := h.form
  have hLm : L ∈ Vs := by
    rw [← hL]
    have h1 : Vs.length - 1 < Vs.length := by omega
    have e : Vs.getD (Vs.length - 1) [] = Vs[Vs.length - 1] := by simp [List.getD, h1]
    rw [e]
    exact List.getElem_mem h1
  have hal := aft_len cs L
  have hLL := hLl L hLm
  have HLL := Lib.hid (show L.length ≤ 100000 by omega)
  have H := Lib.hid h
  have H2 := Lib.hid h2
  have HP := Lib.hid hp
  have HLV := Lib.hid hl
  have HLE := Lib.hid hL
  obtain ⟨L', hL'⟩ : ∃ L', aft L cs = L' := ⟨_, rfl⟩
  have HL' := Lib.hid hL'
  obtain ⟨O, hO⟩ : ∃ O, Vs.length - 1 - keep = O := ⟨_, rfl⟩
  have HO := Lib.hid hO
  obtain ⟨M, hM⟩ : ∃ M, (Vs ++ [L']).length = M := ⟨_, rfl⟩
  have hM1 : M = Vs.length + 1 := by rw [← hM, List.length_append, List.length_singleton]
  have HM := Lib.hid hM
  have HM1 := Lib.hid hM1
  have hOM : O < M := by omega
  have hMl : M ≤ 1001 := by omega
  have HWL := Lib.hid (show ∀ l ∈ Vs ++ [L'], l.length ≤ 11000 from fun l hm => by
    rcases List.mem_append.1 hm with hm | hm
    · have := hLl l hm; omega
    · rw [List.mem_singleton.1 hm, ← hL']; omega)
  have HFB := Lib.hid (show fitB Vs keep L' blocks = decide ((fitN ((Vs ++ [L']).drop O) : Int) ≤ blocks) by unfold fitB; rw [hO])
  rw [hL']
  clear h h2 hp hl hL hLl hLm hal hLL hL' hO hM hM1 hn hov
  go_enter Try.func17, Try.ntmps17
  go_wp2_with fail
  have x0 : Ext w (w.alloc (.cells #[.slice A n c, .int .i64 (keep : Int)] TRS)) := Ext.allocR _ _
  refine (zcommit_any (H.out.ext x0) HP.out (by have := HLV.out; omega) HLE.out HLL.out A2 n2 c2 cs (H2.out.below x0) hcs).mono ?_
  rintro e w1 ⟨z1, rfl, hr1, b1⟩
  rw [HL'.out] at hr1
  have hb0 : Blk w1 w.heap.size TRS #[.slice A n c, .int .i64 (keep : Int)] := (Blk.new_ _ _ rfl).below b1
  have X1 := Lib.hid (show Ext w w1 from bt x0 b1)
  obtain ⟨At, nt, ct, rfl, hov, hnt, hlt, hct⟩ := hr1.form
  have hntM : nt = M := by rw [hnt, HM.out]
  subst hntM
  have HOV := Lib.hid hov
  clear x0 b1 hnt hov
  go_upto_region 2 with fail
  have HR0 := Lib.hid hr1
  refine wp_world (fun W => Ext w1 W ∧ Blk W w1.heap.size TRS #[.slice At nt ct, .int .i64 (keep : Int)]) ⟨Ext.allocR _ _, Blk.new_ _ _ rfl⟩ ?_
  clear hr1
  rintro W2 ⟨hx2, hb2⟩
  have X2 := Lib.hid (bt X1.out hx2)
  have HR2 := Lib.hid (HR0.out.ext hx2)
  have HB0 := Lib.hid (hb0.below hx2)
  have HOV2 := Lib.hid (HOV.out.ext hx2)
  have HB2 := Lib.hid hb2
  obtain ⟨p, hp⟩ : ∃ p, w1.heap.size = p := ⟨_, rfl⟩
  rw [hp] at HB2 ⊢
  have kb0 := (hb0.below hx2).cells
  simp only [cellsAre, Nat.zero_add, Nat.reduceAdd, and_true] at kb0
  clear hb0 hx2 hb2 hp HR0
  go_wp2_with fail
  refine (zoldest_any (H.out.ext X2.out) (by have := HLV.out; omega) (by omega)).mono ?_
  rintro e w3 ⟨z3, rfl, rfl, b3⟩
  rw [HO.out]
  have X3 := Lib.hid (show Ext W2 w3 from b3)
  clear b3 kb0
  go_wp2_with fail
  go_loopw [8, 9] (fun u i wr => ∃ j : Nat, O + j ≤ nt ∧ i = .int .i64 ((O + j : Nat) : Int) ∧ u = .int .i64 (fitN (((Vs ++ [L']).drop O).take j) : Int) ∧ Ext W2 wr) (fun _ i _ => nt - (intOf i).toNat)
  case atStart => exact ⟨0, by omega, rfl, rfl, X3.out⟩
  case round =>
    clear X3
    obtain ⟨j, hj, rfl, rfl, hx⟩ := hrel
    have HX := Lib.hid hx
    have hDl : ((Vs ++ [L']).drop O).length = nt - O := by rw [List.length_drop, HM.out]
    have hfl : fitN (((Vs ++ [L']).drop O).take j) ≤ 100000000 := by
      have h1 := fitN_le (m := 11000) (((Vs ++ [L']).drop O).take j) fun l hl => HWL.out l (List.mem_of_mem_drop (List.mem_of_mem_take hl))
      have h2 : (((Vs ++ [L']).drop O).take j).length ≤ 1001 := by rw [List.length_take]; omega
      have h3 : (((Vs ++ [L']).drop O).take j).length * (4 * (11000 + 24)) ≤ 1001 * (4 * (11000 + 24)) := Nat.mul_le_mul_right _ h2
      omega
    obtain ⟨q, hq⟩ : ∃ q, O + j = q := ⟨_, rfl⟩
    obtain ⟨S, hS⟩ : ∃ S, fitN (((Vs ++ [L']).drop O).take j) = S := ⟨_, rfl⟩
    rw [hq] at hj ⊢
    rw [hS] at hfl ⊢
    have HQ := Lib.hid hq
    have HS := Lib.hid hS
    have kp := (HB2.out.below hx).cells
    simp only [cellsAre, Nat.zero_add, Nat.reduceAdd, and_true] at kp
    have HDL := Lib.hid hDl
    clear hx hDl hq hS
    go_wp2_with fail
    refine (znewest_any (HR2.out.ext HX.out) (by rw [HM.out]; omega)).mono ?_
    rintro e w4 ⟨z4, rfl, rfl, b4⟩
    have HX4 := Lib.hid (show Ext W2 w4 from bt HX.out b4)
    have kp4 := ((HB2.out.below HX.out).below b4).cells
    simp only [cellsAre, Nat.zero_add, Nat.reduceAdd, and_true] at kp4
    rw [HM.out]
    clear b4 kp
    by_cases hqn : q < nt
    · have pq : (q : Int) ≤ (nt : Int) - 1 := by omega
      have hqw : q < (Vs ++ [L']).length := by rw [HM.out]; exact hqn
      obtain ⟨bt, ot, Az, cz, rfl, kz, hrz⟩ := (HOV2.out.ext HX4.out).at_ hqw
      have hlz := HWL.out _ (List.getElem_mem hqw)
      have hcz1 := hrz.le
      have hcz2 := hrz.cap
      have hjd : j < ((Vs ++ [L']).drop O).length := by rw [HDL.out]; have := HQ.out; omega
      have hge : ((Vs ++ [L']).drop O)[j] = (Vs ++ [L'])[q] := by rw [List.getElem_drop]; congr 1; (try exact HQ.out)
      have HNX := Lib.hid (show fitN (((Vs ++ [L']).drop O).take (j + 1)) = S + 4 * (((Vs ++ [L'])[q]).length + 24) by rw [fitN_take_succ _ hjd, HS.out, hge])
      obtain ⟨lz, hlz2⟩ : ∃ lz, ((Vs ++ [L'])[q]).length = lz := ⟨_, rfl⟩
      rw [hlz2] at kz hlz hcz1 HNX
      have w1 : IntKind.i64.wrap ((lz : Int) + 16) = (lz : Int) + 16 := IntWalk.i64_in _ (by omega)
      have w2 : IntKind.i64.wrap ((lz : Int) + 16 + 8) = (lz : Int) + 16 + 8 := IntWalk.i64_in _ (by omega)
      have w3 : IntKind.i64.wrap (4 * ((lz : Int) + 16 + 8)) = 4 * ((lz : Int) + 16 + 8) := IntWalk.i64_in _ (by omega)
      have HEQ := Lib.hid (show (S : Int) + 4 * ((lz : Int) + 16 + 8) = ((S + 4 * (lz + 24) : Nat) : Int) by omega)
      have HQ2 := Lib.hid (show O + (j + 1) = q + 1 by have := HQ.out; omega)
      clear hrz hjd hge hlz2 hqw
      go_wp2_with fail
      go_roundw
      case rel => exact ⟨j + 1, by rw [HQ2.out]; omega, by rw [HQ2.out]; (try go_num), by rw [HNX.out, ← HEQ.out], HX4.out⟩
      case measure => simp [intOf]; omega
    · obtain rfl : nt = q := by omega
      have HE := Lib.hid (show fitB Vs keep L' blocks = decide ((S : Int) ≤ blocks) by
        rw [HFB.out, ← HS.out, List.take_of_length_le (by rw [HDL.out]; have := HQ.out; omega)])
      have pq : ¬ (nt : Int) ≤ (nt : Int) - 1 := by omega
      go_wp2
      go_returns
      exact ⟨_, rfl, by rw [HE.out]; rfl, bt X2.out HX4.out⟩
end Go.Proofs.Tb
