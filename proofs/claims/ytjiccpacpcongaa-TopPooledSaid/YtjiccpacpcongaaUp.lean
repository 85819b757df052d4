/- mended: the rows of equations. -/
import Derived.Test.YtjiccpacpcongaaUo
set_option linter.unusedVariables false
set_option linter.unusedSimpArgs false
namespace Go.Proofs.Tb
open Go.RowKit Go.Lib
attribute [local go_sem] cell_set_same

def rA (q : Nat) (x : Nat) (n : Nat) : List Int := (List.range n).map (pwI (q : Int) (x : Int))
theorem rA_len (q x n : Nat) : (rA q x n).length = n := by unfold rA; simp
theorem rA_at {q x n j : Nat} (h : j < n) : ro (rA q x n) j = pwI (q : Int) (x : Int) j := by unfold rA; rw [ro_range _ _ h]
theorem rA_take (q x n : Nat) (s : Int) : (rA q x n ++ [s]).take n = rA q x n := by
  have := rA_len q x n
  rw [List.take_append_of_le_length (by omega), List.take_of_length_le (by omega)]
def rB (q : Nat) (x : Nat) (y : Int) (k : Nat) : List Int := (List.range k).map fun j => (0 - y * pwI (q : Int) (x : Int) j % (q : Int) + (q : Int)) % (q : Int)
theorem rB_len (q x : Nat) (y : Int) (k : Nat) : (rB q x y k).length = k := by unfold rB; simp
theorem rB_succ (q x : Nat) (y : Int) (k : Nat) : rB q x y (k + 1) = rB q x y k ++ [(0 - y * pwI (q : Int) (x : Int) k % (q : Int) + (q : Int)) % (q : Int)] := by
  unfold rB
  rw [List.range_succ, List.map_append]
  rfl
theorem rX_eq (q t x : Nat) (y : Int) : rA q x (t + 2) ++ rB q x y t ++ [hgh (q : Int) (x : Int) y t] = rwX (q : Int) t (x : Int) y := rfl
def rwsX (q t : Nat) (ys : List Int) (k : Nat) : List (List Int) := (List.range k).map fun (x : Nat) => rwX (q : Int) t (x : Int) (ro ys x)
theorem rwsX_len (q t : Nat) (ys : List Int) (k : Nat) : (rwsX q t ys k).length = k := by unfold rwsX; simp
theorem rwsX_succ (q t : Nat) (ys : List Int) (k : Nat) : rwsX q t ys (k + 1) = rwsX q t ys k ++ [rwX (q : Int) t (k : Int) (ro ys k)] := by
  unfold rwsX
  rw [List.range_succ, List.map_append]
  rfl
theorem rwsX_at {q t : Nat} {ys : List Int} {k i : Nat} (h : i < k) : (rwsX q t ys k).getD i [] = rwX (q : Int) t (i : Int) (ro ys i) := by
  unfold rwsX
  rw [List.getD_eq_getElem?_getD, List.getElem?_map, List.getElem?_range h]
  rfl
theorem OwM.nil (base : Nat) (w : World) : OwM base w (.slice none 0 0) [] := ⟨[], World.ownsRow_nil _ _ _ _, rfl, fun i h => absurd h (Nat.not_lt_zero _)⟩
set_option maxHeartbeats 12800000 in
set_option maxRecDepth 100000 in
theorem rmended_any {q P t c : Nat} (hq : Q4 q) {A : Option Addr} {ys : List Int} (w : World) (hw : OwC 0 w (.slice A P c) ys) (hr : ∀ y ∈ ys, 0 ≤ y ∧ y < (q : Int)) (hP : 2 * t + 2 ≤ P) (hPq : P ≤ q) {ks : List Nat} (hks : ks.length ≤ t) {d0 d1 : Int} (h0 : 0 ≤ d0 ∧ d0 < (q : Int)) (h1 : 0 ≤ d1 ∧ d1 < (q : Int)) (hy : ∀ x, x < P → x ∉ ks → (q : Int) ∣ ro ys x - (d0 + d1 * (x : Int))) :
    Calls Try.prog 19 #[.int .i64 (q : Int), .slice A P c, .int .i64 2, .int .i64 (t : Int)] w (Ret (fun z w' => ∃ z1, z = .tuple #[z1, .bool true] ∧ OwC w.heap.size w' z1 [d0, d1]) w) := by
  have hqb : 5 ≤ q ∧ q ≤ 13 := by rcases hq with h | h | h | h <;> omega
  obtain ⟨hq5, hq13⟩ := hqb
  have hlen := hw.len
  have HYR := Lib.hid (fun x (hx : x < P) => show 0 ≤ ro ys x ∧ ro ys x < (q : Int) from by
    unfold ro
    rw [List.getD_eq_getElem?_getD, List.getElem?_eq_getElem (by omega)]
    exact hr _ (List.getElem_mem _))
  have HPW := Lib.hid (fun (x : Nat) (hx : x < P) (n : Nat) (hn : n ≤ 100) (w' : World) => rpowers_any (q := q) (by omega) (by omega) (x := (x : Int)) (by omega) n (by omega) 0 w')
  obtain ⟨pA, cA, eA⟩ := own_form0 hw (by omega)
  injection eA with eA1 eA2 eA3
  subst eA1 eA3
  have HW := Lib.hid hw
  have HARG := Lib.hid (And.intro hks (And.intro h0 (And.intro h1 hy)))
  have HV0 : ∃ v0, ∀ i, i < P → Sat (q : Int) (2 * t + 2) ((rwsX q t ys P).getD i []) v0 := by
    obtain ⟨es, he, hm⟩ := pad_es ks hks
    refine ⟨v0E t d0 d1 es, fun i hi => ?_⟩
    rw [rwsX_at hi]
    exact (rwX_sat _).2 (v0E_eq d0 d1 he _ _ (by
      by_cases hk : i ∈ ks
      · exact Or.inl (hm i hk)
      · exact Or.inr (hy i hi hk)))
  have pb0 : (0 : Int) ≤ (t : Int) := by omega
  have htb : t ≤ 6 := by omega
  clear hw hr hks h0 h1 hy eA2
  go_enter Try.func19, Try.ntmps19
  go_wp2_with fail
  go_loopw [10, 23] (fun rv xv wr => ∃ x : Nat, x ≤ P ∧ xv = .int .i64 (x : Int) ∧ OwM w.heap.size wr rv (rwsX q t ys x) ∧ Ext w wr) (fun _ xv _ => P - (intOf xv).toNat)
  case atStart => exact ⟨0, by omega, rfl, OwM.nil _ _, Ext.refl _⟩
  case round =>
    obtain ⟨x, hx, rfl, hom, hxx⟩ := hrel
    obtain ⟨W, rfl⟩ : ∃ W, W = wr := ⟨_, rfl⟩
    obtain ⟨zs, hoz, hrz⟩ := hom
    obtain ⟨AR, cR, eR, _⟩ := own_rv hoz
    rw [rwsX_len] at eR
    subst eR
    have HOM := Lib.hid (And.intro hoz hrz)
    have HXX := Lib.hid hxx
    have hsz := Ext.size hxx
    by_cases hxP : x < P
    · have px : (x : Int) < (P : Int) := by omega
      have wx : IntKind.i64.wrap ((x : Int) + 1) = ((x + 1 : Nat) : Int) := by rw [IntWalk.i64_in _ (by omega)]; rfl
      have HYW := Lib.hid (HW.out.below hxx)
      have kc := (fun (h : ∃ b, some (⟨pA, 0, none⟩ : Addr) = some ⟨b, 0, none⟩ ∧ 0 ≤ b ∧ (∀ j, W.frozen? ⟨b, j, none⟩ = false) ∧ ∀ j, j < P → W.cell? ⟨b, j, none⟩ = some (.int .i64 (ro ys j))) => (by
        obtain ⟨b, e, _, _, hc⟩ := h
        injection e with e
        injection e with e
        subst e
        exact hc x hxP : W.cell? ⟨pA, x, none⟩ = some (.int .i64 (ro ys x)))) (HYW.out.cell (by omega))
      have hyr := HYR.out x hxP
      obtain ⟨y, hy⟩ : ∃ y, ro ys x = y := ⟨_, rfl⟩
      rw [hy] at kc hyr
      have HY := Lib.hid hy
      have HYB := Lib.hid hyr
      clear hy hyr hoz hrz hxx
      obtain ⟨t2, ht2⟩ : ∃ t2, t + 2 = t2 := ⟨_, rfl⟩
      have wt2 : IntKind.i64.wrap ((t : Int) + 2) = (t2 : Int) := by rw [IntWalk.i64_in _ (by omega)]; omega
      have ht2b : t2 ≤ 8 := by omega
      have HT2 := Lib.hid ht2
      clear ht2
      go_wp2_with fail
      refine (HPW.out x hxP t2 (by omega) W).mono ?_
      rintro e w1 ⟨z1, rfl, o1, b1⟩
      have o1 : OwC W.heap.size w1 z1 (rA q x t2 ++ [0]) := o1
      obtain ⟨g13, c13, e13⟩ := own_form0 o1 (by simp)
      rw [List.length_append, rA_len] at e13
      simp only [List.length_singleton] at e13
      subst e13
      have hcap := o1.rv.le
      have hc13 : t2 ≤ c13 := by omega
      have hc13b := o1.rv.cap
      have o13 := o1.take (m := t2) (by omega)
      rw [rA_take] at o13
      have X1 := Lib.hid (And.intro o13 b1)
      clear o1 b1 o13
      go_wp2_with fail
      refine (HPW.out x hxP t (by omega) w1).mono ?_
      rintro e w2 ⟨z2, rfl, o2, b2⟩
      have o2 : OwC w1.heap.size w2 z2 (rA q x t ++ [0]) := o2
      obtain ⟨g43, c43, e43⟩ := own_form0 o2 (by simp)
      rw [List.length_append, rA_len] at e43
      simp only [List.length_singleton] at e43
      subst e43
      have hcap4 := o2.rv.le
      have hc43 : t ≤ c43 := by omega
      have hc43b := o2.rv.cap
      have o43 := o2.take (m := t) (by omega)
      rw [rA_take] at o43
      have h43 : g13 ≠ g43 ∧ W.heap.size ≤ g43 := by
        have e1 := own_lt X1.out.1 g13 rfl
        have e2 := own_geE o43 g43 rfl
        have e3 := X1.out.2.size
        omega
      have X2 := Lib.hid (And.intro (X1.out.1.below b2) (And.intro (o43.lower X1.out.2.size) (And.intro h43.1 (bt X1.out.2 b2))))
      clear X1 o2 b2 o43 h43 hcap hcap4
      go_wp2_with fail
      go_loopw [13, 45] (fun rv jv wr => ∃ (j g' c' : Nat), j ≤ t ∧ jv = .int .i64 (j : Int) ∧ rv = .slice (some ⟨g', 0, none⟩) (t2 + j) c' ∧ OwC W.heap.size wr (.slice (some ⟨g', 0, none⟩) (t2 + j) c') (rA q x t2 ++ rB q x y j) ∧ OwC W.heap.size wr (.slice (some ⟨g43, 0, none⟩) t c43) (rA q x t) ∧ g' ≠ g43 ∧ Ext W wr) (fun _ jv _ => t - (intOf jv).toNat)
      case atStart => exact ⟨0, g13, c13, by omega, rfl, rfl, by show OwC _ _ _ (rA q x t2 ++ []); rw [List.append_nil]; exact X2.out.1, X2.out.2.1, X2.out.2.2.1, X2.out.2.2.2⟩
      case round =>
        clear X2
        obtain ⟨j, g', c', hj, rfl, rfl, ho, ho4, hne, hxw⟩ := hrel
        obtain ⟨W3, rfl⟩ : ∃ W3, W3 = wr := ⟨_, rfl⟩
        have HO := Lib.hid (And.intro ho (And.intro ho4 (And.intro hne hxw)))
        have hsz3 := Ext.size hxw
        by_cases hjt : j < t
        · have pj : (j : Int) < (t : Int) := by omega
          have wj : IntKind.i64.wrap ((j : Int) + 1) = ((j + 1 : Nat) : Int) := by rw [IntWalk.i64_in _ (by omega)]; rfl
          obtain ⟨b43, e43, _, _, hc43c⟩ := ho4.cell (by omega)
          injection e43 with e43
          injection e43 with e43
          subst e43
          have kn := hc43c j hjt
          rw [rA_at hjt] at kn
          have hnr := pwI_in (q := (q : Int)) (by omega) (x : Int) j
          obtain ⟨n_, hn_⟩ : ∃ n_, pwI (q : Int) (x : Int) j = n_ := ⟨_, rfl⟩
          rw [hn_] at kn hnr
          have HN := Lib.hid hn_
          have HNR := Lib.hid hnr
          clear hc43c hn_ hnr ho ho4 hne hxw
          go_wp2_with fail
          refine (rmul_any (q := q) (by omega) (by omega) HYB.out HNR.out W3).mono ?_
          rintro e w4 ⟨z4, rfl, rfl, b4⟩
          have X4 := Lib.hid (show Ext W3 w4 from b4)
          have hpr : 0 ≤ y * n_ % (q : Int) ∧ y * n_ % (q : Int) < (q : Int) := ⟨Int.emod_nonneg _ (by omega), Int.emod_lt_of_pos _ (by omega)⟩
          obtain ⟨pr, hpr_⟩ : ∃ pr, y * n_ % (q : Int) = pr := ⟨_, rfl⟩
          rw [hpr_] at hpr ⊢
          have HPR := Lib.hid (And.intro hpr hpr_)
          clear b4 hpr hpr_
          go_wp2_with fail
          refine (rsub_any (q := q) (a := 0) (by omega) (by omega) (by omega) HPR.out.1 w4).mono ?_
          rintro e w5 ⟨z5, rfl, rfl, b5⟩
          have X5 := Lib.hid (show Ext W3 w5 from bt X4.out b5)
          obtain ⟨s_, hs_⟩ : ∃ s_, (0 - pr + (q : Int)) % (q : Int) = s_ := ⟨_, rfl⟩
          rw [hs_]
          have HS := Lib.hid hs_
          have hsz5 := Ext.size X5.out
          clear b5 hs_
          go_wp2_with (at_builtin; refine wpl_appF rfl _ _ rfl W.heap.size (rA q x t2 ++ rB q x y j) rfl (HO.out.1.below (bt X5.out (Ext.allocR w5 (.cells #[.int .i64 s_] TIN)))) ⟨w5.heap.size, 0, none⟩ 1 s_ rfl (rv_one w5 _) (by omega) (by simp; omega) ?_; intro g6 c6 w6 o6 b6 gr6 f6; have HO6 := Lib.hid (And.intro o6 (And.intro (Below.trans (bt HO.out.2.2.2 (bt X5.out (Ext.allocR _ _))) b6) (And.intro gr6 f6))); clear o6 b6 gr6 f6)
          have h43l := own_lt HO.out.2.1 g43 rfl
          have hne6 : g6 ≠ g43 := by
            rcases HO6.out.2.2.2 with h | h
            · rw [h]; exact HO.out.2.2.1
            · have := HO.out.2.2.1
              simp at h
              omega
          have hrow6 : OwC W.heap.size w6 (.slice (some ⟨g43, 0, none⟩) t c43) (rA q x t) := (HO.out.2.1.below (bt X5.out (Ext.allocR w5 (.cells #[.int .i64 s_] TIN)))).kept HO6.out.2.2.1 (Or.inr (fun e => HO.out.2.2.1 (by injection e with e; exact e.symm)))
          go_roundw
          case rel => exact ⟨j + 1, g6, c6, by omega, by go_num, rfl, by rw [rB_succ, ← List.append_assoc, HN.out, HPR.out.2, HS.out]; exact HO6.out.1, hrow6, hne6, HO6.out.2.1⟩
          case measure => simp [intOf]; omega
        · obtain rfl : t = j := by omega
          have HR := Lib.hid (And.intro ho hxw)
          clear ho ho4 hne hxw HO
          go_wp2_with fail
          go_loopw [16, 61] (fun hv_ iv wr => ∃ i : Nat, i ≤ t ∧ iv = .int .i64 (i : Int) ∧ hv_ = .int .i64 (hgh (q : Int) (x : Int) y i) ∧ Ext W3 wr) (fun _ iv _ => t - (intOf iv).toNat)
          case atStart => exact ⟨0, by omega, rfl, rfl, Ext.refl _⟩
          case round =>
            obtain ⟨i, hi, rfl, rfl, hx5⟩ := hrel
            obtain ⟨W5, rfl⟩ : ∃ W5, W5 = wr := ⟨_, rfl⟩
            have X5 := Lib.hid hx5
            have hhr := hgh_in (q := (q : Int)) (by omega) (x : Int) HYB.out.1 HYB.out.2 i
            by_cases hit : i < t
            · have pi : (i : Int) < (t : Int) := by omega
              have wi : IntKind.i64.wrap ((i : Int) + 1) = ((i + 1 : Nat) : Int) := by rw [IntWalk.i64_in _ (by omega)]; rfl
              obtain ⟨h_, hh_⟩ : ∃ h_, hgh (q : Int) (x : Int) y i = h_ := ⟨_, rfl⟩
              have HH := Lib.hid hh_
              rw [hh_] at hhr ⊢
              have HHR := Lib.hid hhr
              clear hhr hh_ hx5
              go_wp2_with fail
              refine (rmul_any (q := q) (a := h_) (b := (x : Int)) (by omega) (by omega) HHR.out (by omega) W5).mono ?_
              rintro e w6 ⟨z6, rfl, rfl, b6⟩
              have X6 := Lib.hid (show Ext W3 w6 from bt X5.out b6)
              obtain ⟨k_, hk_⟩ : ∃ k_, h_ * (x : Int) % (q : Int) = k_ := ⟨_, rfl⟩
              rw [hk_]
              have HK := Lib.hid hk_
              clear b6 hk_
              go_wp2_with fail
              exact ⟨⟨i + 1, by omega, by go_num, by rw [← HK.out, ← HH.out]; rfl, X6.out⟩, by simp [intOf]; omega⟩
            · obtain rfl : t = i := by omega
              obtain ⟨h_, hh_⟩ : ∃ h_, hgh (q : Int) (x : Int) y t = h_ := ⟨_, rfl⟩
              have HH := Lib.hid hh_
              rw [hh_]
              have HR5 := Lib.hid (And.intro (HR.out.1.below X5.out) (bt HR.out.2 X5.out))
              have hsz5 := Ext.size HR5.out.2
              clear hhr hh_ hx5
              go_wp2_with (at_builtin; first
                | (refine wpl_appF rfl _ _ rfl W.heap.size (rA q x t2 ++ rB q x y t) rfl (HR5.out.1.below (Ext.allocR W5 (.cells #[.int .i64 h_] TIN))) ⟨W5.heap.size, 0, none⟩ 1 h_ rfl (rv_one W5 _) (by omega) (by simp; omega) ?_; intro g6 c6 w6 o6 b6 gr6 f6; have HO6 := Lib.hid (And.intro o6 (Below.trans (bt HR5.out.2 (Ext.allocR _ _)) b6)); have hsz6 := Ext.size HO6.out.2; clear o6 b6 gr6 f6)
                | (refine wpl_appR TRI TLI (.slice none 0 0) 1 24 lin_info Try.underlying50 rfl (by omega) (by omega) rfl _ _ rfl w.heap.size (.slice AR x cR) _ zs rfl (own_below HOM.out.1 (bt HO6.out.2 (Ext.allocR _ (.cells #[.slice (some ⟨g6, 0, none⟩) (t2 + t + 1) c6] TLI)))) (some ⟨w6.heap.size, 0, none⟩) 1 1 [.slice (some ⟨g6, 0, none⟩) (t2 + t + 1) c6] rfl (rv_lit TLI 1 #[.slice (some ⟨g6, 0, none⟩) (t2 + t + 1) c6] 1 (by omega) rfl) (slc_one1 _ _ _) (by rw [rwsX_len]; omega) (by omega) (by simp; omega) ?_; intro v7 w7 o7 g7 b7; have HO7 := Lib.hid (And.intro o7 (And.intro g7 b7)); clear o7 g7 b7))
              have hx7 : Ext W (w6.alloc (.cells #[.slice (some ⟨g6, 0, none⟩) (t2 + t + 1) c6] TLI)) := bt HO6.out.2 (Ext.allocR _ _)
              have hom7 : OwM w.heap.size w7 v7 (rwsX q t ys (x + 1)) := by
                rw [rwsX_succ, ← rX_eq, HY.out, HT2.out, HH.out]
                exact OwM.push (own_below HOM.out.1 hx7) (HOM.out.2.ext hx7) ((HO6.out.1.below (Ext.allocR _ _)).lower (Nat.zero_le _)) HO7.out.1 HO7.out.2.1
              exact ⟨⟨x + 1, by omega, by go_num, hom7, Below.trans (bt HXX.out hx7) HO7.out.2.2⟩, by simp [intOf]; omega⟩
    · obtain rfl : P = x := by omega
      have HE := Lib.hid (And.intro (⟨zs, hoz, hrz⟩ : OwM w.heap.size W (.slice AR P cR) (rwsX q t ys P)) hxx)
      clear hoz hrz hxx HOM
      obtain ⟨t2, ht2⟩ : ∃ t2, t + 2 = t2 := ⟨_, rfl⟩
      have wt2 : IntKind.i64.wrap ((t : Int) + 2) = (t2 : Int) := by rw [IntWalk.i64_in _ (by omega)]; omega
      have wtt : IntKind.i64.wrap (2 * (t : Int)) = ((2 * t : Nat) : Int) := by rw [IntWalk.i64_in _ (by omega)]; omega
      obtain ⟨tt, htt⟩ : ∃ tt, 2 * t = tt := ⟨_, rfl⟩
      obtain ⟨u, hu⟩ : ∃ u, tt + 2 = u := ⟨_, rfl⟩
      rw [htt] at wtt
      have wu : IntKind.i64.wrap ((tt : Int) + 2) = (u : Int) := by rw [IntWalk.i64_in _ (by omega)]; omega
      have HU := Lib.hid (And.intro htt (And.intro hu ht2))
      have hub : u ≤ 14 ∧ t2 ≤ 8 ∧ 2 ≤ u ∧ t2 ≤ u := by omega
      obtain ⟨hub1, hub2, hub3, hub4⟩ := hub
      clear htt hu ht2
      go_wp2_with fail
      obtain ⟨rb, rc, eR⟩ : ∃ rb rc, (Value.slice AR P cR) = .slice (some ⟨rb, 0, none⟩) P rc := by
        obtain ⟨zs', ho', _⟩ := HE.out.1
        obtain ⟨g, cap, e⟩ := own_form0 ho' (by rw [rwsX_len]; omega)
        rw [rwsX_len] at e
        exact ⟨g, cap, e⟩
      injection eR with eR1 _ eR3
      subst eR1 eR3
      refine (rsolve_any hq (by omega) (by omega) (by omega) (by omega) W (Ext.size HE.out.2) (by obtain ⟨zs', ho', _⟩ := HE.out.1; exact own_lt ho' rb rfl) HE.out.1 (rwsX_len _ _ _ _) (fun i hi => by rw [rwsX_at hi, ← HU.out.2.1, ← HU.out.1]; exact rwX_ok (by omega) t (i : Int) (HYR.out i hi).1 (HYR.out i hi).2) HV0.choose (fun i hi => by have := HV0.choose_spec i hi; rw [← HU.out.2.1, ← HU.out.1]; exact this)).mono ?_
      rintro e w2 ⟨z2, l, rfl, o2, hl, hlr, hsat, b2⟩
      have X2 := Lib.hid (show Ext w w2 from Below.trans HE.out.2 b2)
      obtain ⟨gl, cl, el⟩ := own_form0 o2 (by omega)
      rw [hl] at el
      subst el
      have HSD := Lib.hid (sol_div hq hP hPq HARG.out.1 HARG.out.2.1 HARG.out.2.2.1 HARG.out.2.2.2 (l := l) (by rw [hl, ← HU.out.2.1, ← HU.out.1]) hlr (fun i hi => by have := hsat i hi; rw [rwsX_at hi, ← HU.out.2.1, ← HU.out.1] at this; exact this))
      have HO2 := Lib.hid (And.intro o2 hl)
      have hle2 := o2.rv.le
      have hcp2 := o2.rv.cap
      clear o2 hl hlr hsat b2
      have htcl : t2 ≤ cl := by omega
      go_upto_region 21 with fail
      have hst7 : Ext w2 w2.drew := Ext.drew _
      go_cut [19, 20] (fun s19 s20 wx => s20 = .bool true ∧ OwC w2.heap.size wx s19 [d0, d1] ∧ Ext w2 wx)
      case first =>
        have HO2d := Lib.hid (HO2.out.1.below hst7)
        refine wp_region_brn (S := Ext w2) (by kernel_rfl) (by kernel_rfl) (fun _ _ _ _ _ => ⟨fun h => h, fun h => h⟩) ?_
        intro hsel_ hQ_
        refine wpB_chunk (f := 9) (L' := #[true, true, true, true, true, true, true, true, true, true, true, false, false, false, false, false, false, false, false, false]) hsel_ hQ_ [(0, true, some 89, none), (1, true, some 90, none), (2, true, some 91, none), (3, true, some 92, none), (4, true, some 93, none), (5, true, some 94, none), (6, true, some 95, none), (7, true, some 96, none), (8, true, some 97, none), (9, true, some 98, none), (10, true, some 99, none)] _ _ _ (by kernel_rfl) hst7 ?_
        repeat (first | (refine wpSeqB_pure (v := ?_) rfl ?_ ?_; rotate_left 1; (focus (intro wq_ hSq_; (try dsimp only at hSq_); go_simp; (try with_reducible rfl); done)); (try simp only [Act.put, List.setIfInBounds_toArray, List.set_cons_zero, List.set_cons_succ])) | (refine wpSeqB_pureG (v := ?_) rfl rfl ?_ ?_; rotate_left 1; (focus (intro wq_ hSq_; (try dsimp only at hSq_); go_simp; (try with_reducible rfl); done)); (try simp only [Act.put, List.setIfInBounds_toArray, List.set_cons_zero, List.set_cons_succ])) | (refine wpSeqB_off rfl rfl ?_; (try simp only [Act.put, List.setIfInBounds_toArray, List.set_cons_zero, List.set_cons_succ])) | (refine wpSeqB_offU rfl ?_; (try simp only [Act.put, List.setIfInBounds_toArray, List.set_cons_zero, List.set_cons_succ])))
        intro s0
        obtain ⟨wd, hwd⟩ : ∃ wd, w2.drew = wd := ⟨_, rfl⟩
        rw [hwd] at s0 HO2d ⊢
        clear hst7 hwd
        have hudl := HO2.out.2
        obtain ⟨og, hog, hdr⟩ := HO2d.out.rdrop (m := t2) hub4
        have HDR := Lib.hid hdr
        have hdl : (l.drop t2).length = u - t2 := by rw [List.length_drop, hudl]
        rw [hog]
        clear hog hdr
        refine wpB_two 11 12 (by kernel_rfl) rfl rfl rfl rfl ?_ ?_
        · intro K hK
          go_simp
          refine (rclone_any (u - t2) (cl - t2) gl og (l.drop t2) wd HDR.out (by omega) hdl).mono ?_
          rintro e y1 ⟨z1, rfl, x1, bb1⟩
          obtain ⟨A6, c6, hz1, _⟩ := x1.form
          rw [hdl] at hz1
          subst hz1
          have s1 : Ext w2 y1 := bt s0 bb1
          have hO9' : OwC w2.heap.size y1 (.slice A6 (u - t2) c6) (l.drop t2) := x1.lower (Ext.size s0)
          (try go_wp2_with fail)
          refine hK.out _ _ s1 ?_
          clear hK K x1 bb1
          (try simp only [List.getElem_toArray, List.getElem_cons_succ, List.getElem_cons_zero, Act.put, List.setIfInBounds_toArray, List.set_cons_zero, List.set_cons_succ])
          refine wpB_chunk (f := 0) (L' := #[true, true, true, true, true, true, true, true, true, true, true, true, true, true, true, true, true, true, true, true]) hsel_ hQ_ [(12, false, some 101, none), (13, false, some 102, none), (14, false, some 103, none), (15, true, some 88, none), (16, true, some 104, none), (17, true, some 105, none), (18, false, some 19, none), (19, false, some 20, none)] _ _ _ (by kernel_rfl) s1 ?_
          repeat (first | (refine wpSeqB_pure (v := ?_) rfl ?_ ?_; rotate_left 1; (focus (intro wq_ hSq_; (try dsimp only at hSq_); go_simp; (try with_reducible rfl); done)); (try simp only [Act.put, List.setIfInBounds_toArray, List.set_cons_zero, List.set_cons_succ])) | (refine wpSeqB_pureG (v := ?_) rfl rfl ?_ ?_; rotate_left 1; (focus (intro wq_ hSq_; (try dsimp only at hSq_); go_simp; (try with_reducible rfl); done)); (try simp only [Act.put, List.setIfInBounds_toArray, List.set_cons_zero, List.set_cons_succ])) | (refine wpSeqB_off rfl rfl ?_; (try simp only [Act.put, List.setIfInBounds_toArray, List.set_cons_zero, List.set_cons_succ])) | (refine wpSeqB_offU rfl ?_; (try simp only [Act.put, List.setIfInBounds_toArray, List.set_cons_zero, List.set_cons_succ])))
          first | refine wpSeqB_call rfl (fun K hK => ?_) | refine wpSeqB_callG rfl rfl (fun K hK => ?_)
          go_simp
          have s9 := bt s1 (Ext.allocR y1 (.cells #[.int .i64 1] TIN))
          refine hK.out _ _ s9 ?_
          clear hK K
          (try simp only [List.getElem_toArray, List.getElem_cons_succ, List.getElem_cons_zero, Act.put, List.setIfInBounds_toArray, List.set_cons_zero, List.set_cons_succ])
          have hO9 := hO9'.below (Ext.allocR y1 (.cells #[.int .i64 1] TIN))
          have hZ9 := rv_one y1 1
          first | refine wpSeqB_call rfl (fun K hK => ?_) | refine wpSeqB_callG rfl rfl (fun K hK => ?_)
          refine wp_appC _ _ (by rfl) w2.heap.size (.slice A6 (u - t2) c6) (l.drop t2) (by rfl) hO9 (some ⟨y1.heap.size, 0, none⟩) 1 1 [1] (by rfl) hZ9 (by omega) (by omega) (Ext.size s9) ?_
          intro A7 n7 c7 w7 hO hB hG
          have s7 : Ext w2 w7 := Below.trans s9 hB
          have hn7 := hO.len
          rw [List.length_append, hdl] at hn7
          simp only [List.length_singleton] at hn7
          have ht2e := HU.out.2.2
          obtain ⟨b7, cc7, e7⟩ := own_form0 hO (by simp)
          injection e7 with e71 e72 e73
          subst e71 e73
          clear e72
          have hfr : Rv w7 1 (some ⟨gl, 0, none⟩) t2 cl (ci (l.take t2)) := ((HO2.out.1.take hub4).below s7).rv
          refine hK.out _ _ s7 ?_
          clear hK K hG hB
          (try simp only [List.getElem_toArray, List.getElem_cons_succ, List.getElem_cons_zero, Act.put, List.setIfInBounds_toArray, List.set_cons_zero, List.set_cons_succ])
          first | refine wpSeqB_call rfl (fun K hK => ?_) | refine wpSeqB_callG rfl rfl (fun K hK => ?_)
          go_simp
          obtain ⟨pls, ds, hDv, hpls, hq0⟩ := HSD.out
          rw [ht2e] at hDv hpls
          refine (rdivided_any hq5 hq13 (by omega) hDv (pb := gl) (po := 0) (pc := cl) (bb := b7) (bo := 0) (n1 := n7) (n2 := t2) (by have := HU.out; omega) ht2e w7 (by rw [hpls]; exact hfr) hO.rv).mono ?_
          rintro e y9 ⟨z9, rfl, ⟨z8, rfl, x9⟩, bb9⟩
          rw [hq0] at x9
          obtain ⟨A8, c8, e8, _⟩ := x9.form
          subst e8
          have s8 : Ext w2 y9 := bt s7 bb9
          have x8 := x9.lower (Ext.size s7)
          (try go_wp2_with fail)
          refine hK.out _ _ s8 ?_
          clear hK K
          (try simp only [List.getElem_toArray, List.getElem_cons_succ, List.getElem_cons_zero, Act.put, List.setIfInBounds_toArray, List.set_cons_zero, List.set_cons_succ])
          repeat (first | (refine wpSeqB_pure (v := ?_) rfl ?_ ?_; rotate_left 1; (focus (intro wq_ hSq_; (try dsimp only at hSq_); go_simp; (try with_reducible rfl); done)); (try simp only [Act.put, List.setIfInBounds_toArray, List.set_cons_zero, List.set_cons_succ])) | (refine wpSeqB_pureG (v := ?_) rfl rfl ?_ ?_; rotate_left 1; (focus (intro wq_ hSq_; (try dsimp only at hSq_); go_simp; (try with_reducible rfl); done)); (try simp only [Act.put, List.setIfInBounds_toArray, List.set_cons_zero, List.set_cons_succ])) | (refine wpSeqB_off rfl rfl ?_; (try simp only [Act.put, List.setIfInBounds_toArray, List.set_cons_zero, List.set_cons_succ])) | (refine wpSeqB_offU rfl ?_; (try simp only [Act.put, List.setIfInBounds_toArray, List.set_cons_zero, List.set_cons_succ])))
          first | refine wpSeqB_call rfl (fun K hK => ?_) | refine wpSeqB_callG rfl rfl (fun K hK => ?_)
          go_simp
          refine hK.out _ _ s8 ?_
          clear hK K
          (try simp only [List.getElem_toArray, List.getElem_cons_succ, List.getElem_cons_zero, Act.put, List.setIfInBounds_toArray, List.set_cons_zero, List.set_cons_succ])
          repeat (first | (refine wpSeqB_pure (v := ?_) rfl ?_ ?_; rotate_left 1; (focus (intro wq_ hSq_; (try dsimp only at hSq_); go_simp; (try with_reducible rfl); done)); (try simp only [Act.put, List.setIfInBounds_toArray, List.set_cons_zero, List.set_cons_succ])) | (refine wpSeqB_pureG (v := ?_) rfl rfl ?_ ?_; rotate_left 1; (focus (intro wq_ hSq_; (try dsimp only at hSq_); go_simp; (try with_reducible rfl); done)); (try simp only [Act.put, List.setIfInBounds_toArray, List.set_cons_zero, List.set_cons_succ])) | (refine wpSeqB_off rfl rfl ?_; (try simp only [Act.put, List.setIfInBounds_toArray, List.set_cons_zero, List.set_cons_succ])) | (refine wpSeqB_offU rfl ?_; (try simp only [Act.put, List.setIfInBounds_toArray, List.set_cons_zero, List.set_cons_succ])))
          first | refine wpSeqB_call rfl (fun K hK => ?_) | refine wpSeqB_callG rfl rfl (fun K hK => ?_)
          go_simp
          refine hK.out _ _ s8 ?_
          clear hK K
          (try simp only [List.getElem_toArray, List.getElem_cons_succ, List.getElem_cons_zero, Act.put, List.setIfInBounds_toArray, List.set_cons_zero, List.set_cons_succ])
          repeat (first | (refine wpSeqB_pure (v := ?_) rfl ?_ ?_; rotate_left 1; (focus (intro wq_ hSq_; (try dsimp only at hSq_); go_simp; (try with_reducible rfl); done)); (try simp only [Act.put, List.setIfInBounds_toArray, List.set_cons_zero, List.set_cons_succ])) | (refine wpSeqB_pureG (v := ?_) rfl rfl ?_ ?_; rotate_left 1; (focus (intro wq_ hSq_; (try dsimp only at hSq_); go_simp; (try with_reducible rfl); done)); (try simp only [Act.put, List.setIfInBounds_toArray, List.set_cons_zero, List.set_cons_succ])) | (refine wpSeqB_off rfl rfl ?_; (try simp only [Act.put, List.setIfInBounds_toArray, List.set_cons_zero, List.set_cons_succ])) | (refine wpSeqB_offU rfl ?_; (try simp only [Act.put, List.setIfInBounds_toArray, List.set_cons_zero, List.set_cons_succ])))
          intro s_
          refine wpB_end (by kernel_rfl) ?_
          go_wp2_with fail
          go_meet
          exact ⟨rfl, x8, s8⟩
        · intro K hK
          go_simp
          have s1 := bt s0 (Ext.allocR wd (.cells #[.int .i64 1] TIN))
          refine hK.out _ _ s1 ?_
          clear hK K
          (try simp only [List.getElem_toArray, List.getElem_cons_succ, List.getElem_cons_zero, Act.put, List.setIfInBounds_toArray, List.set_cons_zero, List.set_cons_succ])
          have Z0 := rv_one wd 1
          refine wpB_chunk (f := 0) (L' := #[true, true, true, true, true, true, true, true, true, true, true, true, true, true, true, true, true, true, true, true]) hsel_ hQ_ [(11, false, some 100, none), (13, false, some 102, none), (14, false, some 103, none), (15, true, some 88, none), (16, true, some 104, none), (17, true, some 105, none), (18, false, some 19, none), (19, false, some 20, none)] _ _ _ (by kernel_rfl) s1 ?_
          repeat (first | (refine wpSeqB_pure (v := ?_) rfl ?_ ?_; rotate_left 1; (focus (intro wq_ hSq_; (try dsimp only at hSq_); go_simp; (try with_reducible rfl); done)); (try simp only [Act.put, List.setIfInBounds_toArray, List.set_cons_zero, List.set_cons_succ])) | (refine wpSeqB_pureG (v := ?_) rfl rfl ?_ ?_; rotate_left 1; (focus (intro wq_ hSq_; (try dsimp only at hSq_); go_simp; (try with_reducible rfl); done)); (try simp only [Act.put, List.setIfInBounds_toArray, List.set_cons_zero, List.set_cons_succ])) | (refine wpSeqB_off rfl rfl ?_; (try simp only [Act.put, List.setIfInBounds_toArray, List.set_cons_zero, List.set_cons_succ])) | (refine wpSeqB_offU rfl ?_; (try simp only [Act.put, List.setIfInBounds_toArray, List.set_cons_zero, List.set_cons_succ])))
          first | refine wpSeqB_call rfl (fun K hK => ?_) | refine wpSeqB_callG rfl rfl (fun K hK => ?_)
          go_simp
          refine (rclone_any (u - t2) (cl - t2) gl og (l.drop t2) _ (HDR.out.below (Ext.allocR wd (.cells #[.int .i64 1] TIN))) (by omega) hdl).mono ?_
          rintro e y1 ⟨z1, rfl, x1, bb1⟩
          obtain ⟨A6, c6, hz1, _⟩ := x1.form
          rw [hdl] at hz1
          subst hz1
          have s9 : Ext w2 y1 := bt s1 bb1
          have hO9 : OwC w2.heap.size y1 (.slice A6 (u - t2) c6) (l.drop t2) := x1.lower (Ext.size s1)
          have hZ9 := Z0.below bb1
          (try go_wp2_with fail)
          refine hK.out _ _ s9 ?_
          clear hK K x1 bb1
          (try simp only [List.getElem_toArray, List.getElem_cons_succ, List.getElem_cons_zero, Act.put, List.setIfInBounds_toArray, List.set_cons_zero, List.set_cons_succ])
          first | refine wpSeqB_call rfl (fun K hK => ?_) | refine wpSeqB_callG rfl rfl (fun K hK => ?_)
          refine wp_appC _ _ (by rfl) w2.heap.size (.slice A6 (u - t2) c6) (l.drop t2) (by rfl) hO9 (some ⟨wd.heap.size, 0, none⟩) 1 1 [1] (by rfl) hZ9 (by omega) (by omega) (Ext.size s9) ?_
          intro A7 n7 c7 w7 hO hB hG
          have s7 : Ext w2 w7 := Below.trans s9 hB
          have hn7 := hO.len
          rw [List.length_append, hdl] at hn7
          simp only [List.length_singleton] at hn7
          have ht2e := HU.out.2.2
          obtain ⟨b7, cc7, e7⟩ := own_form0 hO (by simp)
          injection e7 with e71 e72 e73
          subst e71 e73
          clear e72
          have hfr : Rv w7 1 (some ⟨gl, 0, none⟩) t2 cl (ci (l.take t2)) := ((HO2.out.1.take hub4).below s7).rv
          refine hK.out _ _ s7 ?_
          clear hK K hG hB
          (try simp only [List.getElem_toArray, List.getElem_cons_succ, List.getElem_cons_zero, Act.put, List.setIfInBounds_toArray, List.set_cons_zero, List.set_cons_succ])
          first | refine wpSeqB_call rfl (fun K hK => ?_) | refine wpSeqB_callG rfl rfl (fun K hK => ?_)
          go_simp
          obtain ⟨pls, ds, hDv, hpls, hq0⟩ := HSD.out
          rw [ht2e] at hDv hpls
          refine (rdivided_any hq5 hq13 (by omega) hDv (pb := gl) (po := 0) (pc := cl) (bb := b7) (bo := 0) (n1 := n7) (n2 := t2) (by have := HU.out; omega) ht2e w7 (by rw [hpls]; exact hfr) hO.rv).mono ?_
          rintro e y9 ⟨z9, rfl, ⟨z8, rfl, x9⟩, bb9⟩
          rw [hq0] at x9
          obtain ⟨A8, c8, e8, _⟩ := x9.form
          subst e8
          have s8 : Ext w2 y9 := bt s7 bb9
          have x8 := x9.lower (Ext.size s7)
          (try go_wp2_with fail)
          refine hK.out _ _ s8 ?_
          clear hK K
          (try simp only [List.getElem_toArray, List.getElem_cons_succ, List.getElem_cons_zero, Act.put, List.setIfInBounds_toArray, List.set_cons_zero, List.set_cons_succ])
          repeat (first | (refine wpSeqB_pure (v := ?_) rfl ?_ ?_; rotate_left 1; (focus (intro wq_ hSq_; (try dsimp only at hSq_); go_simp; (try with_reducible rfl); done)); (try simp only [Act.put, List.setIfInBounds_toArray, List.set_cons_zero, List.set_cons_succ])) | (refine wpSeqB_pureG (v := ?_) rfl rfl ?_ ?_; rotate_left 1; (focus (intro wq_ hSq_; (try dsimp only at hSq_); go_simp; (try with_reducible rfl); done)); (try simp only [Act.put, List.setIfInBounds_toArray, List.set_cons_zero, List.set_cons_succ])) | (refine wpSeqB_off rfl rfl ?_; (try simp only [Act.put, List.setIfInBounds_toArray, List.set_cons_zero, List.set_cons_succ])) | (refine wpSeqB_offU rfl ?_; (try simp only [Act.put, List.setIfInBounds_toArray, List.set_cons_zero, List.set_cons_succ])))
          first | refine wpSeqB_call rfl (fun K hK => ?_) | refine wpSeqB_callG rfl rfl (fun K hK => ?_)
          go_simp
          refine hK.out _ _ s8 ?_
          clear hK K
          (try simp only [List.getElem_toArray, List.getElem_cons_succ, List.getElem_cons_zero, Act.put, List.setIfInBounds_toArray, List.set_cons_zero, List.set_cons_succ])
          repeat (first | (refine wpSeqB_pure (v := ?_) rfl ?_ ?_; rotate_left 1; (focus (intro wq_ hSq_; (try dsimp only at hSq_); go_simp; (try with_reducible rfl); done)); (try simp only [Act.put, List.setIfInBounds_toArray, List.set_cons_zero, List.set_cons_succ])) | (refine wpSeqB_pureG (v := ?_) rfl rfl ?_ ?_; rotate_left 1; (focus (intro wq_ hSq_; (try dsimp only at hSq_); go_simp; (try with_reducible rfl); done)); (try simp only [Act.put, List.setIfInBounds_toArray, List.set_cons_zero, List.set_cons_succ])) | (refine wpSeqB_off rfl rfl ?_; (try simp only [Act.put, List.setIfInBounds_toArray, List.set_cons_zero, List.set_cons_succ])) | (refine wpSeqB_offU rfl ?_; (try simp only [Act.put, List.setIfInBounds_toArray, List.set_cons_zero, List.set_cons_succ])))
          first | refine wpSeqB_call rfl (fun K hK => ?_) | refine wpSeqB_callG rfl rfl (fun K hK => ?_)
          go_simp
          refine hK.out _ _ s8 ?_
          clear hK K
          (try simp only [List.getElem_toArray, List.getElem_cons_succ, List.getElem_cons_zero, Act.put, List.setIfInBounds_toArray, List.set_cons_zero, List.set_cons_succ])
          repeat (first | (refine wpSeqB_pure (v := ?_) rfl ?_ ?_; rotate_left 1; (focus (intro wq_ hSq_; (try dsimp only at hSq_); go_simp; (try with_reducible rfl); done)); (try simp only [Act.put, List.setIfInBounds_toArray, List.set_cons_zero, List.set_cons_succ])) | (refine wpSeqB_pureG (v := ?_) rfl rfl ?_ ?_; rotate_left 1; (focus (intro wq_ hSq_; (try dsimp only at hSq_); go_simp; (try with_reducible rfl); done)); (try simp only [Act.put, List.setIfInBounds_toArray, List.set_cons_zero, List.set_cons_succ])) | (refine wpSeqB_off rfl rfl ?_; (try simp only [Act.put, List.setIfInBounds_toArray, List.set_cons_zero, List.set_cons_succ])) | (refine wpSeqB_offU rfl ?_; (try simp only [Act.put, List.setIfInBounds_toArray, List.set_cons_zero, List.set_cons_succ])))
          intro s_
          refine wpB_end (by kernel_rfl) ?_
          go_wp2_with fail
          go_meet
          exact ⟨rfl, x8, s8⟩
      case rest =>
        obtain ⟨rfl, ho9, hx9⟩ := hcut
        have HF := Lib.hid (And.intro (ho9.lower (Ext.size X2.out)) (bt X2.out hx9))
        obtain ⟨A9, c9, e9, _⟩ := ho9.form
        subst e9
        clear ho9 hx9
        go_wp2_with fail
        go_returns
        exact ⟨_, rfl, ⟨_, rfl, HF.out.1⟩, HF.out.2⟩
end Go.Proofs.Tb
