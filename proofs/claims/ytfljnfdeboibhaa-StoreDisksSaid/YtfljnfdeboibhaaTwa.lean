/- Contracts of Newest, Oldest, tree. (With what follows it, in one text.) -/
import Derived.Test.YtfljnfdeboibhaaSvl
import Derived.RangeFuncFrom
import Derived.RangeFuncBox
import Derived.Maps.AppendAt
import Derived.LoopNIn
import Derived.LoopIn
set_option linter.unusedVariables false
set_option linter.unusedSimpArgs false
/- Contracts of Newest, Oldest, tree. -/
namespace Go.Proofs.Tb
open Go.Maps Go.RowKit Go.Lib
attribute [local go_sem] cell_set_same neqMapL

/-- A store's fields, its kept versions, and their trees. -/
structure SR (w : World) (s d keep : Nat) (vs : List (Nat × MT)) (B : Nat → Nat) (br : Bool) : Prop where
  se : ∃ A m c, Blk w s TSE #[.pointer (some ⟨d, 0, none⟩), .int .i64 (keep : Int), .slice A m c, .bool br] ∧ OwS 0 w (.slice A m c) vs
  tr : ∀ v ∈ vs, TrW w B (Pos B) v.2
theorem SI.sr {F : Nat → Prop} {w : World} {s d keep : Nat} {vs : List (Nat × MT)} {B : Nat → Nat} {br : Bool} {bl : List (List (List Nat))} {down : Bool} {left : Nat} (h : SI F w s d keep vs B br bl down left) : SR w s d keep vs B br := ⟨h.se, h.tr⟩
theorem SR.ext {w w' : World} {s d keep : Nat} {vs : List (Nat × MT)} {B : Nat → Nat} {br : Bool} (h : SR w s d keep vs B br) (hx : Ext w w') : SR w' s d keep vs B br := by
  obtain ⟨A, m, c, h1, h2⟩ := h.se
  exact ⟨⟨A, m, c, h1.below hx, own_below h2 hx⟩, fun v hv => (h.tr v hv).below hx⟩
/-- .. laid open: where the row lies. -/
theorem SR.form {w : World} {s d keep : Nat} {vs : List (Nat × MT)} {B : Nat → Nat} {br : Bool} (h : SR w s d keep vs B br) (hp : 0 < vs.length) : ∃ g m c, m = vs.length ∧ m ≤ c ∧ c ≤ 9223372036854775807 ∧ Blk w s TSE #[.pointer (some ⟨d, 0, none⟩), .int .i64 (keep : Int), .slice (some ⟨g, 0, none⟩) m c, .bool br] ∧
    ∀ i (hi : i < vs.length), w.cell? ⟨g, i * 2, none⟩ = some (.int .i64 ((vs[i]).1 : Int)) ∧ w.cell? ⟨g, i * 2 + 1, none⟩ = some (.pointer (vs[i]).2.ad) := by
  obtain ⟨A, m, c, h1, h2⟩ := h.se
  have hvm : vs.length = m := by
    obtain ⟨A', c', e, _⟩ := own_rv h2
    injection e with _ e _
    exact e.symm
  have hle := (own_rvv h2).le
  have hcp := (own_rvv h2).cap
  obtain ⟨b, o, e, hc⟩ := (own_rvv h2).at_ (by omega)
  have ho : o = 0 := by
    rcases h2.2 with ⟨e2, _⟩ | ⟨g, cap, cur, e2, _⟩
    · injection e2 with e2 _ _
      rw [e2] at e
      cases e
    · injection e2 with e2 _ _
      rw [e2] at e
      injection e with e
      injection e with _ e
      exact e.symm
  subst e ho
  refine ⟨b, m, c, hvm.symm, hle, hcp, h1, fun i hi => ?_⟩
  obtain ⟨q1, q2⟩ := vc_at vs i hi
  have k1 := hc _ _ q1
  have k2 := hc _ _ q2
  rw [Nat.zero_add] at k1 k2
  exact ⟨k1, k2⟩
set_option maxHeartbeats 1600000 in
set_option maxRecDepth 100000 in
theorem rnewest_any {w : World} {s d keep : Nat} {vs : List (Nat × MT)} {B : Nat → Nat} {br : Bool} (h : SR w s d keep vs B br) {num : Nat} {t0 : MT} (h0 : vs[0]? = some (num, t0)) :
    Calls Try.prog 30 #[.pointer (some ⟨s, 0, none⟩)] w (Ret (fun v _ => v = .int .i64 (num : Int)) w) := by
  have hp : 0 < vs.length := by
    cases vs with
    | nil => cases h0
    | cons v tl => simp
  obtain ⟨g, m, c, hm, hmc, hc, hs, hk⟩ := h.form hp
  have e0 : vs[0] = (num, t0) := by
    have := List.getElem?_eq_getElem hp
    rw [h0] at this
    injection this with this
    exact this.symm
  have k0 := (hk 0 hp).1
  rw [e0, Nat.zero_mul] at k0
  have HS := Lib.hid hs
  have K0 := Lib.hid k0
  have hm0 : 0 < m := by omega
  clear h h0 hp hm hs hk e0 k0
  go_enter Try.func30, Try.ntmps30
  go_wp2_with fail
  refine (rsmade_any s d _ _ br w HS.out).mono ?_
  rintro e w1 ⟨z1, rfl, rfl, b1⟩
  have ks := (HS.out.below b1).cells
  have k0 := ext_cell b1 K0.out
  simp only [cellsAre, Nat.zero_add, Nat.reduceAdd, and_true] at ks
  have X1 := Lib.hid (show Ext w w1 from b1)
  clear b1
  go_wp2
  go_returns
  exact ⟨_, rfl, rfl, X1.out⟩
set_option maxHeartbeats 1600000 in
set_option maxRecDepth 100000 in
theorem roldest_any {w : World} {s d keep : Nat} {vs : List (Nat × MT)} {B : Nat → Nat} {br : Bool} (h : SR w s d keep vs B br) {num : Nat} {t0 : MT} (hp : 0 < vs.length) (h0 : vs[vs.length - 1]? = some (num, t0)) :
    Calls Try.prog 31 #[.pointer (some ⟨s, 0, none⟩)] w (Ret (fun v _ => v = .int .i64 (num : Int)) w) := by
  obtain ⟨g, m, c, hm, hmc, hc, hs, hk⟩ := h.form hp
  obtain ⟨q, hq⟩ : ∃ q, vs.length - 1 = q := ⟨_, rfl⟩
  rw [hq] at h0
  have hqv : q < vs.length := by omega
  have e0 : vs[q] = (num, t0) := by
    have := List.getElem?_eq_getElem hqv
    rw [h0] at this
    injection this with this
    exact this.symm
  have k0 := (hk q hqv).1
  rw [e0] at k0
  have HS := Lib.hid hs
  have K0 := Lib.hid k0
  have wq : IntKind.i64.wrap ((m : Int) - 1) = (q : Int) := by rw [IntWalk.i64_in _ (by omega)]; omega
  have hqm : q < m := by omega
  clear h h0 hp hm hs hk e0 k0 hq hqv
  go_enter Try.func31, Try.ntmps31
  go_wp2_with fail
  refine (rsmade_any s d _ _ br w HS.out).mono ?_
  rintro e w1 ⟨z1, rfl, rfl, b1⟩
  have ks := fun w' (hh : Ext w1 w') => (HS.out.below (bt b1 hh)).cells
  have k0 := fun w' (hh : Ext w1 w') => ext_cell (bt b1 hh) K0.out
  simp only [cellsAre, Nat.zero_add, Nat.reduceAdd, and_true] at ks
  have X1 := Lib.hid (show Ext w w1 from b1)
  have hst : Ext w1 w1.drew := Ext.drew _
  clear b1
  go_upto_region 3 with fail
  refine wp_region_adv 10 [] [(0, true, some 6, none), (1, true, some 7, none), (2, true, some 8, none), (3, true, some 9, none), (4, true, some 10, none), (5, true, some 11, none), (6, true, some 12, none), (7, true, some 13, none), (8, true, some 14, none), (9, true, some 15, none)] (by kernel_rfl) (by kernel_rfl) (by kernel_rfl) (by intro it hit; (repeat (rcases List.mem_cons.1 hit with rfl | hit; (focus (intro o ho ev w; injection ho with ho; subst ho; kernel_rfl)))); cases hit) (fun _ _ _ _ _ => ⟨fun h => h, fun h => h⟩) hst ?_
  repeat (first | (refine wpSeq_pure (v := ?_) rfl ?_ ?_; rotate_left 1; (focus (intro wq_ hSq_; (try dsimp only at hSq_); go_simp; (try with_reducible rfl); done)); (try simp only [Act.put, List.setIfInBounds_toArray, List.set_cons_zero, List.set_cons_succ])) | (refine wpSeq_pureG (v := ?_) rfl rfl ?_ ?_; rotate_left 1; (focus (intro wq_ hSq_; (try dsimp only at hSq_); go_simp; (try with_reducible rfl); done)); (try simp only [Act.put, List.setIfInBounds_toArray, List.set_cons_zero, List.set_cons_succ])) | (refine wpSeq_off rfl rfl ?_; (try simp only [Act.put, List.setIfInBounds_toArray, List.set_cons_zero, List.set_cons_succ])) | (refine wpSeq_offU rfl ?_; (try simp only [Act.put, List.setIfInBounds_toArray, List.set_cons_zero, List.set_cons_succ])))
  intro wz gz sz_
  (try simp only [endJ, List.drop_succ_cons, List.drop_zero])
  have kz := k0 wz sz_
  have XZ := Lib.hid (bt X1.out sz_)
  clear ks k0 hst gz sz_
  go_wp2
  go_returns
  exact ⟨_, rfl, rfl, XZ.out⟩
/-- What tree answers where there is no such version. -/
def ansT (a : Option Addr) (e : Int) : Value := .tuple #[.pointer a, .int .i64 e]
def verB (N k : Nat) (v : Int) : Int := if v < 0 ∨ (N : Int) < v then 1 else if v < (N : Int) - ((k : Int) - 1) then 10 else 0
/-- The kept versions by number. -/
structure VsN (vs : List (Nat × MT)) (N : Nat) : Prop where
  pos : 0 < vs.length
  le : vs.length ≤ N + 1
  at_ : ∀ i (hi : i < vs.length), (vs[i]).1 = N - i
theorem VsN.first {vs : List (Nat × MT)} {N : Nat} (h : VsN vs N) : ∃ t, vs[0]? = some (N, t) := ⟨(vs[0]'h.pos).2, by rw [List.getElem?_eq_getElem h.pos]; have := h.at_ 0 h.pos; rw [Nat.sub_zero] at this; exact congrArg some (Prod.ext this rfl)⟩
theorem VsN.last {vs : List (Nat × MT)} {N : Nat} (h : VsN vs N) : ∃ t, vs[vs.length - 1]? = some (N - (vs.length - 1), t) := by
  have hp := h.pos
  have hi : vs.length - 1 < vs.length := by omega
  exact ⟨(vs[vs.length - 1]).2, by rw [List.getElem?_eq_getElem hi, ← h.at_ _ hi]⟩
set_option maxHeartbeats 3200000 in
set_option maxRecDepth 100000 in
theorem rtree_no {w : World} {s d keep : Nat} {vs : List (Nat × MT)} {B : Nat → Nat} {br : Bool} (h : SR w s d keep vs B br) {N : Nat} (hN : VsN vs N) (hN2 : N ≤ 1000000000) (v er : Int) (hv : verB N vs.length v = er) (he : er ≠ 0) :
    Calls Try.prog 60 #[.pointer (some ⟨s, 0, none⟩), .int .i64 v] w (Ret (fun z _ => z = ansT none er) w) := by
  obtain ⟨t0, h0⟩ := hN.first
  obtain ⟨t1, h1⟩ := hN.last
  obtain ⟨g, m, c, hm, hmc, hc, hs, hk⟩ := h.form hN.pos
  have HS := Lib.hid hs
  have H := Lib.hid h
  have H0 := Lib.hid h0
  have H1 := Lib.hid h1
  have HP := Lib.hid hN.pos
  obtain ⟨k, hkl⟩ : ∃ k, vs.length = k := ⟨_, rfl⟩
  have hle := hN.le
  have hpos := hN.pos
  rw [hkl] at hv hle hpos h1
  obtain ⟨O, hO⟩ : ∃ O, N - (vs.length - 1) = O := ⟨_, rfl⟩
  rw [hO] at H1
  have hO2 : (O : Int) = (N : Int) - ((k : Int) - 1) := by omega
  have HO2 := Lib.hid hO2
  have HV := Lib.hid hv
  clear h h0 h1 hN hm hs hk hkl hO hv hmc hc
  by_cases c1 : v < 0
  · have HE := Lib.hid (show er = 1 by rw [← HV.out]; unfold verB; rw [if_pos (Or.inl c1)])
    go_enter Try.func60, Try.ntmps60
    go_wp2_with fail
    refine (rsmade_any s d _ _ br w HS.out).mono ?_
    rintro e w1 ⟨z1, rfl, rfl, b1⟩
    have X1 := Lib.hid (show Ext w w1 from b1)
    clear b1
    go_wp2
    go_returns
    exact ⟨_, rfl, by rw [HE.out]; rfl, X1.out⟩
  · have c1' : 0 ≤ v := by omega
    by_cases c2 : (N : Int) < v
    · have HE := Lib.hid (show er = 1 by rw [← HV.out]; unfold verB; rw [if_pos (Or.inr c2)])
      go_enter Try.func60, Try.ntmps60
      go_wp2_with fail
      refine (rsmade_any s d _ _ br w HS.out).mono ?_
      rintro e w1 ⟨z1, rfl, rfl, b1⟩
      have X1 := Lib.hid (show Ext w w1 from b1)
      clear b1
      go_wp2_with fail
      refine (rnewest_any (H.out.ext X1.out) H0.out).mono ?_
      rintro e w2 ⟨z2, rfl, rfl, b2⟩
      have X2 := Lib.hid (bt X1.out b2)
      clear b2
      go_wp2
      go_returns
      exact ⟨_, rfl, by rw [HE.out]; rfl, X2.out⟩
    · have HE := Lib.hid (show v < (O : Int) ∧ er = 10 by
        have h1 := HV.out
        unfold verB at h1
        rw [if_neg (by omega)] at h1
        by_cases c3 : v < (N : Int) - ((k : Int) - 1)
        · rw [if_pos c3] at h1
          exact ⟨by rw [HO2.out]; exact c3, h1.symm⟩
        · rw [if_neg c3] at h1
          exact absurd h1.symm he)
      have c3 := HE.out.1
      clear hO2
      go_enter Try.func60, Try.ntmps60
      go_wp2_with fail
      refine (rsmade_any s d _ _ br w HS.out).mono ?_
      rintro e w1 ⟨z1, rfl, rfl, b1⟩
      have X1 := Lib.hid (show Ext w w1 from b1)
      clear b1
      go_wp2_with fail
      refine (rnewest_any (H.out.ext X1.out) H0.out).mono ?_
      rintro e w2 ⟨z2, rfl, rfl, b2⟩
      have X2 := Lib.hid (bt X1.out b2)
      clear b2
      go_wp2_with fail
      refine (roldest_any (H.out.ext X2.out) HP.out H1.out).mono ?_
      rintro e w3 ⟨z3, rfl, rfl, b3⟩
      have X3 := Lib.hid (bt X2.out b3)
      clear b3
      go_wp2
      go_returns
      exact ⟨_, rfl, by rw [HE.out.2]; rfl, X3.out⟩
set_option maxHeartbeats 3200000 in
set_option maxRecDepth 100000 in
theorem rtree_ok {w : World} {s d keep : Nat} {vs : List (Nat × MT)} {B : Nat → Nat} {br : Bool} (h : SR w s d keep vs B br) {N : Nat} (hN : VsN vs N) (hN2 : N ≤ 1000000000) {i : Nat} (hi : i < vs.length) {v : Int} (hv : v = ((N - i : Nat) : Int)) {u : MT} (hu : (vs[i]).2 = u) :
    Calls Try.prog 60 #[.pointer (some ⟨s, 0, none⟩), .int .i64 v] w (Ret (fun z _ => z = ansT u.ad 0) w) := by
  obtain ⟨t0, h0⟩ := hN.first
  obtain ⟨t1, h1⟩ := hN.last
  obtain ⟨g, m, c, hm, hmc, hc, hs, hk⟩ := h.form hN.pos
  have k0 := (hk i hi).2
  rw [hu] at k0
  have K0 := Lib.hid k0
  have HS := Lib.hid hs
  have H := Lib.hid h
  have H0 := Lib.hid h0
  have H1 := Lib.hid h1
  have HP := Lib.hid hN.pos
  have hle := hN.le
  obtain ⟨O, hO⟩ : ∃ O, N - (vs.length - 1) = O := ⟨_, rfl⟩
  rw [hO] at H1
  have c1 : ¬ v < 0 := by omega
  have c1' : 0 ≤ v := by omega
  have c2 : ¬ (N : Int) < v := by omega
  have c3 : ¬ v < (O : Int) := by omega
  have him : i < m := by omega
  have wi : IntKind.i64.wrap ((N : Int) - v) = (i : Int) := by rw [IntWalk.i64_in _ (by omega)]; omega
  clear h h0 h1 hN hm hs hk hO hv hi hu k0 hle
  go_enter Try.func60, Try.ntmps60
  go_wp2_with fail
  refine (rsmade_any s d _ _ br w HS.out).mono ?_
  rintro e w1 ⟨z1, rfl, rfl, b1⟩
  have X1 := Lib.hid (show Ext w w1 from b1)
  clear b1
  go_wp2_with fail
  refine (rnewest_any (H.out.ext X1.out) H0.out).mono ?_
  rintro e w2 ⟨z2, rfl, rfl, b2⟩
  have X2 := Lib.hid (bt X1.out b2)
  clear b2
  go_wp2_with fail
  refine (roldest_any (H.out.ext X2.out) HP.out H1.out).mono ?_
  rintro e w3 ⟨z3, rfl, rfl, b3⟩
  have X3 := Lib.hid (bt X2.out b3)
  clear b3
  have ks := fun w' (hh : Ext w3 w') => (HS.out.below (bt X3.out hh)).cells
  simp only [cellsAre, Nat.zero_add, Nat.reduceAdd, and_true] at ks
  have hst : Ext w3 w3.drew := Ext.drew _
  go_upto_region 5 with fail
  refine wp_region_adv 8 [] [(0, true, some 25, none), (1, true, some 26, none), (2, true, some 27, none), (3, true, some 28, none), (4, true, some 29, none), (6, true, some 31, none), (5, false, some 30, none), (7, true, some 32, none)] (by kernel_rfl) (by kernel_rfl) (by kernel_rfl) (by intro it hit; (repeat (rcases List.mem_cons.1 hit with rfl | hit; (focus (intro o ho ev w; injection ho with ho; subst ho; kernel_rfl)))); cases hit) (fun _ _ _ _ _ => ⟨fun h => h, fun h => h⟩) hst ?_
  repeat (first | (refine wpSeq_pure (v := ?_) rfl ?_ ?_; rotate_left 1; (focus (intro wq_ hSq_; (try dsimp only at hSq_); go_simp; (try with_reducible rfl); done)); (try simp only [Act.put, List.setIfInBounds_toArray, List.set_cons_zero, List.set_cons_succ])) | (refine wpSeq_pureG (v := ?_) rfl rfl ?_ ?_; rotate_left 1; (focus (intro wq_ hSq_; (try dsimp only at hSq_); go_simp; (try with_reducible rfl); done)); (try simp only [Act.put, List.setIfInBounds_toArray, List.set_cons_zero, List.set_cons_succ])) | (refine wpSeq_off rfl rfl ?_; (try simp only [Act.put, List.setIfInBounds_toArray, List.set_cons_zero, List.set_cons_succ])) | (refine wpSeq_offU rfl ?_; (try simp only [Act.put, List.setIfInBounds_toArray, List.set_cons_zero, List.set_cons_succ])))
  first | refine wpSeq_call rfl (fun u1 g1 s1 K hK => ?_) | refine wpSeq_callG rfl rfl (fun u1 g1 s1 K hK => ?_)
  go_simp
  refine (rnewest_any (H.out.ext (bt X3.out s1)) H0.out).mono ?_
  rintro e y1 ⟨z4, rfl, rfl, b4⟩
  (try go_wp2_with fail)
  refine hK.out _ _ b4 ?_
  clear hK K
  (try simp only [Act.put, List.setIfInBounds_toArray, List.set_cons_zero, List.set_cons_succ])
  repeat (first | (refine wpSeq_pure (v := ?_) rfl ?_ ?_; rotate_left 1; (focus (intro wq_ hSq_; (try dsimp only at hSq_); go_simp; (try with_reducible rfl); done)); (try simp only [Act.put, List.setIfInBounds_toArray, List.set_cons_zero, List.set_cons_succ])) | (refine wpSeq_pureG (v := ?_) rfl rfl ?_ ?_; rotate_left 1; (focus (intro wq_ hSq_; (try dsimp only at hSq_); go_simp; (try with_reducible rfl); done)); (try simp only [Act.put, List.setIfInBounds_toArray, List.set_cons_zero, List.set_cons_succ])) | (refine wpSeq_off rfl rfl ?_; (try simp only [Act.put, List.setIfInBounds_toArray, List.set_cons_zero, List.set_cons_succ])) | (refine wpSeq_offU rfl ?_; (try simp only [Act.put, List.setIfInBounds_toArray, List.set_cons_zero, List.set_cons_succ])))
  intro wz gz sz_
  (try simp only [endJ, List.drop_succ_cons, List.drop_zero])
  have kz := ext_cell (bt X3.out sz_) K0.out
  have XZ := Lib.hid (bt X3.out sz_)
  clear ks hst gz sz_ s1 g1 b4
  go_wp2
  go_returns
  exact ⟨_, rfl, rfl, XZ.out⟩
end Go.Proofs.Tb
/- Contract of Range. -/
namespace Go.Proofs.Tb
open Go.Maps Go.RowKit Go.Lib Go.Shelf
attribute [local go_sem] cell_set_same neqMapL binOp_string_geq' Oper.semAt_some

/-- Pairs below a key, if there is one. -/
def hiB (high : Str) (p : Pr) : Bool := decide (high.size = 0) || sl p.1 high
def rngP (l : List Pr) (low high : Str) (most : Nat) : List Pr := ((geP low l).takeWhile (hiB high)).take most
theorem rng_all {g : List Pr} {high : Str} {most : Nat} (h : ∀ p ∈ g, hiB high p = true) (hm : g.length ≤ most) : (g.takeWhile (hiB high)).take most = g := by
  have e : g.takeWhile (hiB high) = g := by
    induction g with
    | nil => rfl
    | cons p g ih =>
      rw [List.takeWhile_cons, if_pos (h p List.mem_cons_self), ih (fun q hq => h q (List.mem_cons_of_mem _ hq)) (by simp at hm; omega)]
  rw [e, List.take_of_length_le hm]
theorem rng_stop {high : Str} {most : Nat} {x : Pr} : ∀ {pre g : List Pr}, pre ++ [x] <+: g → (∀ p ∈ pre, hiB high p = true) → pre.length ≤ most → (pre.length = most ∨ hiB high x = false) → (g.takeWhile (hiB high)).take most = pre := by
  intro pre g hg h hm hx
  obtain ⟨r, rfl⟩ := hg
  have e : ∀ (q s : List Pr), (∀ p ∈ q, hiB high p = true) → (q ++ s).takeWhile (hiB high) = q ++ s.takeWhile (hiB high) := by
    intro q
    induction q with
    | nil => intro s _; rfl
    | cons p q ih =>
      intro s hq
      rw [List.cons_append, List.takeWhile_cons, if_pos (hq p List.mem_cons_self), ih s fun y hy => hq y (List.mem_cons_of_mem _ hy)]
      rfl
  rw [List.append_assoc, e pre _ h]
  rcases hx with hx | hx
  · rw [← hx, List.take_left]
  · rw [List.singleton_append, List.takeWhile_cons, if_neg (by rw [hx]; exact Bool.false_ne_true), List.append_nil, List.take_of_length_le hm]
/-- What Range's loop holds. -/
structure RgI (w : World) (Bh Bm Bo : Nat) (high : Str) (most : Nat) (pre : List Pr) (W : World) : Prop where
  hi : Blk W Bh TST #[.string high]
  mo : Blk W Bm TIN #[.int .i64 (most : Int)]
  ou : ∃ v, Blk W Bo TPS #[v] ∧ OwP w.heap.size W v pre
  ex : Ext w W
  ok : (∀ p ∈ pre, hiB high p = true) ∧ pre.length ≤ most
theorem keepB {W W' : World} {row : Option Nat} {B : Nat} (hg : W.grownBy W' row) (hr : ∀ r, row = some r → B ≤ r ∧ ∃ o : Obj, W.heap[r]? = some o ∧ o.isCells = false) {b : Nat} {T : TypeId} {cs : Array Value} (hb : W.heap[b]? = some (.cells cs T (0, 0))) : W'.heap[b]? = some (.cells cs T (0, 0)) :=
  (hg.block b (obj_lt hb) fun e => by
    obtain ⟨_, o, ho, hc⟩ := hr b e.symm
    rw [hb] at ho
    injection ho with ho
    subst ho
    cases hc).trans hb
theorem RgI.own (w : World) (Bh Bm Bo : Nat) (high : Str) (most B : Nat) (hB : w.heap.size ≤ B) : OwnFrom B (RgI w Bh Bm Bo high most) := fun s W W' row h hg hr => by
  obtain ⟨v, h1, h2⟩ := h.ou
  exact ⟨keepB hg hr h.hi, keepB hg hr h.mo, ⟨v, keepB hg hr h1, own_keep h2 fun g cs _ _ hb => (keepB hg hr hb).trans hb.symm⟩, Below.grown h.ex hg (Ext.size h.ex) (fun k e => Nat.le_trans hB (hr k e).1), h.ok⟩
def RgX (w : World) (Bh Bm Bo : Nat) (high : Str) (most : Nat) (c : Code) (xs : List Pr) (W : World) : Prop :=
  c = .exit 1 ∧ ∃ pre x, xs = pre ++ [x] ∧ RgI w Bh Bm Bo high most pre W ∧ (pre.length = most ∨ hiB high x = false)
theorem RgX.own (w : World) (Bh Bm Bo : Nat) (high : Str) (most B : Nat) (hB : w.heap.size ≤ B) (c : Code) : OwnFrom B (RgX w Bh Bm Bo high most c) := fun s W W' row h hg hr => by
  obtain ⟨h0, pre, x, h1, h2, h3⟩ := h
  exact ⟨h0, pre, x, h1, RgI.own w Bh Bm Bo high most B hB pre W W' row h2 hg hr, h3⟩
theorem KN.put {W : World} {l : Nat} {o o' : Obj} (h : W.heap[l]? = some o) (hc : o.isCells = false) : KN W (W.putObj l o') := fun b cs hb => keepB (B := 0) (grownBy_putObj' W l o') (fun r e => by cases e; exact ⟨Nat.zero_le _, o, h, hc⟩) hb
def ansR (z : Value) (e : Int) : Value := .tuple #[z, .int .i64 e]
set_option maxHeartbeats 1600000 in
set_option maxRecDepth 100000 in
theorem rrange_err {w : World} {s d keep : Nat} {vs : List (Nat × MT)} {B : Nat → Nat} {br : Bool} (h : SR w s d keep vs B br) {N : Nat} (hN : VsN vs N) (hN2 : N ≤ 1000000000) (v er : Int) (hv : verB N vs.length v = er) (he : er ≠ 0) (low high : Str) (most : Nat) :
    Calls Try.prog 20 #[.pointer (some ⟨s, 0, none⟩), .int .i64 v, .string low, .string high, .int .i64 (most : Int)] w (Ret (fun z _ => z = ansR (.slice none 0 0) er) w) := by
  have H := Lib.hid h
  have HN := Lib.hid hN
  have HV := Lib.hid hv
  have hm0 : ¬ (most : Int) < 0 := by omega
  have hm1 : decide ((most : Int) < 0) = false := decide_eq_false hm0
  have HC := Lib.hid (show er = 1 ∨ er = 10 by
    rw [← hv] at he ⊢
    unfold verB at he ⊢
    split at he
    · rename_i c; rw [if_pos c]; exact Or.inl rfl
    · rename_i c
      rw [if_neg c]
      split at he
      · rename_i c2; rw [if_pos c2]; exact Or.inr rfl
      · exact absurd rfl he)
  clear h hN hv
  go_enter Try.func20, Try.ntmps20
  go_upto_region 1 with fail
  have x1 : Ext w ((w.alloc (.cells #[.string high] TST)).alloc (.cells #[.int .i64 (most : Int)] TIN)) := bt (Ext.allocR _ _) (Ext.allocR _ _)
  refine wp_world (fun W => Blk W (w.heap.size + 1) TIN #[.int .i64 (most : Int)] ∧ Ext w W) ⟨Blk.new_ _ _ (by simp), x1⟩ ?_
  clear x1
  rintro W1 ⟨hb1, hx1⟩
  have HB1 := Lib.hid hb1
  have X1 := Lib.hid hx1
  clear hb1 hx1
  go_wp2_with fail
  refine (rtree_no (H.out.ext X1.out) HN.out hN2 v er HV.out he).mono ?_
  rintro e w2 ⟨z2, rfl, rfl, b2⟩
  have kb := (HB1.out.below b2).cells
  simp only [cellsAre, Nat.zero_add, Nat.reduceAdd, and_true] at kb
  have X2 := Lib.hid (bt X1.out b2)
  clear b2
  unfold ansT
  rcases HC.out with rfl | rfl
  · go_wp2
    go_returns
    exact ⟨_, rfl, rfl, X2.out⟩
  · go_wp2
    go_returns
    exact ⟨_, rfl, rfl, X2.out⟩
theorem grow_blk {W w1 : World} {base k n b : Nat} {T T' : TypeId} {v : Value} {xs : List Value} {cs : Array Value} (hg : W.grownBy w1 v.ownBlock) (ho : W.ownsRow base T k v n xs) (hT : T ≠ T') (hb : W.heap[b]? = some (.cells cs T' (0, 0))) : w1.heap[b]? = some (.cells cs T' (0, 0)) :=
  (hg.block b (obj_lt hb) (fun e => own_tag ho hT b e.symm _ _ hb)).trans hb
theorem RgI.app {w W w1 : World} {Bh Bm Bo : Nat} {high : Str} {most : Nat} {pre : List Pr} {x : Pr} {A0 A1 : Option Addr} {pl c0 c1 : Nat} (h : RgI w Bh Bm Bo high most pre W) (hO : Blk W Bo TPS #[.slice A0 pl c0]) (ho : OwP w.heap.size W (.slice A0 pl c0) pre) (hpl : pre.length = pl) (tmp : Obj)
    (o1 : w1.ownsRow w.heap.size TPA 2 (.slice A1 (pl + 1) c1) (pl + 1) (pcs pre ++ pcs [x])) (g1 : (W.alloc tmp).grownBy w1 (Value.slice A0 pl c0).ownBlock) (hx : hiB high x = true) (hm : pl < most) (hB : w.heap.size ≤ Bo) :
    Blk w1 Bo TPS #[.slice A0 pl c0] ∧ RgI w Bh Bm Bo high most (pre ++ [x]) (w1.setCell ⟨Bo, 0, none⟩ (.slice A1 (pl + 1) c1)) ∧ KeepsOthers W (w1.setCell ⟨Bo, 0, none⟩ (.slice A1 (pl + 1) c1)) ∧ KN W (w1.setCell ⟨Bo, 0, none⟩ (.slice A1 (pl + 1) c1)) := by
  have ho' := own_below ho (Ext.allocR W tmp)
  have hb1 : Blk w1 Bo TPS #[.slice A0 pl c0] := grow_blk g1 ho' (by decide) (hO.alloc tmp)
  have hh1 : Blk w1 Bh TST #[.string high] := grow_blk g1 ho' (by decide) (h.hi.alloc tmp)
  have hm1 : Blk w1 Bm TIN #[.int .i64 (most : Int)] := grow_blk g1 ho' (by decide) (h.mo.alloc tmp)
  have ne : ∀ {b : Nat} {T : TypeId} {cs : Array Value}, T ≠ TPS → Blk w1 b T cs → b ≠ Bo := fun {b T cs} hT hb e => by
    subst e
    unfold Blk at hb hb1
    rw [hb] at hb1
    injection hb1 with hb1
    injection hb1 with _ hb1
    exact hT hb1
  have hbel : Below w.heap.size W w1 := ((Below.refl _ W).alloc (Ext.size h.ex) tmp).grown g1 (Nat.le_trans (Ext.size h.ex) (by simp)) (own_geE ho')
  refine ⟨hb1, ⟨hh1.far (p := ⟨Bo, 0, none⟩) (ne (by decide) hh1) _, hm1.far (p := ⟨Bo, 0, none⟩) (ne (by decide) hm1) _, ⟨_, hb1.set_ 0 _, ?_⟩, (Below.trans h.ex hbel).setCell (p := ⟨Bo, 0, none⟩) hB _, ⟨fun p hp => ?_, by rw [List.length_append, hpl]; exact hm⟩⟩, ?_, ?_⟩
  · unfold OwP
    rw [pcs_app, List.length_append, hpl]
    exact own_far o1 (p := ⟨Bo, 0, none⟩) hb1 (by decide) _
  · rcases List.mem_append.1 hp with hp | hp
    · exact h.ok.1 p hp
    · rw [List.mem_singleton.1 hp]; exact hx
  · refine (KeepsOthers.alloc W tmp).trans (KeepsOthers.trans (KeepsOthers.of_grownBy g1 fun j o e hj => ?_) (KeepsOthers.setCell _ _ _))
    rcases ho'.2 with ⟨e2, _⟩ | ⟨q, cap, cur, e2, _, h2, _⟩
    · rw [e2] at e; cases e
    · rw [e2] at e
      simp only [Value.ownBlock, Option.some.injEq] at e
      subst e
      rw [h2] at hj
      injection hj with hj
      subst hj
      rfl
  · intro b cs hb
    have h1 : Blk w1 b TNO cs := grow_blk g1 ho' (by decide) (Blk.alloc (w := W) hb tmp)
    exact h1.far (p := ⟨Bo, 0, none⟩) (ne (by decide) h1) _
theorem geP_sub (k : Str) (l : List Pr) : ∀ p ∈ geP k l, p ∈ l := fun p hp => (List.mem_filter.1 hp).1
theorem geP_len (k : Str) (l : List Pr) : (geP k l).length ≤ l.length := List.length_filter_le _ _
set_option maxHeartbeats 6400000 in
set_option maxRecDepth 100000 in
theorem rrange_in {w : World} {s d keep : Nat} {vs : List (Nat × MT)} {B : Nat → Nat} {br : Bool} (h : SR w s d keep vs B br) {N : Nat} (hN : VsN vs N) (hN2 : N ≤ 1000000000) {i : Nat} (hi : i < vs.length) {v : Int} (hv : v = ((N - i : Nat) : Int)) {u : MT} (hu : (vs[i]).2 = u) (hs : Srtd u.er.prs) (hsz : u.er.size ≤ 100000)
    (low high : Str) (most : Nat) (hm : most ≤ 9223372036854775807) (hh : high.size ≤ 1000000000) :
    CallsIn Fence.wide 9 Try.prog 20 #[.pointer (some ⟨s, 0, none⟩), .int .i64 v, .string low, .string high, .int .i64 (most : Int)] w (Ret (fun z w' => ∃ z', z = ansR z' 0 ∧ OwP w.heap.size w' z' (rngP u.er.prs low high most)) w) := by
  have hro : Fence.wide.round = none := rfl
  have hd : Fence.wide.depth = none := rfl
  have hfn : ∀ f, Fence.wide.fn f := fun _ => trivial
  have hm0 : ¬ (most : Int) < 0 := by omega
  have hm1 : decide ((most : Int) < 0) = false := decide_eq_false hm0
  have H := Lib.hid h
  have HN := Lib.hid hN
  have HT := Lib.hid (h.tr _ (List.getElem_mem hi))
  rw [hu] at HT
  have HC := Lib.hid (fun W hW => rtree_ok (h.ext (w' := W) hW) hN hN2 hi hv hu)
  have HS := Lib.hid hs
  obtain ⟨i0, hi0, hz0, hz1, hz2⟩ := info_parts pa_info
  clear h hN hs hv hu
  refine callsIn_of_wp_marks Try.func20 rfl (hfn _) ?_ hro
  simp only [Try.ntmps20, List.size_toArray, List.length_cons, List.length_nil, Nat.reduceAdd, Nat.reduceSub, Array.replicate_succ, Array.replicate_zero, List.push_toArray, List.append_toArray, List.nil_append, List.cons_append]
  have x1 : Ext w ((w.alloc (.cells #[.string high] TST)).alloc (.cells #[.int .i64 (most : Int)] TIN)) := bt (Ext.allocR _ _) (Ext.allocR _ _)
  gi_wp2
  refine (callsIn_wide.2 (HC.out _ x1)).mono ?_
  rintro e w2 ⟨z2, rfl, rfl, b2⟩
  have hbh : Blk w2 w.heap.size TST #[.string high] := (((Blk.new_ _ _ rfl).alloc _).below b2)
  have hbm : Blk w2 (w.heap.size + 1) TIN #[.int .i64 (most : Int)] := ((Blk.new_ _ _ (by simp)).below b2)
  have X2 := Lib.hid (bt x1 b2)
  have HBH := Lib.hid hbh
  have HBM := Lib.hid hbm
  have kh := hbh.cells
  have km := hbm.cells
  simp only [cellsAre, Nat.zero_add, Nat.reduceAdd, and_true] at kh km
  clear x1 b2 hbh hbm
  unfold ansT
  gi_wp2
  refine (callsIn_wide.2 (rpairs_any u.ad low _)).mono ?_
  rintro e w3 ⟨rfl, hw3⟩
  obtain ⟨p, hp⟩ : ∃ p, w2.heap.size = p := ⟨_, rfl⟩
  have e1 : (w2.alloc (.cells #[.slice none 0 0] TPS)).heap.size = p + 1 := by simp [hp]
  have x3 : Ext (w2.alloc (.cells #[.slice none 0 0] TPS)) w3 := by rw [hw3]; exact bt (Ext.allocR _ _) (Ext.allocR _ _)
  have hb1 : Blk w3 (p + 1) TNP #[.pointer u.ad] := by rw [hw3]; exact (Blk.new_ _ _ e1).alloc _
  have hb2 : Blk w3 (p + 1 + 1) TST #[.string low] := by rw [hw3]; exact Blk.new_ _ _ (by simp [hp])
  have X3 := Lib.hid (show Ext w w3 from bt X2.out (bt (Ext.allocR _ _) x3))
  have HI := Lib.hid (show RgI w w.heap.size (w.heap.size + 1) p high most [] w3 from
    ⟨HBH.out.below (bt (Ext.allocR _ _) x3), HBM.out.below (bt (Ext.allocR _ _) x3), ⟨.slice none 0 0, (Blk.new_ _ _ hp).below x3, World.ownsRow_nil _ _ _ _⟩, X3.out, ⟨fun p hp => (by cases hp), Nat.zero_le _⟩⟩)
  have k1 := hb1.cells
  have k2 := hb2.cells
  simp only [cellsAre, Nat.zero_add, Nat.reduceAdd, and_true] at k1 k2
  have HB := Lib.hid (And.intro hb1 hb2)
  have HPB := Lib.hid (show w.heap.size ≤ p by rw [← hp]; exact Ext.size X2.out)
  rw [e1, hp]
  clear hw3 e1 hb1 hb2 x3 HBH HBM kh km
  gi_wp2
  refine wpIn_rangeFunc_ownF hro (by omega) (gf := 87) (lb := #[.pointer (some ⟨p + 1, 0, none⟩), .pointer (some ⟨p + 1 + 1, 0, none⟩)]) rfl (hfn _) (enters_of Try.func87 (by kernel_rfl) rfl)
    (pairs_stops Fence.wide hd hfn hro 8 (p + 1) (p + 1 + 1) B (Pos B) u low w3 HB.out.1.lt HB.out.2.lt k1 k2 (HT.out.below X3.out) HS.out) (fun h k => KN.trans h k) (fun W l o o' _ ho hc _ => KN.put ho hc) (Below.refl _ _) (fun _ => rfl)
    (RgI w w.heap.size (w.heap.size + 1) p high most) (RgX w w.heap.size (w.heap.size + 1) p high most) (RgI.own w _ _ _ high most _ (Ext.size X3.out)) (RgX.own w _ _ _ high most _ (Ext.size X3.out)) HI.out ?a1 ?assign ?body ?done ?stop
  case assign =>
    intro l x W K hK
    gi_wp2
    exact hK
  case body =>
    rintro l pre x W hI hlen
    obtain ⟨v0, hO, hrow⟩ := hI.ou
    obtain ⟨A0, c0, rfl, hrv⟩ := own_rv hrow
    obtain ⟨pl, hpl⟩ : ∃ pl, pre.length = pl := ⟨_, rfl⟩
    have hpm := hI.ok.2
    have hpl2 : pl ≤ 100000 := by
      have h1 := geP_len low u.er.prs
      have h2 := u.er.size_prs
      omega
    have kh := hI.hi.cells
    have km := hI.mo.cells
    have kO := hO.cells
    have fO := hO.free 0
    have hOl := hO.lt
    have hwl := Ext.size hI.ex
    have hlc := hrv.le
    have hcc := hrv.cap
    rw [hpl] at hpm hlc
    simp only [cellsAre, Nat.zero_add, Nat.reduceAdd, and_true] at kh km kO
    have HII := Lib.hid hI
    have HOO := Lib.hid hO
    have HRW := Lib.hid hrow
    have HPL := Lib.hid hpl
    obtain ⟨xk, xv⟩ := x
    obtain ⟨hz, hhz⟩ : ∃ hz, high.size = hz := ⟨_, rfl⟩
    have hvl : high.toList.length = hz := by rw [ByteArray.toList_eq]; exact hhz
    have HHI := Lib.hid (show hiB high (xk, xv) = (decide (hz = 0) || sl xk high) by unfold hiB; rw [hhz])
    rw [hpl] at kO
    clear hI hrv hlen hO hrow hpl hhz
    by_cases hpe : pl = most
    · subst hpe
      have HX := Lib.hid (show RgX w w.heap.size (w.heap.size + 1) p high pl (.exit 1) (pre ++ [(xk, xv)]) W from ⟨rfl, pre, _, rfl, HII.out, Or.inl HPL.out⟩)
      gi_wp2
      exact ⟨KeepsOthers.refl _, HX.out⟩
    · have pe : ((pl : Int) == (most : Int)) = false := by rw [beq_eq_false_iff_ne]; omega
      have pe' : ¬ (pl : Int) = (most : Int) := by omega
      by_cases hh0 : hz = 0
      · have hv0 : high.toList = [] := List.eq_nil_of_length_eq_zero (by rw [hvl]; exact hh0)
        have hv1 : high.toList.isEmpty = true := by rw [hv0]; rfl
        have HHT := Lib.hid (show hiB high (xk, xv) = true by rw [HHI.out, hh0]; rfl)
        clear hh0 hvl
        have hlm : pl < most := by omega
        gi_wp2_with (gi_at_builtin; refine wpListIn_append_own _ rfl _ _ TPS rfl w.heap.size TPA i0 _ 2 32 Try.underlying47 hi0 hz0 hz1 hz2 rfl (by decide) (.slice A0 pl c0) pl (pcs pre) rfl (by have h1 := own_below HRW.out (Ext.allocR W (.cells #[.string xk, .string xv] TPA)); rw [HPL.out] at h1; exact h1) ⟨W.heap.size, 0, none⟩ 1 1 (pcs [(xk, xv)]) rfl rfl (((rv_lit (w := W) TPA 2 #[.string xk, .string xv] 1 (by omega) rfl).news (by omega)).2.2 _ rfl) (pcs_one _) (by unfold maxLen; omega) (by omega) (by simp; omega) ?_; intro v1 w1 o1 g1 _; obtain ⟨A1, c1, hv1', _⟩ := own_rv o1; subst hv1'; have hap := HII.out.app (by have h1 := HOO.out; rw [HPL.out] at h1; exact h1) (by have h1 := HRW.out; rw [HPL.out] at h1; exact h1) HPL.out (.cells #[.string xk, .string xv] TPA) o1 g1 HHT.out hlm HPB.out; have k1 := hap.1.cells; have f1 := hap.1.free 0; have HAP := Lib.hid hap.2; simp only [cellsAre, Nat.zero_add, Nat.reduceAdd, and_true] at k1; clear o1 g1 hap)
        exact ⟨HAP.out.2.1, HAP.out.2.2, HAP.out.1⟩
      · have hv0 : ¬ high.toList = [] := fun e => hh0 (by rw [← hvl, e]; rfl)
        have hv1 : high.toList.isEmpty = false := by rw [List.isEmpty_eq_false_iff]; exact hv0
        cases hsl : sl xk high with
        | true =>
          have d1 : Op.bytesLess xk.toList high.toList = true := hsl
          have HHT := Lib.hid (show hiB high (xk, xv) = true by rw [HHI.out, hsl, Bool.or_true])
          clear hh0 hsl hvl
          have hlm : pl < most := by omega
          gi_wp2_with (gi_at_builtin; refine wpListIn_append_own _ rfl _ _ TPS rfl w.heap.size TPA i0 _ 2 32 Try.underlying47 hi0 hz0 hz1 hz2 rfl (by decide) (.slice A0 pl c0) pl (pcs pre) rfl (by have h1 := own_below HRW.out (Ext.allocR W (.cells #[.string xk, .string xv] TPA)); rw [HPL.out] at h1; exact h1) ⟨W.heap.size, 0, none⟩ 1 1 (pcs [(xk, xv)]) rfl rfl (((rv_lit (w := W) TPA 2 #[.string xk, .string xv] 1 (by omega) rfl).news (by omega)).2.2 _ rfl) (pcs_one _) (by unfold maxLen; omega) (by omega) (by simp; omega) ?_; intro v1 w1 o1 g1 _; obtain ⟨A1, c1, hv1', _⟩ := own_rv o1; subst hv1'; have hap := HII.out.app (by have h1 := HOO.out; rw [HPL.out] at h1; exact h1) (by have h1 := HRW.out; rw [HPL.out] at h1; exact h1) HPL.out (.cells #[.string xk, .string xv] TPA) o1 g1 HHT.out hlm HPB.out; have k1 := hap.1.cells; have f1 := hap.1.free 0; have HAP := Lib.hid hap.2; simp only [cellsAre, Nat.zero_add, Nat.reduceAdd, and_true] at k1; clear o1 g1 hap)
          exact ⟨HAP.out.2.1, HAP.out.2.2, HAP.out.1⟩
        | false =>
          have d1 : Op.bytesLess xk.toList high.toList = false := hsl
          have HX := Lib.hid (show RgX w w.heap.size (w.heap.size + 1) p high most (.exit 1) (pre ++ [(xk, xv)]) W from ⟨rfl, pre, _, rfl, HII.out, Or.inr (by rw [HHI.out, hsl, decide_eq_false hh0]; rfl)⟩)
          clear hh0 hsl hvl
          gi_wp2
          exact ⟨KeepsOthers.refl _, HX.out⟩
  case done =>
    rintro D xs W hD rfl hI hK
    have hz : rngP u.er.prs low high most = geP low u.er.prs := rng_all hI.ok.1 hI.ok.2
    have HZE := Lib.hid hz
    clear hz
    obtain ⟨v0, hO, hrow⟩ := hI.ou
    have HZ := Lib.hid (And.intro hrow hI.ex)
    have kO := hO.cells
    simp only [cellsAre, Nat.zero_add, Nat.reduceAdd, and_true] at kO
    clear hI hO hrow
    gi_wp2
    refine ⟨by simp, .inl ⟨_, _, rfl, run_takeDeferred hK, ?_⟩⟩
    have hg := grownBy_putObj' W D (.deferred none)
    have hr : ∀ r, some D = some r → w.heap.size ≤ r ∧ ∃ o : Obj, W.heap[r]? = some o ∧ o.isCells = false := fun r e => by
      injection e with e
      subst e
      exact ⟨Nat.le_trans (Ext.size X3.out) hD, _, hK, rfl⟩
    refine ⟨.tuple #[v0, .int .i64 0], ?_, ⟨_, rfl, ⟨v0, rfl, ?_⟩, ?_⟩⟩
    · simp [results, Try.results20, go_sem]
    · rw [HZE.out]
      exact own_keep HZ.out.1 fun g cs _ _ hb => (keepB hg hr hb).trans hb.symm
    · exact Below.grown HZ.out.2 hg (Ext.size HZ.out.2) (fun k e => (hr k e).1)
  case stop =>
    rintro D c pre W hD hpre hX hK
    obtain ⟨rfl, pre0, x, rfl, hI, hcd⟩ := hX
    have hz : rngP u.er.prs low high most = pre0 := rng_stop hpre hI.ok.1 hI.ok.2 hcd
    have HZE := Lib.hid hz
    clear hz hcd hpre
    obtain ⟨v0, hO, hrow⟩ := hI.ou
    have HZ := Lib.hid (And.intro hrow hI.ex)
    have kO := hO.cells
    simp only [cellsAre, Nat.zero_add, Nat.reduceAdd, and_true] at kO
    clear hI hO hrow
    gi_wp2
    refine ⟨by simp, .inl ⟨_, _, rfl, run_takeDeferred hK, ?_⟩⟩
    have hg := grownBy_putObj' W D (.deferred none)
    have hr : ∀ r, some D = some r → w.heap.size ≤ r ∧ ∃ o : Obj, W.heap[r]? = some o ∧ o.isCells = false := fun r e => by
      injection e with e
      subst e
      exact ⟨Nat.le_trans (Ext.size X3.out) hD, _, hK, rfl⟩
    refine ⟨.tuple #[v0, .int .i64 0], ?_, ⟨_, rfl, ⟨v0, rfl, ?_⟩, ?_⟩⟩
    · simp [results, Try.results20, go_sem]
    · rw [HZE.out]
      exact own_keep HZ.out.1 fun g cs _ _ hb => (keepB hg hr hb).trans hb.symm
    · exact Below.grown HZ.out.2 hg (Ext.size HZ.out.2) (fun k e => (hr k e).1)
end Go.Proofs.Tb
/- Contract of Get. -/
namespace Go.Proofs.Tb
open Go.Maps Go.RowKit Go.Lib
attribute [local go_sem] cell_set_same neqMapL

/-- A key's value. -/
def fndP (l : List Pr) (k : Str) : Option Str := (l.find? fun p => decide (p.1 = k)).map fun p => p.2
def ansG (o : Option Str) (e : Int) : Value := .tuple #[.string (o.getD ByteArray.empty), .bool o.isSome, .int .i64 e]
theorem fndP_none {l : List Pr} {k : Str} (h : ∀ p ∈ l, p.1 ≠ k) : fndP l k = none := by
  unfold fndP
  rw [List.find?_eq_none.2 fun p hp => by simpa using h p hp]
  rfl
theorem fndP_some {l : List Pr} (hs : Srtd l) {k x : Str} (h : (k, x) ∈ l) : fndP l k = some x := by
  unfold fndP
  induction l with
  | nil => cases h
  | cons p l ih =>
    obtain ⟨h1, h2⟩ := List.pairwise_cons.1 hs
    rw [List.find?_cons]
    rcases List.mem_cons.1 h with rfl | h
    · simp
    · have hne : ¬ p.1 = k := fun e => by
        have := h1 _ h
        rw [e, sl_irrefl] at this
        cases this
      rw [decide_eq_false hne]
      exact ih h2 h
set_option maxHeartbeats 3200000 in
set_option maxRecDepth 100000 in
theorem rget_ok {w : World} {s d keep : Nat} {vs : List (Nat × MT)} {B : Nat → Nat} {br : Bool} (h : SR w s d keep vs B br) {N : Nat} (hN : VsN vs N) (hN2 : N ≤ 1000000000) {i : Nat} (hi : i < vs.length) {v : Int} (hv : v = ((N - i : Nat) : Int)) {u : MT} (hu : (vs[i]).2 = u) (hs : Srtd u.er.prs)
    (k : Str) (hk : keyB k = true) (hks : k.size ≤ 1000000000) :
    Calls Try.prog 47 #[.pointer (some ⟨s, 0, none⟩), .int .i64 v, .string k] w (Ret (fun z _ => z = ansG (fndP u.er.prs k) 0) w) := by
  have HC := Lib.hid (rtree_ok h hN hN2 hi hv hu)
  have HT := Lib.hid (h.tr _ (List.getElem_mem hi))
  rw [hu] at HT
  have HS := Lib.hid hs
  have HK := Lib.hid hk
  clear h hN hs hk hv hu
  go_enter Try.func47, Try.ntmps47
  go_wp2_with fail
  refine HC.out.mono ?_
  rintro e w1 ⟨z1, rfl, rfl, b1⟩
  have X1 := Lib.hid (show Ext w w1 from b1)
  clear b1
  unfold ansT
  go_wp2_with fail
  refine (rkey_any k hks w1).mono ?_
  rintro e w2 ⟨z2, rfl, rfl, b2⟩
  rw [HK.out]
  have X2 := Lib.hid (bt X1.out b2)
  clear b2
  go_wp2_with fail
  refine (rfind_any B (Pos B) k u w2 (HT.out.below X2.out) HS.out).mono ?_
  rintro e w3 ⟨z3, rfl, hf, b3⟩
  have X3 := Lib.hid (bt X2.out b3)
  clear b3
  rcases hf with ⟨rfl, hf⟩ | ⟨g, x, l, r, rfl, hf, hm⟩
  · have HE := Lib.hid (fndP_none hf)
    clear hf
    go_wp2
    go_returns
    exact ⟨_, rfl, by rw [HE.out]; rfl, X3.out⟩
  · have HE := Lib.hid (fndP_some HS.out hm)
    have c := hf.1.cells
    simp only [cellsAre, Nat.zero_add, Nat.reduceAdd, and_true] at c
    clear hf hm
    go_wp2
    go_returns
    exact ⟨_, rfl, by rw [HE.out]; rfl, X3.out⟩
end Go.Proofs.Tb
/- The reference's versions: contracts of Newest, Oldest, New, Version, Key, Value, Batch, SamePairs. -/
namespace Go.Proofs.Tb
open Go.Maps Go.RowKit Go.Lib
attribute [local go_sem] cell_set_same neqMapL

abbrev TRS : TypeId := 28
/-- The reference's store. -/
def RSv (w : World) (v : Value) (Vs : List (List Pr)) (keep : Nat) : Prop := ∃ A n c, v = .agg #[.slice A n c, .int .i64 (keep : Int)] ∧ OwV 0 w (.slice A n c) Vs
theorem RSv.form {w : World} {v : Value} {Vs : List (List Pr)} {keep : Nat} (h : RSv w v Vs keep) : ∃ A n c, v = .agg #[.slice A n c, .int .i64 (keep : Int)] ∧ OwV 0 w (.slice A n c) Vs ∧ n = Vs.length ∧ n ≤ c ∧ c ≤ 9223372036854775807 := by
  obtain ⟨A, n, c, e, h⟩ := h
  obtain ⟨zs, h1, h2⟩ := h
  have hn : n = Vs.length := by
    obtain ⟨A', c', e, _⟩ := own_rv h1
    injection e
  exact ⟨A, n, c, e, ⟨zs, h1, h2⟩, hn, (own_rvv h1).le, (own_rvv h1).cap⟩
theorem RSv.chg {X : Nat → Obj → Prop} {w w' : World} {v : Value} {Vs : List (List Pr)} {keep : Nat} (h : RSv w v Vs keep) (hc : Chg X w w') (hX : ∀ b cs, ¬ X b (.cells cs TPA (0, 0))) (hX2 : ∀ b cs, ¬ X b (.cells cs TPS (0, 0))) : RSv w' v Vs keep := by
  obtain ⟨A, n, c, e, h⟩ := h
  exact ⟨A, n, c, e, h.chg hc hX hX2⟩
theorem RSv.ext {w w' : World} {v : Value} {Vs : List (List Pr)} {keep : Nat} (h : RSv w v Vs keep) (hc : Ext w w') : RSv w' v Vs keep := h.chg (X := fun _ _ => False) (Chg.ext hc) (fun _ _ h => h) fun _ _ h => h
set_option maxHeartbeats 1600000 in
set_option maxRecDepth 100000 in
theorem znewest_any {w : World} {v : Value} {Vs : List (List Pr)} {keep : Nat} (h : RSv w v Vs keep) (hl : Vs.length ≤ 1000000) : Calls Try.prog 19 #[v] w (Ret (fun z _ => z = .int .i64 ((Vs.length : Int) - 1)) w) := by
  obtain ⟨A, n, c, rfl, _, hn, h1, h2⟩ := h.form
  have HN := Lib.hid hn
  have hn2 : n ≤ 1000000 := by omega
  clear h hn
  go_enter Try.func19, Try.ntmps19
  go_wp2
  go_returns
  exact ⟨_, rfl, by rw [← HN.out]; rfl, Ext.allocR _ _⟩
set_option maxHeartbeats 1600000 in
set_option maxRecDepth 100000 in
theorem zoldest_any {w : World} {v : Value} {Vs : List (List Pr)} {keep : Nat} (h : RSv w v Vs keep) (hl : Vs.length ≤ 1000000) (hk : keep ≤ 1000000) : Calls Try.prog 21 #[v] w (Ret (fun z _ => z = .int .i64 ((Vs.length - 1 - keep : Nat) : Int)) w) := by
  obtain ⟨A, n, c, rfl, _, hn, h1, h2⟩ := h.form
  have HN := Lib.hid (show max 0 ((n : Int) - 1 - (keep : Int)) = ((Vs.length - 1 - keep : Nat) : Int) by omega)
  have hn2 : n ≤ 1000000 := by omega
  have w1 : IntKind.i64.wrap ((n : Int) - 1) = (n : Int) - 1 := IntWalk.i64_in _ (by omega)
  have w2 : IntKind.i64.wrap ((n : Int) - 1 - (keep : Int)) = (n : Int) - 1 - (keep : Int) := IntWalk.i64_in _ (by omega)
  clear h hn
  go_enter Try.func21, Try.ntmps21
  go_wp2
  go_returns
  exact ⟨_, rfl, by rw [← HN.out]; rfl, Ext.allocR _ _⟩
set_option maxHeartbeats 1600000 in
set_option maxRecDepth 100000 in
theorem znew_any (keep : Nat) (w : World) : Calls Try.prog 25 #[.int .i64 (keep : Int)] w (Ret (fun z w' => RSv w' z [[]] keep) w) := by
  go_enter Try.func25, Try.ntmps25
  go_wp2
  have e1 : (w.alloc (.cells #[.slice (some ⟨w.heap.size + 1 + 1, 0, none⟩) 1 1, .int .i64 (keep : Int)] TRS)).heap.size = w.heap.size + 1 := by simp
  have h1 := own_lit (base := 0) (w := w.alloc (.cells #[.slice (some ⟨w.heap.size + 1 + 1, 0, none⟩) 1 1, .int .i64 (keep : Int)] TRS)) TPA 2 #[] 0 (Nat.zero_le _) (by omega) rfl
  rw [e1] at h1
  have e2 : ((w.alloc (.cells #[.slice (some ⟨w.heap.size + 1 + 1, 0, none⟩) 1 1, .int .i64 (keep : Int)] TRS)).alloc (.cells #[] TPA)).heap.size = w.heap.size + 1 + 1 := by simp
  have h2 := own_lit (base := 0) (w := (w.alloc (.cells #[.slice (some ⟨w.heap.size + 1 + 1, 0, none⟩) 1 1, .int .i64 (keep : Int)] TRS)).alloc (.cells #[] TPA)) TPS 1 #[.slice (some ⟨w.heap.size + 1, 0, none⟩) 0 0] 1 (Nat.zero_le _) (by omega) rfl
  rw [e2] at h2
  have hR : RSv (((w.alloc (.cells #[.slice (some ⟨w.heap.size + 1 + 1, 0, none⟩) 1 1, .int .i64 (keep : Int)] TRS)).alloc (.cells #[] TPA)).alloc (.cells #[.slice (some ⟨w.heap.size + 1, 0, none⟩) 0 0] TPS)) (.agg #[.slice (some ⟨w.heap.size + 1 + 1, 0, none⟩) 1 1, .int .i64 (keep : Int)]) [[]] keep :=
    ⟨_, _, _, rfl, _, h2, rfl, fun i hi => by
      obtain rfl : i = 0 := by simpa using hi
      exact own_below h1 (Ext.allocR _ _)⟩
  have hX : Ext w (((w.alloc (.cells #[.slice (some ⟨w.heap.size + 1 + 1, 0, none⟩) 1 1, .int .i64 (keep : Int)] TRS)).alloc (.cells #[] TPA)).alloc (.cells #[.slice (some ⟨w.heap.size + 1, 0, none⟩) 0 0] TPS)) := bt (Ext.allocR _ _) (bt (Ext.allocR _ _) (Ext.allocR _ _))
  (try simp only [Exit.inBlock, Exit.then])
  refine bodyPost_ret (v := (.agg #[.slice (some ⟨w.heap.size + 1 + 1, 0, none⟩) 1 1, .int .i64 (keep : Int)])) (by simp [results, Try.results25, go_sem, *]) rfl ?_
  exact ⟨_, rfl, hR, hX⟩
set_option maxHeartbeats 1600000 in
set_option maxRecDepth 100000 in
theorem zsame_any (A1 A2 : Option Addr) (n1 c1 n2 c2 : Nat) (l : List Pr) (w : World) (h1 : Rv w 2 A1 n1 c1 (pcs l)) (h2 : Rv w 2 A2 n2 c2 (pcs l)) (hn : l.length ≤ 1000000) : Calls Try.prog 22 #[.slice A1 n1 c1, .slice A2 n2 c2] w (Ret (fun z _ => z = .bool true) w) := by
  have hl1 : l.length = n1 := by have := h1.len; rw [pcs_len] at this; omega
  have hl2 : l.length = n2 := by have := h2.len; rw [pcs_len] at this; omega
  obtain rfl : n1 = n2 := by omega
  have hle1 := h1.le
  have hle2 := h2.le
  have hcp1 := h1.cap
  have hcp2 := h2.cap
  have hn2 : n1 ≤ 1000000 := by omega
  have H1 := Lib.hid h1
  have H2 := Lib.hid h2
  have HL := Lib.hid hl1
  clear h1 h2 hl1 hl2 hn
  go_enter Try.func22, Try.ntmps22
  go_wp2_with fail
  go_loopw [5] (fun i wr => ∃ j : Nat, j ≤ n1 ∧ i = .int .i64 (j : Int) ∧ Ext w wr) (fun i _ => n1 - (intOf i).toNat)
  case atStart => exact ⟨0, by omega, rfl, Ext.refl _⟩
  case round =>
    obtain ⟨j, hj, rfl, hx⟩ := hrel
    have HX := Lib.hid hx
    by_cases hjn : j < n1
    · have pj : (j : Int) < (n1 : Int) := by omega
      have hjl : j < l.length := by rw [HL.out]; exact hjn
      obtain ⟨q1, q2⟩ := pcs_at l j hjl
      obtain ⟨b1, o1, rfl, hc1⟩ := (H1.out.below hx).at_ (by omega)
      obtain ⟨b2, o2, rfl, hc2⟩ := (H2.out.below hx).at_ (by omega)
      have k1 := hc1 _ _ q1
      have k2 := hc1 _ _ q2
      have k3 := hc2 _ _ q1
      have k4 := hc2 _ _ q2
      rw [← Nat.add_assoc] at k2 k4
      obtain ⟨x, hx0⟩ : ∃ x, l[j] = x := ⟨_, rfl⟩
      rw [hx0] at k1 k2 k3 k4
      obtain ⟨xk, xv⟩ := x
      have m1 := fun w' (hh : Ext wr w') => ext_cell hh k1
      have m2 := fun w' (hh : Ext wr w') => ext_cell hh k2
      have m3 := fun w' (hh : Ext wr w') => ext_cell hh k3
      have m4 := fun w' (hh : Ext wr w') => ext_cell hh k4
      have hst : Ext wr wr.drew := Ext.drew _
      clear hc1 hc2 q1 q2 hx0 k1 k2 k3 k4 hx hjl
      go_upto_region 6 with fail
      refine wp_region_adv 8 [] [(0, true, some 17, none), (1, true, some 18, none), (2, true, some 19, none), (3, true, some 20, none), (4, true, some 21, none), (5, true, some 22, none), (6, true, some 23, none), (7, true, some 24, none)] (by kernel_rfl) (by kernel_rfl) (by kernel_rfl) (by intro it hit; (repeat (rcases List.mem_cons.1 hit with rfl | hit; (focus (intro o ho ev w; injection ho with ho; subst ho; kernel_rfl)))); cases hit) (fun _ _ _ _ _ => ⟨fun h => h, fun h => h⟩) hst ?_
      repeat (first | (refine wpSeq_pure (v := ?_) rfl ?_ ?_; rotate_left 1; (focus (intro wq_ hSq_; (try dsimp only at hSq_); go_simp; (try with_reducible rfl); done)); (try simp only [Act.put, List.setIfInBounds_toArray, List.set_cons_zero, List.set_cons_succ])) | (refine wpSeq_pureG (v := ?_) rfl rfl ?_ ?_; rotate_left 1; (focus (intro wq_ hSq_; (try dsimp only at hSq_); go_simp; (try with_reducible rfl); done)); (try simp only [Act.put, List.setIfInBounds_toArray, List.set_cons_zero, List.set_cons_succ])) | (refine wpSeq_off rfl rfl ?_; (try simp only [Act.put, List.setIfInBounds_toArray, List.set_cons_zero, List.set_cons_succ])) | (refine wpSeq_offU rfl ?_; (try simp only [Act.put, List.setIfInBounds_toArray, List.set_cons_zero, List.set_cons_succ])))
      intro wz gz sz_
      (try simp only [endJ, List.drop_succ_cons, List.drop_zero])
      have XZ := Lib.hid (bt HX.out sz_)
      clear m1 m2 m3 m4 hst gz sz_
      go_wp2_with fail
      go_roundw
      case rel => exact ⟨j + 1, by omega, by go_num, XZ.out⟩
      case measure => simp [intOf]; omega
    · obtain rfl : j = n1 := by omega
      clear hx
      go_wp2
      go_returns
      exact ⟨_, rfl, rfl, HX.out⟩
end Go.Proofs.Tb
/- The reference: contracts of Version, Key, Value, Batch. -/
namespace Go.Proofs.Tb
open Go.Maps Go.RowKit Go.Lib
attribute [local go_sem] cell_set_same neqMapL

set_option maxHeartbeats 3200000 in
set_option maxRecDepth 100000 in
theorem zversion_any {w : World} {rv : Value} {Vs : List (List Pr)} {keep : Nat} (h : RSv w rv Vs keep) (hp : 1 ≤ Vs.length) (hl : Vs.length ≤ 1000000) (hk : keep ≤ 1000000) (v : Int) : Calls Try.prog 58 #[rv, .int .i64 v] w (Ret (fun z _ => z = .int .i64 (verB (Vs.length - 1) (min (keep + 1) Vs.length) v)) w) := by
  obtain ⟨A, n, c, rfl, _, hn, h1, h2⟩ := h.form
  have H := Lib.hid h
  obtain ⟨N, hN⟩ : ∃ N, Vs.length - 1 = N := ⟨_, rfl⟩
  obtain ⟨k, hkk⟩ : ∃ k, min (keep + 1) Vs.length = k := ⟨_, rfl⟩
  obtain ⟨O, hO⟩ : ∃ O, Vs.length - 1 - keep = O := ⟨_, rfl⟩
  have HO := Lib.hid hO
  have HN1 := Lib.hid (show (Vs.length : Int) - 1 = (N : Int) by omega)
  have hOk : (O : Int) = (N : Int) - ((k : Int) - 1) := by omega
  rw [hN, hkk]
  have HOK := Lib.hid hOk
  have x0 : ∀ w' : World, Ext w' (w'.alloc (.cells #[.slice A n c, .int .i64 (keep : Int)] TRS)) := fun w' => Ext.allocR _ _
  have X0 := Lib.hid x0
  clear h hn hN hkk hO hOk x0
  by_cases c1 : v < 0
  · have HE := Lib.hid (show verB N k v = 1 by unfold verB; rw [if_pos (Or.inl c1)])
    go_enter Try.func58, Try.ntmps58
    go_wp2
    go_returns
    exact ⟨_, rfl, by rw [HE.out]; rfl, X0.out _⟩
  · have c1' : 0 ≤ v := by omega
    by_cases c2 : (N : Int) < v
    · have HE := Lib.hid (show verB N k v = 1 by unfold verB; rw [if_pos (Or.inr c2)])
      go_enter Try.func58, Try.ntmps58
      go_wp2_with fail
      refine (znewest_any (H.out.ext (X0.out w)) hl).mono ?_
      rintro e w1 ⟨z1, rfl, rfl, b1⟩
      rw [HN1.out]
      have X1 := Lib.hid (bt (X0.out w) b1)
      clear b1
      go_wp2
      go_returns
      exact ⟨_, rfl, by rw [HE.out]; rfl, X1.out⟩
    · by_cases c3 : v < (O : Int)
      · have HE := Lib.hid (show verB N k v = 10 by unfold verB; rw [if_neg (by omega), if_pos (by rw [← HOK.out]; exact c3)])
        go_enter Try.func58, Try.ntmps58
        go_wp2_with fail
        refine (znewest_any (H.out.ext (X0.out w)) hl).mono ?_
        rintro e w1 ⟨z1, rfl, rfl, b1⟩
        rw [HN1.out]
        have X1 := Lib.hid (show Ext w w1 from bt (X0.out w) b1)
        have kb := ((Blk.new_ (w := w) TRS #[.slice A n c, .int .i64 (keep : Int)] rfl).below b1).cells
        simp only [cellsAre, Nat.zero_add, Nat.reduceAdd, and_true] at kb
        clear b1
        go_wp2_with fail
        refine (zoldest_any (H.out.ext X1.out) hl hk).mono ?_
        rintro e w2 ⟨z2, rfl, rfl, b2⟩
        rw [HO.out]
        have X2 := Lib.hid (bt X1.out b2)
        clear b2 kb
        go_wp2
        go_returns
        exact ⟨_, rfl, by rw [HE.out]; rfl, X2.out⟩
      · have HE := Lib.hid (show verB N k v = 0 by unfold verB; rw [if_neg (by omega), if_neg (by rw [← HOK.out]; exact c3)])
        go_enter Try.func58, Try.ntmps58
        go_wp2_with fail
        refine (znewest_any (H.out.ext (X0.out w)) hl).mono ?_
        rintro e w1 ⟨z1, rfl, rfl, b1⟩
        rw [HN1.out]
        have X1 := Lib.hid (show Ext w w1 from bt (X0.out w) b1)
        have kb := ((Blk.new_ (w := w) TRS #[.slice A n c, .int .i64 (keep : Int)] rfl).below b1).cells
        simp only [cellsAre, Nat.zero_add, Nat.reduceAdd, and_true] at kb
        clear b1
        go_wp2_with fail
        refine (zoldest_any (H.out.ext X1.out) hl hk).mono ?_
        rintro e w2 ⟨z2, rfl, rfl, b2⟩
        rw [HO.out]
        have X2 := Lib.hid (bt X1.out b2)
        clear b2 kb
        go_wp2
        go_returns
        exact ⟨_, rfl, by rw [HE.out]; rfl, X2.out⟩
set_option maxHeartbeats 1600000 in
set_option maxRecDepth 100000 in
theorem zkey_any (s : Str) (hs : s.size ≤ 1000000000) (w : World) : Calls Try.prog 56 #[.string s] w (Ret (fun v _ => v = .bool (keyB s)) w) := by
  obtain ⟨n, hn⟩ : ∃ n, s.size = n := ⟨_, rfl⟩
  have HN := Lib.hid hn
  have HK := Lib.hid (show keyB s = (decide (1 ≤ n) && decide (n ≤ 12)) by unfold keyB; rw [hn])
  rcases Nat.lt_or_ge n 1 with h1 | h1
  · have HE := Lib.hid (show keyB s = false by rw [HK.out, decide_eq_false (by omega)]; rfl)
    obtain rfl : n = 0 := by omega
    clear h1
    go_enter Try.func56, Try.ntmps56
    go_wp2
    go_returns
    exact ⟨_, rfl, by rw [HE.out]; rfl, Below.refl _ _⟩
  · have p1 : (1 : Int) ≤ (n : Int) := by omega
    have p1' : 1 ≤ n := h1
    rcases Nat.lt_or_ge 12 n with h2 | h2
    · have HE := Lib.hid (show keyB s = false by rw [HK.out, decide_eq_false (p := n ≤ 12) (by omega), Bool.and_false])
      have p2 : ¬ (n : Int) ≤ 12 := by omega
      have p2' : ¬ n ≤ 12 := by omega
      go_enter Try.func56, Try.ntmps56
      go_wp2
      go_returns
      exact ⟨_, rfl, by rw [HE.out]; rfl, Below.refl _ _⟩
    · have HE := Lib.hid (show keyB s = true by rw [HK.out, decide_eq_true (by omega), decide_eq_true (p := n ≤ 12) (by omega)]; rfl)
      have p2 : (n : Int) ≤ 12 := by omega
      have p2' : n ≤ 12 := by omega
      go_enter Try.func56, Try.ntmps56
      go_wp2
      go_returns
      exact ⟨_, rfl, by rw [HE.out]; rfl, Below.refl _ _⟩
set_option maxHeartbeats 1600000 in
set_option maxRecDepth 100000 in
theorem zvalue_any (s : Str) (n : Nat) (hn : s.size = n) (hs : n ≤ 1000000000) (w : World) : Calls Try.prog 57 #[.string s] w (Ret (fun v _ => v = .bool (decide (n ≤ 24))) w) := by
  have HN := Lib.hid hn
  rcases Nat.lt_or_ge 24 n with h2 | h2
  · have HE := Lib.hid (show decide (n ≤ 24) = false from decide_eq_false (by omega))
    have p2 : ¬ (n : Int) ≤ 24 := by omega
    have p2' : ¬ n ≤ 24 := by omega
    go_enter Try.func57, Try.ntmps57
    go_wp2
    go_returns
    exact ⟨_, rfl, by first | rfl | (rw [HE.out]; rfl), Below.refl _ _⟩
  · have HE := Lib.hid (show decide (n ≤ 24) = true from decide_eq_true h2)
    have p2 : (n : Int) ≤ 24 := by omega
    have p2' : n ≤ 24 := h2
    go_enter Try.func57, Try.ntmps57
    go_wp2
    go_returns
    exact ⟨_, rfl, by first | rfl | (rw [HE.out]; rfl), Below.refl _ _⟩
set_option maxHeartbeats 6400000 in
set_option maxRecDepth 100000 in
theorem zbatch_any (A : Option Addr) (n c : Nat) (cs : List Cg) (w : World) (h : Rv w 3 A n c (ccs cs)) (hn : n ≤ 1000) (hcs : ∀ c ∈ cs, c.k.size ≤ 1000000000 ∧ c.v.size ≤ 1000000000) :
    Calls Try.prog 14 #[.slice A n c] w (Ret (fun v _ => v = .bool (batB cs)) w) := by
  have hl : cs.length = n := by have := h.len; rw [ccs_len] at this; omega
  have hle := h.le
  have hcp := h.cap
  have H := Lib.hid h
  have HL := Lib.hid hl
  have HC := Lib.hid hcs
  clear h hl hcs
  go_enter Try.func14, Try.ntmps14
  go_wp2_with fail
  go_loopw [3] (fun i wr => ∃ j : Nat, j ≤ n ∧ i = .int .i64 (j : Int) ∧ (cs.take j).all chgB = true ∧ Ext w wr) (fun i _ => n - (intOf i).toNat)
  case atStart => exact ⟨0, by omega, rfl, by simp, Ext.refl _⟩
  case round =>
    obtain ⟨j, hj, rfl, hall, hx⟩ := hrel
    have HALL := Lib.hid hall
    have HX := Lib.hid hx
    clear hall
    by_cases hjn : j < n
    · have pj : (j : Int) < (n : Int) := by omega
      have hjl : j < cs.length := by rw [HL.out]; exact hjn
      obtain ⟨b, o, rfl, hc⟩ := (H.out.below hx).at_ (by omega)
      obtain ⟨c1, c2, c3⟩ := ccs_at cs j hjl
      have k1 := hc _ _ c1
      have k2 := hc _ _ c2
      have k3 := hc _ _ c3
      rw [← Nat.add_assoc] at k2 k3
      have hsz := HC.out _ (List.getElem_mem hjl)
      have HN := Lib.hid (show (cs.take (j + 1)).all chgB = chgB cs[j] by rw [List.take_succ_eq_append_getElem hjl, List.all_append, HALL.out]; simp)
      have HM := Lib.hid (show chgB cs[j] = false → batB cs = false from fun hf => by
        unfold batB
        have : cs.all chgB = false := by
          rw [← Bool.not_eq_true, List.all_eq_true]
          intro ha
          rw [ha _ (List.getElem_mem hjl)] at hf
          cases hf
        rw [this]; rfl)
      obtain ⟨x, hx0⟩ : ∃ x, cs[j] = x := ⟨_, rfl⟩
      rw [hx0] at k1 k2 k3 hsz HN HM
      obtain ⟨k, v, gone⟩ := x
      have K2 := Lib.hid (And.intro k2 k3)
      clear hc c1 c2 c3 hx0 hjl hx k2 k3
      have hks : k.size ≤ 1000000000 := hsz.1
      obtain ⟨q, hq⟩ : ∃ q, v.size = q := ⟨_, rfl⟩
      have hqs : q ≤ 1000000000 := by rw [← hq]; exact hsz.2
      have HQ := Lib.hid hq
      have HCH := Lib.hid (show chgB ⟨k, v, gone⟩ = (keyB k && decide (q ≤ 24) && (!gone || decide (q = 0))) by unfold chgB; rw [hq])
      obtain ⟨kb, hkb⟩ : ∃ kb, keyB k = kb := ⟨_, rfl⟩
      rw [hkb] at HCH
      have HKB := Lib.hid hkb
      have hvl : v.toList.length = q := by rw [ByteArray.toList_eq]; exact hq
      have HVL := Lib.hid hvl
      clear hkb hsz hq hvl
      go_wp2_with fail
      refine (zkey_any k hks _).mono ?_
      rintro e w3 ⟨z3, rfl, rfl, b3⟩
      rw [HKB.out]
      have HXA := Lib.hid (show Ext w w3 from bt HX.out b3)
      have k2 := ext_cell b3 K2.out.1
      have K3 := Lib.hid (And.intro (ext_cell b3 K2.out.1) (ext_cell b3 K2.out.2))
      clear b3 k1
      cases kb with
      | false =>
        have HE := Lib.hid (HM.out (by rw [HCH.out]; rfl))
        go_wp2
        go_returns
        exact ⟨_, rfl, by rw [HE.out]; rfl, HXA.out⟩
      | true =>
        go_wp2_with fail
        refine (zvalue_any v q HQ.out hqs _).mono ?_
        rintro e w4 ⟨z4, rfl, rfl, b4⟩
        have HXB := Lib.hid (show Ext w w4 from bt HXA.out b4)
        have k2' := ext_cell b4 K3.out.1
        have k3' := ext_cell b4 K3.out.2
        clear b4 k2
        rcases Nat.lt_or_ge 24 q with h2 | h2
        · have HE := Lib.hid (HM.out (by rw [HCH.out, decide_eq_false (p := q ≤ 24) (by omega)]; rfl))
          rw [decide_eq_false (p := q ≤ 24) (by omega)]
          go_wp2
          go_returns
          exact ⟨_, rfl, by rw [HE.out]; rfl, HXB.out⟩
        · rw [decide_eq_true (p := q ≤ 24) (by omega)]
          cases gone with
          | false =>
            have HE := Lib.hid (show (cs.take (j + 1)).all chgB = true by rw [HN.out, HCH.out, decide_eq_true (p := q ≤ 24) (by omega)]; rfl)
            go_wp2
            go_roundw
            case rel => exact ⟨j + 1, by omega, by go_num, HE.out, HXB.out⟩
            case measure => simp [intOf]; omega
          | true =>
            by_cases hq0 : q = 0
            · subst hq0
              have hv0 : v.toList = [] := List.eq_nil_of_length_eq_zero HVL.out
              have hv1 : v.toList.isEmpty = true := by rw [hv0]; rfl
              have HE := Lib.hid (show (cs.take (j + 1)).all chgB = true by rw [HN.out, HCH.out]; rfl)
              go_wp2
              go_roundw
              case rel => exact ⟨j + 1, by omega, by go_num, HE.out, HXB.out⟩
              case measure => simp [intOf]; omega
            · have hv0 : ¬ v.toList = [] := fun e => hq0 (by rw [← HVL.out, e]; rfl)
              have hv1 : v.toList.isEmpty = false := by rw [List.isEmpty_eq_false_iff]; exact hv0
              have HE := Lib.hid (HM.out (by rw [HCH.out, decide_eq_false hq0, decide_eq_true (p := q ≤ 24) (by omega)]; rfl))
              clear hq0
              go_wp2
              go_returns
              exact ⟨_, rfl, by rw [HE.out]; rfl, HXB.out⟩
    · obtain rfl : j = n := by omega
      have HE := Lib.hid (show batB cs = (decide (1 ≤ j) && decide (j ≤ 16)) by
        have h := HALL.out
        rw [List.take_of_length_le (by rw [HL.out]; exact Nat.le_refl _)] at h
        unfold batB
        rw [h, HL.out]; rfl)
      clear hx
      rcases Nat.lt_or_ge j 1 with h1 | h1
      · obtain rfl : j = 0 := by omega
        go_wp2
        go_returns
        exact ⟨_, rfl, by rw [HE.out]; rfl, HX.out⟩
      · have p1 : (1 : Int) ≤ (j : Int) := by omega
        have p1' : 1 ≤ j := h1
        rcases Nat.lt_or_ge 16 j with h2 | h2
        · have p2 : ¬ (j : Int) ≤ 16 := by omega
          have p2' : ¬ j ≤ 16 := by omega
          go_wp2
          go_returns
          exact ⟨_, rfl, by rw [HE.out, decide_eq_true p1', decide_eq_false p2']; rfl, HX.out⟩
        · have p2 : (j : Int) ≤ 16 := by omega
          have p2' : j ≤ 16 := by omega
          go_wp2
          go_returns
          exact ⟨_, rfl, by rw [HE.out, decide_eq_true p1', decide_eq_true p2']; rfl, HX.out⟩
end Go.Proofs.Tb
