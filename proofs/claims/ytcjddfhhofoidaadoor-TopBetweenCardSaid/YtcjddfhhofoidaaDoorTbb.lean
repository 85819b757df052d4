/- TopBetween returns true. -/
import Derived.Test.YtcjddfhhofoidaaDoorCsw
import Derived.Test.YtcjddfhhofoidaaDoorNed
import Derived.Test.YtcjddfhhofoidaaDoorFlb
import Derived.Test.YtcjddfhhofoidaaDoorApx
import Derived.Deep.CutBlock
set_option linter.unusedVariables false
set_option linter.unusedSimpArgs false
namespace Go.Proofs.Tb
open Go.RowKit
attribute [local go_sem] cell_set_same

section
variable {ws : List Int} {ts : List Tt}
theorem pC_inv (h : Cv ws ts) (s : Nat) : (pC ws ts s = 0 ∧ ∀ i, i < ts.length → ¬ spl s ((tsN ts).getD i (0, 0))) ∨
    ∃ i, i < ts.length ∧ spl s ((tsN ts).getD i (0, 0)) ∧ pC ws ts s = tC ts i * pW ws s + pC ws ts (inn s ((tsN ts).getD i (0, 0)).2) + pC ws ts (outs s ((tsN ts).getD i (0, 0)).2) := by
  rcases bst_inv (wsN ws) (tsN ts) s with hv | ⟨i, hi, e, a1, a2, hc⟩
  · refine Or.inl ⟨by unfold pC; rw [hv]; rfl, fun i hi hsp => ?_⟩
    have h1 := (tryL_min (c := bst (wsN ws) (tsN ts)) (W := wt (wsN ws) s) (k := (tsN ts).length) (by rw [tsN_len]; exact hi) hsp).1
    rw [← bst_eq, hv] at h1
    exact h1 rfl
  · rw [tsN_len] at hi
    refine Or.inr ⟨i, hi, ⟨a1, a2⟩, ?_⟩
    have hx := Int.toNat_of_nonneg (h.cost_nn i)
    unfold pC pW
    rw [tsN_get] at hc ⊢
    simp only at hc ⊢
    rw [hc, Int.natCast_add, Int.natCast_add, Int.natCast_mul, hx, Int.mul_comm]
/-- Some of the tests. -/
def fewL (ts : List Tt) (ks : List Int) : List Tt := ks.map fun x => ts.getD x.toNat (0, [])
theorem fewL_get (ts : List Tt) (ks : List Int) {i : Nat} (hi : i < ks.length) : (fewL ts ks).getD i (0, []) = ts.getD (ks.getD i 0).toNat (0, []) := by
  unfold fewL
  simp [List.getD, hi]
theorem fewL_tC (ts : List Tt) (ks : List Int) {i : Nat} (hi : i < ks.length) : tC (fewL ts ks) i = tC ts (ks.getD i 0).toNat ∧ tS (fewL ts ks) i = tS ts (ks.getD i 0).toNat := by
  unfold tC tS
  rw [fewL_get ts ks hi]
  exact ⟨rfl, rfl⟩
theorem fewL_tsN (ts : List Tt) (ks : List Int) {i : Nat} (hi : i < ks.length) : (tsN (fewL ts ks)).getD i (0, 0) = (tsN ts).getD (ks.getD i 0).toNat (0, 0) := by
  rw [tsN_get, tsN_get, (fewL_tC ts ks hi).1, (fewL_tC ts ks hi).2]
theorem fewL_cv (h : Cv ws ts) {ks : List Int} (hl : ks.length ≤ 16) (hk : ∀ j, j < ks.length → 0 ≤ ks.getD j 0 ∧ ks.getD j 0 < (ts.length : Int)) : Cv ws (fewL ts ks) := by
  have hlen : (fewL ts ks).length = ks.length := by unfold fewL; rw [List.length_map]
  refine ⟨⟨h.1.1, h.1.2.1, by omega⟩, h.2.1, fun j hj => ?_⟩
  rw [hlen] at hj
  rw [(fewL_tC ts ks hj).1, (fewL_tC ts ks hj).2]
  have := hk j hj
  exact h.2.2 _ (by omega)
/-- With fewer tests, that tell apart whatever all do, the best plan is no cheaper. -/
theorem few_dear (h : Cv ws ts) {ks : List Int} (hc : Cv ws (fewL ts ks)) (hk : ∀ j, j < ks.length → 0 ≤ ks.getD j 0 ∧ ks.getD j 0 < (ts.length : Int)) (he : EnP ws.length ts ks) :
    ∀ s, s < 2 ^ ws.length → pC ws ts s ≤ pC ws (fewL ts ks) s := by
  have hlen : (fewL ts ks).length = ks.length := by unfold fewL; rw [List.length_map]
  intro s
  induction s using Nat.strongRecOn with
  | _ s ih =>
    intro hs
    have h10 := pow_le_1024 h.len10
    rcases pC_inv hc s with ⟨h0, hn⟩ | ⟨i, hi, hsp, e⟩
    · have hno : pC ws ts s = 0 := by
        rcases pC_inv h s with ⟨h1, _⟩ | ⟨k, hkl, hsp, _⟩
        · exact h1
        · exfalso
          obtain ⟨a, b, ha, hb, hta, htb, hma, hmb⟩ := spl_ex hs hsp
          rw [tsN_get] at hma hmb
          have hd : difB ts (a : Int) (b : Int) k = true := by
            have h1 := shB_bit (xs := tS ts k) (fun j hj => (h.shows hkl j hj).1)
            unfold difB
            rw [h1, h1, hma, hmb]
            rfl
          have htd : tdB ts ks (a : Int) (b : Int) = true := by
            have hall : ∀ x y : Nat, (difB ts (x : Int) (y : Int) k = true) → tdB ts (upL ts.length) (x : Int) (y : Int) = true := fun x y hxy => tdB_iff.2 ⟨(k : Int), upL_mem'.2 ⟨by omega, by omega⟩, hxy⟩
            rcases Nat.lt_trichotomy a b with hlt | heq | hgt
            · have hd' : difB ts (b : Int) (a : Int) k = true := by unfold difB at hd ⊢; rw [bne_comm]; exact hd
              obtain ⟨x, hx, hxd⟩ := tdB_iff.1 (he b a hb hlt (hall b a hd'))
              exact tdB_iff.2 ⟨x, hx, by unfold difB at hxd ⊢; rw [bne_comm]; exact hxd⟩
            · subst heq
              rw [hma] at hmb
              cases hmb
            · exact he a b ha hgt (hall a b hd)
          obtain ⟨x, hx, hxd⟩ := tdB_iff.1 htd
          obtain ⟨q, hq, rfl⟩ := List.getElem_of_mem hx
          have hg : ks.getD q 0 = ks[q] := by simp [List.getD, hq]
          have hr := hk q hq
          rw [hg] at hr
          have hxl : ks[q].toNat < ts.length := by omega
          refine hn q (by rw [hlen]; exact hq) ?_
          rw [fewL_tsN ts ks hq, hg, tsN_get]
          unfold difB at hxd
          have h1 := shB_bit (xs := tS ts ks[q].toNat) (fun j hj => (h.shows hxl j hj).1)
          rw [h1, h1] at hxd
          exact spl_of hta htb (by simpa using hxd)
      rw [hno, h0]
      exact Int.le_refl _
    · rw [hlen] at hi
      have hr := hk i hi
      have hxl : (ks.getD i 0).toNat < ts.length := by omega
      rw [fewL_tsN ts ks hi] at hsp e
      rw [(fewL_tC ts ks hi).1] at e
      have hl := spl_lt hsp
      have h1 := pC_min h hxl hsp
      have h2 := ih _ hl.1 (by omega)
      have h3 := ih _ hl.2 (by omega)
      omega
/-- What the first k tests that split a set cost together. -/
def spc (ts : List Tt) (s : Nat) : Nat → Int
  | 0 => 0
  | k + 1 => spc ts s k + if inn s ((tsN ts).getD k (0, 0)).2 ≠ 0 ∧ outs s ((tsN ts).getD k (0, 0)).2 ≠ 0 then tC ts k else 0
theorem spc_nn (h : Cv ws ts) (s : Nat) : ∀ k, 0 ≤ spc ts s k
  | 0 => Int.le_refl _
  | k + 1 => by
    have := spc_nn h s k
    have := h.cost_nn k
    unfold spc
    split <;> omega
theorem sub_split {s s' m : Nat} (hs : ∀ j, s'.testBit j = true → s.testBit j = true) (h : inn s' m ≠ 0 ∧ outs s' m ≠ 0) : inn s m ≠ 0 ∧ outs s m ≠ 0 := by
  obtain ⟨a, b, _, _, ha, hb, hma, hmb⟩ := spl_ex (n := s' + 1) (s := s') (m := m) (Nat.lt_of_lt_of_le Nat.lt_two_pow_self (Nat.pow_le_pow_right (by omega) (by omega))) h
  exact spl_of (hs a ha) (hs b hb) (by rw [hma, hmb]; simp)
theorem spc_sub (h : Cv ws ts) {s s' i : Nat} (hs : ∀ j, s'.testBit j = true → s.testBit j = true) (hi : inn s ((tsN ts).getD i (0, 0)).2 ≠ 0 ∧ outs s ((tsN ts).getD i (0, 0)).2 ≠ 0)
    (hn : ¬ (inn s' ((tsN ts).getD i (0, 0)).2 ≠ 0 ∧ outs s' ((tsN ts).getD i (0, 0)).2 ≠ 0)) : ∀ k, spc ts s' k + (if i < k then tC ts i else 0) ≤ spc ts s k
  | 0 => by simp [spc]
  | k + 1 => by
    have ih := spc_sub h hs hi hn k
    have hc := h.cost_nn k
    have hci := h.cost_nn i
    unfold spc
    by_cases hk : i = k
    · subst hk
      rw [if_neg hn, if_pos hi, if_pos (Nat.lt_succ_self i)]
      rw [if_neg (Nat.lt_irrefl i)] at ih
      omega
    · have e : (if i < k + 1 then tC ts i else 0) = if i < k then tC ts i else 0 := by
        by_cases hlt : i < k
        · rw [if_pos hlt, if_pos (by omega)]
        · rw [if_neg hlt, if_neg (by omega)]
      rw [e]
      by_cases h1 : inn s' ((tsN ts).getD k (0, 0)).2 ≠ 0 ∧ outs s' ((tsN ts).getD k (0, 0)).2 ≠ 0
      · rw [if_pos h1, if_pos (sub_split hs h1)]
        omega
      · rw [if_neg h1]
        split <;> omega
theorem inn_sub {s m j : Nat} (h : (inn s m).testBit j = true) : s.testBit j = true ∧ m.testBit j = true := by
  unfold inn at h
  rw [Nat.testBit_and, Bool.and_eq_true] at h
  exact h
theorem outs_sub {s m j : Nat} (h : (outs s m).testBit j = true) : s.testBit j = true ∧ m.testBit j = false := by
  unfold outs at h
  rw [Nat.testBit_xor, Nat.testBit_and] at h
  cases hs : s.testBit j <;> cases hm : m.testBit j <;> simp [hs, hm] at h ⊢
theorem inn_no {s m : Nat} : ¬ (inn (inn s m) m ≠ 0 ∧ outs (inn s m) m ≠ 0) := by
  rintro ⟨_, h⟩
  obtain ⟨j, hj⟩ := Nat.exists_testBit_of_ne_zero h
  obtain ⟨h1, h2⟩ := outs_sub hj
  rw [(inn_sub h1).2] at h2
  cases h2
theorem outs_no {s m : Nat} : ¬ (inn (outs s m) m ≠ 0 ∧ outs (outs s m) m ≠ 0) := by
  rintro ⟨h, _⟩
  obtain ⟨j, hj⟩ := Nat.exists_testBit_of_ne_zero h
  obtain ⟨h1, h2⟩ := inn_sub hj
  rw [(outs_sub h1).2] at h2
  cases h2
/-- The best plan costs no more than doing all tests that split. -/
theorem pC_spc (h : Cv ws ts) : ∀ s, pC ws ts s ≤ pW ws s * spc ts s ts.length := by
  intro s
  induction s using Nat.strongRecOn with
  | _ s ih =>
    have hw := pW_bd h s
    have hsn := spc_nn h s ts.length
    rcases pC_inv h s with ⟨h0, _⟩ | ⟨i, hi, hsp, e⟩
    · rw [h0]
      exact Int.mul_nonneg hw.1 hsn
    · have hl := spl_lt hsp
      have h1 := ih _ hl.1
      have h2 := ih _ hl.2
      have hpw := pW_split h hi s
      have a1 := spc_sub h (s := s) (s' := inn s ((tsN ts).getD i (0, 0)).2) (i := i) (fun j hj => (inn_sub hj).1) hsp inn_no ts.length
      have a2 := spc_sub h (s := s) (s' := outs s ((tsN ts).getD i (0, 0)).2) (i := i) (fun j hj => (outs_sub hj).1) hsp outs_no ts.length
      rw [if_pos hi] at a1 a2
      have w1 := pW_bd h (inn s ((tsN ts).getD i (0, 0)).2)
      have w2 := pW_bd h (outs s ((tsN ts).getD i (0, 0)).2)
      have m1 := Int.mul_le_mul_of_nonneg_left (show spc ts (inn s ((tsN ts).getD i (0, 0)).2) ts.length ≤ spc ts s ts.length - tC ts i by omega) w1.1
      have m2 := Int.mul_le_mul_of_nonneg_left (show spc ts (outs s ((tsN ts).getD i (0, 0)).2) ts.length ≤ spc ts s ts.length - tC ts i by omega) w2.1
      rw [e, hpw]
      obtain ⟨x, hx⟩ : ∃ x, pW ws (inn s ((tsN ts).getD i (0, 0)).2) = x := ⟨_, rfl⟩
      obtain ⟨y, hy⟩ : ∃ y, pW ws (outs s ((tsN ts).getD i (0, 0)).2) = y := ⟨_, rfl⟩
      obtain ⟨c, hc⟩ : ∃ c, tC ts i = c := ⟨_, rfl⟩
      obtain ⟨T, hT⟩ : ∃ T, spc ts s ts.length = T := ⟨_, rfl⟩
      simp only [hx, hy, hc, hT] at m1 m2 h1 h2 ⊢
      rw [Int.mul_sub] at m1 m2
      rw [Int.add_mul, Int.mul_add, Int.mul_comm c x, Int.mul_comm c y]
      omega
theorem spc_le (h : Cv ws ts) (s : Nat) : ∀ k, k ≤ ts.length → spc ts s k ≤ ((ts.take k).map fun t => t.1).sum
  | 0, _ => by simp [spc]
  | k + 1, hk => by
    have ih := spc_le h s k (by omega)
    have hc := h.cost_nn k
    have hkl : k < ts.length := hk
    rw [List.take_succ_eq_append_getElem hkl, List.map_append, List.sum_append]
    have e : tC ts k = ts[k].1 := by simp [tC, List.getD, hkl]
    unfold spc
    split
    · simp only [List.map_cons, List.map_nil, List.sum_cons, List.sum_nil]; omega
    · simp only [List.map_cons, List.map_nil, List.sum_cons, List.sum_nil]; omega
theorem few_all (h : Cv ws ts) {ks : List Int} (hc : Cv ws (fewL ts ks)) (s : Nat) : pC ws (fewL ts ks) s ≤ pW ws s * csW ts ks := by
  have h1 := pC_spc hc s
  have h2 := spc_le hc s _ (Nat.le_refl _)
  rw [List.take_length] at h2
  have e : ((fewL ts ks).map fun t => t.1).sum = csW ts ks := by
    unfold fewL csW
    rw [List.map_map]
    rfl
  rw [e] at h2
  exact Int.le_trans h1 (Int.mul_le_mul_of_nonneg_left h2 (pW_bd hc s).1)
theorem pW_all (h : Cv ws ts) : pW ws (allS ws) = wS ws (upL ws.length) := by
  rw [pW_wS h]
  unfold allS
  rw [mems_full]
  rfl
end
theorem tfold_any (x : Int) (n : Nat) (h1 : 1 ≤ n) (h2 : n ≤ 2000) (w : World) : Calls Tryd.prog 33 #[.int .i64 x, .int .i64 (n : Int)] w (Ret (fun v _ => ∃ q : Nat, q < n ∧ v = .int .i64 (q : Int)) w) := by
  obtain ⟨q, hq, he⟩ := cyc x n h1 (by omega)
  have hn0 : (n : Int) ≠ 0 := by omega
  go_enter Tryd.func33, Tryd.ntmps33
  go_wp2
  go_returns
  exact ⟨_, rfl, ⟨q, hq, by rw [← he]; rfl⟩, Below.refl _ _⟩
theorem ic_app4 (a b : List Int) : ic (a ++ b) = ic a ++ ic b := by unfold ic; rw [List.map_append]
theorem OwP.grownG {T T' : TypeId} {base b0 k n : Nat} {w w' : World} {v z : Value} {bs : List Tt} {zs : List Value} (h : OwP T base w v bs) (hz : w.ownsRow b0 T' k z n zs) (hg : w.grownBy w' z.ownBlock) (hT : T' ≠ T) (hI : T' ≠ TIN) : OwP T base w' v bs := by
  obtain ⟨d, h1, h2⟩ := h
  refine ⟨d, h1.kept hg ?_, h2.imp fun _ _ hs => hs.grown hg (own_tag hz hI)⟩
  rcases h1.2 with ⟨e, _⟩ | ⟨g, cap, cur, e, hb, hh, _⟩
  · left; rw [e]; rfl
  · right
    rw [e]
    intro e2
    exact own_tag hz hT g e2.symm _ _ hh
theorem SlP.sat {T : TypeId} {w : World} {A : Option Addr} {n c : Nat} {bs : List Tt} (h : SlP T w A n c bs) {j : Nat} (hj : j < n) : ∃ b o A' n' c', A = some ⟨b, o, none⟩ ∧ w.cell? ⟨b, o + j * 2, none⟩ = some (.int .i64 (tC bs j)) ∧ w.cell? ⟨b, o + j * 2 + 1, none⟩ = some (.slice A' n' c') ∧ SL TIN w (.slice A' n' c') (ic (tS bs j)) := by
  obtain ⟨d, h1, h2⟩ := h.ex
  obtain ⟨b, o, hA, _, hc⟩ := h2 (by omega)
  obtain ⟨x, u, e, hx, hu⟩ := h1.get j (by rw [h.len]; exact hj)
  have hjd : j < d.length := by rw [h1.len, h.len]; exact hj
  have ed : d[j] = (x, u) := by rw [List.getElem?_eq_getElem hjd] at e; injection e
  have g0 := cel_get (prE_len d) hjd (show 0 < 2 by omega)
  have g1 := cel_get (prE_len d) hjd (show 1 < 2 by omega)
  rw [ed] at g0 g1
  have c0 := hc _ _ (g0.trans rfl)
  have c1 := hc _ _ (g1.trans rfl)
  rw [Nat.add_zero] at c0
  rw [← Nat.add_assoc] at c1
  obtain ⟨A', c', rfl, hil⟩ := hu.il
  exact ⟨b, o, A', _, c', hA, by rw [c0, hx], c1, hu⟩
def okW8 (xs : List Int) : Prop := ∀ x ∈ xs, 1 ≤ x ∧ x ≤ 1000
def okTs (n : Nat) (ts : List Tt) : Prop := ∀ t ∈ ts, (0 ≤ t.1 ∧ t.1 ≤ 1000) ∧ Ris t.2 (n : Int)
theorem cv_of {xs : List Int} {ts : List Tt} (h1 : 1 ≤ xs.length) (h2 : xs.length ≤ 8) (h3 : okW8 xs) (h4 : ts.length ≤ 10) (h5 : okTs xs.length ts) : Cv xs ts := by
  refine ⟨⟨h1, by omega, by omega⟩, fun j hj => ?_, fun j hj => ?_⟩
  · exact h3 _ (getD_in hj)
  · have hm : ts.getD j (0, []) ∈ ts := getD_in hj
    exact h5 _ hm
def shP (sh : List Int) (k : Nat) : Prop := sh.Pairwise (· < ·) ∧ ∀ x ∈ sh, 0 ≤ x ∧ x < (k : Int)
theorem shP.ris {sh : List Int} {k : Nat} (h : shP sh k) : Ris sh (k : Int) := ris_of h.1 h.2
theorem shP.add {sh : List Int} {k : Nat} (h : shP sh (k + 1)) (hl : sh = [] ∨ sh.getD (sh.length - 1) 0 ≠ (k : Int)) : shP (sh ++ [(k : Int)]) (k + 1) := by
  have hlt : ∀ x ∈ sh, x < (k : Int) := by
    rcases hl with rfl | hl
    · intro x hx; cases hx
    · intro x hx
      obtain ⟨i, hi, rfl⟩ := List.getElem_of_mem hx
      have hr := h.ris
      have hlast := (hr.bd (sh.length - 1) (by omega)).2
      have hg : sh.getD i 0 = sh[i] := by simp [List.getD, hi]
      rw [← hg]
      by_cases hil : i = sh.length - 1
      · subst hil; omega
      · have := hr.step (sh.length - 1) (by omega) i (by omega)
        omega
  refine ⟨?_, fun x hx => ?_⟩
  · rw [List.pairwise_append]
    exact ⟨h.1, List.pairwise_singleton _ _, fun a ha b hb => by
      rw [List.mem_singleton] at hb
      subst hb
      exact hlt a ha⟩
  · rcases List.mem_append.1 hx with hx | hx
    · exact h.2 x hx
    · rw [List.mem_singleton] at hx
      subst hx
      omega
theorem shP.up {sh : List Int} {k : Nat} (h : shP sh k) : shP sh (k + 1) := ⟨h.1, fun x hx => by have := h.2 x hx; omega⟩
theorem wS_upL (ws : List Int) (k : Nat) : wS ws (upL (k + 1)) = wS ws (upL k) + ws.getD k 0 := by
  rw [upL_succ]
  unfold wS
  rw [List.map_append, List.sum_append]
  simp
theorem fewL_take (ts : List Tt) {ks : List Int} {k : Nat} (h : k < ks.length) : fewL ts (ks.take (k + 1)) = fewL ts (ks.take k) ++ [ts.getD (ks.getD k 0).toNat (0, [])] := by
  unfold fewL
  rw [List.take_succ_eq_append_getElem h, List.map_append]
  simp [List.getD, h]
set_option maxHeartbeats 12800000 in
set_option maxRecDepth 100000 in
theorem between_any (A A' : Option Addr) (n c m d : Nat) (ws : List Int) (ts : List Tt) (w : World) (h : Il w A n c ws) (h' : Ts w A' m d ts) (ht : Tab w) :
    Calls Tryd.prog 9 #[.slice A n c, .slice A' m d] w (Ret (fun v _ => v = .bool true) w) := by
  have hn := h.le
  have hc := h.cap
  have hm := h'.le
  have hd := h'.cap
  have H := Lib.hid h
  have H' := Lib.hid h'
  have HT := Lib.hid ht
  clear h h' ht
  go_enter Tryd.func9, Tryd.ntmps9
  go_upto_region 2 with fail
  obtain ⟨B, hB⟩ : ∃ B, w.heap.size = B := ⟨_, rfl⟩
  have hot0 : OwT TFA B ((w.alloc (.cells #[] TFA)).alloc (.cells #[] TTE)) (.slice (some ⟨B, 0, none⟩) 0 0) [] := by
    rw [← hB]
    exact own_below (World.ownsRow_lit w #[] 0 (Nat.le_refl _) (by unfold maxLen; omega) rfl) (Ext.allocR _ _)
  have hop0 : OwP TTE B ((w.alloc (.cells #[] TFA)).alloc (.cells #[] TTE)) (.slice (some ⟨B + 1, 0, none⟩) 0 0) [] := by
    have h1 := OwP.lit0 (base := B) (W := w.alloc (.cells #[] TFA)) (by simp; omega)
    rw [show (w.alloc (.cells #[] TFA)).heap.size = B + 1 by simp [hB]] at h1
    exact h1
  have hbw0 : Below B w ((w.alloc (.cells #[] TFA)).alloc (.cells #[] TTE)) := by
    rw [← hB]
    exact bt (Ext.allocR _ _) (Ext.allocR _ _)
  have hsz0 : B ≤ ((w.alloc (.cells #[] TFA)).alloc (.cells #[] TTE)).heap.size := by simp; omega
  rw [hB]
  refine wp_world (fun W1 => OwT TFA B W1 (.slice (some ⟨B, 0, none⟩) 0 0) [] ∧ OwP TTE B W1 (.slice (some ⟨B + 1, 0, none⟩) 0 0) [] ∧ Below B w W1 ∧ B ≤ W1.heap.size) ⟨hot0, hop0, hbw0, hsz0⟩ ?_
  clear hot0 hop0 hbw0 hsz0
  rintro W1 hW1
  have HB := Lib.hid hB
  have H1 := Lib.hid hW1
  clear hW1 hB
  go_upto_block 0 with fail
  go_cut [5] (fun s5 wx => ∃ (A3 : Option Addr) (n3 c3 : Nat) (xs : List Int), s5 = .slice A3 n3 c3 ∧ OwT TFA B wx (.slice A3 n3 c3) xs ∧ xs.length ≤ 8 ∧ okW8 xs ∧ OwP TTE B wx (.slice (some ⟨B + 1, 0, none⟩) 0 0) [] ∧ Below B w wx ∧ B ≤ wx.heap.size)
  case first =>
    go_wp2_with fail
    go_loopw [5, 7] (fun s i wr => ∃ (k : Nat) (A3 : Option Addr) (n3 c3 : Nat) (xs : List Int), k ≤ n ∧ k ≤ 8 ∧ i = .int .i64 (k : Int) ∧ s = .slice A3 n3 c3 ∧ xs.length = k ∧ okW8 xs ∧ OwT TFA B wr (.slice A3 n3 c3) xs ∧ OwP TTE B wr (.slice (some ⟨B + 1, 0, none⟩) 0 0) [] ∧ Below B w wr ∧ B ≤ wr.heap.size) (fun _ i _ => n - (intOf i).toNat)
    case atStart => exact ⟨0, _, _, _, [], by omega, by omega, rfl, rfl, rfl, (fun x hx => by cases hx), H1.out⟩
    case round =>
      clear H1
      obtain ⟨k, A3, n3, c3, xs, hk, hk8, rfl, rfl, hxl, hok, hot, hop, hbw, hsz⟩ := hrel
      have hxw : Ext w wr := by show Below w.heap.size w wr; rw [HB.out]; exact hbw
      have HOK := Lib.hid (And.intro hxl hok)
      have HOO := Lib.hid (And.intro hot (And.intro hop (And.intro hbw hsz)))
      clear hok hot hop hbw hsz
      by_cases hlt : k < n ∧ k < 8
      · have pk : (k : Int) < (n : Int) := by omega
        have pk8 : (k : Int) < 8 := by omega
        obtain ⟨b1, o1, rfl, hcell⟩ := (H.out.below hxw).at_ (by omega)
        have ck := hcell k hlt.1
        obtain ⟨x, hx⟩ : ∃ x, ws.getD k 0 = x := ⟨_, rfl⟩
        rw [hx] at ck
        clear hcell hx hxw hxl
        go_wp2_with fail
        refine (tfold_any x 1000 (by omega) (by omega) wr).mono ?_
        rintro e w2 ⟨v2, rfl, ⟨q, hq, rfl⟩, hb2⟩
        obtain ⟨V, hV⟩ : ∃ V : Int, (q : Int) + 1 = V := ⟨_, rfl⟩
        have wq : IntKind.i64.wrap ((q : Int) + 1) = V := by rw [IntWalk.i64_in _ (by omega), hV]
        have HVB := Lib.hid (show 1 ≤ V ∧ V ≤ 1000 by omega)
        have hsz2 : B ≤ (w2.alloc (.cells #[.int .i64 V] TFA)).heap.size := by have h1 := HOO.out.2.2.2; have h2 := hb2.size; simp; omega
        have x2 : Ext wr (w2.alloc (.cells #[.int .i64 V] TFA)) := bt hb2 (Ext.allocR _ _)
        have HZ := Lib.hid (And.intro (HOO.out.1.below x2) (And.intro (HOO.out.2.1.below x2) (HOO.out.2.2.1.trans (Below.mono x2 HOO.out.2.2.2))))
        have HCN := Lib.hid (cell_new w2 [.int .i64 V] TFA)
        have HLN := Lib.hid (show xs.length ≤ 1000 by rw [HOK.out.1]; omega)
        clear hb2 x2 ck hV
        go_wp2_with (at_builtin; refine wp_appE TFS TFA _ 1 8 fa_info Tryd.underlying22 rfl (by omega) (by omega) rfl _ _ rfl B (.slice A3 n3 c3) _ _ rfl HZ.out.1 ⟨w2.heap.size, 0, none⟩ 1 1 [.int .i64 V] rfl rfl HCN.out (int_one _) (by have := HLN.out; omega) (by omega) hsz2 ?_; intro v6 w6 hown6 hb6 hg6; have hn6 : OwT TFA B w6 v6 (xs ++ [V]) := OwT.mk (n := xs.length + 1) (by rw [List.length_append]; rfl) (by rw [ic_app4]; exact hown6); obtain ⟨A7, n7, c7, hv7, _⟩ := hn6.il; subst hv7; have oP6 := HZ.out.2.1.grownG HZ.out.1 hg6 (by decide) (by decide); have HE := Lib.hid (And.intro hn6 (And.intro oP6 (And.intro (HZ.out.2.2.trans hb6) (show B ≤ w6.heap.size from Nat.le_trans hsz2 hg6.size)))); clear hn6 oP6 hown6 hb6 hg6)
        go_roundw
        case rel =>
          exact ⟨k + 1, _, _, _, xs ++ [V], by omega, by omega, by go_num, rfl, by rw [List.length_append, HOK.out.1]; rfl, (fun y hy => by
            rcases List.mem_append.1 hy with hy | hy
            · exact HOK.out.2 y hy
            · rw [List.mem_singleton] at hy
              subst hy
              exact HVB.out), HE.out⟩
        case measure => simp [intOf]; omega
      · have HQ := Lib.hid (show ∃ (A3' : Option Addr) (n3' c3' : Nat) (xs' : List Int), Value.slice A3 n3 c3 = .slice A3' n3' c3' ∧ OwT TFA B wr (.slice A3' n3' c3') xs' ∧ xs'.length ≤ 8 ∧ okW8 xs' ∧ OwP TTE B wr (.slice (some ⟨B + 1, 0, none⟩) 0 0) [] ∧ Below B w wr ∧ B ≤ wr.heap.size from ⟨_, _, _, xs, rfl, HOO.out.1, by omega, HOK.out.2, HOO.out.2⟩)
        clear hxw HOK HOO hxl
        by_cases hkn : k < n
        · have pk : (k : Int) < (n : Int) := by omega
          have pk8 : ¬ ((k : Int) < 8) := by omega
          go_wp2_with fail
          go_meet
          exact HQ.out
        · obtain rfl : k = n := by omega
          go_wp2_with fail
          go_meet
          exact HQ.out
  case rest =>
    clear H1
    obtain ⟨A3, n3, c3, xs, rfl, hot, hx8, hok, hop, hbw, hsz⟩ := hcut
    have hln := hot.il_.len
    have HOO := Lib.hid (And.intro hot (And.intro hx8 (And.intro hok (And.intro hop (And.intro hbw hsz)))))
    clear hot hx8 hok hop hbw hsz
    go_upto_if 55 with fail
    go_cut [5] (fun s5 wx => ∃ (A3 : Option Addr) (n3 c3 : Nat) (xs : List Int), s5 = .slice A3 n3 c3 ∧ OwT TFA B wx (.slice A3 n3 c3) xs ∧ 1 ≤ xs.length ∧ xs.length ≤ 8 ∧ okW8 xs ∧ OwP TTE B wx (.slice (some ⟨B + 1, 0, none⟩) 0 0) [] ∧ Below B w wx ∧ B ≤ wx.heap.size)
    case first =>
      by_cases h0 : n3 = 0
      · subst h0
        have hxs : xs = [] := List.eq_nil_of_length_eq_zero hln
        subst hxs
        have x2 : Ext wc (wc.alloc (.cells #[.int .i64 3] TFA)) := Ext.allocR _ _
        have hsz2 : B ≤ (wc.alloc (.cells #[.int .i64 3] TFA)).heap.size := by have h1 := HOO.out.2.2.2.2.2; simp; omega
        have HZ := Lib.hid (And.intro (HOO.out.1.below x2) (And.intro (HOO.out.2.2.2.1.below x2) (HOO.out.2.2.2.2.1.trans (Below.mono x2 HOO.out.2.2.2.2.2))))
        have HCN := Lib.hid (cell_new wc [.int .i64 3] TFA)
        clear x2 hln
        go_wp2_with (at_builtin; refine wp_appE TFS TFA _ 1 8 fa_info Tryd.underlying22 rfl (by omega) (by omega) rfl _ _ rfl B (.slice A3 0 c3) _ _ rfl HZ.out.1 ⟨wc.heap.size, 0, none⟩ 1 1 [.int .i64 3] rfl rfl HCN.out (int_one _) (by simp) (by omega) hsz2 ?_; intro v6 w6 hown6 hb6 hg6; have hn6 : OwT TFA B w6 v6 [3] := OwT.mk (n := 1) rfl hown6; obtain ⟨A7, n7, c7, hv7, _⟩ := hn6.il; subst hv7; have oP6 := HZ.out.2.1.grownG HZ.out.1 hg6 (by decide) (by decide); have HE := Lib.hid (And.intro hn6 (And.intro oP6 (And.intro (HZ.out.2.2.trans hb6) (show B ≤ w6.heap.size from Nat.le_trans hsz2 hg6.size)))); clear hn6 oP6 hown6 hb6 hg6)
        go_meet
        exact ⟨_, _, _, [3], rfl, HE.out.1, by simp, by simp, (fun y hy => by rw [List.mem_singleton] at hy; omega), HE.out.2⟩
      · have h0' : (n3 : Int) ≠ 0 := by omega
        have g2 : ((n3 : Int) == 0) = false := by simpa using h0
        go_wp2_with fail
        go_meet
        exact ⟨_, _, _, xs, rfl, HOO.out.1, by omega, HOO.out.2⟩
    case rest =>
      clear HOO hln
      obtain ⟨A3, n3, c3, xs, rfl, hot, hx1, hx8, hok, hop, hbw, hsz⟩ := hcut
      have hln := hot.il_.len
      rw [hln] at hx1 hx8
      have p3 := hot.il_.le
      have p3' := hot.il_.cap
      have HLN := Lib.hid hln
      have HOK := Lib.hid hok
      have H1 := Lib.hid (And.intro hot (And.intro hop (And.intro hbw hsz)))
      clear hot hop hbw hsz hln hok
      go_upto_block 2 with fail
      go_cut [6] (fun s6 wx => ∃ (A6 : Option Addr) (n6 c6 : Nat) (tf : List Tt), s6 = .slice A6 n6 c6 ∧ tf.length ≤ 10 ∧ okTs n3 tf ∧ OwT TFA B wx (.slice A3 n3 c3) xs ∧ OwP TTE B wx (.slice A6 n6 c6) tf ∧ Below B w wx ∧ B ≤ wx.heap.size)
      case first =>
        go_wp2_with fail
        go_loopw [6, 8] (fun s i wr => ∃ (k : Nat) (A6 : Option Addr) (n6 c6 : Nat) (tf : List Tt), k ≤ m ∧ k ≤ 10 ∧ i = .int .i64 (k : Int) ∧ s = .slice A6 n6 c6 ∧ tf.length = k ∧ okTs n3 tf ∧ OwT TFA B wr (.slice A3 n3 c3) xs ∧ OwP TTE B wr (.slice A6 n6 c6) tf ∧ Below B w wr ∧ B ≤ wr.heap.size) (fun _ i _ => m - (intOf i).toNat)
        case atStart => exact ⟨0, _, _, _, [], by omega, by omega, rfl, rfl, rfl, (fun x hx => by cases hx), H1.out⟩
        case round =>
          clear H1
          obtain ⟨k, A6, n6, c6, tf, hk, hk8, rfl, rfl, htl, hokt, hot, hop, hbw, hsz⟩ := hrel
          have hxw : Ext w wr := by show Below w.heap.size w wr; rw [HB.out]; exact hbw
          have HOT := Lib.hid (And.intro htl hokt)
          have HOO := Lib.hid (And.intro hot (And.intro hop (And.intro hbw hsz)))
          clear hokt hot hop hbw hsz
          by_cases hlt : k < m ∧ k < 10
          · have pk : (k : Int) < (m : Int) := by omega
            have pk8 : (k : Int) < 10 := by omega
            obtain ⟨bT, oT, rfl, hcell⟩ := (H'.out.below hxw).at_ (by omega)
            obtain ⟨ck1, A5, n5, c5, ck2, il5⟩ := hcell k hlt.1
            obtain ⟨x, hx⟩ : ∃ x, tC ts k = x := ⟨_, rfl⟩
            rw [hx] at ck1
            obtain ⟨l5, hl5⟩ : ∃ l, tS ts k = l := ⟨_, rfl⟩
            rw [hl5] at il5
            have g5 := il5.le
            have g5' := il5.cap
            have I5 := Lib.hid il5
            have CK2 := Lib.hid ck2
            obtain ⟨wo, rfl⟩ : ∃ wo, wo = wr := ⟨_, rfl⟩
            clear hcell hx hl5 il5 hxw htl
            go_wp2_with fail
            refine (tfold_any x 1001 (by omega) (by omega) wo).mono ?_
            rintro e w2 ⟨v2, rfl, ⟨q, hq, rfl⟩, hb2⟩
            have HX2 := Lib.hid (show Ext wo w2 from hb2)
            clear hb2 ck1 ck2
            go_upto_region 12 with fail
            have b9 : Blk (w2.alloc (.cells #[.int .i64 (q : Int), .slice none 0 0] TTE)) w2.heap.size TTE #[.int .i64 (q : Int), .slice none 0 0] := Blk.new_ _ _ rfl
            have x9 : Ext w2 (w2.alloc (.cells #[.int .i64 (q : Int), .slice none 0 0] TTE)) := Ext.allocR _ _
            refine wp_world (fun W1 => Blk W1 w2.heap.size TTE #[.int .i64 (q : Int), .slice none 0 0] ∧ Ext w2 W1) ⟨b9, x9⟩ ?_
            clear b9 x9
            rintro W5 ⟨b9, x9⟩
            obtain ⟨p9, hp9⟩ : ∃ p, w2.heap.size = p := ⟨_, rfl⟩
            have hx9 : Below p9 w2 W5 := by rw [← hp9]; exact x9
            rw [hp9] at b9 ⊢
            have HP9 := Lib.hid hp9
            have H9 := Lib.hid (show Blk W5 p9 TTE #[.int .i64 (q : Int), .slice none 0 0] ∧ OwI p9 W5 (.slice none 0 0) [] ∧ shP [] 0 ∧ Below p9 w2 W5 from ⟨b9, OwI.nil _ _, ⟨List.Pairwise.nil, fun x hx => by cases hx⟩, hx9⟩)
            clear b9 x9 hx9 hp9
            go_wp2_with fail
            go_loopw [10] (fun i wi => ∃ (k2 : Nat) (A9 : Option Addr) (n9 c9 : Nat) (sh : List Int), k2 ≤ n3 ∧ i = .int .i64 (k2 : Int) ∧ Blk wi p9 TTE #[.int .i64 (q : Int), .slice A9 n9 c9] ∧ OwI p9 wi (.slice A9 n9 c9) sh ∧ shP sh k2 ∧ Below p9 w2 wi) (fun i _ => n3 - (intOf i).toNat)
            case atStart => exact ⟨0, _, _, _, [], by omega, rfl, H9.out⟩
            case round =>
              clear H9
              obtain ⟨k2, A9, n9, c9, sh, hk2, rfl, b9, ho9, hsh, hx9⟩ := hrel
              have H9 := Lib.hid (show Blk wr p9 TTE #[.int .i64 (q : Int), .slice A9 n9 c9] ∧ OwI p9 wr (.slice A9 n9 c9) sh ∧ shP sh (k2 + 1) ∧ Below p9 w2 wr from ⟨b9, ho9, hsh.up, hx9⟩)
              by_cases hk3 : k2 < n3
              · have pk2 : (k2 : Int) < (n3 : Int) := by omega
                clear b9 ho9 hsh hx9
                go_wp2_with fail
                go_loopw [11] (fun i wi => ∃ (j : Nat) (A9 : Option Addr) (n9 c9 : Nat) (sh : List Int), j ≤ n5 ∧ j ≤ 10 ∧ i = .int .i64 (j : Int) ∧ Blk wi p9 TTE #[.int .i64 (q : Int), .slice A9 n9 c9] ∧ OwI p9 wi (.slice A9 n9 c9) sh ∧ shP sh (k2 + 1) ∧ Below p9 w2 wi) (fun i _ => n5 - (intOf i).toNat)
                case atStart => exact ⟨0, _, _, _, sh, by omega, by omega, rfl, H9.out⟩
                case round =>
                  clear H9
                  obtain ⟨j, A9, n9, c9, sh, hj, hj10, rfl, b9, ho9, hsh, hx9⟩ := hrel
                  have hex : Ext w2 wr := by show Below w2.heap.size w2 wr; rw [HP9.out]; exact hx9
                  have ck2 := Ext.cell (bt HX2.out hex) CK2.out
                  have hshl : sh.length ≤ k2 + 1 := hsh.ris.short
                  have hl9 := ho9.ilv.len
                  have g9 := ho9.ilv.le
                  have g9' := ho9.ilv.cap
                  have H9 := Lib.hid (And.intro b9 (And.intro ho9 (And.intro hsh hx9)))
                  have c9_ := b9.cells
                  simp only [cellsAre, Nat.zero_add, Nat.reduceAdd, and_true] at c9_
                  have hsz9 : p9 ≤ wr.heap.size := by have h1 := HP9.out; have h2 := Ext.size hex; omega
                  by_cases hjl : j < n5 ∧ j < 10
                  · have pj : (j : Int) < (n5 : Int) := by omega
                    have pj10 : (j : Int) < 10 := by omega
                    obtain ⟨b5, o5, rfl, hc5⟩ := (I5.out.below (bt HX2.out hex)).at_ (by omega)
                    have ck5 := hc5 j hjl.1
                    obtain ⟨z, hz⟩ : ∃ z, l5.getD j 0 = z := ⟨_, rfl⟩
                    rw [hz] at ck5
                    clear b9 hc5 hz hx9
                    go_wp2_with fail
                    refine (tfold_any z n3 (by omega) (by omega) wr).mono ?_
                    rintro e w7 ⟨v7, rfl, ⟨q2, hq2, rfl⟩, hb7⟩
                    have hex7 : Ext wr w7 := hb7
                    have H97 := Lib.hid (show Blk w7 p9 TTE #[.int .i64 (q : Int), .slice A9 n9 c9] ∧ OwI p9 w7 (.slice A9 n9 c9) sh ∧ shP sh (k2 + 1) ∧ Below p9 w2 w7 from ⟨H9.out.1.below hex7, H9.out.2.1.below hex7, H9.out.2.2.1, H9.out.2.2.2.trans (Below.mono hex7 hsz9)⟩)
                    have c97 := H97.out.1.cells
                    simp only [cellsAre, Nat.zero_add, Nat.reduceAdd, and_true] at c97
                    have hsz7 : p9 ≤ w7.heap.size := by have h2 := Ext.size hex7; omega
                    have hsz97 : p9 ≤ (w7.alloc (.cells #[.int .i64 (k2 : Int)] TIN)).heap.size := by have h2 := Ext.size hex7; simp; omega
                    clear hb7 c9_ ck5 ck2 ho9 hsh hex hex7 H9
                    by_cases hq : q2 = k2
                    · subst hq
                      have g2 : ((q2 : Int) == (q2 : Int)) = true := by simp
                      by_cases h90 : n9 = 0
                      · subst h90
                        have HSP := Lib.hid (H97.out.2.2.1.add (Or.inl (List.eq_nil_of_length_eq_zero hl9)))
                        go_wp2_with (at_builtin; (refine wp_appE TIS TIN _ 1 8 int_info Tryd.underlying37 rfl (by omega) (by omega) rfl _ _ rfl p9 _ _ _ rfl (H97.out.2.1.alloc _) ⟨w7.heap.size, 0, none⟩ 1 1 [.int .i64 (q2 : Int)] rfl rfl (cell_new w7 [.int .i64 (q2 : Int)] TIN) (int_one _) (by omega) (by omega) hsz97 ?_); intro v6 w6 hown6 hb6 hg6; (have hn6 : OwI p9 w6 v6 (sh ++ [(q2 : Int)]) := OwI.snoc hown6; obtain ⟨A7, n7, c7, hv7, _⟩ := hn6.il3; subst hv7; have b96 := (H97.out.1.below (Ext.allocR w7 (.cells #[.int .i64 (q2 : Int)] TIN))).grown hg6 (own_tag (H97.out.2.1.alloc _) (by decide)); have c96 := b96.cells; have f96 := Blk.free b96 1; have HE := Lib.hid (And.intro b96 (And.intro hn6 ((H97.out.2.2.2.alloc hsz7 (.cells #[.int .i64 (q2 : Int)] TIN)).trans hb6))); simp only [cellsAre, Nat.zero_add, Nat.reduceAdd, and_true] at c96; clear b96 hn6 hown6 hb6 hg6))
                        go_roundw
                        case rel =>
                          obtain ⟨e1, e2, e3⟩ := HE.out
                          exact ⟨j + 1, _, _, _, _, by omega, by omega, by go_num, e1.set_ 1 _, OwT.far e2 e1 (by decide) 1 _, HSP.out, e3.setCell (Nat.le_refl _) _⟩
                        case measure => simp [intOf]; omega
                      · have p90 : (n9 : Int) ≠ 0 := by omega
                        have g90 : ((n9 : Int) == 0) = false := by simpa using h90
                        have p9i : ((n9 : Int) - 1) = ((n9 - 1 : Nat) : Int) := by omega
                        have wq9 : IntKind.i64.wrap ((n9 : Int) - 1) = ((n9 - 1 : Nat) : Int) := by rw [IntWalk.i64_in _ (by omega), p9i]
                        obtain ⟨r9, hr9⟩ : ∃ r, n9 - 1 = r := ⟨_, rfl⟩
                        rw [hr9] at wq9 p9i
                        have hr9n : r9 < n9 := by omega
                        have pr9 : (r9 : Int) < (n9 : Int) := by omega
                        have I9 := H97.out.2.1.ilv
                        obtain ⟨b9', o9', rfl, hc9⟩ := I9.at_ (by omega)
                        have ck9 := hc9 r9 hr9n
                        obtain ⟨y, hy⟩ : ∃ y, sh.getD r9 0 = y := ⟨_, rfl⟩
                        rw [hy] at ck9
                        by_cases hyk : y = (q2 : Int)
                        · subst hyk
                          have g3 : ((q2 : Int) != (q2 : Int)) = false := by simp
                          clear hc9 hy I9
                          go_wp2
                          go_roundw
                          case rel => exact ⟨j + 1, _, _, _, _, by omega, by omega, by go_num, H97.out⟩
                          case measure => simp [intOf]; omega
                        · have g3 : (y != (q2 : Int)) = true := by simpa using hyk
                          have HSP := Lib.hid (H97.out.2.2.1.add (Or.inr (by rw [hl9, hr9, hy]; exact hyk)))
                          clear hc9 hy I9
                          go_wp2_with (at_builtin; (refine wp_appE TIS TIN _ 1 8 int_info Tryd.underlying37 rfl (by omega) (by omega) rfl _ _ rfl p9 _ _ _ rfl (H97.out.2.1.alloc _) ⟨w7.heap.size, 0, none⟩ 1 1 [.int .i64 (q2 : Int)] rfl rfl (cell_new w7 [.int .i64 (q2 : Int)] TIN) (int_one _) (by omega) (by omega) hsz97 ?_); intro v6 w6 hown6 hb6 hg6; (have hn6 : OwI p9 w6 v6 (sh ++ [(q2 : Int)]) := OwI.snoc hown6; obtain ⟨A7, n7, c7, hv7, _⟩ := hn6.il3; subst hv7; have b96 := (H97.out.1.below (Ext.allocR w7 (.cells #[.int .i64 (q2 : Int)] TIN))).grown hg6 (own_tag (H97.out.2.1.alloc _) (by decide)); have c96 := b96.cells; have f96 := Blk.free b96 1; have HE := Lib.hid (And.intro b96 (And.intro hn6 ((H97.out.2.2.2.alloc hsz7 (.cells #[.int .i64 (q2 : Int)] TIN)).trans hb6))); simp only [cellsAre, Nat.zero_add, Nat.reduceAdd, and_true] at c96; clear b96 hn6 hown6 hb6 hg6))
                          go_roundw
                          case rel =>
                            obtain ⟨e1, e2, e3⟩ := HE.out
                            exact ⟨j + 1, _, _, _, _, by omega, by omega, by go_num, e1.set_ 1 _, OwT.far e2 e1 (by decide) 1 _, HSP.out, e3.setCell (Nat.le_refl _) _⟩
                          case measure => simp [intOf]; omega
                    · have g2 : ((q2 : Int) == (k2 : Int)) = false := by
                        rw [beq_eq_false_iff_ne]
                        omega
                      go_wp2
                      go_roundw
                      case rel => exact ⟨j + 1, _, _, _, _, by omega, by omega, by go_num, H97.out⟩
                      case measure => simp [intOf]; omega
                  · have HQ := Lib.hid (show ∃ (k3 : Nat) (A9' : Option Addr) (n9' c9' : Nat) (sh' : List Int), k3 ≤ n3 ∧ Value.int .i64 ((k2 : Int) + 1) = .int .i64 (k3 : Int) ∧ Blk wr p9 TTE #[.int .i64 (q : Int), .slice A9' n9' c9'] ∧ OwI p9 wr (.slice A9' n9' c9') sh' ∧ shP sh' k3 ∧ Below p9 w2 wr from ⟨k2 + 1, _, _, _, sh, by omega, rfl, H9.out⟩)
                    clear b9 ho9 hsh hx9 H9 hex
                    by_cases hjn : j < n5
                    · have pj : (j : Int) < (n5 : Int) := by omega
                      have pj10 : ¬ ((j : Int) < 10) := by omega
                      go_wp2
                      go_roundw
                      case rel => exact HQ.out
                      case measure => simp [intOf]; omega
                    · obtain rfl : j = n5 := by omega
                      go_wp2
                      go_roundw
                      case rel => exact HQ.out
                      case measure => simp [intOf]; omega
              · obtain rfl : k2 = n3 := by omega
                have hex : Ext w2 wr := by show Below w2.heap.size w2 wr; rw [HP9.out]; exact hx9
                have c9_ := b9.cells
                simp only [cellsAre, Nat.zero_add, Nat.reduceAdd, and_true] at c9_
                have hx5 : Ext wr (wr.alloc (.cells #[.int .i64 (q : Int), .slice A9 n9 c9] TTE)) := Ext.allocR _ _
                have hxo : Ext wo (wr.alloc (.cells #[.int .i64 (q : Int), .slice A9 n9 c9] TTE)) := bt (bt HX2.out hex) hx5
                obtain ⟨d4, hr4, hp4⟩ := HOO.out.2.1.below hxo
                have hdl := hp4.len
                have hdl2 : d4.length ≤ 100 := by rw [hdl, HOT.out.1]; omega
                have hgw4 : B ≤ (wr.alloc (.cells #[.int .i64 (q : Int), .slice A9 n9 c9] TTE)).heap.size := Nat.le_trans HOO.out.2.2.2 (Ext.size hxo)
                have HR := Lib.hid (And.intro hr4 (And.intro hp4 (ho9.sl.below hx5)))
                have HTG2 := Lib.hid (own_tag (T' := TFA) hr4 (by decide))
                have HCN := Lib.hid (cell_new wr [.int .i64 (q : Int), .slice A9 n9 c9] TTE)
                have HZ := Lib.hid (And.intro (HOO.out.1.below hxo) (HOO.out.2.2.1.trans (Below.mono hxo HOO.out.2.2.2)))
                have HRS := Lib.hid hsh.ris
                clear b9 ho9 hsh hx9 hr4 hp4 hx5 hxo hex H9
                go_wp2_with (at_builtin; refine wp_appE TTS TTE _ 2 32 te_info Tryd.underlying23 rfl (by omega) (by omega) rfl _ _ rfl B (.slice A6 n6 c6) d4.length (cel prE d4) rfl HR.out.1 ⟨wr.heap.size, 0, none⟩ 1 1 [.int .i64 (q : Int), .slice A9 n9 c9] rfl rfl HCN.out pr_one (by omega) (by omega) hgw4 ?_; intro v8 w8 hown8 hb8 hg8; have hn8 : OwP TTE B w8 v8 (tf ++ [((q : Int), sh)]) := OwP.snoc (by decide) HR.out.1 HR.out.2.1 HR.out.2.2 hown8 hg8; obtain ⟨A8, n8, c8, hv8, _⟩ := hn8.slp2; subst hv8; have oT8 := HZ.out.1.grown hg8 HTG2.out; have HE := Lib.hid (And.intro oT8 (And.intro hn8 (And.intro (HZ.out.2.trans hb8) (show B ≤ w8.heap.size from Nat.le_trans hgw4 hg8.size)))); clear oT8 hn8 hown8 hb8 hg8)
                go_roundw
                case rel =>
                  exact ⟨k + 1, _, _, _, tf ++ [((q : Int), sh)], by omega, by omega, by go_num, rfl, by rw [List.length_append, HOT.out.1]; rfl, (fun t ht => by
                    rcases List.mem_append.1 ht with ht | ht
                    · exact HOT.out.2 t ht
                    · rw [List.mem_singleton] at ht
                      subst ht
                      exact ⟨⟨by simp only; omega, by simp only; omega⟩, HRS.out⟩), HE.out⟩
                case measure => simp [intOf]; omega
          · have HQ := Lib.hid (show ∃ (A6' : Option Addr) (n6' c6' : Nat) (tf' : List Tt), Value.slice A6 n6 c6 = .slice A6' n6' c6' ∧ tf'.length ≤ 10 ∧ okTs n3 tf' ∧ OwT TFA B wr (.slice A3 n3 c3) xs ∧ OwP TTE B wr (.slice A6' n6' c6') tf' ∧ Below B w wr ∧ B ≤ wr.heap.size from ⟨_, _, _, tf, rfl, by omega, HOT.out.2, HOO.out⟩)
            clear hxw HOT HOO htl
            by_cases hkn : k < m
            · have pk : (k : Int) < (m : Int) := by omega
              have pk8 : ¬ ((k : Int) < 10) := by omega
              go_wp2_with fail
              go_meet
              exact HQ.out
            · obtain rfl : k = m := by omega
              go_wp2_with fail
              go_meet
              exact HQ.out
      case rest =>
        clear H1
        obtain ⟨A6, n6, c6, tf, rfl, htl, hokt, hot, hop, hbw, hsz⟩ := hcut
        have hcv := cv_of (xs := xs) (ts := tf) (by rw [HLN.out]; exact hx1) (by rw [HLN.out]; exact hx8) HOK.out htl (by rw [HLN.out]; exact hokt)
        have hsp : SlP TTE wc A6 n6 c6 tf := by
          obtain ⟨A9, n9, c9, hvt, sp6⟩ := hop.slp2
          injection hvt with e1 e2 e3
          subst e1 e2 e3
          exact sp6
        have hxw : Ext w wc := by show Below w.heap.size w wc; rw [HB.out]; exact hbw
        have I3 := Lib.hid hot.il_
        have SP6 := Lib.hid hsp
        have HC := Lib.hid hcv
        have XW := Lib.hid hxw
        have hn6 : n6 ≤ 10 := by rw [← hsp.len]; exact htl
        have g6 := hsp.le
        have g6' := hsp.cap
        clear htl hokt hot hop hbw hsz hcv hsp hxw
        go_wp2_with fail
        refine (rbest_any A3 A6 n3 c3 n6 c6 xs tf wc I3.out SP6.out.ts (HT.out.below XW.out)).mono ?_
        rintro e w1 ⟨v1, rfl, hv1, hb1⟩
        obtain ⟨A7, n7, c7, hv1', _⟩ := hv1.1 HC.out
        subst hv1'
        obtain ⟨P, hP⟩ : ∃ P, pC xs tf (allS xs) = P := ⟨_, rfl⟩
        rw [hP]
        have HP := Lib.hid hP
        have X1 := Lib.hid (show Ext wc w1 from hb1)
        clear hv1 hb1 hP
        go_wp2_with fail
        refine (rfloor_any A3 A6 n3 c3 n6 c6 xs tf w1 (I3.out.below X1.out) (SP6.out.ts.below X1.out)).mono ?_
        rintro e w2 ⟨v2, rfl, hv2, hb2⟩
        obtain ⟨x, hv2', hfl⟩ := hv2.1 HC.out
        subst hv2'
        have hle := (floor_le HC.out hfl).2
        rw [HP.out] at hle
        have X2 := Lib.hid (bt X1.out hb2)
        clear hv2 hb2 hfl
        go_wp2_with fail
        refine (rneeded_any A3 A6 n3 c3 n6 c6 xs tf w2 (I3.out.below X2.out) (SP6.out.ts.below X2.out) (HT.out.below (bt XW.out X2.out))).mono ?_
        rintro e w3 ⟨v3, rfl, hv3, hb3⟩
        obtain ⟨A8, n8, c8, hv3', il8⟩ := hv3.1 HC.out
        subst hv3'
        have hnd := nd_ok (ts := tf) (n := xs.length) HC.out.1.2.2
        have hrg := mems_ris tf.length (ndS tf xs.length)
        have hen : EnP xs.length tf (mems tf.length (ndS tf xs.length)) := en_ok.2 hnd.2.2.1
        have hll := mems_len tf.length (ndS tf xs.length)
        obtain ⟨tl, htl⟩ : ∃ l, mems tf.length (ndS tf xs.length) = l := ⟨_, rfl⟩
        rw [htl] at il8 hrg hen hll
        have hrb : ∀ j, j < tl.length → 0 ≤ tl.getD j 0 ∧ tl.getD j 0 < (tf.length : Int) := fun j hj => hrg.bd j hj
        have htl16 : tl.length ≤ 16 := Nat.le_trans hll HC.out.1.2.2
        have hcf := fewL_cv HC.out htl16 hrb
        have hd1 := few_dear HC.out hcf hrb hen (allS xs) (allS_lt xs)
        have hd2 := few_all HC.out hcf (allS xs)
        rw [pW_all HC.out, HLN.out] at hd2
        rw [HP.out] at hd1
        obtain ⟨M, hM⟩ : ∃ M, pC xs (fewL tf tl) (allS xs) = M := ⟨_, rfl⟩
        rw [hM] at hd1 hd2
        have HM := Lib.hid hM
        have HD2 := Lib.hid hd2
        have HCF := Lib.hid hcf
        have HRB := Lib.hid hrb
        have HT16 := Lib.hid htl16
        have I8 := Lib.hid il8
        have g8 := il8.le
        have g8' := il8.cap
        have X3 := Lib.hid (bt X2.out hb3)
        clear hv3 hb3 hnd hrg hen hll htl hrb htl16 hcf hd2 hM il8
        go_wp2_with fail
        have x4 : Ext w3 (w3.alloc (.cells #[.int .i64 1, .int .i64 1, .int .i64 2] TIN)) := Ext.allocR _ _
        have hb4 : Blk (w3.alloc (.cells #[.int .i64 1, .int .i64 1, .int .i64 2] TIN)) w3.heap.size TIN #[.int .i64 1, .int .i64 1, .int .i64 2] := Blk.new_ _ _ rfl
        refine (rcodesX_any (some ⟨w3.heap.size, 0, none⟩) 3 3 [1, 1, 2] _ (Il.lit (xs := [1, 1, 2]) hb4 (by simp))).mono ?_
        rintro e w5 ⟨v5, rfl, hv5, hb5⟩
        obtain ⟨A9, c9, b, ls, S, hv5', il9, hr⟩ := hv5.1 wok112
        subst hv5'
        obtain ⟨_, hS6⟩ := huf112 hr
        subst hS6
        have X5 := Lib.hid (bt X3.out (bt x4 hb5))
        have HX35 := Lib.hid (show Ext w3 w5 from bt x4 hb5)
        clear hv5 hb5 il9 hr x4 hb4
        go_upto_region 28 with fail
        obtain ⟨g5, hg5⟩ : ∃ g, w5.heap.size = g := ⟨_, rfl⟩
        have hop0 : OwP TTE g5 (w5.alloc (.cells #[] TTE)) (.slice (some ⟨g5, 0, none⟩) 0 0) [] := by rw [← hg5]; exact OwP.lit0 (Nat.le_refl _)
        have hx6 : Ext w5 (w5.alloc (.cells #[] TTE)) := Ext.allocR _ _
        rw [hg5]
        refine wp_world (fun W6 => OwP TTE g5 W6 (.slice (some ⟨g5, 0, none⟩) 0 0) [] ∧ Ext w5 W6) ⟨hop0, hx6⟩ ?_
        clear hop0 hx6
        rintro W6 ⟨hop6, hx6⟩
        have HG5 := Lib.hid hg5
        have HO6 := Lib.hid hop6
        have HX6 := Lib.hid hx6
        clear hop6 hx6 hg5
        go_wp2_with fail
        go_loopw [22, 25] (fun s i wr => ∃ k : Nat, k ≤ n3 ∧ i = .int .i64 (k : Int) ∧ s = .int .i64 (wS xs (upL k)) ∧ Ext W6 wr) (fun _ i _ => n3 - (intOf i).toNat)
        case atStart => exact ⟨0, by omega, rfl, rfl, Ext.refl _⟩
        case round =>
          obtain ⟨k, hk, rfl, rfl, hx⟩ := hrel
          have HX := Lib.hid hx
          by_cases hk3 : k < n3
          · have pk : (k : Int) < (n3 : Int) := by omega
            obtain ⟨bF, oF, rfl, hcF⟩ := (I3.out.below (bt X5.out (bt HX6.out hx))).at_ (by omega)
            have ckF := hcF k hk3
            obtain ⟨y, hy⟩ : ∃ y, xs.getD k 0 = y := ⟨_, rfl⟩
            rw [hy] at ckF
            have hst := wS_upL xs k
            rw [hy] at hst
            have hb1 := wS_bd (l := upL k) (fun j => okF_nn HC.out j)
            have hb2 := wS_bd (l := upL (k + 1)) (fun j => okF_nn HC.out j)
            rw [upL_len] at hb1 hb2
            rw [hst] at hb2
            obtain ⟨F, hF⟩ : ∃ F, wS xs (upL k) = F := ⟨_, rfl⟩
            rw [hF] at hb1 hb2 hst ⊢
            have wq : IntKind.i64.wrap (F + y) = F + y := IntWalk.i64_in _ (by omega)
            have HS := Lib.hid hst
            clear hcF hy hst hb1 hb2 hF hx
            go_wp2
            go_roundw
            case rel => exact ⟨k + 1, by omega, by go_num, by rw [HS.out], HX.out⟩
            case measure => simp [intOf]; omega
          · obtain rfl : k = n3 := by omega
            have hwb := wS_bd (l := upL k) (fun j => okF_nn HC.out j)
            rw [upL_len] at hwb
            have hd2 := HD2.out
            obtain ⟨WW, hWW⟩ : ∃ WW, wS xs (upL k) = WW := ⟨_, rfl⟩
            rw [hWW] at hwb hd2 ⊢
            have HD3 := Lib.hid hd2
            have HO7 := Lib.hid (show OwP TTE g5 wr (.slice (some ⟨g5, 0, none⟩) 0 0) (fewL tf (tl.take 0)) from HO6.out.below hx)
            have HX7 := Lib.hid (bt HX6.out hx)
            obtain ⟨wo, rfl⟩ : ∃ wo, wo = wr := ⟨_, rfl⟩
            clear hx hd2 hWW HO6
            go_wp2_with fail
            go_loopw [23, 24, 26] (fun p s i wr => ∃ (q : Nat) (A9 : Option Addr) (n9 c9 : Nat), q ≤ n8 ∧ i = .int .i64 (q : Int) ∧ p = .int .i64 (csW tf (tl.take q)) ∧ s = .slice A9 n9 c9 ∧ OwP TTE g5 wr (.slice A9 n9 c9) (fewL tf (tl.take q)) ∧ Ext w5 wr) (fun _ _ i _ => n8 - (intOf i).toNat)
            case atStart => exact ⟨0, _, _, _, by omega, rfl, rfl, rfl, HO7.out, HX7.out⟩
            case round =>
              clear HO7 HX7
              obtain ⟨q, A9, n9, c9, hq, rfl, rfl, rfl, ho, hx⟩ := hrel
              have HO := Lib.hid ho
              have HX7 := Lib.hid hx
              by_cases hq8 : q < n8
              · have pq : (q : Int) < (n8 : Int) := by omega
                have hxw3 : Ext w3 wr := by have h1 := X5.out; exact bt (show Ext w3 w5 from HX35.out) hx
                obtain ⟨b8, o8, rfl, hc8⟩ := (I8.out.below hxw3).at_ (by omega)
                have ck8 := hc8 q hq8
                have hql : q < tl.length := by rw [I8.out.len]; exact hq8
                have hyr := HRB.out q hql
                rw [SP6.out.len] at hyr
                obtain ⟨y, hy⟩ : ∃ y : Nat, tl.getD q 0 = (y : Int) := ⟨(tl.getD q 0).toNat, by omega⟩
                rw [hy] at ck8 hyr
                have py6 : (y : Int) < (n6 : Int) := hyr.2
                have hy6 : y < n6 := by omega
                have hy0 : ¬ ((y : Int) < 0) := by omega
                have hy1 : ¬ ((n6 : Int) ≤ (y : Int)) := by omega
                obtain ⟨bT, oT, A5, n5, c5, rfl, ckT1, ckT2, slT⟩ := SP6.out.sat hy6
                obtain ⟨v, hv⟩ : ∃ v, tC tf y = v := ⟨_, rfl⟩
                obtain ⟨l5, hl5⟩ : ∃ l, tS tf y = l := ⟨_, rfl⟩
                have hpair : tf.getD y (0, []) = (v, l5) := by rw [← hv, ← hl5]; rfl
                rw [hv] at ckT1
                rw [hl5] at slT
                have hst := csW_take (ts := tf) hql
                rw [hy, Int.toNat_natCast, hv] at hst
                have hfl := fewL_take tf hql
                rw [hy, Int.toNat_natCast, hpair] at hfl
                have hb1 := csW_bd (ts := tf) (l := tl.take q) (fun j => cost_bd HC.out j)
                have hb2 := csW_bd (ts := tf) (l := tl.take (q + 1)) (fun j => cost_bd HC.out j)
                rw [List.length_take] at hb1 hb2
                rw [hst] at hb2
                have h16 := HT16.out
                obtain ⟨F, hF⟩ : ∃ F, csW tf (tl.take q) = F := ⟨_, rfl⟩
                rw [hF] at hb1 hb2 hst ⊢
                obtain ⟨G, hG⟩ : ∃ G, F + v = G := ⟨_, rfl⟩
                have wq : IntKind.i64.wrap (F + v) = G := by rw [IntWalk.i64_in _ (by omega), hG]
                have wq2 : wrap64 (F + v) = G := by unfold wrap64; omega
                rw [hG] at hst
                have HS := Lib.hid hst
                have HFL := Lib.hid hfl
                have HLF := Lib.hid (show (fewL tf (tl.take q)).length ≤ 1000 by unfold fewL; rw [List.length_map, List.length_take]; omega)
                have SLT := Lib.hid (slT.below (bt X5.out hx))
                have hx5c : Ext wc wr := bt X5.out hx
                have kk1 := fun w' (hh : Ext w5 w') => (show w'.cell? ⟨b8, o8 + q, none⟩ = some (.int .i64 (y : Int)) from by
                  have h1 := (I8.out.below (bt HX35.out hh)).at_ (by omega)
                  obtain ⟨b', o', e, h2⟩ := h1
                  injection e with e
                  injection e with e1 e2
                  subst e1 e2
                  have h3 := h2 q hq8
                  rw [hy] at h3
                  exact h3)
                have kk2 := fun w' (hh : Ext w5 w') => (show w'.cell? ⟨bT, oT + y * 2, none⟩ = some (.int .i64 v) from Ext.cell (bt X5.out hh) ckT1)
                have kk3 := fun w' (hh : Ext w5 w') => (show w'.cell? ⟨bT, oT + y * 2 + 1, none⟩ = some (.slice A5 n5 c5) from Ext.cell (bt X5.out hh) ckT2)
                have hst0 : Ext wr wr.drew := Ext.drew _
                clear hc8 hyr hv hl5 hpair hst hfl hb1 hb2 hF hG ckT1 ckT2 slT hql hx5c hxw3 ho
                go_upto_region 37 with fail
                refine wp_region_brn (S := Ext w5) (by kernel_rfl) (by kernel_rfl) (fun _ _ _ _ _ => ⟨fun h => h, fun h => h⟩) ?_
                intro hsel_ hQ_
                obtain ⟨wd, hwd⟩ : ∃ wd, wr.drew = wd := ⟨_, rfl⟩
                rw [hwd] at hst0 ⊢
                have hst5 : Ext w5 wd := bt HX7.out hst0
                refine wpB_chunk (f := 0) (L' := #[true, true, true, true, true, true, true, true, true, true, true, true, true, true, true, true, true, true, true, true, true, true]) hsel_ hQ_ [(0, true, some 220, none), (1, true, some 221, none), (2, true, some 222, none), (3, true, some 223, none), (4, true, some 224, none), (5, true, some 225, none), (6, true, some 226, none), (7, true, some 227, none), (8, true, some 228, none), (9, true, some 229, none), (10, true, some 230, none), (11, true, some 231, none), (12, true, some 232, none), (13, true, some 233, none), (14, true, some 234, none), (15, true, some 235, none), (16, true, some 236, none), (17, true, some 237, none), (18, false, some 238, none), (19, false, some 239, none), (20, false, some 23, none), (21, false, some 24, none)] _ _ _ (by kernel_rfl) hst5 ?_
                repeat (first | (refine wpSeqB_pure (v := ?_) rfl ?_ ?_; rotate_left 1; (focus (intro wq_ hSq_; (try dsimp only at hSq_); go_simp; (try with_reducible rfl); done)); (try simp only [Act.put, List.setIfInBounds_toArray, List.set_cons_zero, List.set_cons_succ])) | (refine wpSeqB_pureG (v := ?_) rfl rfl ?_ ?_; rotate_left 1; (focus (intro wq_ hSq_; (try dsimp only at hSq_); go_simp; (try with_reducible rfl); done)); (try simp only [Act.put, List.setIfInBounds_toArray, List.set_cons_zero, List.set_cons_succ])) | (refine wpSeqB_off rfl rfl ?_; (try simp only [Act.put, List.setIfInBounds_toArray, List.set_cons_zero, List.set_cons_succ])) | (refine wpSeqB_offU rfl ?_; (try simp only [Act.put, List.setIfInBounds_toArray, List.set_cons_zero, List.set_cons_succ])))
                first | refine wpSeqB_call rfl (fun K hK => ?_) | refine wpSeqB_callG rfl rfl (fun K hK => ?_)
                go_simp
                have s1 := bt hst0 (Ext.allocR wd (.cells #[.int .i64 v, .slice A5 n5 c5] TTE))
                have hZ8 : SlP TTE (wd.alloc (.cells #[.int .i64 v, .slice A5 n5 c5] TTE)) (some ⟨wd.heap.size, 0, none⟩) 1 1 [(v, l5)] := SlP.one (Blk.new_ _ _ rfl) (SLT.out.below s1)
                refine hK.out _ _ (bt HX7.out s1) ?_
                clear hK K
                (try simp only [List.getElem_toArray, List.getElem_cons_succ, List.getElem_cons_zero, Act.put, List.setIfInBounds_toArray, List.set_cons_zero, List.set_cons_succ])
                first | refine wpSeqB_call rfl (fun K hK => ?_) | refine wpSeqB_callG rfl rfl (fun K hK => ?_)
                refine wp_appP _ _ (by rfl) g5 (.slice A9 n9 c9) (fewL tf (tl.take q)) (by rfl) (HO.out.below s1) (some ⟨wd.heap.size, 0, none⟩) 1 1 [(v, l5)] (by rfl) hZ8 HLF.out (by omega) (by rw [← HG5.out]; exact Ext.size (bt HX7.out s1)) ?_
                intro A11 n11 c11 w11 hO11 hB11 hG11
                have s11 : Ext w5 w11 := by
                  refine Below.trans (bt HX7.out s1) ?_
                  rw [HG5.out]
                  exact hB11
                have HO11 := Lib.hid (show OwP TTE g5 w11 (.slice A11 n11 c11) (fewL tf (tl.take (q + 1))) by rw [HFL.out]; exact hO11)
                clear hO11 hB11 hG11 hZ8 s1
                refine hK.out _ _ s11 ?_
                clear hK K
                (try simp only [List.getElem_toArray, List.getElem_cons_succ, List.getElem_cons_zero, Act.put, List.setIfInBounds_toArray, List.set_cons_zero, List.set_cons_succ])
                repeat (first | (refine wpSeqB_pure (v := ?_) rfl ?_ ?_; rotate_left 1; (focus (intro wq_ hSq_; (try dsimp only at hSq_); go_simp; (try with_reducible rfl); done)); (try simp only [Act.put, List.setIfInBounds_toArray, List.set_cons_zero, List.set_cons_succ])) | (refine wpSeqB_pureG (v := ?_) rfl rfl ?_ ?_; rotate_left 1; (focus (intro wq_ hSq_; (try dsimp only at hSq_); go_simp; (try with_reducible rfl); done)); (try simp only [Act.put, List.setIfInBounds_toArray, List.set_cons_zero, List.set_cons_succ])) | (refine wpSeqB_off rfl rfl ?_; (try simp only [Act.put, List.setIfInBounds_toArray, List.set_cons_zero, List.set_cons_succ])) | (refine wpSeqB_offU rfl ?_; (try simp only [Act.put, List.setIfInBounds_toArray, List.set_cons_zero, List.set_cons_succ])))
                first | refine wpSeqB_call rfl (fun K hK => ?_) | refine wpSeqB_callG rfl rfl (fun K hK => ?_)
                go_simp
                refine hK.out _ _ s11 ?_
                clear hK K
                (try simp only [List.getElem_toArray, List.getElem_cons_succ, List.getElem_cons_zero, Act.put, List.setIfInBounds_toArray, List.set_cons_zero, List.set_cons_succ])
                repeat (first | (refine wpSeqB_pure (v := ?_) rfl ?_ ?_; rotate_left 1; (focus (intro wq_ hSq_; (try dsimp only at hSq_); go_simp; (try with_reducible rfl); done)); (try simp only [Act.put, List.setIfInBounds_toArray, List.set_cons_zero, List.set_cons_succ])) | (refine wpSeqB_pureG (v := ?_) rfl rfl ?_ ?_; rotate_left 1; (focus (intro wq_ hSq_; (try dsimp only at hSq_); go_simp; (try with_reducible rfl); done)); (try simp only [Act.put, List.setIfInBounds_toArray, List.set_cons_zero, List.set_cons_succ])) | (refine wpSeqB_off rfl rfl ?_; (try simp only [Act.put, List.setIfInBounds_toArray, List.set_cons_zero, List.set_cons_succ])) | (refine wpSeqB_offU rfl ?_; (try simp only [Act.put, List.setIfInBounds_toArray, List.set_cons_zero, List.set_cons_succ])))
                first | refine wpSeqB_call rfl (fun K hK => ?_) | refine wpSeqB_callG rfl rfl (fun K hK => ?_)
                go_simp
                refine hK.out _ _ s11 ?_
                clear hK K
                (try simp only [List.getElem_toArray, List.getElem_cons_succ, List.getElem_cons_zero, Act.put, List.setIfInBounds_toArray, List.set_cons_zero, List.set_cons_succ])
                repeat (first | (refine wpSeqB_pure (v := ?_) rfl ?_ ?_; rotate_left 1; (focus (intro wq_ hSq_; (try dsimp only at hSq_); go_simp; (try with_reducible rfl); done)); (try simp only [Act.put, List.setIfInBounds_toArray, List.set_cons_zero, List.set_cons_succ])) | (refine wpSeqB_pureG (v := ?_) rfl rfl ?_ ?_; rotate_left 1; (focus (intro wq_ hSq_; (try dsimp only at hSq_); go_simp; (try with_reducible rfl); done)); (try simp only [Act.put, List.setIfInBounds_toArray, List.set_cons_zero, List.set_cons_succ])) | (refine wpSeqB_off rfl rfl ?_; (try simp only [Act.put, List.setIfInBounds_toArray, List.set_cons_zero, List.set_cons_succ])) | (refine wpSeqB_offU rfl ?_; (try simp only [Act.put, List.setIfInBounds_toArray, List.set_cons_zero, List.set_cons_succ])))
                intro s_
                refine wpB_end (by kernel_rfl) ?_
                have HX11 := Lib.hid s11
                clear s_ s11 hst5 hst0 kk1 kk2 kk3
                go_wp2
                go_roundw
                case rel => exact ⟨q + 1, _, _, _, by omega, by go_num, by rw [HS.out], rfl, HO11.out, HX11.out⟩
                case measure => simp [intOf]; omega
              · obtain rfl : q = n8 := by omega
                have htk : tl.take q = tl := List.take_of_length_le (by rw [I8.out.len]; exact Nat.le_refl _)
                rw [htk] at ho ⊢
                have hqb := csW_bd (ts := tf) (l := tl) (fun j => cost_bd HC.out j)
                have h16 := HT16.out
                have hd3 := HD3.out
                obtain ⟨Q, hQ⟩ : ∃ Q, csW tf tl = Q := ⟨_, rfl⟩
                rw [hQ] at hqb hd3 ⊢
                have h1 := Int.mul_nonneg hwb.1 hqb.1
                have h2 : WW * Q ≤ 10000 * 16000 := Int.mul_le_mul (by omega) (by omega) hqb.1 (by omega)
                obtain ⟨Z, hZ⟩ : ∃ Z, WW * Q = Z := ⟨_, rfl⟩
                have wq : IntKind.i64.wrap (WW * Q) = Z := by rw [IntWalk.i64_in _ (by omega), hZ]
                have wq2 : wrap64 (WW * Q) = Z := by unfold wrap64; omega
                rw [hZ] at hd3
                have T9 := Lib.hid ho.ts_
                have X9 := Lib.hid (bt X5.out hx)
                clear ho hx htk hqb h1 h2 hZ hQ h16 hwb
                go_wp2_with fail
                refine (rbest_any A3 A9 k c3 n9 c9 xs (fewL tf tl) wr (I3.out.below X9.out) T9.out (HT.out.below (bt XW.out X9.out))).mono ?_
                rintro e w9 ⟨v9, rfl, hv9, hb9⟩
                obtain ⟨A10, n10, c10, hv9', _⟩ := hv9.1 HCF.out
                subst hv9'
                rw [HM.out]
                have q1 : decide (x ≤ P) = true := by simpa using hle
                have q2 : decide (P ≤ M) = true := by simpa using hd1
                have q3 : decide (M ≤ Z) = true := by simpa using hd3
                have X10 := Lib.hid (bt XW.out (bt X9.out hb9))
                clear hv9 hb9
                go_wp2
                go_returns
                exact ⟨_, rfl, rfl, X10.out⟩
end Go.Proofs.Tb
