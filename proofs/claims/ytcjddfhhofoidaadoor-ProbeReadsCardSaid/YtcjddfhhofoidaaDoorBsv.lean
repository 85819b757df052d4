/- Plain laws: plans as lists of branches; the reference's search finds the plan and the cost of the cheapest plans. -/
import Derived.Test.YtcjddfhhofoidaaDoorPd
import Derived.Test.YtcjddfhhofoidaaDoorBsu
set_option linter.unusedVariables false
set_option linter.unusedSimpArgs false
namespace Go.Proofs.Tb
open Go.RowKit

theorem getD_map_nat {ws : List Int} (j : Nat) : (ws.map Int.toNat).getD j 0 = (ws.getD j 0).toNat := by
  simp only [List.getD, List.getElem?_map]
  cases ws[j]? <;> rfl
/-- The weights and the tests as plain numbers. -/
def wsN (ws : List Int) : List Nat := ws.map Int.toNat
def tsN (ts : List Tt) : List Tst := ts.map fun t => (t.1.toNat, setK t.2 t.2.length)
theorem tsN_get (ts : List Tt) (j : Nat) : (tsN ts).getD j (0, 0) = ((tC ts j).toNat, setK (tS ts j) (tS ts j).length) := by
  unfold tsN tC tS
  simp only [List.getD, List.getElem?_map]
  cases ts[j]? <;> rfl
theorem tsN_len (ts : List Tt) : (tsN ts).length = ts.length := by simp [tsN]
theorem wsN_len (ws : List Int) : (wsN ws).length = ws.length := by simp [wsN]
theorem setK_bit (xs : List Int) (i : Nat) : ∀ k, (setK xs k).testBit i = true ↔ ∃ j, j < k ∧ (xs.getD j 0).toNat = i := by
  intro k
  induction k with
  | zero => simp [setK]
  | succ k ih =>
    unfold setK
    rw [Nat.testBit_or, Bool.or_eq_true, ih, Nat.testBit_two_pow, decide_eq_true_eq]
    constructor
    · rintro (⟨j, h1, h2⟩ | h)
      · exact ⟨j, by omega, h2⟩
      · exact ⟨k, by omega, h⟩
    · rintro ⟨j, h1, h2⟩
      rcases Nat.lt_or_eq_of_le (Nat.le_of_lt_succ h1) with h | rfl
      · exact Or.inl ⟨j, h, h2⟩
      · exact Or.inr h2
/-- What a test shows, as bits. -/
theorem shB_bit {xs : List Int} (hx : ∀ k, k < xs.length → 0 ≤ xs.getD k 0) (j : Nat) : shB xs (j : Int) = (setK xs xs.length).testBit j := by
  cases h : (setK xs xs.length).testBit j with
  | true =>
    obtain ⟨q, hq, e⟩ := (setK_bit xs j _).1 h
    exact shB_t hq (by have := hx q hq; omega)
  | false =>
    refine shB_f fun q hq e => ?_
    have := (setK_bit xs j xs.length).2 ⟨q, hq, by omega⟩
    rw [h] at this
    cases this
theorem Ris.bd {xs : List Int} {lim : Int} (h : Ris xs lim) : ∀ k, k < xs.length → 0 ≤ xs.getD k 0 ∧ xs.getD k 0 < lim := fun k hk => by
  have h1 := RisK.ge (k := k) (fun j hj => h j (by omega) : RisK xs lim k)
  have h2 := h k hk
  exact ⟨by omega, h2.2⟩
section
variable {ws : List Int} {ts : List Tt}
theorem Cv.shows (h : Cv ws ts) {i : Nat} (hi : i < ts.length) (k : Nat) (hk : k < (tS ts i).length) : 0 ≤ (tS ts i).getD k 0 ∧ (tS ts i).getD k 0 < (ws.length : Int) := (h.2.2 i hi).2.bd k hk
theorem yes_mems (h : Cv ws ts) {i : Nat} (hi : i < ts.length) (n s : Nat) : (mems n s).filter (fun f => shB (tS ts i) f) = mems n (inn s ((tsN ts).getD i (0, 0)).2) := by
  rw [tsN_get]
  refine mems_filter (fun j _ hs => ?_) (fun j hj => ?_)
  · rw [shB_bit (fun k hk => (h.shows hi k hk).1), inn_bit, hs, Bool.true_and]
  · rw [inn_bit] at hj; simp only [Bool.and_eq_true] at hj; exact hj.1
theorem no_mems (h : Cv ws ts) {i : Nat} (hi : i < ts.length) (n s : Nat) : (mems n s).filter (fun f => !shB (tS ts i) f) = mems n (outs s ((tsN ts).getD i (0, 0)).2) := by
  rw [tsN_get]
  refine mems_filter (fun j _ hs => ?_) (fun j hj => ?_)
  · rw [shB_bit (fun k hk => (h.shows hi k hk).1), outs_bit, hs, Bool.true_and]
  · rw [outs_bit] at hj; simp only [Bool.and_eq_true] at hj; exact hj.1
theorem spB_mems (h : Cv ws ts) {i : Nat} (hi : i < ts.length) {n s : Nat} (hs : s < 2 ^ n) : spB (tS ts i) (mems n s) = true ↔ ¬ (inn s ((tsN ts).getD i (0, 0)).2 = 0 ∨ outs s ((tsN ts).getD i (0, 0)).2 = 0) := by
  unfold spB
  rw [yes_mems h hi, no_mems h hi, Bool.and_eq_true, decide_eq_true_eq, decide_eq_true_eq, List.length_pos_iff, List.length_pos_iff]
  rw [Ne, Ne, mems_nil (Nat.lt_of_le_of_lt (inn_le _ _) hs), mems_nil (Nat.lt_of_le_of_lt (outs_le _ _) hs)]
  constructor
  · rintro ⟨h1, h2⟩ (h3 | h3)
    · exact h1 h3
    · exact h2 h3
  · intro h1
    exact ⟨fun h2 => h1 (Or.inl h2), fun h2 => h1 (Or.inr h2)⟩
end
theorem wsm_sum (ws xs : List Int) : ∀ k, k ≤ xs.length → wsm ws xs k = ((xs.take k).map fun x => ws.getD x.toNat 0).sum := by
  intro k
  induction k with
  | zero => intro _; rfl
  | succ k ih =>
    intro hk
    have e : xs.getD k 0 = xs[k] := by simp [List.getD, show k < xs.length by omega]
    rw [List.take_succ_eq_append_getElem (by omega), List.map_append, List.sum_append]
    show wsm ws xs k + ws.getD (xs.getD k 0).toNat 0 = _
    rw [ih (by omega), e]
    simp
theorem wtK_sum (ws : List Int) (hw : ∀ j, 0 ≤ ws.getD j 0) (s : Nat) : ∀ n, ((wtK (wsN ws) s n : Nat) : Int) = ((mems n s).map fun x => ws.getD x.toNat 0).sum := by
  intro n
  induction n with
  | zero => rfl
  | succ n ih =>
    have e : mems (n + 1) s = mems n s ++ if s.testBit n then [(n : Int)] else [] := by
      unfold mems memN
      rw [List.range_succ, List.filter_append, List.map_append]
      congr 1
      cases hb : s.testBit n <;> simp [List.filter, hb]
    have e2 : (wsN ws).getD n 0 = (ws.getD n 0).toNat := getD_map_nat n
    have e3 : wtK (wsN ws) s (n + 1) = wtK (wsN ws) s n + if s.testBit n then (wsN ws).getD n 0 else 0 := rfl
    rw [e, List.map_append, List.sum_append, ← ih, e3, e2]
    have hn := hw n
    cases hb : s.testBit n
    · simp
    · obtain ⟨q, hq⟩ : ∃ q : Nat, ws.getD n 0 = (q : Int) := ⟨(ws.getD n 0).toNat, by omega⟩
      simp only [List.map_cons, List.map_nil, Int.toNat_natCast, hq, if_true, List.sum_cons, List.sum_nil]
      omega
theorem okF_all {ws : List Int} (h : okF ws ws.length) (j : Nat) : 0 ≤ ws.getD j 0 ∧ ws.getD j 0 ≤ 1000 := by
  by_cases hj : j < ws.length
  · have := h j hj; omega
  · have e : ws.getD j 0 = 0 := by simp [List.getD, Nat.le_of_not_lt hj]
    rw [e]; omega
theorem wt_mems {ws : List Int} (h : okF ws ws.length) (s : Nat) : wsm ws (mems ws.length s) (mems ws.length s).length = ((wt (wsN ws) s : Nat) : Int) := by
  rw [wsm_sum ws _ _ (Nat.le_refl _), List.take_length]
  unfold wt
  rw [wsN_len, wtK_sum ws (fun j => (okF_all h j).1)]
/-- What a test tried leaves: its number, and the costs. -/
theorem tryL_inv (c : Nat → Nat × Int) (W s : Nat) (ts : List Tst) : ∀ k, (tryL c W s ts k = (0, -1)) ∨ ∃ i, i < k ∧ (tryL c W s ts k).2 = (i : Int) ∧ inn s (ts.getD i (0, 0)).2 ≠ 0 ∧ outs s (ts.getD i (0, 0)).2 ≠ 0 ∧
    (tryL c W s ts k).1 = W * (ts.getD i (0, 0)).1 + (c (inn s (ts.getD i (0, 0)).2)).1 + (c (outs s (ts.getD i (0, 0)).2)).1 := by
  intro k
  induction k with
  | zero => exact Or.inl rfl
  | succ k ih =>
    rw [tryL_succ]
    unfold tryT
    by_cases h1 : inn s (ts.getD k (0, 0)).2 = 0 ∨ outs s (ts.getD k (0, 0)).2 = 0
    · rw [if_pos h1]
      rcases ih with h | ⟨i, hi, h⟩
      · exact Or.inl h
      · exact Or.inr ⟨i, by omega, h⟩
    · rw [if_neg h1]
      split
      · exact Or.inr ⟨k, by omega, rfl, fun h => h1 (Or.inl h), fun h => h1 (Or.inr h), rfl⟩
      · rcases ih with h | ⟨i, hi, h⟩
        · exact Or.inl h
        · exact Or.inr ⟨i, by omega, h⟩
/-- The plan of a set, as a list of branches. -/
def plnF (ws : List Nat) (ts : List Tst) (n : Nat) : Nat → Nat → List Tt
  | 0, _ => []
  | f + 1, s => if (bst ws ts s).2 = -1 then [(-1, mems n s)] else
      ((bst ws ts s).2, []) :: (plnF ws ts n f (inn s (ts.getD (bst ws ts s).2.toNat (0, 0)).2) ++ plnF ws ts n f (outs s (ts.getD (bst ws ts s).2.toNat (0, 0)).2))
def pln (ws : List Nat) (ts : List Tst) (n s : Nat) : List Tt := plnF ws ts n (s + 1) s
theorem bst_inv (ws : List Nat) (ts : List Tst) (s : Nat) : bst ws ts s = (0, -1) ∨ ∃ i, i < ts.length ∧ (bst ws ts s).2 = (i : Int) ∧ inn s (ts.getD i (0, 0)).2 ≠ 0 ∧ outs s (ts.getD i (0, 0)).2 ≠ 0 ∧
    (bst ws ts s).1 = wt ws s * (ts.getD i (0, 0)).1 + (bst ws ts (inn s (ts.getD i (0, 0)).2)).1 + (bst ws ts (outs s (ts.getD i (0, 0)).2)).1 := by
  rw [bst_eq]
  exact tryL_inv _ _ _ _ _
theorem plnF_eq (ws : List Nat) (ts : List Tst) (n : Nat) : ∀ (f g s : Nat), s < f → s < g → plnF ws ts n f s = plnF ws ts n g s
  | 0, _, _, h, _ => by omega
  | _, 0, _, _, h => by omega
  | f + 1, g + 1, s, h1, h2 => by
    unfold plnF
    by_cases he : (bst ws ts s).2 = -1
    · rw [if_pos he, if_pos he]
    · rw [if_neg he, if_neg he]
      rcases bst_inv ws ts s with h | ⟨i, hi, e, a1, a2, _⟩
      · rw [h] at he; exact absurd rfl he
      · rw [e, Int.toNat_natCast]
        have h3 := in_out s (ts.getD i (0, 0)).2
        rw [plnF_eq ws ts n f g _ (by omega) (by omega), plnF_eq ws ts n f g (outs s (ts.getD i (0, 0)).2) (by omega) (by omega)]
theorem pln_end {ws : List Nat} {ts : List Tst} {n s : Nat} (h : (bst ws ts s).2 = -1) : pln ws ts n s = [(-1, mems n s)] := by
  unfold pln plnF
  rw [if_pos h]
theorem pln_test {ws : List Nat} {ts : List Tst} {n s i : Nat} (h : (bst ws ts s).2 = (i : Int)) (h1 : inn s (ts.getD i (0, 0)).2 ≠ 0) (h2 : outs s (ts.getD i (0, 0)).2 ≠ 0) :
    pln ws ts n s = ((i : Int), []) :: (pln ws ts n (inn s (ts.getD i (0, 0)).2) ++ pln ws ts n (outs s (ts.getD i (0, 0)).2)) := by
  have h3 := in_out s (ts.getD i (0, 0)).2
  show plnF ws ts n (s + 1) s = _
  unfold plnF
  rw [if_neg (by rw [h]; omega), h, Int.toNat_natCast]
  unfold pln
  rw [plnF_eq ws ts n s (inn s (ts.getD i (0, 0)).2 + 1) _ (by omega) (by omega), plnF_eq ws ts n s (outs s (ts.getD i (0, 0)).2 + 1) _ (by omega) (by omega)]
theorem pln_len (ws : List Nat) (ts : List Tst) (n : Nat) : ∀ s, (pln ws ts n s).length ≤ 2 * s - 2 + 1 := by
  intro s
  induction s using Nat.strongRecOn with
  | _ s ih =>
    rcases bst_inv ws ts s with h | ⟨i, hi, e, a1, a2, _⟩
    · rw [pln_end (by rw [h])]; simp
    · have h3 := in_out s (ts.getD i (0, 0)).2
      rw [pln_test e a1 a2, List.length_cons, List.length_append]
      have := ih (inn s (ts.getD i (0, 0)).2) (by omega)
      have := ih (outs s (ts.getD i (0, 0)).2) (by omega)
      omega
/-- How much the cheapest plan costs at most. -/
theorem wtK_le (ws : List Nat) (hw : ∀ j, ws.getD j 0 ≤ 1000) (s : Nat) : ∀ k, wtK ws s k ≤ 1000 * k := by
  intro k
  induction k with
  | zero => simp [wtK]
  | succ k ih =>
    unfold wtK
    have := hw k
    split <;> omega
theorem bst_le (ws : List Nat) (ts : List Tst) (hw : ∀ s, wt ws s ≤ 10000) (ht : ∀ i, (ts.getD i (0, 0)).1 ≤ 1000) : ∀ s, (bst ws ts s).1 ≤ 10000000 * s - 10000000 := by
  intro s
  induction s using Nat.strongRecOn with
  | _ s ih =>
    rcases bst_inv ws ts s with h | ⟨i, hi, e, a1, a2, e2⟩
    · rw [h]; omega
    · have h3 := in_out s (ts.getD i (0, 0)).2
      have h4 := ih (inn s (ts.getD i (0, 0)).2) (by omega)
      have h5 := ih (outs s (ts.getD i (0, 0)).2) (by omega)
      have h6 : wt ws s * (ts.getD i (0, 0)).1 ≤ 10000 * 1000 := Nat.mul_le_mul (hw s) (ht i)
      rw [e2]
      omega
/-! ### The reference's search -/
def rbC (g : List Int → List Tt × Int) (W : Int) (set : List Int) (t : Tt) : Int := (g (set.filter fun f => shB t.2 f)).2 + (g (set.filter fun f => !shB t.2 f)).2 + t.1 * W
def rbT (g : List Int → List Tt × Int) (W : Int) (set : List Int) (i : Nat) (t : Tt) (b : List Tt × Int) : List Tt × Int :=
  if spB t.2 set = true then
    if b.2 < 0 ∨ rbC g W set t < b.2 then (((i : Int), []) :: ((g (set.filter fun f => shB t.2 f)).1 ++ (g (set.filter fun f => !shB t.2 f)).1), rbC g W set t) else b
  else b
def rbL (g : List Int → List Tt × Int) (W : Int) (set : List Int) (ts : List Tt) (k : Nat) : List Tt × Int := (List.range k).foldl (fun b i => rbT g W set i (ts.getD i (0, [])) b) ([(-1, set)], -1)
theorem rbL_zero (g : List Int → List Tt × Int) (W : Int) (set : List Int) (ts : List Tt) : rbL g W set ts 0 = ([(-1, set)], -1) := rfl
theorem rbL_succ (g : List Int → List Tt × Int) (W : Int) (set : List Int) (ts : List Tt) (k : Nat) : rbL g W set ts (k + 1) = rbT g W set k (ts.getD k (0, [])) (rbL g W set ts k) := by
  unfold rbL
  rw [List.range_succ, List.foldl_append]
  rfl
def rbF (ws : List Int) (ts : List Tt) : Nat → List Int → List Tt × Int
  | 0, set => ([(-1, set)], 0)
  | f + 1, set => ((rbL (rbF ws ts f) (wsm ws set set.length) set ts ts.length).1, max (rbL (rbF ws ts f) (wsm ws set set.length) set ts ts.length).2 0)
section
variable {ws : List Int} {ts : List Tt}
/-- What the reference holds where the cheapest plans hold b. -/
def plnOf (ws : List Int) (ts : List Tt) (s : Nat) (b : Nat × Int) : List Tt × Int :=
  if b.2 = -1 then ([(-1, mems ws.length s)], -1) else ((b.2, []) :: (pln (wsN ws) (tsN ts) ws.length (inn s ((tsN ts).getD b.2.toNat (0, 0)).2) ++ pln (wsN ws) (tsN ts) ws.length (outs s ((tsN ts).getD b.2.toNat (0, 0)).2)), (b.1 : Int))
theorem mems_lt {n s t : Nat} {j : Nat} (hj : j < n) (hs : s.testBit j = true) (ht : t.testBit j = false) (hsub : ∀ i, t.testBit i = true → s.testBit i = true) : (mems n t).length < (mems n s).length := by
  unfold mems
  rw [List.length_map, List.length_map]
  have h1 : memN n t = (memN n s).filter fun i => t.testBit i := by
    unfold memN
    rw [List.filter_filter]
    apply List.filter_congr
    intro i _
    cases h : t.testBit i with
    | false => rfl
    | true => rw [hsub i h]; rfl
  rw [h1]
  refine Nat.lt_of_le_of_ne (List.length_filter_le _ _) fun e => ?_
  have h2 := (List.length_filter_eq_length_iff.1 e) j (memN_mem.2 ⟨hj, hs⟩)
  rw [ht] at h2
  cases h2
theorem bit_ex {n s : Nat} (hs : s < 2 ^ n) (h0 : s ≠ 0) : ∃ j, j < n ∧ s.testBit j = true := by
  obtain ⟨k, hk⟩ := low_ex s h0
  exact ⟨k, hk.lt hs, hk.bit⟩
theorem inn_mems_lt {n s m : Nat} (hs : s < 2 ^ n) (h0 : outs s m ≠ 0) : (mems n (inn s m)).length < (mems n s).length := by
  obtain ⟨j, hj, hb⟩ := bit_ex (Nat.lt_of_le_of_lt (outs_le s m) hs) h0
  rw [outs_bit] at hb
  simp only [Bool.and_eq_true] at hb
  refine mems_lt hj hb.1 ?_ (fun i hi => ?_)
  · rw [inn_bit, hb.1, Bool.true_and]
    simpa using hb.2
  · rw [inn_bit] at hi; simp only [Bool.and_eq_true] at hi; exact hi.1
theorem outs_mems_lt {n s m : Nat} (hs : s < 2 ^ n) (h0 : inn s m ≠ 0) : (mems n (outs s m)).length < (mems n s).length := by
  obtain ⟨j, hj, hb⟩ := bit_ex (Nat.lt_of_le_of_lt (inn_le s m) hs) h0
  rw [inn_bit] at hb
  simp only [Bool.and_eq_true] at hb
  refine mems_lt hj hb.1 ?_ (fun i hi => ?_)
  · rw [outs_bit, hb.1, hb.2]; rfl
  · rw [outs_bit] at hi; simp only [Bool.and_eq_true] at hi; exact hi.1
theorem rbF_bst (h : Cv ws ts) : ∀ (f s : Nat), s < 2 ^ ws.length → (mems ws.length s).length < f → rbF ws ts f (mems ws.length s) = (pln (wsN ws) (tsN ts) ws.length s, ((bst (wsN ws) (tsN ts) s).1 : Int)) := by
  intro f
  induction f with
  | zero => intro s _ h; omega
  | succ f ih =>
    intro s hs hl
    have key : ∀ k, k ≤ ts.length → rbL (rbF ws ts f) (wsm ws (mems ws.length s) (mems ws.length s).length) (mems ws.length s) ts k = plnOf ws ts s (tryL (bst (wsN ws) (tsN ts)) (wt (wsN ws) s) s (tsN ts) k) := by
      intro k
      induction k with
      | zero => intro _; rfl
      | succ k ihk =>
        intro hk
        rw [rbL_succ, tryL_succ, ihk (by omega), wt_mems h.2.1]
        have hsp := spB_mems h (show k < ts.length by omega) hs
        have e0 : (ts.getD k (0, [])).2 = tS ts k := rfl
        have e1 : (ts.getD k (0, [])).1 = tC ts k := rfl
        unfold rbT tryT rbC
        rw [e0, e1, yes_mems h (by omega), no_mems h (by omega)]
        by_cases hc : inn s ((tsN ts).getD k (0, 0)).2 = 0 ∨ outs s ((tsN ts).getD k (0, 0)).2 = 0
        · rw [if_neg (fun hh => (hsp.1 hh) hc), if_pos hc]
        · rw [if_pos (hsp.2 hc), if_neg hc]
          have c1 : inn s ((tsN ts).getD k (0, 0)).2 ≠ 0 := fun e => hc (Or.inl e)
          have c2 : outs s ((tsN ts).getD k (0, 0)).2 ≠ 0 := fun e => hc (Or.inr e)
          rw [ih _ (Nat.lt_of_le_of_lt (inn_le _ _) hs) (by have := inn_mems_lt hs c2; omega), ih _ (Nat.lt_of_le_of_lt (outs_le _ _) hs) (by have := outs_mems_lt hs c1; omega)]
          have ec : ((tsN ts).getD k (0, 0)).1 = (tC ts k).toNat := by rw [tsN_get]
          have hcost := (h.2.2 k (by omega)).1
          rw [ec]
          generalize hB : tryL (bst (wsN ws) (tsN ts)) (wt (wsN ws) s) s (tsN ts) k = B
          have hinv := tryL_inv (bst (wsN ws) (tsN ts)) (wt (wsN ws) s) s (tsN ts) k
          rw [hB] at hinv
          generalize wt (wsN ws) s = W
          obtain ⟨C, hC⟩ : ∃ C : Nat, tC ts k = (C : Int) := ⟨(tC ts k).toNat, by omega⟩
          rw [hC, Int.toNat_natCast]
          generalize (bst (wsN ws) (tsN ts) (inn s ((tsN ts).getD k (0, 0)).2)).1 = X
          generalize (bst (wsN ws) (tsN ts) (outs s ((tsN ts).getD k (0, 0)).2)).1 = Y
          have eC : (X : Int) + (Y : Int) + (C : Int) * (W : Int) = ((W * C + X + Y : Nat) : Int) := by
            rw [Int.natCast_add, Int.natCast_add, Int.natCast_mul, Int.mul_comm]; omega
          simp only [eC]
          generalize W * C + X + Y = Z
          unfold plnOf
          rcases hinv with hv | ⟨i, hi, e2, _⟩
          · rw [hv]
            simp
          · have ne : ¬ B.2 = -1 := by omega
            rw [if_neg ne]
            simp only
            by_cases hlt : Z < B.1
            · have e3 : (if B.2 = -1 ∨ Z < B.1 then (Z, (k : Int)) else B) = (Z, (k : Int)) := if_pos (Or.inr hlt)
              rw [e3, if_pos (Or.inr (show (Z : Int) < (B.1 : Int) by omega)), if_neg (show ¬ ((k : Int) = -1) by omega), Int.toNat_natCast]
            · have e3 : (if B.2 = -1 ∨ Z < B.1 then (Z, (k : Int)) else B) = B := if_neg (by rintro (h | h); exact ne h; exact hlt h)
              rw [e3, if_neg (by rintro (h | h) <;> omega), if_neg ne]
    have hk := key ts.length (Nat.le_refl _)
    unfold rbF
    rw [hk, ← tsN_len ts, ← bst_eq]
    unfold plnOf
    rcases bst_inv (wsN ws) (tsN ts) s with hv | ⟨i, hi, e2, a1, a2, _⟩
    · have e4 := pln_end (ws := wsN ws) (ts := tsN ts) (n := ws.length) (s := s) (by rw [hv])
      rw [e4, if_pos (by rw [hv]), hv]
      rfl
    · have e4 := pln_test (n := ws.length) e2 a1 a2
      rw [e4, if_neg (by omega), e2, Int.toNat_natCast]
      simp only
      rw [Int.max_eq_left (by omega)]
end
end Go.Proofs.Tb
