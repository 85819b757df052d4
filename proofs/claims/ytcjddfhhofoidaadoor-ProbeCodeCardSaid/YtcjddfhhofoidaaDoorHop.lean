/- Plain law: no code has a lesser sum than the joining of the least nodes; its lengths are a code. -/
import Derived.Test.YtcjddfhhofoidaaDoorHue
set_option linter.unusedVariables false
set_option linter.unusedSimpArgs false
namespace Go.Proofs.Tb

/-- Pairs of a weight and a length: what the lengths take of a code, and their sum. -/
def krf (ps : List (Nat × Nat)) : Nat := (ps.map fun p => 2 ^ (62 - p.2)).sum
def cst (ps : List (Nat × Nat)) : Nat := (ps.map fun p => p.1 * p.2).sum
theorem krf_cons (p : Nat × Nat) (ps : List (Nat × Nat)) : krf (p :: ps) = 2 ^ (62 - p.2) + krf ps := rfl
theorem cst_cons (p : Nat × Nat) (ps : List (Nat × Nat)) : cst (p :: ps) = p.1 * p.2 + cst ps := rfl
theorem krf_perm {a b : List (Nat × Nat)} (h : a.Perm b) : krf a = krf b := (h.map _).sum_nat
theorem cst_perm {a b : List (Nat × Nat)} (h : a.Perm b) : cst a = cst b := (h.map _).sum_nat
/-- The longest length goes to the least weight. -/
theorem bub (a : Nat) : ∀ (R : List (Nat × Nat)) (x : Nat), (∀ p ∈ R, a ≤ p.1) → ∃ x' R', R'.map Prod.fst = R.map Prod.fst ∧ x ≤ x' ∧ (∀ p ∈ R', p.2 ≤ x') ∧ krf ((a, x') :: R') = krf ((a, x) :: R) ∧ cst ((a, x') :: R') ≤ cst ((a, x) :: R) ∧
    (∀ M, x ≤ M → (∀ p ∈ R, p.2 ≤ M) → x' ≤ M) := by
  intro R
  induction R with
  | nil => intro x _; exact ⟨x, [], rfl, Nat.le_refl _, (fun p hp => nomatch hp), rfl, Nat.le_refl _, fun M h _ => h⟩
  | cons p R ih =>
    intro x h
    obtain ⟨w, l⟩ := p
    have hw : a ≤ w := h (w, l) (List.mem_cons_self ..)
    have hR : ∀ p ∈ R, a ≤ p.1 := fun p hp => h p (List.mem_cons_of_mem _ hp)
    by_cases hl : l ≤ x
    · obtain ⟨x', R', e, hx, hm, hk, hc, hM⟩ := ih x hR
      refine ⟨x', (w, l) :: R', by rw [List.map_cons, List.map_cons, e], hx, fun p hp => ?_, ?_, ?_, fun M h1 h2 => hM M h1 fun p hp => h2 p (List.mem_cons_of_mem _ hp)⟩
      · rcases List.mem_cons.1 hp with rfl | hp
        · exact Nat.le_trans hl hx
        · exact hm p hp
      · simp only [krf_cons] at hk ⊢; omega
      · simp only [cst_cons] at hc ⊢; omega
    · obtain ⟨x', R', e, hx, hm, hk, hc, hM⟩ := ih l hR
      refine ⟨x', (w, x) :: R', by rw [List.map_cons, List.map_cons, e], by omega, fun p hp => ?_, ?_, ?_, fun M h1 h2 => hM M (h2 (w, l) (List.mem_cons_self ..)) fun p hp => h2 p (List.mem_cons_of_mem _ hp)⟩
      · rcases List.mem_cons.1 hp with rfl | hp
        · simp only; omega
        · exact hm p hp
      · simp only [krf_cons] at hk ⊢; omega
      · simp only [cst_cons] at hc ⊢
        obtain ⟨d, rfl⟩ := Nat.exists_eq_add_of_le hw
        obtain ⟨f, rfl⟩ := Nat.exists_eq_add_of_le (Nat.le_of_lt (Nat.lt_of_not_le hl))
        simp only [Nat.add_mul, Nat.mul_add] at hc ⊢
        omega
theorem krf_div : ∀ (R : List (Nat × Nat)) (y : Nat), (∀ p ∈ R, p.2 ≤ y) → y ≤ 62 → ∃ k, krf R = 2 ^ (62 - y) * k := by
  intro R y h hy
  induction R with
  | nil => exact ⟨0, rfl⟩
  | cons p R ih =>
    obtain ⟨k, hk⟩ := ih fun q hq => h q (List.mem_cons_of_mem _ hq)
    have hp := h p (List.mem_cons_self ..)
    refine ⟨2 ^ (y - p.2) + k, ?_⟩
    rw [krf_cons, hk, Nat.mul_add, ← Nat.pow_add, show 62 - y + (y - p.2) = 62 - p.2 by omega]
/-- The two least nodes may be joined. -/
theorem hop_step (a b : Nat) (R : List (Nat × Nat)) (x y : Nat) (hab : a ≤ b) (hb : ∀ p ∈ R, b ≤ p.1) (hx : x ≤ 62) (hy : y ≤ 62) (hR : ∀ p ∈ R, p.2 ≤ 62) (hk : krf ((a, x) :: (b, y) :: R) ≤ 2 ^ 62) :
    ∃ z R', R'.map Prod.fst = R.map Prod.fst ∧ z ≤ 62 ∧ (∀ p ∈ R', p.2 ≤ 62) ∧ krf ((a + b, z) :: R') ≤ 2 ^ 62 ∧ cst ((a + b, z) :: R') + (a + b) ≤ cst ((a, x) :: (b, y) :: R) := by
  obtain ⟨x', R1, e1, hx1, hm1, hk1, hc1, hM1⟩ := bub a ((b, y) :: R) x (fun p hp => by
    rcases List.mem_cons.1 hp with rfl | hp
    · exact hab
    · exact Nat.le_trans hab (hb p hp))
  have hx62 : x' ≤ 62 := hM1 62 hx fun p hp => by
    rcases List.mem_cons.1 hp with rfl | hp
    · exact hy
    · exact hR p hp
  obtain ⟨p, R2, rfl⟩ : ∃ p R2, R1 = p :: R2 := by
    cases R1 with
    | nil => simp at e1
    | cons p R2 => exact ⟨p, R2, rfl⟩
  obtain ⟨b', y1⟩ := p
  simp only [List.map_cons, List.cons.injEq] at e1
  obtain ⟨rfl, e1⟩ := e1
  have hbR : ∀ p ∈ R2, b' ≤ p.1 := fun p hp => by
    have h1 : p.1 ∈ R2.map Prod.fst := List.mem_map_of_mem hp
    rw [e1] at h1
    obtain ⟨q, hq, hqe⟩ := List.mem_map.1 h1
    rw [← hqe]; exact hb q hq
  obtain ⟨y', R3, e2, hy2, hm2, hk2, hc2, hM2⟩ := bub b' R2 y1 hbR
  have hyx : y' ≤ x' := hM2 x' (hm1 (b', y1) (List.mem_cons_self ..)) fun p hp => hm1 p (List.mem_cons_of_mem _ hp)
  obtain ⟨k, hkk⟩ := krf_div R3 y' hm2 (by omega)
  have hq : 0 < 2 ^ (62 - y') := Nat.two_pow_pos _
  have h1 : 0 < 2 ^ (62 - x') := Nat.two_pow_pos _
  have h62 : 2 ^ 62 = 2 ^ (62 - y') * 2 ^ y' := by rw [← Nat.pow_add, show 62 - y' + y' = 62 by omega]
  have hsum : 2 ^ (62 - x') + (2 ^ (62 - y') + 2 ^ (62 - y') * k) ≤ 2 ^ (62 - y') * 2 ^ y' := by
    rw [← h62, ← hkk]
    refine Nat.le_trans ?_ hk
    rw [← hk1, krf_cons, ← hk2, krf_cons]
    exact Nat.le_refl _
  have hlt : 1 + k < 2 ^ y' := by
    rcases Nat.lt_or_ge (1 + k) (2 ^ y') with h | h
    · exact h
    · have := Nat.mul_le_mul_left (2 ^ (62 - y')) h
      rw [Nat.mul_add, Nat.mul_one] at this
      omega
  have hle : 2 ^ (62 - y') + 2 ^ (62 - y') + 2 ^ (62 - y') * k ≤ 2 ^ 62 := by
    have := Nat.mul_le_mul_left (2 ^ (62 - y')) (show 2 + k ≤ 2 ^ y' by omega)
    rw [Nat.mul_add, ← h62] at this
    omega
  have hy0 : y' ≠ 0 := by rintro rfl; simp at hlt
  refine ⟨y' - 1, R3, e2.trans e1, by omega, fun p hp => Nat.le_trans (hm2 p hp) (by omega), ?_, ?_⟩
  · rw [krf_cons, hkk]
    simp only
    rw [show 62 - (y' - 1) = 62 - y' + 1 by omega, Nat.pow_succ]
    omega
  · simp only [cst_cons] at hc1 hc2 ⊢
    obtain ⟨z, rfl⟩ : ∃ z, y' = z + 1 := ⟨y' - 1, by omega⟩
    obtain ⟨f, rfl⟩ := Nat.exists_eq_add_of_le hyx
    rw [Nat.add_sub_cancel]
    simp only [Nat.add_mul, Nat.mul_add, Nat.mul_one] at hc1 hc2 ⊢
    omega
theorem perm_map_cons {α β : Type} (f : α → β) {ps : List α} {b : β} {t : List β} (h : (ps.map f).Perm (b :: t)) : ∃ p R, ps.Perm (p :: R) ∧ f p = b ∧ (R.map f).Perm t := by
  have hb : b ∈ ps.map f := h.symm.subset (List.mem_cons_self ..)
  obtain ⟨p, hp, rfl⟩ := List.mem_map.1 hb
  obtain ⟨s, u, rfl⟩ := List.append_of_mem hp
  refine ⟨p, s ++ u, List.perm_middle, rfl, ?_⟩
  have h1 : ((s ++ p :: u).map f).Perm (f p :: (s ++ u).map f) := by
    rw [List.map_append, List.map_cons, List.map_append]; exact List.perm_middle
  exact (List.Perm.cons_inv (h1.symm.trans h))
theorem nk_le {n : Nat} {bs : List Tt} (h : Hok n bs) (hn : n ≤ 1000) {a b : Tt} (ha : a ∈ bs) (hb : b ∈ bs) (hk : nk a ≤ nk b) : a.1 ≤ b.1 := by
  obtain ⟨x, t, e, h1, h2⟩ := h.nok hn ha
  obtain ⟨y, u, e', h1', h2'⟩ := h.nok hn hb
  unfold nk at hk
  rw [e, e'] at hk
  simp only [List.headD_cons] at hk
  omega
/-- Two least nodes of a step. -/
theorem HRk.two {ws : List Int} (hw : Wok ws) {k : Nat} {bs0 : List Tt} {ls0 : List Int} {S0 : Int} {a b : Tt} {r : List Tt} (h0 : HRk ws k bs0 ls0 S0) (hp : (a :: b :: r).Perm bs0) (hs : ((a :: b :: r).map nk).Pairwise (· ≤ ·)) :
    Hok ws.length (a :: b :: r) ∧ a.1 ≤ b.1 ∧ ∀ c ∈ r, b.1 ≤ c.1 := by
  have hk := (HRk.ok hw h0).ok.perm hp
  have hn : ws.length ≤ 1000 := by have := hw.1.2; omega
  rw [List.pairwise_map, List.pairwise_cons, List.pairwise_cons] at hs
  refine ⟨hk, nk_le hk hn (List.mem_cons_self ..) (List.mem_cons_of_mem _ (List.mem_cons_self ..)) (hs.1 b (List.mem_cons_self ..)), fun c hc => nk_le hk hn (List.mem_cons_of_mem _ (List.mem_cons_self ..)) (List.mem_cons_of_mem _ (List.mem_cons_of_mem _ hc)) (hs.2.1 c hc)⟩
def wN (bs : List Tt) : List Nat := bs.map fun b => b.1.toNat
/-- Other lengths, joined along. -/
theorem HRk.other {ws : List Int} (hw : Wok ws) {os : List Nat} (ho : os.length = ws.length) (h62 : ∀ x ∈ os, x ≤ 62) (hk : krf ((wN (leavesL ws)).zip os) ≤ 2 ^ 62) :
    ∀ {k : Nat} {bs : List Tt} {ls : List Int} {S : Int}, HRk ws k bs ls S → ∃ ps : List (Nat × Nat), (ps.map Prod.fst).Perm (wN bs) ∧ (∀ p ∈ ps, p.2 ≤ 62) ∧ krf ps ≤ 2 ^ 62 ∧ cst ps + S.toNat ≤ cst ((wN (leavesL ws)).zip os)
  | 0, bs, ls, S, ⟨h1, h2, h3⟩ => by
    subst h1 h2 h3
    refine ⟨(wN (leavesL ws)).zip os, ?_, fun p hp => h62 _ (List.of_mem_zip hp).2, hk, by simp⟩
    rw [List.map_fst_zip (by simp [wN, leavesL, ho])]
  | k + 1, bs, ls, S, ⟨bs0, ls0, S0, a, b, r, h0, hp, hs, e1, e2, e3⟩ => by
    obtain ⟨ps, p1, p2, p3, p4⟩ := HRk.other hw ho h62 hk h0
    obtain ⟨hok, hab, hbr⟩ := HRk.two hw h0 hp hs
    have h1 : (ps.map Prod.fst).Perm (a.1.toNat :: b.1.toNat :: wN r) := p1.trans (hp.symm.map _)
    obtain ⟨⟨pa, x⟩, R1, q1, q2, q3⟩ := perm_map_cons _ h1
    obtain ⟨⟨pb, y⟩, R, s1, s2, s3⟩ := perm_map_cons _ q3
    simp only at q2 s2
    subst q2 s2
    have hall := q1.trans (s1.cons _)
    rw [krf_perm hall] at p3
    rw [cst_perm hall] at p4
    have p2' : ∀ p ∈ ((a.1.toNat, x) :: (b.1.toNat, y) :: R), p.2 ≤ 62 := fun p hp => p2 p (hall.symm.subset hp)
    obtain ⟨z, R', t1, t2, t3, t4, t5⟩ := hop_step a.1.toNat b.1.toNat R x y (by omega) (fun p hp => by
      have h2 : p.1 ∈ R.map Prod.fst := List.mem_map_of_mem hp
      obtain ⟨c, hc, hce⟩ := List.mem_map.1 (s3.subset h2)
      have := hbr c hc
      omega) (p2' (a.1.toNat, x) (List.mem_cons_self ..)) (p2' (b.1.toNat, y) (List.mem_cons_of_mem _ (List.mem_cons_self ..))) (fun p hp => p2' p (List.mem_cons_of_mem _ (List.mem_cons_of_mem _ hp))) p3
    have ha := hok.pos a (List.mem_cons_self ..)
    have hb := hok.pos b (List.mem_cons_of_mem _ (List.mem_cons_self ..))
    have hS := (HRk.ok hw h0).sb.1
    refine ⟨(a.1.toNat + b.1.toNat, z) :: R', ?_, fun p hp => ?_, t4, by rw [e3]; omega⟩
    · rw [e1]
      unfold wN
      have e : (a.1 + b.1).toNat = a.1.toNat + b.1.toNat := by omega
      simp only [List.map_append, List.map_cons, List.map_nil, t1, e]
      exact (s3.cons _).trans (List.perm_append_singleton _ _).symm
    · rcases List.mem_cons.1 hp with rfl | hp
      · exact t2
      · exact t3 p hp
theorem HRk.opt {ws : List Int} (hw : Wok ws) {os : List Nat} (ho : os.length = ws.length) (h62 : ∀ x ∈ os, x ≤ 62) (hk : krf ((wN (leavesL ws)).zip os) ≤ 2 ^ 62) {k : Nat} {bs : List Tt} {ls : List Int} {S : Int} (h : HRk ws k bs ls S) :
    S ≤ cst ((wN (leavesL ws)).zip os) := by
  obtain ⟨ps, _, _, _, h1⟩ := HRk.other hw ho h62 hk h
  omega
end Go.Proofs.Tb
