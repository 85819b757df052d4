/- Plain law: the lengths of the joining of the least nodes are a code, and their sum is what it says. -/
import Derived.Test.YtcjddfhhofoidaaDoorHue
set_option linter.unusedVariables false
set_option linter.unusedSimpArgs false
namespace Go.Proofs.Tb

/-- Pairs of a weight and a length: what the lengths take of a code, and their sum. -/
def krf (ps : List (Nat × Nat)) : Nat := (ps.map fun p => 2 ^ (62 - p.2)).sum
def cst (ps : List (Nat × Nat)) : Nat := (ps.map fun p => p.1 * p.2).sum
theorem krf_cons (p : Nat × Nat) (ps : List (Nat × Nat)) : krf (p :: ps) = 2 ^ (62 - p.2) + krf ps := rfl
theorem cst_cons (p : Nat × Nat) (ps : List (Nat × Nat)) : cst (p :: ps) = p.1 * p.2 + cst ps := rfl
theorem krf_perm {a b : List (Nat × Nat)} (h : a.Perm b) : krf a = krf b := (h.map _).sum_nat
theorem cst_perm {a b : List (Nat × Nat)} (h : a.Perm b) : cst a = cst b := (h.map _).sum_nat
/-- The longest length goes to the least weight. -/
theorem bub (a : Nat) : ∀ (R : List (Nat × Nat)) (x : Nat), (∀ p ∈ R, a ≤ p.1) → ∃ x' R', R'.map Prod.fst = R.map Prod.fst ∧ x ≤ x' ∧ (∀ p ∈ R', p.2 ≤ x') ∧ krf ((a, x') :: R') = krf ((a, x) :: R) ∧ cst ((a, x') :: R') ≤ cst ((a, x) :: R) ∧
    (∀ M, x ≤ M → (∀ p ∈ R, p.2 ≤ M) → x' ≤ M) := by
  intro R
  induction R with
  | nil => intro x _; exact ⟨x, [], rfl, Nat.le_refl _, (fun p hp => by cases hp), rfl, Nat.le_refl _, fun M h _ => h⟩
  | cons p R ih =>
    intro x h
    obtain ⟨w, l⟩ := p
    have hw : a ≤ w := h (w, l) (List.mem_cons_self ..)
    have hR : ∀ p ∈ R, a ≤ p.1 := fun p hp => h p (List.mem_cons_of_mem _ hp)
    by_cases hl : l ≤ x
    · obtain ⟨x', R', e, hx, hm, hk, hc, hM⟩ := ih x hR
      refine ⟨x', (w, l) :: R', by rw [List.map_cons, List.map_cons, e], hx, fun p hp => ?_, ?_, ?_, fun M h1 h2 => hM M h1 fun p hp => h2 p (List.mem_cons_of_mem _ hp)⟩
      · rcases List.mem_cons.1 hp with rfl | hp
        · exact Nat.le_trans hl hx
        · exact hm p hp
      · simp only [krf_cons] at hk ⊢; omega
      · simp only [cst_cons] at hc ⊢; omega
    · obtain ⟨x', R', e, hx, hm, hk, hc, hM⟩ := ih l hR
      refine ⟨x', (w, x) :: R', by rw [List.map_cons, List.map_cons, e], by omega, fun p hp => ?_, ?_, ?_, fun M h1 h2 => hM M (h2 (w, l) (List.mem_cons_self ..)) fun p hp => h2 p (List.mem_cons_of_mem _ hp)⟩
      · rcases List.mem_cons.1 hp with rfl | hp
        · simp only; omega
        · exact hm p hp
      · simp only [krf_cons] at hk ⊢; omega
      · simp only [cst_cons] at hc ⊢
        obtain ⟨d, rfl⟩ := Nat.exists_eq_add_of_le hw
        obtain ⟨f, rfl⟩ := Nat.exists_eq_add_of_le (Nat.le_of_lt (Nat.lt_of_not_le hl))
        simp only [Nat.add_mul, Nat.mul_add] at hc ⊢
        omega
theorem krf_div : ∀ (R : List (Nat × Nat)) (y : Nat), (∀ p ∈ R, p.2 ≤ y) → y ≤ 62 → ∃ k, krf R = 2 ^ (62 - y) * k := by
  intro R y h hy
  induction R with
  | nil => exact ⟨0, rfl⟩
  | cons p R ih =>
    obtain ⟨k, hk⟩ := ih fun q hq => h q (List.mem_cons_of_mem _ hq)
    have hp := h p (List.mem_cons_self ..)
    refine ⟨2 ^ (y - p.2) + k, ?_⟩
    rw [krf_cons, hk, Nat.mul_add, ← Nat.pow_add, show 62 - y + (y - p.2) = 62 - p.2 by omega]
/-- The two least nodes may be joined. -/
theorem hop_step (a b : Nat) (R : List (Nat × Nat)) (x y : Nat) (hab : a ≤ b) (hb : ∀ p ∈ R, b ≤ p.1) (hx : x ≤ 62) (hy : y ≤ 62) (hR : ∀ p ∈ R, p.2 ≤ 62) (hk : krf ((a, x) :: (b, y) :: R) ≤ 2 ^ 62) :
    ∃ z R', R'.map Prod.fst = R.map Prod.fst ∧ z ≤ 62 ∧ (∀ p ∈ R', p.2 ≤ 62) ∧ krf ((a + b, z) :: R') ≤ 2 ^ 62 ∧ cst ((a + b, z) :: R') + (a + b) ≤ cst ((a, x) :: (b, y) :: R) := by
  obtain ⟨x', R1, e1, hx1, hm1, hk1, hc1, hM1⟩ := bub a ((b, y) :: R) x (fun p hp => by
    rcases List.mem_cons.1 hp with rfl | hp
    · exact hab
    · exact Nat.le_trans hab (hb p hp))
  have hx62 : x' ≤ 62 := hM1 62 hx fun p hp => by
    rcases List.mem_cons.1 hp with rfl | hp
    · exact hy
    · exact hR p hp
  obtain ⟨p, R2, rfl⟩ : ∃ p R2, R1 = p :: R2 := by
    cases R1 with
    | nil => simp at e1
    | cons p R2 => exact ⟨p, R2, rfl⟩
  obtain ⟨b', y1⟩ := p
  simp only [List.map_cons, List.cons.injEq] at e1
  obtain ⟨rfl, e1⟩ := e1
  have hbR : ∀ p ∈ R2, b' ≤ p.1 := fun p hp => by
    have h1 : p.1 ∈ R2.map Prod.fst := List.mem_map_of_mem hp
    rw [e1] at h1
    obtain ⟨q, hq, hqe⟩ := List.mem_map.1 h1
    rw [← hqe]; exact hb q hq
  obtain ⟨y', R3, e2, hy2, hm2, hk2, hc2, hM2⟩ := bub b' R2 y1 hbR
  have hyx : y' ≤ x' := hM2 x' (hm1 (b', y1) (List.mem_cons_self ..)) fun p hp => hm1 p (List.mem_cons_of_mem _ hp)
  obtain ⟨k, hkk⟩ := krf_div R3 y' hm2 (by omega)
  have hq : 0 < 2 ^ (62 - y') := Nat.two_pow_pos _
  have h1 : 0 < 2 ^ (62 - x') := Nat.two_pow_pos _
  have h62 : 2 ^ 62 = 2 ^ (62 - y') * 2 ^ y' := by rw [← Nat.pow_add, show 62 - y' + y' = 62 by omega]
  have hsum : 2 ^ (62 - x') + (2 ^ (62 - y') + 2 ^ (62 - y') * k) ≤ 2 ^ (62 - y') * 2 ^ y' := by
    rw [← h62, ← hkk]
    refine Nat.le_trans ?_ hk
    rw [← hk1, krf_cons, ← hk2, krf_cons]
    exact Nat.le_refl _
  have hlt : 1 + k < 2 ^ y' := by
    rcases Nat.lt_or_ge (1 + k) (2 ^ y') with h | h
    · exact h
    · have := Nat.mul_le_mul_left (2 ^ (62 - y')) h
      rw [Nat.mul_add, Nat.mul_one] at this
      omega
  have hle : 2 ^ (62 - y') + 2 ^ (62 - y') + 2 ^ (62 - y') * k ≤ 2 ^ 62 := by
    have := Nat.mul_le_mul_left (2 ^ (62 - y')) (show 2 + k ≤ 2 ^ y' by omega)
    rw [Nat.mul_add, ← h62] at this
    omega
  have hy0 : y' ≠ 0 := by rintro rfl; simp at hlt
  refine ⟨y' - 1, R3, e2.trans e1, by omega, fun p hp => Nat.le_trans (hm2 p hp) (by omega), ?_, ?_⟩
  · rw [krf_cons, hkk]
    simp only
    rw [show 62 - (y' - 1) = 62 - y' + 1 by omega, Nat.pow_succ]
    omega
  · simp only [cst_cons] at hc1 hc2 ⊢
    obtain ⟨z, rfl⟩ : ∃ z, y' = z + 1 := ⟨y' - 1, by omega⟩
    obtain ⟨f, rfl⟩ := Nat.exists_eq_add_of_le hyx
    rw [Nat.add_sub_cancel]
    simp only [Nat.add_mul, Nat.mul_add, Nat.mul_one] at hc1 hc2 ⊢
    omega
theorem perm_map_cons {α β : Type} (f : α → β) {ps : List α} {b : β} {t : List β} (h : (ps.map f).Perm (b :: t)) : ∃ p R, ps.Perm (p :: R) ∧ f p = b ∧ (R.map f).Perm t := by
  have hb : b ∈ ps.map f := h.symm.subset (List.mem_cons_self ..)
  obtain ⟨p, hp, rfl⟩ := List.mem_map.1 hb
  obtain ⟨s, u, rfl⟩ := List.append_of_mem hp
  refine ⟨p, s ++ u, List.perm_middle, rfl, ?_⟩
  have h1 : ((s ++ p :: u).map f).Perm (f p :: (s ++ u).map f) := by
    rw [List.map_append, List.map_cons, List.map_append]; exact List.perm_middle
  exact (List.Perm.cons_inv (h1.symm.trans h))
theorem nk_le {n : Nat} {bs : List Tt} (h : Hok n bs) (hn : n ≤ 1000) {a b : Tt} (ha : a ∈ bs) (hb : b ∈ bs) (hk : nk a ≤ nk b) : a.1 ≤ b.1 := by
  obtain ⟨x, t, e, h1, h2⟩ := h.nok hn ha
  obtain ⟨y, u, e', h1', h2'⟩ := h.nok hn hb
  unfold nk at hk
  rw [e, e'] at hk
  simp only [List.headD_cons] at hk
  omega
/-- Two least nodes of a step. -/
theorem HRk.two {ws : List Int} (hw : Wok ws) {k : Nat} {bs0 : List Tt} {ls0 : List Int} {S0 : Int} {a b : Tt} {r : List Tt} (h0 : HRk ws k bs0 ls0 S0) (hp : (a :: b :: r).Perm bs0) (hs : ((a :: b :: r).map nk).Pairwise (· ≤ ·)) :
    Hok ws.length (a :: b :: r) ∧ a.1 ≤ b.1 ∧ ∀ c ∈ r, b.1 ≤ c.1 := by
  have hk := (HRk.ok hw h0).ok.perm hp
  have hn : ws.length ≤ 1000 := by have := hw.1.2; omega
  rw [List.pairwise_map, List.pairwise_cons, List.pairwise_cons] at hs
  refine ⟨hk, nk_le hk hn (List.mem_cons_self ..) (List.mem_cons_of_mem _ (List.mem_cons_self ..)) (hs.1 b (List.mem_cons_self ..)), fun c hc => nk_le hk hn (List.mem_cons_of_mem _ (List.mem_cons_self ..)) (List.mem_cons_of_mem _ (List.mem_cons_of_mem _ hc)) (hs.2.1 c hc)⟩
def wN (bs : List Tt) : List Nat := bs.map fun b => b.1.toNat
/-- Other lengths, joined along. -/
theorem HRk.other {ws : List Int} (hw : Wok ws) {os : List Nat} (ho : os.length = ws.length) (h62 : ∀ x ∈ os, x ≤ 62) (hk : krf ((wN (leavesL ws)).zip os) ≤ 2 ^ 62) :
    ∀ {k : Nat} {bs : List Tt} {ls : List Int} {S : Int}, HRk ws k bs ls S → ∃ ps : List (Nat × Nat), (ps.map Prod.fst).Perm (wN bs) ∧ (∀ p ∈ ps, p.2 ≤ 62) ∧ krf ps ≤ 2 ^ 62 ∧ cst ps + S.toNat ≤ cst ((wN (leavesL ws)).zip os)
  | 0, bs, ls, S, ⟨h1, h2, h3⟩ => by
    subst h1 h2 h3
    refine ⟨(wN (leavesL ws)).zip os, ?_, fun p hp => h62 _ (List.of_mem_zip hp).2, hk, by simp⟩
    rw [List.map_fst_zip (by simp [wN, leavesL, ho])]
  | k + 1, bs, ls, S, ⟨bs0, ls0, S0, a, b, r, h0, hp, hs, e1, e2, e3⟩ => by
    obtain ⟨ps, p1, p2, p3, p4⟩ := HRk.other hw ho h62 hk h0
    obtain ⟨hok, hab, hbr⟩ := HRk.two hw h0 hp hs
    have h1 : (ps.map Prod.fst).Perm (a.1.toNat :: b.1.toNat :: wN r) := p1.trans (hp.symm.map _)
    obtain ⟨⟨pa, x⟩, R1, q1, q2, q3⟩ := perm_map_cons _ h1
    obtain ⟨⟨pb, y⟩, R, s1, s2, s3⟩ := perm_map_cons _ q3
    simp only at q2 s2
    subst q2 s2
    have hall := q1.trans (s1.cons _)
    rw [krf_perm hall] at p3
    rw [cst_perm hall] at p4
    have p2' : ∀ p ∈ ((a.1.toNat, x) :: (b.1.toNat, y) :: R), p.2 ≤ 62 := fun p hp => p2 p (hall.symm.subset hp)
    obtain ⟨z, R', t1, t2, t3, t4, t5⟩ := hop_step a.1.toNat b.1.toNat R x y (by omega) (fun p hp => by
      have h2 : p.1 ∈ R.map Prod.fst := List.mem_map_of_mem hp
      obtain ⟨c, hc, hce⟩ := List.mem_map.1 (s3.subset h2)
      have := hbr c hc
      omega) (p2' (a.1.toNat, x) (List.mem_cons_self ..)) (p2' (b.1.toNat, y) (List.mem_cons_of_mem _ (List.mem_cons_self ..))) (fun p hp => p2' p (List.mem_cons_of_mem _ (List.mem_cons_of_mem _ hp))) p3
    have ha := hok.pos a (List.mem_cons_self ..)
    have hb := hok.pos b (List.mem_cons_of_mem _ (List.mem_cons_self ..))
    have hS := (HRk.ok hw h0).sb.1
    refine ⟨(a.1.toNat + b.1.toNat, z) :: R', ?_, fun p hp => ?_, t4, by rw [e3]; omega⟩
    · rw [e1]
      unfold wN
      have e : (a.1 + b.1).toNat = a.1.toNat + b.1.toNat := by omega
      simp only [List.map_append, List.map_cons, List.map_nil, t1, e]
      exact (s3.cons _).trans (List.perm_append_singleton _ _).symm
    · rcases List.mem_cons.1 hp with rfl | hp
      · exact t2
      · exact t3 p hp
theorem HRk.opt {ws : List Int} (hw : Wok ws) {os : List Nat} (ho : os.length = ws.length) (h62 : ∀ x ∈ os, x ≤ 62) (hk : krf ((wN (leavesL ws)).zip os) ≤ 2 ^ 62) {k : Nat} {bs : List Tt} {ls : List Int} {S : Int} (h : HRk ws k bs ls S) :
    S ≤ cst ((wN (leavesL ws)).zip os) := by
  obtain ⟨ps, _, _, _, h1⟩ := HRk.other hw ho h62 hk h
  omega
def fb : Nat → Nat
  | 0 => 0
  | 1 => 1
  | n + 2 => fb n + fb (n + 1)
theorem fb64 : 64000000 < fb 64 := by decide +kernel
/-- The length of a number, and its weight. -/
def lN (ls : List Int) (i : Int) : Nat := (ls.getD i.toNat 0).toNat
def wI (ws : List Int) (i : Int) : Int := ws.getD i.toNat 0
theorem incL_get (xs : List Int) : ∀ (ls : List Int), xs.Nodup → (∀ x ∈ xs, 0 ≤ x ∧ x < (ls.length : Int)) → ∀ j, 0 ≤ j → (incL ls xs).getD j.toNat 0 = ls.getD j.toNat 0 + if j ∈ xs then 1 else 0 := by
  induction xs with
  | nil => intro ls _ _ j _; simp [incL]
  | cons x xs ih =>
    intro ls hn hx j hj
    rw [List.nodup_cons] at hn
    have h0 := hx x (List.mem_cons_self ..)
    rw [incL, ih _ hn.2 (fun y hy => by rw [List.length_set]; exact hx y (List.mem_cons_of_mem _ hy)) j hj, getD_set_int]
    by_cases e : j = x
    · subst e
      rw [if_pos ⟨rfl, by omega⟩, if_neg hn.1, if_pos (List.mem_cons_self ..)]
      omega
    · rw [if_neg (fun h => e (by omega))]
      by_cases h1 : j ∈ xs
      · rw [if_pos h1, if_pos (List.mem_cons_of_mem _ h1)]
      · rw [if_neg h1, if_neg (fun h => (List.mem_cons.1 h).elim e h1)]
theorem lN_inc {xs ls : List Int} (hn : xs.Nodup) (hx : ∀ x ∈ xs, 0 ≤ x ∧ x < (ls.length : Int)) (hl : ∀ j, 0 ≤ ls.getD j 0) {j : Int} (hj : 0 ≤ j) : lN (incL ls xs) j = lN ls j + if j ∈ xs then 1 else 0 := by
  unfold lN
  rw [incL_get xs ls hn hx j hj]
  have := hl j.toNat
  split <;> omega
theorem sumN_congr {f g : Int → Nat} : ∀ {xs : List Int}, (∀ x ∈ xs, f x = g x) → (xs.map f).sum = (xs.map g).sum := by
  intro xs h
  rw [List.map_congr_left h]
theorem sumI_congr {f g : Int → Int} : ∀ {xs : List Int}, (∀ x ∈ xs, f x = g x) → (xs.map f).sum = (xs.map g).sum := by
  intro xs h
  rw [List.map_congr_left h]
theorem sum_half {f : Int → Nat} : ∀ {xs : List Int}, (∀ x ∈ xs, f x + 1 ≤ 64) → 2 * (xs.map fun i => 2 ^ (64 - (f i + 1))).sum = (xs.map fun i => 2 ^ (64 - f i)).sum := by
  intro xs
  induction xs with
  | nil => intro _; rfl
  | cons x xs ih =>
    intro h
    have h1 := ih fun y hy => h y (List.mem_cons_of_mem _ hy)
    have h2 := h x (List.mem_cons_self ..)
    simp only [List.map_cons, List.sum_cons]
    rw [show 64 - f x = 64 - (f x + 1) + 1 by omega, Nat.pow_succ]
    omega
theorem sum_more {f : Int → Nat} {w : Int → Int} : ∀ {xs : List Int}, (xs.map fun i => ((f i + 1 : Nat) : Int) * w i).sum = (xs.map fun i => (f i : Int) * w i).sum + (xs.map w).sum := by
  intro xs
  induction xs with
  | nil => rfl
  | cons x xs ih =>
    simp only [List.map_cons, List.sum_cons]
    rw [ih, show ((f x + 1 : Nat) : Int) = (f x : Int) + 1 by omega, Int.add_mul]
    omega
theorem pw_all {α : Type} {R : α → α → Prop} : ∀ {l : List α}, (∀ a ∈ l, ∀ b ∈ l, R a b) → l.Pairwise R := by
  intro l
  induction l with
  | nil => intro _; exact List.Pairwise.nil
  | cons x l ih => intro h; exact List.Pairwise.cons (fun b hb => h x (List.mem_cons_self ..) b (List.mem_cons_of_mem _ hb)) (ih fun a ha b hb => h a (List.mem_cons_of_mem _ ha) b (List.mem_cons_of_mem _ hb))
def prR (ls : List Int) (b c : Tt) : Prop := (∀ i ∈ b.2, (fb (lN ls i) : Int) ≤ c.1) ∧ (∀ i ∈ c.2, (fb (lN ls i) : Int) ≤ b.1)
/-- What holds of the lengths after k steps. -/
structure HG (ws : List Int) (k : Nat) (bs : List Tt) (ls : List Int) (S : Int) : Prop where
  up : ∀ j, 0 ≤ j → lN ls j ≤ k
  kr : ∀ b ∈ bs, (b.2.map fun i => 2 ^ (64 - lN ls i)).sum = 2 ^ 64
  wt : ∀ b ∈ bs, b.1 = (b.2.map (wI ws)).sum
  cs : S = ((allN bs).map fun i => (lN ls i : Int) * wI ws i).sum
  fi : ∀ b ∈ bs, ∀ i ∈ b.2, (fb (lN ls i + 1) : Int) ≤ b.1
  pr : bs.Pairwise (prR ls)
theorem HG.perm {ws : List Int} {k : Nat} {bs bs' : List Tt} {ls : List Int} {S : Int} (h : HG ws k bs ls S) (hp : bs'.Perm bs) : HG ws k bs' ls S :=
  ⟨h.up, fun b hb => h.kr b (hp.subset hb), fun b hb => h.wt b (hp.subset hb), by rw [h.cs]; exact sumI_perm ((allN_perm hp.symm).map _), fun b hb => h.fi b (hp.subset hb),
    (List.Perm.pairwise_iff (fun {a b} (hab : prR ls a b) => ⟨hab.2, hab.1⟩) hp).2 h.pr⟩
theorem lN_rep (n : Nat) (i : Int) : lN (List.replicate n 0) i = 0 := by
  unfold lN
  simp only [List.getD, List.getElem?_replicate]
  split <;> rfl
theorem upL_nodup (n : Nat) : (upL n).Nodup := by
  unfold upL
  unfold List.Nodup
  rw [List.pairwise_map]
  exact (List.nodup_range (n := n)).imp (fun h e => h (by omega))
theorem HRk.good {ws : List Int} (hw : Wok ws) : ∀ {k : Nat} {bs : List Tt} {ls : List Int} {S : Int}, HRk ws k bs ls S → k ≤ 63 → HG ws k bs ls S
  | 0, bs, ls, S, ⟨h1, h2, h3⟩, _ => by
    subst h1 h2 h3
    have hmem : ∀ b ∈ leavesL ws, ∃ i, i < ws.length ∧ b = (ws.getD i 0, [(i : Int)]) := fun b hb => by
      obtain ⟨i, hi, rfl⟩ := List.mem_map.1 hb
      exact ⟨i, List.mem_range.1 hi, rfl⟩
    refine ⟨fun j _ => by rw [lN_rep]; omega, fun b hb => ?_, fun b hb => ?_, ?_, fun b hb i hi => ?_, pw_all fun b hb c hc => ⟨fun i hi => ?_, fun i hi => ?_⟩⟩
    · obtain ⟨i, hi, rfl⟩ := hmem b hb
      simp [lN_rep]
    · obtain ⟨i, hi, rfl⟩ := hmem b hb
      simp [wI]
    · generalize allN (leavesL ws) = l
      induction l with
      | nil => rfl
      | cons x l ih => rw [List.map_cons, List.sum_cons, ← ih, lN_rep]; simp
    · obtain ⟨j, hj, rfl⟩ := hmem b hb
      rw [lN_rep]
      have := (hw.2 j hj).1
      simpa [fb] using this
    · obtain ⟨j, hj, rfl⟩ := hmem c hc
      rw [lN_rep]
      have := (hw.2 j hj).1
      simp only [fb]; omega
    · obtain ⟨j, hj, rfl⟩ := hmem b hb
      rw [lN_rep]
      have := (hw.2 j hj).1
      simp only [fb]; omega
  | k + 1, bs, ls, S, ⟨bs0, ls0, S0, a, b, r, h0, hp, hs, e1, e2, e3⟩, hk63 => by
    have hg := (HRk.good hw h0 (by omega)).perm hp
    obtain ⟨hok, hab, hbr⟩ := HRk.two hw h0 hp hs
    have hlb := (HRk.ok hw h0).lb
    have hll := (HRk.ok hw h0).ll
    have hall : allN (a :: b :: r) = (a.2 ++ b.2) ++ allN r := by unfold allN; rw [List.flatMap_cons, List.flatMap_cons, List.append_assoc]
    have hnd : ((a.2 ++ b.2) ++ allN r).Nodup := by rw [← hall]; exact hok.all.nodup_iff.2 (upL_nodup _)
    have hnd2 := List.nodup_append.1 hnd
    have hsp := srtI_perm (a.2 ++ b.2)
    have hxn : (srtI (a.2 ++ b.2)).Nodup := hsp.nodup_iff.2 hnd2.1
    have hxr : ∀ x ∈ srtI (a.2 ++ b.2), 0 ≤ x ∧ x < (ls0.length : Int) := fun x hx => by
      rw [hll]
      rcases List.mem_append.1 (hsp.subset hx) with h | h
      · exact hok.rng (List.mem_cons_self ..) h
      · exact hok.rng (List.mem_cons_of_mem _ (List.mem_cons_self ..)) h
    have hin : ∀ i, i ∈ a.2 ++ b.2 → lN ls i = lN ls0 i + 1 := fun i hi => by
      have hi' := hsp.symm.subset hi
      rw [e2, lN_inc hxn hxr (fun j => (hlb j).1) (hxr i hi').1, if_pos hi']
    have hout : ∀ c ∈ r, ∀ i ∈ c.2, lN ls i = lN ls0 i := fun c hc i hi => by
      have hr := hok.rng (List.mem_cons_of_mem _ (List.mem_cons_of_mem _ hc)) hi
      have hni : ¬ i ∈ srtI (a.2 ++ b.2) := fun h => hnd2.2.2 i (hsp.subset h) i (List.mem_flatMap.2 ⟨c, hc, hi⟩) rfl
      rw [e2, lN_inc hxn hxr (fun j => (hlb j).1) hr.1, if_neg hni, Nat.add_zero]
    have hia : ∀ i ∈ a.2, lN ls i = lN ls0 i + 1 := fun i hi => hin i (List.mem_append_left _ hi)
    have hib : ∀ i ∈ b.2, lN ls i = lN ls0 i + 1 := fun i hi => hin i (List.mem_append_right _ hi)
    have hra : ∀ i ∈ a.2, 0 ≤ i := fun i hi => (hok.rng (List.mem_cons_self ..) hi).1
    have hrb : ∀ i ∈ b.2, 0 ≤ i := fun i hi => (hok.rng (List.mem_cons_of_mem _ (List.mem_cons_self ..)) hi).1
    have ma : a ∈ a :: b :: r := List.mem_cons_self ..
    have mb : b ∈ a :: b :: r := List.mem_cons_of_mem _ (List.mem_cons_self ..)
    have mr : ∀ {c}, c ∈ r → c ∈ a :: b :: r := fun h => List.mem_cons_of_mem _ (List.mem_cons_of_mem _ h)
    have hpa := hok.pos a ma
    have hpb := hok.pos b mb
    have hpr := hg.pr
    rw [List.pairwise_cons, List.pairwise_cons] at hpr
    have hab2 := hpr.1 b (List.mem_cons_self ..)
    have hfn : ∀ i ∈ srtI (a.2 ++ b.2), (fb (lN ls i) : Int) ≤ b.1 ∧ (fb (lN ls i + 1) : Int) ≤ a.1 + b.1 := fun i hi => by
      rcases List.mem_append.1 (hsp.subset hi) with h | h
      · have f1 := hg.fi a ma i h
        have f2 := hab2.1 i h
        rw [hia i h]
        refine ⟨by omega, ?_⟩
        rw [show lN ls0 i + 1 + 1 = lN ls0 i + 2 from rfl, fb, Int.natCast_add]
        omega
      · have f1 := hg.fi b mb i h
        have f2 := hab2.2 i h
        rw [hib i h]
        refine ⟨by omega, ?_⟩
        rw [show lN ls0 i + 1 + 1 = lN ls0 i + 2 from rfl, fb, Int.natCast_add]
        omega
    subst e1 e3
    refine ⟨fun j hj => ?_, fun c hc => ?_, fun c hc => ?_, ?_, fun c hc i hi => ?_, ?_⟩
    · have := hg.up j hj
      rw [e2, lN_inc hxn hxr (fun j => (hlb j).1) hj]
      split <;> omega
    · rcases List.mem_append.1 hc with hc | hc
      · rw [← hg.kr c (mr hc)]
        exact sumN_congr fun i hi => by rw [hout c hc i hi]
      · rw [List.mem_singleton] at hc
        subst hc
        have h1 : ((srtI (a.2 ++ b.2)).map fun i => 2 ^ (64 - lN ls i)).sum = ((a.2 ++ b.2).map fun i => 2 ^ (64 - (lN ls0 i + 1))).sum := by
          rw [(hsp.map _).sum_nat]
          exact sumN_congr fun i hi => by rw [hin i hi]
        have h2 := sum_half (f := lN ls0) (xs := a.2) fun i hi => by have := hg.up i (hra i hi); omega
        have h3 := sum_half (f := lN ls0) (xs := b.2) fun i hi => by have := hg.up i (hrb i hi); omega
        rw [hg.kr a ma] at h2
        rw [hg.kr b mb] at h3
        simp only
        rw [h1, List.map_append, List.sum_append]
        omega
    · rcases List.mem_append.1 hc with hc | hc
      · exact hg.wt c (mr hc)
      · rw [List.mem_singleton] at hc
        subst hc
        simp only
        rw [sumI_perm (hsp.map _), List.map_append, List.sum_append, ← hg.wt a ma, ← hg.wt b mb]
    · have h1 : allN (r ++ [(a.1 + b.1, srtI (a.2 ++ b.2))]) = allN r ++ srtI (a.2 ++ b.2) := by rw [allN_app]; simp [allN]
      have h2 : ((allN r).map fun i => (lN ls i : Int) * wI ws i).sum = ((allN r).map fun i => (lN ls0 i : Int) * wI ws i).sum := sumI_congr fun i hi => by
        obtain ⟨c, hc, hi⟩ := List.mem_flatMap.1 hi
        rw [hout c hc i hi]
      have h3 : ((srtI (a.2 ++ b.2)).map fun i => (lN ls i : Int) * wI ws i).sum = ((a.2 ++ b.2).map fun i => ((lN ls0 i + 1 : Nat) : Int) * wI ws i).sum := by
        rw [sumI_perm (hsp.map _)]
        exact sumI_congr fun i hi => by rw [hin i hi]
      rw [h1, List.map_append, List.sum_append, h2, h3, sum_more, hg.cs, hall, List.map_append, List.sum_append]
      have h4 : ((a.2 ++ b.2).map (wI ws)).sum = a.1 + b.1 := by rw [List.map_append, List.sum_append, ← hg.wt a ma, ← hg.wt b mb]
      rw [h4]
      omega
    · rcases List.mem_append.1 hc with hc | hc
      · rw [hout c hc i hi]; exact hg.fi c (mr hc) i hi
      · rw [List.mem_singleton] at hc
        subst hc
        exact (hfn i hi).2
    · rw [List.pairwise_append]
      refine ⟨?_, List.pairwise_singleton _ _, fun c hc d hd => ?_⟩
      · refine List.Pairwise.imp_of_mem (fun {c d} hc hd h => ?_) hpr.2.2
        exact ⟨fun i hi => by rw [hout c hc i hi]; exact h.1 i hi, fun i hi => by rw [hout d hd i hi]; exact h.2 i hi⟩
      · rw [List.mem_singleton] at hd
        subst hd
        refine ⟨fun i hi => ?_, fun i hi => ?_⟩
        · have := (hpr.1 c (List.mem_cons_of_mem _ hc)).2 i hi
          rw [hout c hc i hi]
          simp only
          omega
        · have h1 := (hfn i hi).1
          have h2 := hbr c hc
          omega
/-- Lengths are a code. -/
def KrI (xs : List Int) : Prop := (∀ x ∈ xs, 0 ≤ x ∧ x ≤ 62) ∧ (xs.map fun x => 2 ^ (62 - x.toNat)).sum ≤ 2 ^ 62
/-- The weighted sum of the first k. -/
def dtK (ws xs : List Int) : Nat → Int
  | 0 => 0
  | k + 1 => dtK ws xs k + ws.getD k 0 * xs.getD k 0
theorem dtK_sum (ws xs : List Int) : ∀ n, dtK ws xs n = ((upL n).map fun i => wI ws i * wI xs i).sum := by
  intro n
  induction n with
  | zero => rfl
  | succ n ih =>
    rw [dtK, ih, upL_succ, List.map_append, List.sum_append]
    simp [wI]
theorem list_upL (xs : List Int) : xs = (upL xs.length).map (wI xs) := by
  refine list_same (by simp [upL_len]) fun j hj => ?_
  simp only [upL, List.map_map, List.getD, List.getElem?_map, List.getElem?_range hj, Option.map_some, Function.comp, wI, Int.toNat_natCast, Option.getD_some]
theorem sum_four {f : Int → Nat} : ∀ {xs : List Int}, (∀ x ∈ xs, f x ≤ 62) → 4 * (xs.map fun i => 2 ^ (62 - f i)).sum = (xs.map fun i => 2 ^ (64 - f i)).sum := by
  intro xs
  induction xs with
  | nil => intro _; rfl
  | cons x xs ih =>
    intro h
    have h1 := ih fun y hy => h y (List.mem_cons_of_mem _ hy)
    have h2 := h x (List.mem_cons_self ..)
    simp only [List.map_cons, List.sum_cons]
    rw [show 64 - f x = 62 - f x + 1 + 1 by omega, Nat.pow_succ, Nat.pow_succ]
    omega
/-- The lengths are a code, and their sum is what is said. -/
theorem HRk.code {ws : List Int} (hw : Wok ws) {b : Tt} {ls : List Int} {S : Int} (h : HRk ws (ws.length - 1) [b] ls S) : KrI ls ∧ S = dtK ws ls ws.length := by
  have hok := HRk.ok hw h
  have hg := HRk.good hw h (by have := hw.1.2; omega)
  have hall : allN [b] = b.2 := by simp [allN]
  have hp := hok.ok.all
  rw [hall] at hp
  have hb1 := (hok.ok.wle (List.mem_singleton.2 rfl)).2
  have h62 : ∀ i ∈ upL ws.length, lN ls i ≤ 62 := fun i hi => by
    have h1 := hg.up i (upL_mem.1 hi).1
    have h2 := hg.fi b (List.mem_singleton.2 rfl) i (hp.symm.subset hi)
    have h3 := hw.1.2
    rcases Nat.lt_or_ge (lN ls i) 63 with h4 | h4
    · omega
    · rw [show lN ls i + 1 = 64 by omega] at h2
      have := fb64
      omega
  refine ⟨⟨fun x hx => ?_, ?_⟩, ?_⟩
  · rw [list_upL ls, hok.ll] at hx
    obtain ⟨i, hi, rfl⟩ := List.mem_map.1 hx
    have h1 := h62 i hi
    have h2 := (hok.lb i.toNat).1
    unfold lN at h1
    unfold wI
    omega
  · have h1 := hg.kr b (List.mem_singleton.2 rfl)
    rw [(hp.map _).sum_nat, ← sum_four h62] at h1
    have h2 : (ls.map fun x => 2 ^ (62 - x.toNat)).sum = ((upL ws.length).map fun i => 2 ^ (62 - lN ls i)).sum := by
      rw [← hok.ll]
      conv => lhs; rw [list_upL ls]
      rw [List.map_map]
      rfl
    rw [h2]
    omega
  · rw [hg.cs, hall, sumI_perm (hp.map _), dtK_sum]
    refine sumI_congr fun i hi => ?_
    have h2 := (hok.lb i.toNat).1
    have : (lN ls i : Int) = wI ls i := by unfold lN wI; omega
    rw [this, Int.mul_comm]
theorem cst_dt (ws xs : List Int) (hw : ∀ j, 0 ≤ ws.getD j 0) (hx : ∀ j, 0 ≤ xs.getD j 0) : ∀ n, ((cst ((List.range n).map fun i => ((ws.getD i 0).toNat, (xs.getD i 0).toNat)) : Nat) : Int) = dtK ws xs n := by
  intro n
  induction n with
  | zero => rfl
  | succ n ih =>
    rw [dtK, ← ih]
    unfold cst
    rw [List.range_succ, List.map_append, List.map_append, List.sum_append, Int.natCast_add]
    simp only [List.map_cons, List.map_nil, List.sum_cons, List.sum_nil, Nat.add_zero, Int.natCast_mul]
    have h1 := hw n
    have h2 := hx n
    rw [Int.toNat_of_nonneg h1, Int.toNat_of_nonneg h2]
theorem KrI.nn {xs : List Int} (h : KrI xs) (j : Nat) : 0 ≤ xs.getD j 0 ∧ xs.getD j 0 ≤ 62 := by
  by_cases hj : j < xs.length
  · have e : xs.getD j 0 = xs[j] := by simp [List.getD, hj]
    rw [e]
    exact h.1 _ (List.getElem_mem hj)
  · have e : xs.getD j 0 = 0 := by simp [List.getD, List.getElem?_eq_none (Nat.le_of_not_lt hj)]
    rw [e]; omega
theorem Wok.nn {ws : List Int} (h : Wok ws) (j : Nat) : 0 ≤ ws.getD j 0 := by
  by_cases hj : j < ws.length
  · have := (h.2 j hj).1; omega
  · have e : ws.getD j 0 = 0 := by simp [List.getD, List.getElem?_eq_none (Nat.le_of_not_lt hj)]
    rw [e]; omega
/-- No code has a lesser sum. -/
theorem HRk.best {ws : List Int} (hw : Wok ws) {k : Nat} {bs : List Tt} {ls xs : List Int} {S : Int} (h : HRk ws k bs ls S) (hx : xs.length = ws.length) (hk : KrI xs) : S ≤ dtK ws xs ws.length := by
  have e0 : wN (leavesL ws) = (List.range ws.length).map fun i => (ws.getD i 0).toNat := by
    unfold wN leavesL
    rw [List.map_map]; rfl
  have e1 : (xs.map Int.toNat) = (List.range ws.length).map fun i => (xs.getD i 0).toNat := by
    conv => lhs; rw [list_upL xs]
    rw [hx]
    unfold upL
    rw [List.map_map, List.map_map]; rfl
  have e2 : (wN (leavesL ws)).zip (xs.map Int.toNat) = (List.range ws.length).map fun i => ((ws.getD i 0).toNat, (xs.getD i 0).toNat) := by
    rw [e0, e1, List.zip_map']
  have h1 := HRk.opt (os := xs.map Int.toNat) hw (by simp [hx]) (fun x hx => by
    obtain ⟨y, hy, rfl⟩ := List.mem_map.1 hx
    have := hk.1 y hy
    omega) (by
    refine Nat.le_trans (Nat.le_of_eq ?_) hk.2
    rw [e2]
    unfold krf
    rw [List.map_map]
    conv => rhs; rw [list_upL xs]
    rw [hx]
    unfold upL
    rw [List.map_map, List.map_map]; rfl) h
  rw [e2, cst_dt ws xs hw.nn fun j => (hk.nn j).1] at h1
  exact h1
end Go.Proofs.Tb
