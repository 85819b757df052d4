/- Plain law: the lengths of the joining of the least nodes are a code, and their sum is what it says. -/
import Derived.Test.YtcjddfhhofoidaaDoorHop
set_option linter.unusedVariables false
set_option linter.unusedSimpArgs false
namespace Go.Proofs.Tb

def fb : Nat → Nat
  | 0 => 0
  | 1 => 1
  | n + 2 => fb n + fb (n + 1)
theorem fb64 : 64000000 < fb 64 := by decide +kernel
/-- The length of a number, and its weight. -/
def lN (ls : List Int) (i : Int) : Nat := (ls.getD i.toNat 0).toNat
def wI (ws : List Int) (i : Int) : Int := ws.getD i.toNat 0
theorem incL_get (xs : List Int) : ∀ (ls : List Int), xs.Nodup → (∀ x ∈ xs, 0 ≤ x ∧ x < (ls.length : Int)) → ∀ j, 0 ≤ j → (incL ls xs).getD j.toNat 0 = ls.getD j.toNat 0 + if j ∈ xs then 1 else 0 := by
  induction xs with
  | nil => intro ls _ _ j _; simp [incL]
  | cons x xs ih =>
    intro ls hn hx j hj
    rw [List.nodup_cons] at hn
    have h0 := hx x (List.mem_cons_self ..)
    rw [incL, ih _ hn.2 (fun y hy => by rw [List.length_set]; exact hx y (List.mem_cons_of_mem _ hy)) j hj, getD_set_int]
    by_cases e : j = x
    · subst e
      rw [if_pos ⟨rfl, by omega⟩, if_neg hn.1, if_pos (List.mem_cons_self ..)]
      omega
    · rw [if_neg (fun h => e (by omega))]
      by_cases h1 : j ∈ xs
      · rw [if_pos h1, if_pos (List.mem_cons_of_mem _ h1)]
      · rw [if_neg h1, if_neg (fun h => (List.mem_cons.1 h).elim e h1)]
theorem lN_inc {xs ls : List Int} (hn : xs.Nodup) (hx : ∀ x ∈ xs, 0 ≤ x ∧ x < (ls.length : Int)) (hl : ∀ j, 0 ≤ ls.getD j 0) {j : Int} (hj : 0 ≤ j) : lN (incL ls xs) j = lN ls j + if j ∈ xs then 1 else 0 := by
  unfold lN
  rw [incL_get xs ls hn hx j hj]
  have := hl j.toNat
  split <;> omega
theorem sumN_congr {f g : Int → Nat} : ∀ {xs : List Int}, (∀ x ∈ xs, f x = g x) → (xs.map f).sum = (xs.map g).sum := by
  intro xs h
  rw [List.map_congr_left h]
theorem sumI_congr {f g : Int → Int} : ∀ {xs : List Int}, (∀ x ∈ xs, f x = g x) → (xs.map f).sum = (xs.map g).sum := by
  intro xs h
  rw [List.map_congr_left h]
theorem sum_half {f : Int → Nat} : ∀ {xs : List Int}, (∀ x ∈ xs, f x + 1 ≤ 64) → 2 * (xs.map fun i => 2 ^ (64 - (f i + 1))).sum = (xs.map fun i => 2 ^ (64 - f i)).sum := by
  intro xs
  induction xs with
  | nil => intro _; rfl
  | cons x xs ih =>
    intro h
    have h1 := ih fun y hy => h y (List.mem_cons_of_mem _ hy)
    have h2 := h x (List.mem_cons_self ..)
    simp only [List.map_cons, List.sum_cons]
    rw [show 64 - f x = 64 - (f x + 1) + 1 by omega, Nat.pow_succ]
    omega
theorem sum_more {f : Int → Nat} {w : Int → Int} : ∀ {xs : List Int}, (xs.map fun i => ((f i + 1 : Nat) : Int) * w i).sum = (xs.map fun i => (f i : Int) * w i).sum + (xs.map w).sum := by
  intro xs
  induction xs with
  | nil => rfl
  | cons x xs ih =>
    simp only [List.map_cons, List.sum_cons]
    rw [ih, show ((f x + 1 : Nat) : Int) = (f x : Int) + 1 by omega, Int.add_mul]
    omega
theorem pw_all {α : Type} {R : α → α → Prop} : ∀ {l : List α}, (∀ a ∈ l, ∀ b ∈ l, R a b) → l.Pairwise R := by
  intro l
  induction l with
  | nil => intro _; exact List.Pairwise.nil
  | cons x l ih => intro h; exact List.Pairwise.cons (fun b hb => h x (List.mem_cons_self ..) b (List.mem_cons_of_mem _ hb)) (ih fun a ha b hb => h a (List.mem_cons_of_mem _ ha) b (List.mem_cons_of_mem _ hb))
def prR (ls : List Int) (b c : Tt) : Prop := (∀ i ∈ b.2, (fb (lN ls i) : Int) ≤ c.1) ∧ (∀ i ∈ c.2, (fb (lN ls i) : Int) ≤ b.1)
/-- What holds of the lengths after k steps. -/
structure HG (ws : List Int) (k : Nat) (bs : List Tt) (ls : List Int) (S : Int) : Prop where
  up : ∀ j, 0 ≤ j → lN ls j ≤ k
  kr : ∀ b ∈ bs, (b.2.map fun i => 2 ^ (64 - lN ls i)).sum = 2 ^ 64
  wt : ∀ b ∈ bs, b.1 = (b.2.map (wI ws)).sum
  cs : S = ((allN bs).map fun i => (lN ls i : Int) * wI ws i).sum
  fi : ∀ b ∈ bs, ∀ i ∈ b.2, (fb (lN ls i + 1) : Int) ≤ b.1
  pr : bs.Pairwise (prR ls)
theorem HG.perm {ws : List Int} {k : Nat} {bs bs' : List Tt} {ls : List Int} {S : Int} (h : HG ws k bs ls S) (hp : bs'.Perm bs) : HG ws k bs' ls S :=
  ⟨h.up, fun b hb => h.kr b (hp.subset hb), fun b hb => h.wt b (hp.subset hb), by rw [h.cs]; exact sumI_perm ((allN_perm hp.symm).map _), fun b hb => h.fi b (hp.subset hb),
    (List.Perm.pairwise_iff (fun {a b} (hab : prR ls a b) => ⟨hab.2, hab.1⟩) hp).2 h.pr⟩
theorem lN_rep (n : Nat) (i : Int) : lN (List.replicate n 0) i = 0 := by
  unfold lN
  simp only [List.getD, List.getElem?_replicate]
  split <;> rfl
theorem upL_nodup (n : Nat) : (upL n).Nodup := by
  unfold upL
  unfold List.Nodup
  rw [List.pairwise_map]
  exact (List.nodup_range (n := n)).imp (fun h e => h (by omega))
theorem HRk.good {ws : List Int} (hw : Wok ws) : ∀ {k : Nat} {bs : List Tt} {ls : List Int} {S : Int}, HRk ws k bs ls S → k ≤ 63 → HG ws k bs ls S
  | 0, bs, ls, S, ⟨h1, h2, h3⟩, _ => by
    subst h1 h2 h3
    have hmem : ∀ b ∈ leavesL ws, ∃ i, i < ws.length ∧ b = (ws.getD i 0, [(i : Int)]) := fun b hb => by
      obtain ⟨i, hi, rfl⟩ := List.mem_map.1 hb
      exact ⟨i, List.mem_range.1 hi, rfl⟩
    refine ⟨fun j _ => by rw [lN_rep]; omega, fun b hb => ?_, fun b hb => ?_, ?_, fun b hb i hi => ?_, pw_all fun b hb c hc => ⟨fun i hi => ?_, fun i hi => ?_⟩⟩
    · obtain ⟨i, hi, rfl⟩ := hmem b hb
      simp [lN_rep]
    · obtain ⟨i, hi, rfl⟩ := hmem b hb
      simp [wI]
    · generalize allN (leavesL ws) = l
      induction l with
      | nil => rfl
      | cons x l ih => rw [List.map_cons, List.sum_cons, ← ih, lN_rep]; simp
    · obtain ⟨j, hj, rfl⟩ := hmem b hb
      rw [lN_rep]
      have := (hw.2 j hj).1
      simpa [fb] using this
    · obtain ⟨j, hj, rfl⟩ := hmem c hc
      rw [lN_rep]
      have := (hw.2 j hj).1
      simp only [fb]; omega
    · obtain ⟨j, hj, rfl⟩ := hmem b hb
      rw [lN_rep]
      have := (hw.2 j hj).1
      simp only [fb]; omega
  | k + 1, bs, ls, S, ⟨bs0, ls0, S0, a, b, r, h0, hp, hs, e1, e2, e3⟩, hk63 => by
    have hg := (HRk.good hw h0 (by omega)).perm hp
    obtain ⟨hok, hab, hbr⟩ := HRk.two hw h0 hp hs
    have hlb := (HRk.ok hw h0).lb
    have hll := (HRk.ok hw h0).ll
    have hall : allN (a :: b :: r) = (a.2 ++ b.2) ++ allN r := by unfold allN; rw [List.flatMap_cons, List.flatMap_cons, List.append_assoc]
    have hnd : ((a.2 ++ b.2) ++ allN r).Nodup := by rw [← hall]; exact hok.all.nodup_iff.2 (upL_nodup _)
    have hnd2 := List.nodup_append.1 hnd
    have hsp := srtI_perm (a.2 ++ b.2)
    have hxn : (srtI (a.2 ++ b.2)).Nodup := hsp.nodup_iff.2 hnd2.1
    have hxr : ∀ x ∈ srtI (a.2 ++ b.2), 0 ≤ x ∧ x < (ls0.length : Int) := fun x hx => by
      rw [hll]
      rcases List.mem_append.1 (hsp.subset hx) with h | h
      · exact hok.rng (List.mem_cons_self ..) h
      · exact hok.rng (List.mem_cons_of_mem _ (List.mem_cons_self ..)) h
    have hin : ∀ i, i ∈ a.2 ++ b.2 → lN ls i = lN ls0 i + 1 := fun i hi => by
      have hi' := hsp.symm.subset hi
      rw [e2, lN_inc hxn hxr (fun j => (hlb j).1) (hxr i hi').1, if_pos hi']
    have hout : ∀ c ∈ r, ∀ i ∈ c.2, lN ls i = lN ls0 i := fun c hc i hi => by
      have hr := hok.rng (List.mem_cons_of_mem _ (List.mem_cons_of_mem _ hc)) hi
      have hni : ¬ i ∈ srtI (a.2 ++ b.2) := fun h => hnd2.2.2 i (hsp.subset h) i (List.mem_flatMap.2 ⟨c, hc, hi⟩) rfl
      rw [e2, lN_inc hxn hxr (fun j => (hlb j).1) hr.1, if_neg hni, Nat.add_zero]
    have hia : ∀ i ∈ a.2, lN ls i = lN ls0 i + 1 := fun i hi => hin i (List.mem_append_left _ hi)
    have hib : ∀ i ∈ b.2, lN ls i = lN ls0 i + 1 := fun i hi => hin i (List.mem_append_right _ hi)
    have hra : ∀ i ∈ a.2, 0 ≤ i := fun i hi => (hok.rng (List.mem_cons_self ..) hi).1
    have hrb : ∀ i ∈ b.2, 0 ≤ i := fun i hi => (hok.rng (List.mem_cons_of_mem _ (List.mem_cons_self ..)) hi).1
    have ma : a ∈ a :: b :: r := List.mem_cons_self ..
    have mb : b ∈ a :: b :: r := List.mem_cons_of_mem _ (List.mem_cons_self ..)
    have mr : ∀ {c}, c ∈ r → c ∈ a :: b :: r := fun h => List.mem_cons_of_mem _ (List.mem_cons_of_mem _ h)
    have hpa := hok.pos a ma
    have hpb := hok.pos b mb
    have hpr := hg.pr
    rw [List.pairwise_cons, List.pairwise_cons] at hpr
    have hab2 := hpr.1 b (List.mem_cons_self ..)
    have hfn : ∀ i ∈ srtI (a.2 ++ b.2), (fb (lN ls i) : Int) ≤ b.1 ∧ (fb (lN ls i + 1) : Int) ≤ a.1 + b.1 := fun i hi => by
      rcases List.mem_append.1 (hsp.subset hi) with h | h
      · have f1 := hg.fi a ma i h
        have f2 := hab2.1 i h
        rw [hia i h]
        refine ⟨by omega, ?_⟩
        rw [show lN ls0 i + 1 + 1 = lN ls0 i + 2 from rfl, fb, Int.natCast_add]
        omega
      · have f1 := hg.fi b mb i h
        have f2 := hab2.2 i h
        rw [hib i h]
        refine ⟨by omega, ?_⟩
        rw [show lN ls0 i + 1 + 1 = lN ls0 i + 2 from rfl, fb, Int.natCast_add]
        omega
    subst e1 e3
    refine ⟨fun j hj => ?_, fun c hc => ?_, fun c hc => ?_, ?_, fun c hc i hi => ?_, ?_⟩
    · have := hg.up j hj
      rw [e2, lN_inc hxn hxr (fun j => (hlb j).1) hj]
      split <;> omega
    · rcases List.mem_append.1 hc with hc | hc
      · rw [← hg.kr c (mr hc)]
        exact sumN_congr fun i hi => by rw [hout c hc i hi]
      · rw [List.mem_singleton] at hc
        subst hc
        have h1 : ((srtI (a.2 ++ b.2)).map fun i => 2 ^ (64 - lN ls i)).sum = ((a.2 ++ b.2).map fun i => 2 ^ (64 - (lN ls0 i + 1))).sum := by
          rw [(hsp.map _).sum_nat]
          exact sumN_congr fun i hi => by rw [hin i hi]
        have h2 := sum_half (f := lN ls0) (xs := a.2) fun i hi => by have := hg.up i (hra i hi); omega
        have h3 := sum_half (f := lN ls0) (xs := b.2) fun i hi => by have := hg.up i (hrb i hi); omega
        rw [hg.kr a ma] at h2
        rw [hg.kr b mb] at h3
        simp only
        rw [h1, List.map_append, List.sum_append]
        omega
    · rcases List.mem_append.1 hc with hc | hc
      · exact hg.wt c (mr hc)
      · rw [List.mem_singleton] at hc
        subst hc
        simp only
        rw [sumI_perm (hsp.map _), List.map_append, List.sum_append, ← hg.wt a ma, ← hg.wt b mb]
    · have h1 : allN (r ++ [(a.1 + b.1, srtI (a.2 ++ b.2))]) = allN r ++ srtI (a.2 ++ b.2) := by rw [allN_app]; simp [allN]
      have h2 : ((allN r).map fun i => (lN ls i : Int) * wI ws i).sum = ((allN r).map fun i => (lN ls0 i : Int) * wI ws i).sum := sumI_congr fun i hi => by
        obtain ⟨c, hc, hi⟩ := List.mem_flatMap.1 hi
        rw [hout c hc i hi]
      have h3 : ((srtI (a.2 ++ b.2)).map fun i => (lN ls i : Int) * wI ws i).sum = ((a.2 ++ b.2).map fun i => ((lN ls0 i + 1 : Nat) : Int) * wI ws i).sum := by
        rw [sumI_perm (hsp.map _)]
        exact sumI_congr fun i hi => by rw [hin i hi]
      rw [h1, List.map_append, List.sum_append, h2, h3, sum_more, hg.cs, hall, List.map_append, List.sum_append]
      have h4 : ((a.2 ++ b.2).map (wI ws)).sum = a.1 + b.1 := by rw [List.map_append, List.sum_append, ← hg.wt a ma, ← hg.wt b mb]
      rw [h4]
      omega
    · rcases List.mem_append.1 hc with hc | hc
      · rw [hout c hc i hi]; exact hg.fi c (mr hc) i hi
      · rw [List.mem_singleton] at hc
        subst hc
        exact (hfn i hi).2
    · rw [List.pairwise_append]
      refine ⟨?_, List.pairwise_singleton _ _, fun c hc d hd => ?_⟩
      · refine List.Pairwise.imp_of_mem (fun {c d} hc hd h => ?_) hpr.2.2
        exact ⟨fun i hi => by rw [hout c hc i hi]; exact h.1 i hi, fun i hi => by rw [hout d hd i hi]; exact h.2 i hi⟩
      · rw [List.mem_singleton] at hd
        subst hd
        refine ⟨fun i hi => ?_, fun i hi => ?_⟩
        · have := (hpr.1 c (List.mem_cons_of_mem _ hc)).2 i hi
          rw [hout c hc i hi]
          simp only
          omega
        · have h1 := (hfn i hi).1
          have h2 := hbr c hc
          omega
/-- Lengths are a code. -/
def KrI (xs : List Int) : Prop := (∀ x ∈ xs, 0 ≤ x ∧ x ≤ 62) ∧ (xs.map fun x => 2 ^ (62 - x.toNat)).sum ≤ 2 ^ 62
/-- The weighted sum of the first k. -/
def dtK (ws xs : List Int) : Nat → Int
  | 0 => 0
  | k + 1 => dtK ws xs k + ws.getD k 0 * xs.getD k 0
theorem dtK_sum (ws xs : List Int) : ∀ n, dtK ws xs n = ((upL n).map fun i => wI ws i * wI xs i).sum := by
  intro n
  induction n with
  | zero => rfl
  | succ n ih =>
    rw [dtK, ih, upL_succ, List.map_append, List.sum_append]
    simp [wI]
theorem list_upL (xs : List Int) : xs = (upL xs.length).map (wI xs) := by
  refine list_same (by simp [upL_len]) fun j hj => ?_
  simp only [upL, List.map_map, List.getD, List.getElem?_map, List.getElem?_range hj, Option.map_some, Function.comp, wI, Int.toNat_natCast, Option.getD_some]
theorem sum_four {f : Int → Nat} : ∀ {xs : List Int}, (∀ x ∈ xs, f x ≤ 62) → 4 * (xs.map fun i => 2 ^ (62 - f i)).sum = (xs.map fun i => 2 ^ (64 - f i)).sum := by
  intro xs
  induction xs with
  | nil => intro _; rfl
  | cons x xs ih =>
    intro h
    have h1 := ih fun y hy => h y (List.mem_cons_of_mem _ hy)
    have h2 := h x (List.mem_cons_self ..)
    simp only [List.map_cons, List.sum_cons]
    rw [show 64 - f x = 62 - f x + 1 + 1 by omega, Nat.pow_succ, Nat.pow_succ]
    omega
/-- The lengths are a code, and their sum is what is said. -/
theorem HRk.code {ws : List Int} (hw : Wok ws) {b : Tt} {ls : List Int} {S : Int} (h : HRk ws (ws.length - 1) [b] ls S) : KrI ls ∧ S = dtK ws ls ws.length := by
  have hok := HRk.ok hw h
  have hg := HRk.good hw h (by have := hw.1.2; omega)
  have hall : allN [b] = b.2 := by simp [allN]
  have hp := hok.ok.all
  rw [hall] at hp
  have hb1 := (hok.ok.wle (List.mem_singleton.2 rfl)).2
  have h62 : ∀ i ∈ upL ws.length, lN ls i ≤ 62 := fun i hi => by
    have h1 := hg.up i (upL_mem.1 hi).1
    have h2 := hg.fi b (List.mem_singleton.2 rfl) i (hp.symm.subset hi)
    have h3 := hw.1.2
    rcases Nat.lt_or_ge (lN ls i) 63 with h4 | h4
    · omega
    · rw [show lN ls i + 1 = 64 by omega] at h2
      have := fb64
      omega
  refine ⟨⟨fun x hx => ?_, ?_⟩, ?_⟩
  · rw [list_upL ls, hok.ll] at hx
    obtain ⟨i, hi, rfl⟩ := List.mem_map.1 hx
    have h1 := h62 i hi
    have h2 := (hok.lb i.toNat).1
    unfold lN at h1
    unfold wI
    omega
  · have h1 := hg.kr b (List.mem_singleton.2 rfl)
    rw [(hp.map _).sum_nat, ← sum_four h62] at h1
    have h2 : (ls.map fun x => 2 ^ (62 - x.toNat)).sum = ((upL ws.length).map fun i => 2 ^ (62 - lN ls i)).sum := by
      rw [← hok.ll]
      conv => lhs; rw [list_upL ls]
      rw [List.map_map]
      rfl
    rw [h2]
    omega
  · rw [hg.cs, hall, sumI_perm (hp.map _), dtK_sum]
    refine sumI_congr fun i hi => ?_
    have h2 := (hok.lb i.toNat).1
    have : (lN ls i : Int) = wI ls i := by unfold lN wI; omega
    rw [this, Int.mul_comm]
theorem cst_dt (ws xs : List Int) (hw : ∀ j, 0 ≤ ws.getD j 0) (hx : ∀ j, 0 ≤ xs.getD j 0) : ∀ n, ((cst ((List.range n).map fun i => ((ws.getD i 0).toNat, (xs.getD i 0).toNat)) : Nat) : Int) = dtK ws xs n := by
  intro n
  induction n with
  | zero => rfl
  | succ n ih =>
    rw [dtK, ← ih]
    unfold cst
    rw [List.range_succ, List.map_append, List.map_append, List.sum_append, Int.natCast_add]
    simp only [List.map_cons, List.map_nil, List.sum_cons, List.sum_nil, Nat.add_zero, Int.natCast_mul]
    have h1 := hw n
    have h2 := hx n
    rw [Int.toNat_of_nonneg h1, Int.toNat_of_nonneg h2]
theorem KrI.nn {xs : List Int} (h : KrI xs) (j : Nat) : 0 ≤ xs.getD j 0 ∧ xs.getD j 0 ≤ 62 := by
  by_cases hj : j < xs.length
  · have e : xs.getD j 0 = xs[j] := by simp [List.getD, hj]
    rw [e]
    exact h.1 _ (List.getElem_mem hj)
  · have e : xs.getD j 0 = 0 := by simp [List.getD, List.getElem?_eq_none (Nat.le_of_not_lt hj)]
    rw [e]; omega
theorem Wok.nn {ws : List Int} (h : Wok ws) (j : Nat) : 0 ≤ ws.getD j 0 := by
  by_cases hj : j < ws.length
  · have := (h.2 j hj).1; omega
  · have e : ws.getD j 0 = 0 := by simp [List.getD, List.getElem?_eq_none (Nat.le_of_not_lt hj)]
    rw [e]; omega
/-- No code has a lesser sum. -/
theorem HRk.best {ws : List Int} (hw : Wok ws) {k : Nat} {bs : List Tt} {ls xs : List Int} {S : Int} (h : HRk ws k bs ls S) (hx : xs.length = ws.length) (hk : KrI xs) : S ≤ dtK ws xs ws.length := by
  have e0 : wN (leavesL ws) = (List.range ws.length).map fun i => (ws.getD i 0).toNat := by
    unfold wN leavesL
    rw [List.map_map]; rfl
  have e1 : (xs.map Int.toNat) = (List.range ws.length).map fun i => (xs.getD i 0).toNat := by
    conv => lhs; rw [list_upL xs]
    rw [hx]
    unfold upL
    rw [List.map_map, List.map_map]; rfl
  have e2 : (wN (leavesL ws)).zip (xs.map Int.toNat) = (List.range ws.length).map fun i => ((ws.getD i 0).toNat, (xs.getD i 0).toNat) := by
    rw [e0, e1, List.zip_map']
  have h1 := HRk.opt (os := xs.map Int.toNat) hw (by simp [hx]) (fun x hx => by
    obtain ⟨y, hy, rfl⟩ := List.mem_map.1 hx
    have := hk.1 y hy
    omega) (by
    refine Nat.le_trans (Nat.le_of_eq ?_) hk.2
    rw [e2]
    unfold krf
    rw [List.map_map]
    conv => rhs; rw [list_upL xs]
    rw [hx]
    unfold upL
    rw [List.map_map, List.map_map]; rfl) h
  rw [e2, cst_dt ws xs hw.nn fun j => (hk.nn j).1] at h1
  exact h1
end Go.Proofs.Tb
