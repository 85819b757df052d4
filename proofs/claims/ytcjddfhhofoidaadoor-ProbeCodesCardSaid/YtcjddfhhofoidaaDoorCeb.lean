/- Contract of the reference's Codes: it joins the two least nodes again and again. -/
import Derived.Test.YtcjddfhhofoidaaDoorCsw
import Derived.Test.YtcjddfhhofoidaaDoorHoq
import Derived.Test.YtcjddfhhofoidaaDoorApx
import Derived.Deep.CutBlock
set_option linter.unusedVariables false
set_option linter.unusedSimpArgs false
namespace Go.Proofs.Tb
open Go.RowKit
attribute [local go_sem] cell_set_same

/-- A node of the reference: its weight, its least number, the numbers beneath. -/
abbrev Nd := Int × Int × List Int
def nd0 : Nd := (0, 0, [])
def tt (n : Nd) : Tt := (n.1, srtI n.2.2)
def kN (n : Nd) : Int := n.1 * 1000 + n.2.1
def IsMin (m : Int) (l : List Int) : Prop := m ∈ l ∧ ∀ x ∈ l, m ≤ x
def NdOk (ns : List Nd) : Prop := ∀ n ∈ ns, IsMin n.2.1 n.2.2 ∧ ∀ x ∈ n.2.2, 0 ≤ x ∧ x < 1000
theorem srtI_pw (xs : List Int) : (srtI xs).Pairwise (· ≤ ·) := by
  unfold srtI
  have h := List.pairwise_mergeSort (le := fun x y : Int => decide (x ≤ y)) (fun a b c h1 h2 => by simp only [decide_eq_true_eq] at *; omega) (fun a b => by simp only [Bool.or_eq_true, decide_eq_true_eq]; omega) xs
  exact h.imp fun h => by simpa using h
theorem srtI_cong {xs ys : List Int} (h : xs.Perm ys) : srtI xs = srtI ys :=
  List.Perm.eq_of_pairwise (le := fun a b => a ≤ b) (fun a b _ _ hab hba => Int.le_antisymm hab hba) (srtI_pw xs) (srtI_pw ys) ((srtI_perm xs).trans (h.trans (srtI_perm ys).symm))
theorem head_srt {m : Int} {l : List Int} (h : IsMin m l) : (srtI l).headD 0 = m := by
  have hp := srtI_perm l
  have hw := srtI_pw l
  have hm := hp.symm.subset h.1
  cases hs : srtI l with
  | nil => rw [hs] at hm; cases hm
  | cons x t =>
    rw [hs] at hm hw hp
    have hx := h.2 x (hp.subset (List.mem_cons_self ..))
    show x = m
    rcases List.mem_cons.1 hm with rfl | hm
    · rfl
    · have := (List.pairwise_cons.1 hw).1 m hm
      omega
theorem nk_kN {n : Nd} (h : IsMin n.2.1 n.2.2) : nk (tt n) = kN n := by
  unfold nk tt kN
  simp only
  rw [head_srt h]
theorem incL_swap (ls : List Int) (x y : Int) : (ls.set x.toNat (ls.getD x.toNat 0 + 1)).set y.toNat ((ls.set x.toNat (ls.getD x.toNat 0 + 1)).getD y.toNat 0 + 1) = (ls.set y.toNat (ls.getD y.toNat 0 + 1)).set x.toNat ((ls.set y.toNat (ls.getD y.toNat 0 + 1)).getD x.toNat 0 + 1) := by
  by_cases h : x.toNat = y.toNat
  · rw [h]
  · rw [getD_set_int, getD_set_int, if_neg (fun e => h e.1), if_neg (fun e => h e.1.symm), List.set_comm _ _ h]
theorem incL_perm {xs ys : List Int} (h : xs.Perm ys) : ∀ ls : List Int, incL ls xs = incL ls ys := by
  induction h with
  | nil => intro ls; rfl
  | cons x _ ih => intro ls; exact ih _
  | swap x y l => intro ls; show incL _ l = incL _ l; rw [incL_swap]
  | trans _ _ h1 h2 => intro ls; rw [h1, h2]
/-- The state of the reference after k joinings. -/
def StR (ws : List Int) (k : Nat) (ns : List Nd) (ls : List Int) (S : Int) : Prop := ∃ bs, HRk ws k bs ls S ∧ (ns.map tt).Perm bs ∧ NdOk ns
def joinN (a b : Nd) : Nd := (a.1 + b.1, min a.2.1 b.2.1, a.2.2 ++ b.2.2)
theorem StR.step {ws : List Int} {k : Nat} {ns : List Nd} {ls : List Int} {S : Int} (h : StR ws k ns ls S) {a b : Nd} {r : List Nd} (hp : (a :: b :: r).Perm ns) (ha : kN a ≤ kN b) (hb : ∀ c ∈ r, kN b ≤ kN c) :
    StR ws (k + 1) (joinN a b :: r) (incL ls (a.2.2 ++ b.2.2)) (S + (a.1 + b.1)) := by
  obtain ⟨bs, h1, h2, h3⟩ := h
  have hok : NdOk (a :: b :: r) := fun n hn => h3 n (hp.subset hn)
  have oa := hok a (List.mem_cons_self ..)
  have ob := hok b (List.mem_cons_of_mem _ (List.mem_cons_self ..))
  have hsp : ((r.map tt).mergeSort fun x y => decide (nk x ≤ nk y)).Perm (r.map tt) := List.mergeSort_perm _ _
  have hsw := List.pairwise_mergeSort (le := fun x y : Tt => decide (nk x ≤ nk y)) (fun a b c h1 h2 => by simp only [decide_eq_true_eq] at *; omega) (fun a b => by simp only [Bool.or_eq_true, decide_eq_true_eq]; omega) (r.map tt)
  obtain ⟨r', hr'⟩ : ∃ r', ((r.map tt).mergeSort fun x y => decide (nk x ≤ nk y)) = r' := ⟨_, rfl⟩
  rw [hr'] at hsp hsw
  have hrk : ∀ c ∈ r', nk (tt b) ≤ nk c := fun c hc => by
    obtain ⟨n, hn, rfl⟩ := List.mem_map.1 (hsp.subset hc)
    rw [nk_kN ob.1, nk_kN (hok n (List.mem_cons_of_mem _ (List.mem_cons_of_mem _ hn))).1]
    exact hb n hn
  have hab : nk (tt a) ≤ nk (tt b) := by rw [nk_kN oa.1, nk_kN ob.1]; exact ha
  have he : srtI ((tt a).2 ++ (tt b).2) = srtI (a.2.2 ++ b.2.2) := srtI_cong ((srtI_perm _).append (srtI_perm _))
  refine ⟨r' ++ [((tt a).1 + (tt b).1, srtI ((tt a).2 ++ (tt b).2))], ⟨bs, ls, S, tt a, tt b, r', h1, ?_, ?_, rfl, ?_, rfl⟩, ?_, fun n hn => ?_⟩
  · exact (List.Perm.cons _ (List.Perm.cons _ hsp)).trans ((hp.map tt).trans h2)
  · rw [List.map_cons, List.map_cons, List.pairwise_cons, List.pairwise_cons]
    refine ⟨fun x hx => ?_, fun x hx => ?_, ?_⟩
    · rcases List.mem_cons.1 hx with rfl | hx
      · exact hab
      · obtain ⟨c, hc, rfl⟩ := List.mem_map.1 hx
        have := hrk c hc
        omega
    · obtain ⟨c, hc, rfl⟩ := List.mem_map.1 hx
      exact hrk c hc
    · rw [List.pairwise_map]
      exact hsw.imp fun h => by simpa using h
  · rw [he]
    exact incL_perm (srtI_perm _).symm ls
  · rw [he]
    exact (List.Perm.cons _ hsp.symm).trans (List.perm_append_singleton _ _).symm
  · rcases List.mem_cons.1 hn with rfl | hn
    · refine ⟨⟨?_, fun x hx => ?_⟩, fun x hx => ?_⟩
      · show min a.2.1 b.2.1 ∈ a.2.2 ++ b.2.2
        rcases Int.le_total a.2.1 b.2.1 with h | h
        · rw [Int.min_eq_left h]; exact List.mem_append_left _ oa.1.1
        · rw [Int.min_eq_right h]; exact List.mem_append_right _ ob.1.1
      · show min a.2.1 b.2.1 ≤ x
        rcases List.mem_append.1 hx with hx | hx
        · have := oa.1.2 x hx; omega
        · have := ob.1.2 x hx; omega
      · rcases List.mem_append.1 hx with hx | hx
        · exact oa.2 x hx
        · exact ob.2 x hx
    · exact hok n (List.mem_cons_of_mem _ (List.mem_cons_of_mem _ hn))
def leavesN (ws : List Int) (k : Nat) : List Nd := (List.range k).map fun (i : Nat) => (ws.getD i 0, (i : Int), [(i : Int)])
theorem leavesN_succ (ws : List Int) (k : Nat) : leavesN ws (k + 1) = leavesN ws k ++ [(ws.getD k 0, (k : Int), [(k : Int)])] := by unfold leavesN; rw [List.range_succ, List.map_append]; rfl
theorem StR.zero {ws : List Int} (h : Wok ws) : StR ws 0 (leavesN ws ws.length) (List.replicate ws.length 0) 0 := by
  refine ⟨_, ⟨rfl, rfl, rfl⟩, ?_, fun n hn => ?_⟩
  · have e : (leavesN ws ws.length).map tt = leavesL ws := by
      unfold leavesN leavesL
      rw [List.map_map]
      exact List.map_congr_left fun i _ => by
        show (ws.getD i 0, srtI [(i : Int)]) = _
        rw [srtI_eq (List.pairwise_singleton _ _)]
    rw [e]
  · obtain ⟨i, hi, rfl⟩ := List.mem_map.1 hn
    have := List.mem_range.1 hi
    have := h.1.2
    refine ⟨⟨List.mem_singleton.2 rfl, fun x hx => ?_⟩, fun x hx => ?_⟩
    · rw [List.mem_singleton.1 hx]; exact Int.le_refl _
    · rw [List.mem_singleton.1 hx]; omega
theorem StR.len {ws : List Int} (hw : Wok ws) {k : Nat} {ns : List Nd} {ls : List Int} {S : Int} (h : StR ws k ns ls S) : ns.length + k = ws.length := by
  obtain ⟨bs, h1, h2, _⟩ := h
  have := (HRk.ok hw h1).len
  have := h2.length_eq
  rw [List.length_map] at this
  omega
/-- Two neighbours change places. -/
def swp (ns : List Nd) (i : Nat) : List Nd := (ns.set i (ns.getD (i - 1) nd0)).set (i - 1) (ns.getD i nd0)
theorem swp_len (ns : List Nd) (i : Nat) : (swp ns i).length = ns.length := by unfold swp; rw [List.length_set, List.length_set]
theorem swp_get {ns : List Nd} {i : Nat} (h0 : 0 < i) (hi : i < ns.length) (j : Nat) : (swp ns i).getD j nd0 = if j = i - 1 then ns.getD i nd0 else if j = i then ns.getD (i - 1) nd0 else ns.getD j nd0 := by
  unfold swp
  rw [getD_set' _ _ _ (by rw [List.length_set]; omega), getD_set' _ _ _ hi]
theorem swp_perm {ns : List Nd} {i : Nat} (h0 : 0 < i) (hi : i < ns.length) : (swp ns i).Perm ns := by
  obtain ⟨i, rfl⟩ : ∃ k, i = k + 1 := ⟨i - 1, by omega⟩
  obtain ⟨l1, x, y, l2, rfl, hl⟩ : ∃ l1 x y l2, ns = l1 ++ x :: y :: l2 ∧ l1.length = i := by
    refine ⟨ns.take i, ns[i], ns[i + 1], ns.drop (i + 2), ?_, by rw [List.length_take]; omega⟩
    rw [← List.drop_eq_getElem_cons hi, ← List.drop_eq_getElem_cons (by omega), List.take_append_drop]
  subst hl
  have e1 : (l1 ++ x :: y :: l2).getD (l1.length + 1) nd0 = y := by simp [List.getD]
  have e2 : (l1 ++ x :: y :: l2).getD (l1.length + 1 - 1) nd0 = x := by simp [List.getD]
  unfold swp
  rw [e1, e2]
  have e3 : ((l1 ++ x :: y :: l2).set (l1.length + 1) x).set (l1.length + 1 - 1) y = l1 ++ y :: x :: l2 := by
    rw [List.set_append_right _ _ (by omega), show l1.length + 1 - l1.length = 1 by omega, show l1.length + 1 - 1 = l1.length by omega]
    rw [List.set_append_right _ _ (Nat.le_refl _), Nat.sub_self]
    rfl
  rw [e3]
  exact List.Perm.append_left _ (List.Perm.swap _ _ _)
/-- The first nodes are the least ones, in order. -/
def Srt (rd : Nat) (ns : List Nd) : Prop := ∀ q, q < rd → ∀ j, q ≤ j → j < ns.length → kN (ns.getD q nd0) ≤ kN (ns.getD j nd0)
def Low1 (i : Nat) (ns : List Nd) : Prop := ∀ j, i ≤ j → j < ns.length → kN (ns.getD i nd0) ≤ kN (ns.getD j nd0)
theorem bub_keep {rd i : Nat} {ns : List Nd} (hi : rd < i) (hl : i < ns.length) (h2 : Low1 i ns) (hk : kN (ns.getD (i - 1) nd0) ≤ kN (ns.getD i nd0)) : Low1 (i - 1) ns := fun j hj hjl => by
  by_cases hji : j = i - 1
  · subst hji; exact Int.le_refl _
  · exact Int.le_trans hk (h2 j (by omega) hjl)
theorem bub_swap {rd i : Nat} {ns : List Nd} (hi : rd < i) (hl : i < ns.length) (h1 : Srt rd ns) (h2 : Low1 i ns) (hk : kN (ns.getD i nd0) < kN (ns.getD (i - 1) nd0)) : Srt rd (swp ns i) ∧ Low1 (i - 1) (swp ns i) := by
  constructor
  · intro q hq j hqj hjl
    rw [swp_len] at hjl
    rw [swp_get (by omega) hl, swp_get (by omega) hl, if_neg (by omega), if_neg (by omega)]
    by_cases hj1 : j = i - 1
    · rw [if_pos hj1]; exact h1 q hq i (by omega) hl
    · rw [if_neg hj1]
      by_cases hj2 : j = i
      · rw [if_pos hj2]; exact h1 q hq (i - 1) (by omega) (by omega)
      · rw [if_neg hj2]; exact h1 q hq j hqj hjl
  · intro j hqj hjl
    rw [swp_len] at hjl
    rw [swp_get (by omega) hl, swp_get (by omega) hl, if_pos rfl]
    by_cases hj1 : j = i - 1
    · rw [if_pos hj1]; exact Int.le_refl _
    · rw [if_neg hj1]
      by_cases hj2 : j = i
      · rw [if_pos hj2]; omega
      · rw [if_neg hj2]; exact h2 j (by omega) hjl
theorem Srt.succ {rd : Nat} {ns : List Nd} (h1 : Srt rd ns) (h2 : Low1 rd ns) : Srt (rd + 1) ns := fun q hq j hqj hjl => by
  by_cases h : q = rd
  · subst h; exact h2 j hqj hjl
  · exact h1 q (by omega) j hqj hjl
theorem Srt.two {ns : List Nd} (h : Srt 2 ns) (hl : 2 ≤ ns.length) : ∃ r, ns = ns.getD 0 nd0 :: ns.getD 1 nd0 :: r ∧ r = ns.drop 2 ∧ kN (ns.getD 0 nd0) ≤ kN (ns.getD 1 nd0) ∧ ∀ c ∈ r, kN (ns.getD 1 nd0) ≤ kN c := by
  match ns, hl with
  | a :: b :: r, _ =>
    refine ⟨r, rfl, rfl, h 0 (by omega) 1 (by omega) (by simp), fun c hc => ?_⟩
    obtain ⟨i, hi, rfl⟩ := List.getElem_of_mem hc
    have := h 1 (by omega) (i + 2) (by omega) (by simp; omega)
    simpa [List.getD, hi] using this
theorem less_kN {a b : Nd} (ha : 0 ≤ a.2.1 ∧ a.2.1 < 1000) (hb : 0 ≤ b.2.1 ∧ b.2.1 < 1000) : (a.1 < b.1 ∨ a.1 = b.1 ∧ a.2.1 < b.2.1) ↔ kN a < kN b := by
  unfold kN
  omega
theorem NdOk.rng {ns : List Nd} (h : NdOk ns) {j : Nat} (hj : j < ns.length) : 0 ≤ (ns.getD j nd0).2.1 ∧ (ns.getD j nd0).2.1 < 1000 := by
  have := h _ (getD_in (d := nd0) hj)
  exact this.2 _ this.1.1
theorem NdOk.perm {ns ns' : List Nd} (h : NdOk ns) (hp : ns'.Perm ns) : NdOk ns' := fun n hn => h n (hp.subset hn)
/-! ### Rows of nodes in memory -/
abbrev TNR : TypeId := 113
abbrev TNL : TypeId := 111
theorem nr_info : (Tryd.prog.info? TNR).map (fun i => (i.zero, i.size, i.bytes)) = some (some (.agg #[.int .i64 0, .int .i64 0, .slice none 0 0]), 3, 40) := by kernel_rfl
def prN (x : Int × Int × Value) : List Value := [.int .i64 x.1, .int .i64 x.2.1, x.2.2]
theorem prN_len (d : List (Int × Int × Value)) : ∀ x, x ∈ d → (prN x).length = 3 := fun _ _ => rfl
def NdW (L : Nat) (w : World) : List (Int × Int × Value) → List Nd → Prop
  | [], [] => True
  | x :: d, n :: ns => (x.1 = n.1 ∧ x.2.1 = n.2.1 ∧ SL TIN w x.2.2 (ic n.2.2) ∧ x.2.2.ownBlock ≠ some L) ∧ NdW L w d ns
  | _, _ => False
theorem NdW.len {L : Nat} {w : World} : ∀ {d : List (Int × Int × Value)} {ns : List Nd}, NdW L w d ns → d.length = ns.length
  | [], [], _ => rfl
  | _ :: _, _ :: _, h => by simp [NdW.len h.2]
  | [], _ :: _, h => h.elim
  | _ :: _, [], h => h.elim
theorem NdW.app {L : Nat} {w : World} {d' : List (Int × Int × Value)} {ns' : List Nd} (h' : NdW L w d' ns') : ∀ {d : List (Int × Int × Value)} {ns : List Nd}, NdW L w d ns → NdW L w (d ++ d') (ns ++ ns')
  | [], [], _ => h'
  | _ :: _, _ :: _, h => ⟨h.1, NdW.app h' h.2⟩
  | [], _ :: _, h => h.elim
  | _ :: _, [], h => h.elim
theorem NdW.imp {L : Nat} {w w' : World} (hk : ∀ v xs, SL TIN w v (ic xs) → SL TIN w' v (ic xs)) : ∀ {d : List (Int × Int × Value)} {ns : List Nd}, NdW L w d ns → NdW L w' d ns
  | [], [], _ => trivial
  | _ :: _, _ :: _, h => ⟨⟨h.1.1, h.1.2.1, hk _ _ h.1.2.2.1, h.1.2.2.2⟩, NdW.imp hk h.2⟩
  | [], _ :: _, h => h.elim
  | _ :: _, [], h => h.elim
theorem NdW.below {L : Nat} {w w' : World} {d : List (Int × Int × Value)} {ns : List Nd} (h : NdW L w d ns) (hb : Below w.heap.size w w') : NdW L w' d ns := h.imp fun _ _ hs => hs.below hb
theorem NdW.get {L : Nat} {w : World} : ∀ {d : List (Int × Int × Value)} {ns : List Nd}, NdW L w d ns → ∀ j (hj : j < ns.length), ∃ u, d[j]? = some ((ns.getD j nd0).1, (ns.getD j nd0).2.1, u) ∧ SL TIN w u (ic (ns.getD j nd0).2.2) ∧ u.ownBlock ≠ some L
  | x :: d, n :: ns, h, 0, _ => ⟨x.2.2, by
      obtain ⟨a, b, u⟩ := x
      obtain ⟨⟨e1, e2, _⟩, _⟩ := h
      simp only at e1 e2
      subst e1 e2
      rfl, h.1.2.2⟩
  | _ :: d, _ :: ns, h, j + 1, hj => by
    obtain ⟨u, e, hs, ho⟩ := NdW.get h.2 j (by simpa using hj)
    exact ⟨u, by simpa using e, by simpa using hs, ho⟩
  | [], _ :: _, h, _, _ => h.elim
  | [], [], _, j, hj => absurd hj (by simp)
  | _ :: _, [], h, _, _ => h.elim
theorem NdW.drop {L : Nat} {w : World} : ∀ {d : List (Int × Int × Value)} {ns : List Nd}, NdW L w d ns → ∀ k, NdW L w (d.drop k) (ns.drop k)
  | [], [], _, k => by rw [List.drop_nil, List.drop_nil]; trivial
  | _ :: _, _ :: _, h, 0 => h
  | _ :: _, _ :: _, h, k + 1 => NdW.drop h.2 k
  | [], _ :: _, h, _ => h.elim
  | _ :: _, [], h, _ => h.elim
theorem NdW.set {L : Nat} {w : World} {x : Int × Int × Value} {n : Nd} (hx : x.1 = n.1 ∧ x.2.1 = n.2.1 ∧ SL TIN w x.2.2 (ic n.2.2) ∧ x.2.2.ownBlock ≠ some L) : ∀ {d : List (Int × Int × Value)} {ns : List Nd}, NdW L w d ns → ∀ i, NdW L w (d.set i x) (ns.set i n)
  | [], [], _, i => by rw [List.set_nil, List.set_nil]; trivial
  | _ :: _, _ :: _, h, 0 => ⟨hx, h.2⟩
  | _ :: _, _ :: _, h, i + 1 => ⟨h.1, NdW.set hx h.2 i⟩
  | [], _ :: _, h, _ => h.elim
  | _ :: _, [], h, _ => h.elim
theorem SL.oneC' {w : World} {v : Value} {xs : List Value} (h : SL TIN w v xs) : v.oneCell' = true := by
  obtain ⟨A, n, c, rfl, _⟩ := h
  rfl
theorem NdW.one_cell {L : Nat} {w : World} : ∀ {d : List (Int × Int × Value)} {ns : List Nd}, NdW L w d ns → ∀ u, u ∈ cel prN d → u.oneCell' = true
  | [], [], _, u, hu => by simp [cel] at hu
  | x :: d, n :: ns, h, u, hu => by
    have e : cel prN (x :: d) = prN x ++ cel prN d := rfl
    rw [e] at hu
    rcases List.mem_append.1 hu with hu | hu
    · simp only [prN, List.mem_cons, List.not_mem_nil, or_false] at hu
      rcases hu with rfl | rfl | rfl
      · rfl
      · rfl
      · exact h.1.2.2.1.oneC'
    · exact NdW.one_cell h.2 u hu
  | [], _ :: _, h, _, _ => h.elim
  | _ :: _, [], h, _, _ => h.elim
def OwN (L base : Nat) (w : World) (v : Value) (ns : List Nd) : Prop := ∃ d, w.ownsRow base TNR 3 v d.length (cel prN d) ∧ NdW L w d ns
theorem OwN.below {L base : Nat} {w w' : World} {v : Value} {ns : List Nd} (h : OwN L base w v ns) (hb : Below w.heap.size w w') : OwN L base w' v ns := by
  obtain ⟨d, h1, h2⟩ := h
  exact ⟨d, own_below h1 hb, h2.below hb⟩
theorem OwN.lit0 {L base : Nat} {W : World} (hb : base ≤ W.heap.size) : OwN L base (W.alloc (.cells #[] TNR)) (.slice (some ⟨W.heap.size, 0, none⟩) 0 0) [] :=
  ⟨[], World.ownsRow_lit W #[] 0 hb (by unfold maxLen; omega) rfl, trivial⟩
theorem cel_set3 (x : Int × Int × Value) : ∀ (d : List (Int × Int × Value)) (i : Nat), (((cel prN d).set (i * 3) (.int .i64 x.1)).set (i * 3 + 1) (.int .i64 x.2.1)).set (i * 3 + 2) x.2.2 = cel prN (d.set i x)
  | [], i => by simp [cel]
  | y :: d, 0 => rfl
  | y :: d, i + 1 => by
    have e : cel prN (y :: d) = .int .i64 y.1 :: .int .i64 y.2.1 :: y.2.2 :: cel prN d := rfl
    have e2 : cel prN ((y :: d).set (i + 1) x) = .int .i64 y.1 :: .int .i64 y.2.1 :: y.2.2 :: cel prN (d.set i x) := rfl
    rw [e, e2, ← cel_set3 x d i, show (i + 1) * 3 = i * 3 + 1 + 1 + 1 by omega]
    rfl
/-- Cells of a row of nodes. -/
theorem OwN.cells {L base : Nat} {w : World} {g n c : Nat} {ns : List Nd} (h : OwN L base w (.slice (some ⟨g, 0, none⟩) n c) ns) {j : Nat} (hj : j < ns.length) : ∃ A' n' c', w.cell? ⟨g, j * 3, none⟩ = some (.int .i64 (ns.getD j nd0).1) ∧ w.cell? ⟨g, j * 3 + 1, none⟩ = some (.int .i64 (ns.getD j nd0).2.1) ∧
    w.cell? ⟨g, j * 3 + 2, none⟩ = some (.slice A' n' c') ∧ SL TIN w (.slice A' n' c') (ic (ns.getD j nd0).2.2) ∧ (Value.slice A' n' c').ownBlock ≠ some L := by
  obtain ⟨d, h1, h2⟩ := h
  obtain ⟨u, e, hs, hol⟩ := h2.get j hj
  have hjd : j < d.length := by rw [h2.len]; exact hj
  have ed : d[j] = ((ns.getD j nd0).1, (ns.getD j nd0).2.1, u) := by rw [List.getElem?_eq_getElem hjd] at e; injection e
  have hc := h1.cells (g := g) rfl
  have g0 := cel_get (prN_len d) hjd (show 0 < 3 by omega)
  have g1 := cel_get (prN_len d) hjd (show 1 < 3 by omega)
  have g2 := cel_get (prN_len d) hjd (show 2 < 3 by omega)
  rw [ed] at g0 g1 g2
  have c0 := hc _ _ (g0.trans rfl)
  have c1 := hc _ _ (g1.trans rfl)
  have c2 := hc _ _ (g2.trans rfl)
  rw [add_addr, Nat.zero_add] at c0 c1 c2
  rw [Nat.add_zero] at c0
  obtain ⟨A', n', c', rfl, hsl⟩ := hs
  exact ⟨A', n', c', c0, c1, c2, ⟨A', n', c', rfl, hsl⟩, hol⟩
/-- More nodes in a row that the call owns. -/
theorem OwN.cat {L base : Nat} {w w' : World} {v v' : Value} {d d' : List (Int × Int × Value)} {ns ns' : List Nd} {m : Nat} (h1 : w.ownsRow base TNR 3 v d.length (cel prN d)) (h2 : NdW L w d ns) (h3 : NdW L w d' ns') (hm : d'.length = m)
    (ho : w'.ownsRow base TNR 3 v' (d.length + m) (cel prN d ++ cel prN d')) (hg : w.grownBy w' v.ownBlock) : OwN L base w' v' (ns ++ ns') := by
  refine ⟨d ++ d', ?_, (NdW.app h3 h2).imp fun _ _ hs => hs.grown hg (own_tag h1 (show TNR ≠ TIN by decide))⟩
  rw [List.length_append, cel_app, hm]
  exact ho
theorem OwN.form {L base : Nat} {w : World} {v : Value} {ns : List Nd} (h : OwN L base w v ns) (h0 : 0 < ns.length) : ∃ g c, v = .slice (some ⟨g, 0, none⟩) ns.length c ∧ ns.length ≤ c ∧ c ≤ 9223372036854775807 ∧ base ≤ g := by
  obtain ⟨d, h1, h2⟩ := h
  have hl := h2.len
  rcases h1.2 with ⟨e, hn⟩ | ⟨g, cap, cur, e, hb, hh, hn, hm, _⟩
  · omega
  · rw [hl] at e hn
    exact ⟨g, cap, e, hn, by simpa [maxLen] using hm, hb⟩
/-- One node written, cell by cell. -/
def put3 (w : World) (g i : Nat) (a b : Int) (v : Value) : World := ((w.setCell ⟨g, i * 3, none⟩ (.int .i64 a)).setCell ⟨g, i * 3 + 1, none⟩ (.int .i64 b)).setCell ⟨g, i * 3 + 2, none⟩ v
theorem OwN.put {L base g n c i : Nat} {w : World} {ns : List Nd} {x : Nd} {v : Value} (h : OwN L base w (.slice (some ⟨g, 0, none⟩) n c) ns) (hs : SL TIN w v (ic x.2.2)) (ho : v.ownBlock ≠ some L) :
    OwN L base (put3 w g i x.1 x.2.1 v) (.slice (some ⟨g, 0, none⟩) n c) (ns.set i x) ∧ (∀ u xs, SL TIN w u (ic xs) → SL TIN (put3 w g i x.1 x.2.1 v) u (ic xs)) ∧ w.grownBy (put3 w g i x.1 x.2.1 v) (some g) := by
  obtain ⟨d, h1, h2⟩ := h
  have hnd : n = d.length := by
    rcases h1.2 with ⟨e, _⟩ | ⟨g', cap, cur, e, _⟩
    · cases e
    · injection e
  subst hnd
  obtain ⟨a1, a2⟩ := h1.stored (i * 3) (.int .i64 x.1)
  obtain ⟨b1, b2⟩ := a1.stored (i * 3 + 1) (.int .i64 x.2.1)
  obtain ⟨c1, c2⟩ := b1.stored (i * 3 + 2) v
  have e := cel_set3 (x.1, x.2.1, v) d i
  simp only at e
  rw [e] at c1
  have t0 := own_tag h1 (show TNR ≠ TIN by decide)
  have t1 := own_tag a1 (show TNR ≠ TIN by decide)
  have t2 := own_tag b1 (show TNR ≠ TIN by decide)
  have hk : ∀ u xs, SL TIN w u (ic xs) → SL TIN (put3 w g i x.1 x.2.1 v) u (ic xs) := fun u xs hv => ((hv.grown a2 fun q hq => t0 q hq).grown b2 fun q hq => t1 q hq).grown c2 fun q hq => t2 q hq
  exact ⟨⟨d.set i (x.1, x.2.1, v), by rw [List.length_set]; exact c1, (NdW.set ⟨rfl, rfl, hs, ho⟩ h2 i).imp hk⟩, hk, (a2.trans b2).trans c2⟩
theorem OwN.free {L base g n c : Nat} {w : World} {ns : List Nd} (h : OwN L base w (.slice (some ⟨g, 0, none⟩) n c) ns) (j : Nat) : w.frozen? ⟨g, j, none⟩ = false := by
  obtain ⟨d, h1, h2⟩ := h
  have hnd : n = d.length := by
    rcases h1.2 with ⟨e, _⟩ | ⟨g', cap, cur, e, _⟩
    · cases e
    · injection e
  subst hnd
  exact h1.frozenAt j
theorem gb_ext {w0 w w' : World} {row : Option Nat} (h : w0.grownBy w row) (hx : Ext w w') : w0.grownBy w' row :=
  h.trans ⟨hx.os, hx.tape, hx.output, hx.size, fun k hk _ => hx.block k hk⟩
theorem NdW.far {L j : Nat} {w : World} {u : Value} : ∀ {d : List (Int × Int × Value)} {ns : List Nd}, NdW L w d ns → (∀ n ∈ ns, n.2.2 ≠ []) → NdW L (w.setCell ⟨L, j, none⟩ u) d ns
  | [], [], _, _ => trivial
  | _ :: _, _ :: _, h, hn => ⟨⟨h.1.1, h.1.2.1, h.1.2.2.1.far (hn _ (List.mem_cons_self ..)) h.1.2.2.2, h.1.2.2.2⟩, NdW.far h.2 fun n hm => hn n (List.mem_cons_of_mem _ hm)⟩
  | [], _ :: _, h, _ => h.elim
  | _ :: _, [], h, _ => h.elim
/-- Writing a length leaves the nodes. -/
theorem OwN.far {L base j : Nat} {w : World} {v u : Value} {ns : List Nd} (h : OwN L base w v ns) (hL : L < base) (hn : ∀ n ∈ ns, n.2.2 ≠ []) : OwN L base (w.setCell ⟨L, j, none⟩ u) v ns := by
  obtain ⟨d, h1, h2⟩ := h
  refine ⟨d, h1.kept (row := some L) ⟨rfl, rfl, rfl, by simp, fun k _ hk => Below.heap_setCell w ⟨L, j, none⟩ u k (fun e => hk (by rw [e]))⟩ ?_, h2.far hn⟩
  cases hv : v.ownBlock with
  | none => exact Or.inl rfl
  | some g =>
    refine Or.inr fun e => ?_
    injection e with e
    have := (h1.lt g hv).1
    omega
theorem NdOk.ne {ns : List Nd} (h : NdOk ns) : ∀ n ∈ ns, n.2.2 ≠ [] := fun n hn e => by
  have := (h n hn).1.1
  rw [e] at this
  cases this
theorem StR.facts {ws : List Int} (hw : Wok ws) {k : Nat} {ns : List Nd} {ls : List Int} {S : Int} (h : StR ws k ns ls S) {a b : Nd} {r : List Nd} (hp : (a :: b :: r).Perm ns) :
    ((0 ≤ a.1 ∧ a.1 ≤ 64000000) ∧ (0 ≤ b.1 ∧ b.1 ≤ 64000000)) ∧ ((a.2.2 ++ b.2.2).length ≤ 64 ∧ ∀ x ∈ a.2.2 ++ b.2.2, 0 ≤ x ∧ x < (ws.length : Int)) ∧ (0 ≤ S ∧ S ≤ 64000000 * 64) ∧ ls.length = ws.length ∧ (∀ j, 0 ≤ ls.getD j 0 ∧ ls.getD j 0 ≤ 64 * 64) ∧ NdOk (a :: b :: r) := by
  obtain ⟨bs, h1, h2, h3⟩ := h
  have hok := HRk.ok hw h1
  have hk := hok.ok.perm ((hp.map tt).trans h2)
  have hw64 := hw.1.2
  have hl := hok.len
  have hS := hok.sb
  have wa := hk.wle (b := tt a) (List.mem_cons_self ..)
  have wb := hk.wle (b := tt b) (List.mem_cons_of_mem _ (List.mem_cons_self ..))
  refine ⟨⟨wa, wb⟩, ⟨?_, fun x hx => ?_⟩, by omega, hok.ll, fun j => by have := hok.lb j; omega, NdOk.perm h3 hp⟩
  · have h1 := hk.all.length_eq
    rw [upL_len] at h1
    have e : allN ((a :: b :: r).map tt) = ((tt a).2 ++ (tt b).2) ++ allN (r.map tt) := by unfold allN; rw [List.map_cons, List.map_cons, List.flatMap_cons, List.flatMap_cons, List.append_assoc]
    have ea : (tt a).2.length = a.2.2.length := srtI_len _
    have eb : (tt b).2.length = b.2.2.length := srtI_len _
    rw [e, List.length_append, List.length_append, ea, eb] at h1
    rw [List.length_append]
    omega
  · rcases List.mem_append.1 hx with hx | hx
    · exact hk.rng (b := tt a) (List.mem_cons_self ..) ((srtI_perm _).symm.subset hx)
    · exact hk.rng (b := tt b) (List.mem_cons_of_mem _ (List.mem_cons_self ..)) ((srtI_perm _).symm.subset hx)
theorem OwN.tag {L base : Nat} {w : World} {v : Value} {ns : List Nd} (h : OwN L base w v ns) : ∀ g, v.ownBlock = some g → ∀ cs fr, w.heap[g]? ≠ some (.cells cs TIN fr) := by
  obtain ⟨d, h1, _⟩ := h
  exact own_tag h1 (by decide)
theorem OwN.ge {L base : Nat} {w : World} {v : Value} {ns : List Nd} (h : OwN L base w v ns) : ∀ k, v.ownBlock = some k → base ≤ k := by
  obtain ⟨d, h1, _⟩ := h
  exact own_geE h1
/-- The nodes behind the first two. -/
theorem OwN.rest {L base g n c : Nat} {w : World} {a b : Nd} {r : List Nd} (h : OwN L base w (.slice (some ⟨g, 0, none⟩) n c) (a :: b :: r)) : ∃ d : List (Int × Int × Value), d.length = r.length ∧ NdW L w d r ∧ ∀ j u, (cel prN d)[j]? = some u → w.cell? ⟨g, 6 + j, none⟩ = some u := by
  obtain ⟨d, h1, h2⟩ := h
  match d, h2 with
  | x :: y :: d, h2 =>
    refine ⟨d, h2.2.2.len, h2.2.2, fun j u hj => ?_⟩
    have hc := h1.cells (g := g) rfl
    have e : cel prN (x :: y :: d) = prN x ++ (prN y ++ cel prN d) := rfl
    have hx : (cel prN (x :: y :: d))[6 + j]? = some u := by
      rw [e, List.getElem?_append_right (by show 3 ≤ _; omega), List.getElem?_append_right (by show 3 ≤ _ - 3; omega)]
      rw [show 6 + j - (prN x).length - (prN y).length = j by show 6 + j - 3 - 3 = j; omega]
      exact hj
    have c := hc _ _ hx
    rw [add_addr, Nat.zero_add] at c
    exact c
  | [_], h2 => exact h2.2.elim
/-- The state between two joinings. -/
def CsW (ws : List Int) (w0 : World) (L : Nat) (w : World) (g n c k : Nat) (ns : List Nd) (ls : List Int) (S : Int) : Prop :=
  OwN L (L + 1) w (.slice (some ⟨g, 0, none⟩) n c) ns ∧ LB w L ls ∧ StR ws k ns ls S ∧ Below L w0 w ∧ L + 1 ≤ w.heap.size
set_option maxHeartbeats 12800000 in
set_option maxRecDepth 100000 in
theorem zcodes_any (A : Option Addr) (n c : Nat) (ws : List Int) (w : World) (h : Il w A n c ws) (hw : Wok ws) :
    Calls Tryd.prog 36 #[.slice A n c] w (Ret (fun v w' => ∃ A' c' b ls S, v = .tuple #[.slice A' n c', .int .i64 S] ∧ Il w' A' n c' ls ∧ HRk ws (n - 1) [b] ls S) w) := by
  have hn := h.le
  have hc := h.cap
  have hl := h.len
  have hn64 : n ≤ 64 := by rw [← hl]; exact hw.1.2
  have hn1 : 1 ≤ n := by rw [← hl]; exact hw.1.1
  have HL := Lib.hid hl
  have H := Lib.hid h
  have HW := Lib.hid hw
  have hmk := make_I n (by omega) w
  clear h hw hl
  go_enter Tryd.func36, Tryd.ntmps36
  go_upto_region 3 with fail
  obtain ⟨L, hLe⟩ : ∃ L, w.heap.size = L := ⟨_, rfl⟩
  have x1 : Ext w (w.alloc (.cells (ic (List.replicate n 0)).toArray TIN)) := Ext.allocR _ _
  have hlb0 : LB ((w.alloc (.cells (ic (List.replicate n 0)).toArray TIN)).alloc (.cells #[] TNR)) L (List.replicate n 0) := Blk.below (show LB (w.alloc (.cells (ic (List.replicate n 0)).toArray TIN)) L (List.replicate n 0) from Blk.new_ _ _ hLe) (Ext.allocR _ _)
  have hz1 : (w.alloc (.cells (ic (List.replicate n 0)).toArray TIN)).heap.size = L + 1 := by simp [hLe]
  have ho0 : OwN L (L + 1) ((w.alloc (.cells (ic (List.replicate n 0)).toArray TIN)).alloc (.cells #[] TNR)) (.slice (some ⟨L + 1, 0, none⟩) 0 0) (leavesN ws 0) := by
    have h1 := OwN.lit0 (L := L) (base := L + 1) (W := w.alloc (.cells (ic (List.replicate n 0)).toArray TIN)) (by rw [hz1]; exact Nat.le_refl _)
    rw [hz1] at h1
    exact h1
  have hb0 : Below L w ((w.alloc (.cells (ic (List.replicate n 0)).toArray TIN)).alloc (.cells #[] TNR)) := by rw [← hLe]; exact bt x1 (Ext.allocR _ _)
  have hs0 : L + 1 ≤ ((w.alloc (.cells (ic (List.replicate n 0)).toArray TIN)).alloc (.cells #[] TNR)).heap.size := by simp; omega
  rw [hLe]
  refine wp_world (fun W1 => OwN L (L + 1) W1 (.slice (some ⟨L + 1, 0, none⟩) 0 0) (leavesN ws 0) ∧ LB W1 L (List.replicate n 0) ∧ Below L w W1 ∧ L + 1 ≤ W1.heap.size) ⟨ho0, hlb0, hb0, hs0⟩ ?_
  clear ho0 hlb0 hb0 hs0 x1 hz1 hmk
  rintro W1 hW1
  have H1 := Lib.hid hW1
  have HLE := Lib.hid hLe
  clear hW1 hLe
  go_wp2_with fail
  go_loopw [6, 7] (fun s i wr => ∃ (k : Nat) (A6 : Option Addr) (n6 c6 : Nat), k ≤ n ∧ i = .int .i64 (k : Int) ∧ s = .slice A6 n6 c6 ∧ OwN L (L + 1) wr (.slice A6 n6 c6) (leavesN ws k) ∧ LB wr L (List.replicate n 0) ∧ Below L w wr ∧ L + 1 ≤ wr.heap.size) (fun _ i _ => n - (intOf i).toNat)
  case atStart => exact ⟨0, _, _, _, by omega, rfl, rfl, H1.out⟩
  case round =>
    clear H1
    obtain ⟨k, A6, n6, c6, hk, rfl, rfl, ho, hlb, hbw, hsz⟩ := hrel
    have hxw : Ext w wr := by show Below w.heap.size w wr; rw [HLE.out]; exact hbw
    have HO := Lib.hid (And.intro ho (And.intro hlb (And.intro hbw hsz)))
    by_cases hkn : k < n
    · have pk : (k : Int) < (n : Int) := by omega
      obtain ⟨b1, o1, rfl, hcell⟩ := (H.out.below hxw).at_ (by omega)
      have ck := hcell k hkn
      obtain ⟨x, hx⟩ : ∃ x, ws.getD k 0 = x := ⟨_, rfl⟩
      rw [hx] at ck
      have xa : Ext wr (wr.alloc (.cells #[.int .i64 (k : Int)] TIN)) := Ext.allocR _ _
      have cka := Ext.cell xa ck
      have xb : Ext wr ((wr.alloc (.cells #[.int .i64 (k : Int)] TIN)).alloc (.cells #[.int .i64 x, .int .i64 (k : Int), .slice (some ⟨wr.heap.size, 0, none⟩) 1 1] TNR)) := bt xa (Ext.allocR _ _)
      have hsl := ((OwI.lit1 (base := wr.heap.size) (w := wr) (x := (k : Int)) (Nat.le_refl _)).sl).below (Ext.allocR _ (.cells #[.int .i64 x, .int .i64 (k : Int), .slice (some ⟨wr.heap.size, 0, none⟩) 1 1] TNR))
      obtain ⟨d4, hr4, hp4⟩ := ho.below xb
      have hdl := hp4.len
      have hdl2 : d4.length ≤ 100 := by rw [hdl]; unfold leavesN; rw [List.length_map, List.length_range]; omega
      have hgw4 : L + 1 ≤ ((wr.alloc (.cells #[.int .i64 (k : Int)] TIN)).alloc (.cells #[.int .i64 x, .int .i64 (k : Int), .slice (some ⟨wr.heap.size, 0, none⟩) 1 1] TNR)).heap.size := Nat.le_trans hsz (Ext.size xb)
      have hcn1 := cell_new (wr.alloc (.cells #[.int .i64 (k : Int)] TIN)) [.int .i64 x, .int .i64 (k : Int), .slice (some ⟨wr.heap.size, 0, none⟩) 1 1] TNR
      rw [show (wr.alloc (.cells #[.int .i64 (k : Int)] TIN)).heap.size = wr.heap.size + 1 by simp] at hcn1
      have HCN := Lib.hid hcn1
      have HR := Lib.hid (And.intro hr4 (And.intro hp4 hsl))
      have HTG := Lib.hid (own_tag (T' := TIN) hr4 (by decide))
      have HZ := Lib.hid (And.intro (Blk.below hlb xb) (hbw.trans (Below.mono xb (by omega))))
      have HSW := Lib.hid (show (Value.slice (some ⟨wr.heap.size, 0, none⟩) 1 1).ownBlock ≠ some L from fun e => by simp [Value.ownBlock] at e; omega)
      have HLS := Lib.hid (show leavesN ws (k + 1) = leavesN ws k ++ [(x, (k : Int), [(k : Int)])] by rw [leavesN_succ, hx])
      have hone : ∀ u, u ∈ [Value.int .i64 x, .int .i64 (k : Int), .slice (some ⟨wr.heap.size, 0, none⟩) 1 1] → u.oneCell' = true := fun u hu => by
        simp only [List.mem_cons, List.not_mem_nil, or_false] at hu
        rcases hu with rfl | rfl | rfl <;> rfl
      have HON := Lib.hid hone
      clear hcell hx ho hlb hbw xa xb hr4 hp4 hsl hcn1 hone hxw
      go_wp2_with (at_builtin; refine wp_appE TNL TNR _ 3 40 nr_info Tryd.underlying111 rfl (by omega) (by omega) rfl _ _ rfl (L + 1) (.slice A6 n6 c6) d4.length (cel prN d4) rfl HR.out.1 ⟨wr.heap.size + 1, 0, none⟩ 1 1 [.int .i64 x, .int .i64 (k : Int), .slice (some ⟨wr.heap.size, 0, none⟩) 1 1] rfl rfl HCN.out HON.out (by omega) (by omega) hgw4 ?_; intro v8 w8 hown8 hb8 hg8; have hn8 : OwN L (L + 1) w8 v8 (leavesN ws (k + 1)) := (by rw [HLS.out]; exact OwN.cat (d' := [(x, (k : Int), .slice (some ⟨wr.heap.size, 0, none⟩) 1 1)]) HR.out.1 HR.out.2.1 ⟨⟨rfl, rfl, HR.out.2.2, HSW.out⟩, trivial⟩ rfl hown8 hg8); obtain ⟨g8, c8, hv8, _⟩ := hn8.form (by unfold leavesN; simp); subst hv8; have oL8 : LB w8 L (List.replicate n 0) := HZ.out.1.grown hg8 HTG.out; have HE := Lib.hid (And.intro hn8 (And.intro oL8 (And.intro (HZ.out.2.trans (hb8.mono (by omega))) (show L + 1 ≤ w8.heap.size from Nat.le_trans hgw4 hg8.size)))); clear oL8 hn8 hown8 hb8 hg8)
      go_roundw
      case rel => exact ⟨k + 1, _, _, _, by omega, by go_num, rfl, HE.out⟩
      case measure => simp [intOf]; omega
    · obtain rfl : k = n := by omega
      have hlv : (leavesN ws k).length = k := by unfold leavesN; rw [List.length_map, List.length_range]
      obtain ⟨g0, c0, hv0, hgc0, hgc1, _⟩ := ho.form (by rw [hlv]; omega)
      rw [hlv] at hv0 hgc0
      injection hv0 with e1 e2 e3
      subst e1 e2 e3
      have hst0 := StR.zero HW.out
      rw [HL.out] at hst0
      have HC := Lib.hid (show CsW ws w L wr g0 n6 c6 0 (leavesN ws n6) (List.replicate n6 0) 0 from ⟨ho, hlb, hst0, hbw, hsz⟩)
      clear ho hlb hbw hsz hst0 hxw HO
      go_wp2_with fail
      go_loopw [5, 6] (fun s l wr => ∃ (j g q cc : Nat) (ns : List Nd) (ls : List Int) (S : Int), s = .int .i64 S ∧ l = .slice (some ⟨g, 0, none⟩) q cc ∧ ns.length = q ∧ 1 ≤ q ∧ q ≤ cc ∧ cc ≤ 9223372036854775807 ∧ CsW ws w L wr g q cc j ns ls S) (fun _ l _ => slN l)
      case atStart => exact ⟨0, _, _, _, _, _, 0, rfl, rfl, hlv, by omega, hgc0, hgc1, HC.out⟩
      case round =>
        clear HC hlv hgc0 hgc1
        obtain ⟨j, g, q, cc, ns, ls, S, rfl, rfl, hnl, hq1, hqc, hqc2, hcs⟩ := hrel
        have HC := Lib.hid hcs
        have HNL := Lib.hid hnl
        have hjq : q + j = n6 := by have h1 := hcs.2.2.1.len HW.out; rw [hnl, HL.out] at h1; exact h1
        by_cases hq2 : 1 < q
        · have pq : (1 : Int) < (q : Int) := by omega
          clear hcs hnl
          obtain ⟨wo, rfl⟩ : ∃ wo, wo = wr := ⟨_, rfl⟩
          have HR0 := Lib.hid (show OwN L (L + 1) wo (.slice (some ⟨g, 0, none⟩) q cc) ns ∧ ns.Perm ns ∧ Srt 0 ns ∧ wo.grownBy wo (some g) from ⟨HC.out.1, List.Perm.refl _, fun q hq => absurd hq (by omega), ⟨rfl, rfl, rfl, Nat.le_refl _, fun _ _ _ => rfl⟩⟩)
          go_wp2_with fail
          go_loopw [8] (fun i wi => ∃ (rd : Nat) (ns' : List Nd), rd ≤ 2 ∧ i = .int .i64 (rd : Int) ∧ OwN L (L + 1) wi (.slice (some ⟨g, 0, none⟩) q cc) ns' ∧ ns'.Perm ns ∧ Srt rd ns' ∧ wo.grownBy wi (some g)) (fun i _ => 2 - (intOf i).toNat)
          case atStart => exact ⟨0, ns, by omega, rfl, HR0.out⟩
          case round =>
            clear HR0
            obtain ⟨rd, ns', hrd, rfl, ho, hperm, hsrt, hgb⟩ := hrel
            by_cases hrd2 : rd < 2
            · have prd : (rd : Int) < 2 := by omega
              have hnl' : ns'.length = q := by rw [hperm.length_eq]; exact HNL.out
              have HR0 := Lib.hid (show OwN L (L + 1) wr (.slice (some ⟨g, 0, none⟩) q cc) ns' ∧ ns'.Perm ns ∧ Srt rd ns' ∧ Low1 (q - 1) ns' ∧ wo.grownBy wr (some g) from ⟨ho, hperm, hsrt, (fun j hj hjl => by
                obtain rfl : j = q - 1 := by omega
                exact Int.le_refl _), hgb⟩)
              have wq : IntKind.i64.wrap ((q : Int) - 1) = ((q - 1 : Nat) : Int) := by rw [IntWalk.i64_in _ (by omega)]; omega
              have pq1 : ((q : Int) - 1) = ((q - 1 : Nat) : Int) := by omega
              clear ho hperm hsrt hgb hnl'
              go_wp2_with fail
              go_loopw [9] (fun i wi => ∃ (p : Nat) (ns' : List Nd), rd ≤ p ∧ p < q ∧ i = .int .i64 (p : Int) ∧ OwN L (L + 1) wi (.slice (some ⟨g, 0, none⟩) q cc) ns' ∧ ns'.Perm ns ∧ Srt rd ns' ∧ Low1 p ns' ∧ wo.grownBy wi (some g)) (fun i _ => (intOf i).toNat)
              case atStart => exact ⟨q - 1, ns', by omega, by omega, by first | rfl | rw [pq1], HR0.out⟩
              case round =>
                clear HR0
                obtain ⟨p, ns', hrp, hpq, rfl, ho, hperm, hsrt, hlow, hgb⟩ := hrel
                have hnl' : ns'.length = q := by rw [hperm.length_eq]; exact HNL.out
                by_cases hpr : rd < p
                · have ppr : (rd : Int) < (p : Int) := by omega
                  obtain ⟨p0, hp0⟩ : ∃ p0, p - 1 = p0 := ⟨_, rfl⟩
                  have wp0 : IntKind.i64.wrap ((p : Int) - 1) = (p0 : Int) := by rw [IntWalk.i64_in _ (by omega)]; omega
                  have pm0 : (p : Int) - 1 = (p0 : Int) := by omega
                  have pp1 : (p : Int) < (q : Int) := by omega
                  have pp0 : (p0 : Int) < (q : Int) := by omega
                  obtain ⟨A1, m1, d1, x1, x2, x3, s1, o1⟩ := ho.cells (j := p) (by omega)
                  obtain ⟨A2, m2, d2, y1, y2, y3, s2, o2⟩ := ho.cells (j := p0) (by omega)
                  have hndo : NdOk ns' := by
                    obtain ⟨bs, _, _, h3⟩ := HC.out.2.2.1
                    exact h3.perm hperm
                  have hkey := less_kN (a := ns'.getD p nd0) (b := ns'.getD p0 nd0) (hndo.rng (by omega)) (hndo.rng (by omega))
                  have hsw := bub_swap (rd := rd) (i := p) hpr (by omega) hsrt hlow
                  have hkp := bub_keep (rd := rd) (i := p) hpr (by omega) hlow
                  have hpm := swp_perm (ns := ns') (i := p) (by omega) (by omega)
                  rw [hp0] at hsw hkp
                  have hswp : swp ns' p = (ns'.set p (ns'.getD p0 nd0)).set p0 (ns'.getD p nd0) := by unfold swp; rw [hp0]
                  rw [hswp] at hsw hpm
                  obtain ⟨a, ha⟩ : ∃ a, ns'.getD p nd0 = a := ⟨_, rfl⟩
                  obtain ⟨b, hb⟩ : ∃ b, ns'.getD p0 nd0 = b := ⟨_, rfl⟩
                  rw [ha] at x1 x2 s1 hkey hsw hkp hpm
                  rw [hb] at y1 y2 s2 hkey hsw hkp hpm
                  obtain ⟨wa, la, na⟩ := a
                  obtain ⟨wb, lb, nb⟩ := b
                  simp only at x1 x2 s1 y1 y2 s2 hkey
                  have HLO := Lib.hid (And.intro ho (And.intro hperm (And.intro hsrt (And.intro hlow hgb))))
                  have HSW := Lib.hid hsw
                  have HKP := Lib.hid hkp
                  have HPM := Lib.hid hpm
                  have HS := Lib.hid (And.intro s1 (And.intro o1 (And.intro s2 o2)))
                  have HSWP := Lib.hid hswp
                  clear ho hperm hsrt hlow hgb hsw hkp hpm s1 o1 s2 o2 hndo ha hb hswp hnl'
                  by_cases hw1 : wa < wb
                  · have g1 : decide (wa < wb) = true := by simpa using hw1
                    have HK := Lib.hid (hkey.1 (Or.inl hw1))
                    clear hkey
                    go_upto_region 14 with fail
                    go_quiet (fail)
                    go_upto_region 15 with fail
                    refine wp_world (fun W9 => Ext wr W9) (below_drewN (Ext.refl _) _) ?_
                    intro W9 hx9
                    have x1 := Ext.cell hx9 x1
                    have x2 := Ext.cell hx9 x2
                    have x3 := Ext.cell hx9 x3
                    have y1 := Ext.cell hx9 y1
                    have y2 := Ext.cell hx9 y2
                    have y3 := Ext.cell hx9 y3
                    have HO9 := Lib.hid (HLO.out.1.below hx9)
                    have HX9 := Lib.hid hx9
                    have fr := HO9.out.free
                    clear hx9
                    go_big_region
                    have P1 := OwN.put (i := p) (x := (wb, lb, nb)) HO9.out (HS.out.2.2.1.below HX9.out) HS.out.2.2.2
                    have P2 := OwN.put (i := p0) (x := (wa, la, na)) P1.1 (P1.2.1 _ _ (HS.out.1.below HX9.out)) HS.out.2.1
                    have HP := Lib.hid (show OwN L (L + 1) (put3 (put3 W9 g p wb lb (.slice A2 m2 d2)) g p0 wa la (.slice A1 m1 d1)).drew (.slice (some ⟨g, 0, none⟩) q cc) ((ns'.set p (wb, lb, nb)).set p0 (wa, la, na)) ∧ wo.grownBy (put3 (put3 W9 g p wb lb (.slice A2 m2 d2)) g p0 wa la (.slice A1 m1 d1)).drew (some g) from ⟨P2.1.below (below_drewN (Ext.refl _) _), gb_ext ((gb_ext HLO.out.2.2.2.2 HX9.out).trans (P1.2.2.trans P2.2.2)) (below_drewN (Ext.refl _) _)⟩)
                    clear P1 P2 x1 x2 x3 y1 y2 y3 fr
                    go_wp2
                    go_roundw
                    case rel => exact ⟨p0, _, by omega, by omega, by go_num, HP.out.1, HPM.out.trans HLO.out.2.1, (HSW.out HK.out).1, (HSW.out HK.out).2, HP.out.2⟩
                    case measure => simp [intOf]; omega
                  · have g1 : decide (wa < wb) = false := decide_eq_false hw1
                    by_cases hw2 : wa = wb
                    · have g2 : (wa == wb) = true := by simpa using hw2
                      by_cases hw3 : la < lb
                      · have g3 : decide (la < lb) = true := by simpa using hw3
                        have HK := Lib.hid (hkey.1 (Or.inr ⟨hw2, hw3⟩))
                        clear hkey
                        subst hw2
                        go_upto_region 14 with fail
                        go_quiet (fail)
                        go_upto_region 15 with fail
                        refine wp_world (fun W9 => Ext wr W9) (below_drewN (Ext.refl _) _) ?_
                        intro W9 hx9
                        have x1 := Ext.cell hx9 x1
                        have x2 := Ext.cell hx9 x2
                        have x3 := Ext.cell hx9 x3
                        have y1 := Ext.cell hx9 y1
                        have y2 := Ext.cell hx9 y2
                        have y3 := Ext.cell hx9 y3
                        have HO9 := Lib.hid (HLO.out.1.below hx9)
                        have HX9 := Lib.hid hx9
                        have fr := HO9.out.free
                        clear hx9
                        go_big_region
                        have P1 := OwN.put (i := p) (x := (wa, lb, nb)) HO9.out (HS.out.2.2.1.below HX9.out) HS.out.2.2.2
                        have P2 := OwN.put (i := p0) (x := (wa, la, na)) P1.1 (P1.2.1 _ _ (HS.out.1.below HX9.out)) HS.out.2.1
                        have HP := Lib.hid (show OwN L (L + 1) (put3 (put3 W9 g p wa lb (.slice A2 m2 d2)) g p0 wa la (.slice A1 m1 d1)).drew (.slice (some ⟨g, 0, none⟩) q cc) ((ns'.set p (wa, lb, nb)).set p0 (wa, la, na)) ∧ wo.grownBy (put3 (put3 W9 g p wa lb (.slice A2 m2 d2)) g p0 wa la (.slice A1 m1 d1)).drew (some g) from ⟨P2.1.below (below_drewN (Ext.refl _) _), gb_ext ((gb_ext HLO.out.2.2.2.2 HX9.out).trans (P1.2.2.trans P2.2.2)) (below_drewN (Ext.refl _) _)⟩)
                        clear P1 P2 x1 x2 x3 y1 y2 y3 fr
                        go_wp2
                        go_roundw
                        case rel => exact ⟨p0, _, by omega, by omega, by go_num, HP.out.1, HPM.out.trans HLO.out.2.1, (HSW.out HK.out).1, (HSW.out HK.out).2, HP.out.2⟩
                        case measure => simp [intOf]; omega
                      · have g3 : decide (la < lb) = false := decide_eq_false hw3
                        have HK := Lib.hid (show ¬ kN (wa, la, na) < kN (wb, lb, nb) from fun h => by rcases hkey.2 h with h | h <;> omega)
                        clear hkey
                        subst hw2
                        go_upto_region 14 with fail
                        go_quiet (fail)
                        go_wp2
                        go_roundw
                        case rel => exact ⟨p0, _, by omega, by omega, by go_num, (HLO.out.1.below (below_drewN (Ext.refl _) _)), HLO.out.2.1, HLO.out.2.2.1, HKP.out (Int.not_lt.1 HK.out), gb_ext HLO.out.2.2.2.2 (below_drewN (Ext.refl _) _)⟩
                        case measure => simp [intOf]; omega
                    · have g2 : (wa == wb) = false := by simpa using hw2
                      have HK := Lib.hid (show ¬ kN (wa, la, na) < kN (wb, lb, nb) from fun h => by rcases hkey.2 h with h | h <;> omega)
                      clear hkey
                      go_upto_region 14 with fail
                      go_quiet (fail)
                      go_wp2
                      go_roundw
                      case rel => exact ⟨p0, _, by omega, by omega, by go_num, (HLO.out.1.below (below_drewN (Ext.refl _) _)), HLO.out.2.1, HLO.out.2.2.1, HKP.out (Int.not_lt.1 HK.out), gb_ext HLO.out.2.2.2.2 (below_drewN (Ext.refl _) _)⟩
                      case measure => simp [intOf]; omega
                · obtain rfl : p = rd := by omega
                  have HR0 := Lib.hid (show OwN L (L + 1) wr (.slice (some ⟨g, 0, none⟩) q cc) ns' ∧ ns'.Perm ns ∧ Srt (p + 1) ns' ∧ wo.grownBy wr (some g) from ⟨ho, hperm, hsrt.succ hlow, hgb⟩)
                  clear ho hperm hsrt hlow hgb hnl'
                  go_wp2_with fail
                  go_roundw
                  case rel => exact ⟨p + 1, ns', by omega, by go_num, HR0.out⟩
                  case measure => simp [intOf]; omega
            · obtain rfl : rd = 2 := by omega
              obtain ⟨r, hr1, hr2, hr3, hr4⟩ := hsrt.two (by rw [hperm.length_eq, HNL.out]; omega)
              obtain ⟨a, ha⟩ : ∃ a, ns'.getD 0 nd0 = a := ⟨_, rfl⟩
              obtain ⟨b, hb⟩ : ∃ b, ns'.getD 1 nd0 = b := ⟨_, rfl⟩
              rw [ha] at hr3
              rw [hb] at hr3 hr4
              rw [ha, hb] at hr1
              clear hr2 ha hb hsrt
              subst hr1
              have hst := StR.step HC.out.2.2.1 hperm hr3 hr4
              obtain ⟨⟨bwa, bwb⟩, ⟨hab, habm⟩, hSb, hll, hlsb, hnok⟩ := HC.out.2.2.1.facts HW.out hperm
              have hrl : r.length + 2 = q := by have := hperm.length_eq; rw [HNL.out] at this; simpa using this
              have la0 := hnok.rng (j := 0) (by simp)
              have lb0 := hnok.rng (j := 1) (by simp)
              have nea := hnok.ne a (List.mem_cons_self ..)
              have hnne := hnok.ne
              obtain ⟨A1, m1, d1, x1, x2, x3, sl1, ob1⟩ := ho.cells (j := 0) (by simp)
              obtain ⟨A2, m2, d2, y1, y2, y3, sl2, ob2⟩ := ho.cells (j := 1) (by simp)
              obtain ⟨wa, la, na⟩ := a
              obtain ⟨wb, lb, nb⟩ := b
              simp only [List.getD_cons_zero, List.getD_cons_succ, Nat.zero_mul, Nat.one_mul, Nat.zero_add, Nat.reduceAdd] at x1 x2 x3 y1 y2 y3 sl1 sl2 la0 lb0 bwa bwb hab habm nea hst
              have il1 := SL.ilv sl1
              have il2 := SL.ilv sl2
              have b1 := il1.le
              have b1' := il1.cap
              have b1'' := il1.len
              have b2 := il2.le
              have b2' := il2.cap
              have b2'' := il2.len
              have habl := hab
              rw [List.length_append] at habl
              have bm1 : m1 ≤ 64 := by omega
              have bm2 : m2 ≤ 64 := by omega
              have HI1 := Lib.hid il1
              have HI2 := Lib.hid il2
              have t0 := HC.out.1.tag
              have hlbr : LB wr L ls := Blk.grown HC.out.2.1 hgb t0
              have hbr : Below L w wr := HC.out.2.2.2.1.grown hgb (Nat.le_trans (Nat.le_succ L) HC.out.2.2.2.2) (fun k e => Nat.le_trans (Nat.le_succ L) (HC.out.1.ge k e))
              have hszr : L + 1 ≤ wr.heap.size := Nat.le_trans HC.out.2.2.2.2 hgb.size
              have HOW := Lib.hid ho
              have HLB := Lib.hid (And.intro hlbr (And.intro hbr hszr))
              have HST := Lib.hid hst
              have HAB := Lib.hid (And.intro hab habm)
              have HLS := Lib.hid (And.intro hll hlsb)
              have HNE := Lib.hid hnne
              have HLB0 := Lib.hid (show la = la ∧ lb = lb ∧ 0 ≤ S from ⟨rfl, rfl, hSb.1⟩)
              have k1 := fun w' (hh : Ext wr w') => (show w'.cell? ⟨g, 2, none⟩ = some (.slice A1 m1 d1) from Ext.cell hh x3)
              have k2 := fun w' (hh : Ext wr w') => (show w'.cell? ⟨g, 5, none⟩ = some (.slice A2 m2 d2) from Ext.cell hh y3)
              have HCC := Lib.hid (And.intro (And.intro x1 x2) (And.intro y1 y2))
              have HNA := Lib.hid nea
              clear ho hperm hgb hr3 hr4 hst hab habm hll hlsb hnok hnne x1 x2 x3 y1 y2 y3 sl1 sl2 ob1 ob2 il1 il2 t0 hlbr hbr hszr nea b1'' b2''
              have hst0 : Ext wr wr.drew := Ext.drew _
              have q1 : 0 < q := by omega
              have p0q : (0 : Int) < (q : Int) := by omega
              go_upto_region 16 with fail
              refine wp_region_brn (S := Ext wr) (by kernel_rfl) (by kernel_rfl) (fun _ _ _ _ _ => ⟨fun h => h, fun h => h⟩) ?_
              intro hsel_ hQ_
              obtain ⟨wd, hwd⟩ : ∃ wd, wr.drew = wd := ⟨_, rfl⟩
              rw [hwd] at hst0 ⊢
              have hBd := Ext.size hst0
              refine wpB_chunk (f := 0) (L' := #[true, true, true, true, true, true, true, true, true, true, true, true]) hsel_ hQ_ [(1, true, some 106, none), (2, true, some 107, none), (3, true, some 108, none), (4, true, some 109, none), (6, true, some 111, none), (7, true, some 112, none), (8, true, some 113, none), (9, true, some 114, none), (0, false, some 105, none), (5, false, some 110, none), (10, false, some 115, none), (11, false, some 10, none)] _ _ _ (by kernel_rfl) hst0 ?_
              repeat (first | (refine wpSeqB_pure (v := ?_) rfl ?_ ?_; rotate_left 1; (focus (intro wq_ hSq_; (try dsimp only at hSq_); go_simp; (try with_reducible rfl); done)); (try simp only [Act.put, List.setIfInBounds_toArray, List.set_cons_zero, List.set_cons_succ])) | (refine wpSeqB_pureG (v := ?_) rfl rfl ?_ ?_; rotate_left 1; (focus (intro wq_ hSq_; (try dsimp only at hSq_); go_simp; (try with_reducible rfl); done)); (try simp only [Act.put, List.setIfInBounds_toArray, List.set_cons_zero, List.set_cons_succ])) | (refine wpSeqB_off rfl rfl ?_; (try simp only [Act.put, List.setIfInBounds_toArray, List.set_cons_zero, List.set_cons_succ])) | (refine wpSeqB_offU rfl ?_; (try simp only [Act.put, List.setIfInBounds_toArray, List.set_cons_zero, List.set_cons_succ])))
              first | refine wpSeqB_call rfl (fun K hK => ?_) | refine wpSeqB_callG rfl rfl (fun K hK => ?_)
              go_simp
              have s1 := bt hst0 (Ext.allocR wd (.cells #[] TIN))
              refine hK.out _ _ s1 ?_
              clear hK K
              (try simp only [List.getElem_toArray, List.getElem_cons_succ, List.getElem_cons_zero, Act.put, List.setIfInBounds_toArray, List.set_cons_zero, List.set_cons_succ])
              first | refine wpSeqB_call rfl (fun K hK => ?_) | refine wpSeqB_callG rfl rfl (fun K hK => ?_)
              refine wp_appI _ _ (by rfl) wr.heap.size (.slice (some ⟨wd.heap.size, 0, none⟩) 0 0) [] (by rfl) (OwI.lit0 hBd) A1 m1 d1 na (by rfl) (HI1.out.below s1) (by simp) (by omega) (Ext.size s1) ?_
              intro A7 n7 c7 w7 hO hB hG
              rw [List.nil_append] at hO
              have s7 : Ext wr w7 := Below.trans s1 hB
              refine hK.out _ _ s7 ?_
              clear hK K hG hB
              (try simp only [List.getElem_toArray, List.getElem_cons_succ, List.getElem_cons_zero, Act.put, List.setIfInBounds_toArray, List.set_cons_zero, List.set_cons_succ])
              first | refine wpSeqB_call rfl (fun K hK => ?_) | refine wpSeqB_callG rfl rfl (fun K hK => ?_)
              refine wp_appI _ _ (by rfl) wr.heap.size (.slice A7 n7 c7) na (by rfl) hO A2 m2 d2 nb (by rfl) (HI2.out.below s7) (by omega) (by omega) (Ext.size s7) ?_
              intro A9 n9 c9 w9 hO9 hB9 hG9
              have s9 : Ext wr w9 := Below.trans s7 hB9
              have HO9 := Lib.hid hO9
              clear hO hG9 hB9 s7 s1
              refine hK.out _ _ s9 ?_
              clear hK K
              (try simp only [List.getElem_toArray, List.getElem_cons_succ, List.getElem_cons_zero, Act.put, List.setIfInBounds_toArray, List.set_cons_zero, List.set_cons_succ])
              repeat (first | (refine wpSeqB_pure (v := ?_) rfl ?_ ?_; rotate_left 1; (focus (intro wq_ hSq_; (try dsimp only at hSq_); go_simp; (try with_reducible rfl); done)); (try simp only [Act.put, List.setIfInBounds_toArray, List.set_cons_zero, List.set_cons_succ])) | (refine wpSeqB_pureG (v := ?_) rfl rfl ?_ ?_; rotate_left 1; (focus (intro wq_ hSq_; (try dsimp only at hSq_); go_simp; (try with_reducible rfl); done)); (try simp only [Act.put, List.setIfInBounds_toArray, List.set_cons_zero, List.set_cons_succ])) | (refine wpSeqB_off rfl rfl ?_; (try simp only [Act.put, List.setIfInBounds_toArray, List.set_cons_zero, List.set_cons_succ])) | (refine wpSeqB_offU rfl ?_; (try simp only [Act.put, List.setIfInBounds_toArray, List.set_cons_zero, List.set_cons_succ])))
              first | refine wpSeqB_call rfl (fun K hK => ?_) | refine wpSeqB_callG rfl rfl (fun K hK => ?_)
              go_simp
              refine hK.out _ _ s9 ?_
              clear hK K
              (try simp only [List.getElem_toArray, List.getElem_cons_succ, List.getElem_cons_zero, Act.put, List.setIfInBounds_toArray, List.set_cons_zero, List.set_cons_succ])
              repeat (first | (refine wpSeqB_pure (v := ?_) rfl ?_ ?_; rotate_left 1; (focus (intro wq_ hSq_; (try dsimp only at hSq_); go_simp; (try with_reducible rfl); done)); (try simp only [Act.put, List.setIfInBounds_toArray, List.set_cons_zero, List.set_cons_succ])) | (refine wpSeqB_pureG (v := ?_) rfl rfl ?_ ?_; rotate_left 1; (focus (intro wq_ hSq_; (try dsimp only at hSq_); go_simp; (try with_reducible rfl); done)); (try simp only [Act.put, List.setIfInBounds_toArray, List.set_cons_zero, List.set_cons_succ])) | (refine wpSeqB_off rfl rfl ?_; (try simp only [Act.put, List.setIfInBounds_toArray, List.set_cons_zero, List.set_cons_succ])) | (refine wpSeqB_offU rfl ?_; (try simp only [Act.put, List.setIfInBounds_toArray, List.set_cons_zero, List.set_cons_succ])))
              intro s_
              refine wpB_end (by kernel_rfl) ?_
              have il9 := hO9.ilv
              have l9 := il9.le
              have l9' := il9.cap
              have HN9 := Lib.hid il9.len
              have h9 : n9 ≤ 64 := by rw [← HN9.out]; exact HAB.out.1
              have HL0 := Lib.hid (show LB w9 L (incL ls ((na ++ nb).take 0)) ∧ OwN L (L + 1) w9 (.slice (some ⟨g, 0, none⟩) q cc) ((wa, la, na) :: (wb, lb, nb) :: r) ∧ OwI wr.heap.size w9 (.slice A9 n9 c9) (na ++ nb) ∧ Below L w w9 ∧ wr.heap.size ≤ w9.heap.size from ⟨Blk.below HLB.out.1 s9, HOW.out.below s9, hO9, HLB.out.2.1.trans (Below.mono s9 (Nat.le_trans (Nat.le_succ L) HLB.out.2.2)), Ext.size s9⟩)
              have HX9 := Lib.hid s9
              obtain ⟨R0, hR0⟩ : ∃ R0, wr.heap.size = R0 := ⟨_, rfl⟩
              rw [hR0] at HL0
              have hLR : L < R0 := by rw [← hR0]; exact HLB.out.2.2
              have hwL : w.heap.size ≤ L := Nat.le_of_eq HLE.out
              clear s_ s9 hst0 k1 k2 hO9 il9 hBd hwd hR0
              go_wp2_with fail
              go_loopw [11] (fun i wl => ∃ p : Nat, p ≤ n9 ∧ i = .int .i64 (p : Int) ∧ LB wl L (incL ls ((na ++ nb).take p)) ∧ OwN L (L + 1) wl (.slice (some ⟨g, 0, none⟩) q cc) ((wa, la, na) :: (wb, lb, nb) :: r) ∧ OwI R0 wl (.slice A9 n9 c9) (na ++ nb) ∧ Below L w wl ∧ R0 ≤ wl.heap.size) (fun i _ => n9 - (intOf i).toNat)
              case atStart => exact ⟨0, Nat.zero_le _, rfl, HL0.out⟩
              case round =>
                clear HL0
                obtain ⟨p, hp9, rfl, hlb, how, hoi, hbw, hsw⟩ := hrel
                have HQ := Lib.hid (And.intro hlb (And.intro how (And.intro hoi (And.intro hbw hsw))))
                by_cases hpn : p < n9
                · have pp9 : (p : Int) < (n9 : Int) := by omega
                  obtain ⟨b5, o5, rfl, hc5⟩ := (hoi.ilv).at_ (by omega)
                  have ck := hc5 p hpn
                  have hql : p < (na ++ nb).length := by rw [HN9.out]; exact hpn
                  obtain ⟨X, hX⟩ : ∃ X : Nat, (na ++ nb).getD p 0 = (X : Int) ∧ X < n6 := by
                    have e : (na ++ nb).getD p 0 = (na ++ nb)[p] := by show ((na ++ nb)[p]?).getD 0 = _; rw [List.getElem?_eq_getElem hql]; rfl
                    have h := HAB.out.2 _ (List.getElem_mem hql)
                    rw [HL.out] at h
                    exact ⟨((na ++ nb).getD p 0).toNat, by omega, by omega⟩
                  rw [hX.1] at ck
                  have hXk := hX.2
                  have pX : (X : Int) < (n6 : Int) := by omega
                  have hlen0 : ls.length = n6 := by rw [HLS.out.1]; exact HL.out
                  have hll : (incL ls ((na ++ nb).take p)).length = n6 := by rw [incL_len, hlen0]
                  have cl := hlb.cell (j := X) (by omega)
                  have fl := Blk.free hlb X
                  have hbd := incL_bd ((na ++ nb).take p) ls (64 * 64) HLS.out.2 X
                  have htl : ((na ++ nb).take p).length ≤ 64 := by rw [List.length_take]; omega
                  obtain ⟨z, hz⟩ : ∃ z, (incL ls ((na ++ nb).take p)).getD X 0 = z := ⟨_, rfl⟩
                  have hsn : incL ls ((na ++ nb).take (p + 1)) = (incL ls ((na ++ nb).take p)).set X (z + 1) := by
                    have e : (na ++ nb).getD p 0 = (na ++ nb)[p] := by show ((na ++ nb)[p]?).getD 0 = _; rw [List.getElem?_eq_getElem hql]; rfl
                    rw [List.take_succ_eq_append_getElem hql, incL_snoc, ← e, hX.1, Int.toNat_natCast, hz]
                  rw [hz] at cl hbd
                  have wz1 : IntKind.i64.wrap (z + 1) = z + 1 := IntWalk.i64_in _ (by omega)
                  have HSN := Lib.hid hsn
                  clear hlb how hoi hbw hsw hc5 hX hz hsn hll hql hbd htl
                  go_wp2
                  go_roundw
                  case rel => exact ⟨p + 1, by omega, by go_num, by rw [HSN.out]; exact HQ.out.1.set_ X (z + 1), HQ.out.2.1.far (Nat.lt_succ_self _) HNE.out, HQ.out.2.2.1.far hLR _, Below.setCell HQ.out.2.2.2.1 (Nat.le_refl _) _, by simpa using HQ.out.2.2.2.2⟩
                  case measure => simp [intOf]; omega
                · obtain rfl : p = n9 := by omega
                  rw [List.take_of_length_le (by rw [HN9.out]; exact Nat.le_refl _)] at hlb
                  obtain ⟨Ax, mx, dx, x1, x2, x3, sx, ox⟩ := how.cells (j := 0) (by simp)
                  obtain ⟨Ay, my, dy, y1, y2, y3, sy, oy⟩ := how.cells (j := 1) (by simp)
                  simp only [List.getD_cons_zero, List.getD_cons_succ, Nat.zero_mul, Nat.one_mul, Nat.zero_add, Nat.reduceAdd] at x1 x2 y1 y2
                  have kc := fun w' (hh : Ext wr w') => (show (w'.cell? ⟨g, 0, none⟩ = some (.int .i64 wa) ∧ w'.cell? ⟨g, 1, none⟩ = some (.int .i64 la)) ∧ w'.cell? ⟨g, 3, none⟩ = some (.int .i64 wb) ∧ w'.cell? ⟨g, 4, none⟩ = some (.int .i64 lb) from ⟨⟨Ext.cell hh x1, Ext.cell hh x2⟩, Ext.cell hh y1, Ext.cell hh y2⟩)
                  have HQ2 := Lib.hid (And.intro hlb (And.intro how (And.intro hoi (And.intro hbw hsw))))
                  have wq2 : IntKind.i64.wrap (wa + wb) = wa + wb := IntWalk.i64_in _ (by omega)
                  have wS2 : IntKind.i64.wrap (S + (wa + wb)) = S + (wa + wb) := IntWalk.i64_in _ (by omega)
                  have hst2 : Ext wr wr.drew := Ext.drew _
                  have hLr : L < wr.heap.size := by omega
                  clear HQ hlb how hoi hbw hsw x1 x2 x3 sx ox y1 y2 y3 sy oy
                  go_upto_region 21 with fail
                  refine wp_region_adv 21 [⟨20, 12, TNR, #[.int .i64 0, .int .i64 0, .slice none 0 0]⟩] [(0, true, some 131, none), (1, true, some 132, none), (2, true, some 133, none), (3, true, some 134, none), (4, true, some 135, none), (5, true, some 136, none), (6, true, some 137, none), (7, true, some 138, none), (8, true, some 139, none), (9, true, some 140, none), (10, true, some 141, none), (11, true, some 142, none), (12, true, some 143, none), (13, true, some 144, none), (14, true, some 145, none), (15, true, some 146, none), (16, true, some 147, none), (17, true, some 148, none), (18, true, some 149, none), (19, true, some 150, none)] (by kernel_rfl) (by kernel_rfl) (by kernel_rfl) (by intro it hit; (repeat (rcases List.mem_cons.1 hit with rfl | hit; (focus (intro o ho ev w; injection ho with ho; subst ho; kernel_rfl)))); cases hit) (fun _ _ _ _ _ => ⟨fun h => h, fun h => h⟩) hst2 ?_
                  repeat (first | (refine wpSeq_pure (v := ?_) rfl ?_ ?_; rotate_left 1; (focus (intro wq_ hSq_; (try dsimp only at hSq_); go_simp; (try with_reducible rfl); done)); (try simp only [Act.put, List.setIfInBounds_toArray, List.set_cons_zero, List.set_cons_succ])) | (refine wpSeq_pureG (v := ?_) rfl rfl ?_ ?_; rotate_left 1; (focus (intro wq_ hSq_; (try dsimp only at hSq_); go_simp; (try with_reducible rfl); done)); (try simp only [Act.put, List.setIfInBounds_toArray, List.set_cons_zero, List.set_cons_succ])) | (refine wpSeq_off rfl rfl ?_; (try simp only [Act.put, List.setIfInBounds_toArray, List.set_cons_zero, List.set_cons_succ])))
                  intro wz gz sz_
                  (try simp only [endJ, List.drop_succ_cons, List.drop_zero])
                  intro R1 hr1 hu_ hB1
                  (try simp only [endJ, Act.put, ptr, List.setIfInBounds_toArray, List.set_cons_zero, List.set_cons_succ])
                  clear hu_
                  have kR := hB1.cells
                  have f0 := Blk.free hB1 0
                  have f1 := Blk.free hB1 1
                  have f2 := Blk.free hB1 2
                  simp only [cellsAre, Nat.zero_add, Nat.reduceAdd, and_true] at kR
                  clear hst2 kc gz
                  have HSZ := Lib.hid (And.intro sz_ hr1)
                  clear sz_
                  go_upto_region 22 with fail
                  have hb6 : Blk (((wz.setCell ⟨R1, 0, none⟩ (.int .i64 (wa + wb))).setCell ⟨R1, 1, none⟩ (.int .i64 (min la lb))).setCell ⟨R1, 2, none⟩ (.slice A9 p c9)) R1 TNR #[.int .i64 (wa + wb), .int .i64 (min la lb), .slice A9 p c9] := ((hB1.set_ 0 _).set_ 1 _).set_ 2 _
                  have hx6 : Ext wr (((wz.setCell ⟨R1, 0, none⟩ (.int .i64 (wa + wb))).setCell ⟨R1, 1, none⟩ (.int .i64 (min la lb))).setCell ⟨R1, 2, none⟩ (.slice A9 p c9)) := ((Below.setCell HSZ.out.1 HSZ.out.2 _).setCell HSZ.out.2 _).setCell HSZ.out.2 _
                  refine wp_world (fun W6 => Blk W6 R1 TNR #[.int .i64 (wa + wb), .int .i64 (min la lb), .slice A9 p c9] ∧ Ext wr W6) ⟨hb6, hx6⟩ ?_
                  clear hb6 hx6 kR f0 f1 f2 hB1 HSZ
                  rintro W6 ⟨hb6, hx6⟩
                  have k6 := hb6.cells
                  simp only [cellsAre, Nat.zero_add, Nat.reduceAdd, and_true] at k6
                  have k23 := fun w' (hx : Ext W6 w') => (hb6.below hx).cells
                  simp only [cellsAre, Nat.zero_add, Nat.reduceAdd, and_true] at k23
                  have HX6 := Lib.hid hx6
                  have hst3 : Ext W6 W6.drew := Ext.drew _
                  clear hb6 hx6 hr1
                  go_upto_region 23 with fail
                  clear k6
                  have pq2 : (2 : Int) ≤ (q : Int) := by omega
                  have pq2n : 2 ≤ q := by omega
                  by_cases hcap : cc = 2
                  · have hq22 : q = 2 := by omega
                    subst hcap
                    subst hq22
                    refine wp_region_adv 4 [] [(0, true, some 155, none), (2, true, some 157, none), (3, true, some 158, none), (1, false, some 156, none)] (by kernel_rfl) (by kernel_rfl) (by kernel_rfl) (by intro it hit; (repeat (rcases List.mem_cons.1 hit with rfl | hit; (focus (intro o ho ev w; injection ho with ho; subst ho; kernel_rfl)))); cases hit) (fun _ _ _ _ _ => ⟨fun h => h, fun h => h⟩) hst3 ?_
                    repeat (first | (refine wpSeq_pure (v := ?_) rfl ?_ ?_; rotate_left 1; (focus (intro wq_ hSq_; (try dsimp only at hSq_); go_simp; (try with_reducible rfl); done)); (try simp only [Act.put, List.setIfInBounds_toArray, List.set_cons_zero, List.set_cons_succ])) | (refine wpSeq_pureG (v := ?_) rfl rfl ?_ ?_; rotate_left 1; (focus (intro wq_ hSq_; (try dsimp only at hSq_); go_simp; (try with_reducible rfl); done)); (try simp only [Act.put, List.setIfInBounds_toArray, List.set_cons_zero, List.set_cons_succ])) | (refine wpSeq_off rfl rfl ?_; (try simp only [Act.put, List.setIfInBounds_toArray, List.set_cons_zero, List.set_cons_succ])))
                    first | refine wpSeq_call rfl (fun v1 g1 s1 K hK => ?_) | refine wpSeq_callG rfl rfl (fun v1 g1 s1 K hK => ?_)
                    go_simp
                    (try go_wp2_with fail)
                    refine hK.out _ _ (Ext.allocR _ _) ?_
                    clear hK K
                    (try simp only [Act.put, List.setIfInBounds_toArray, List.set_cons_zero, List.set_cons_succ])
                    repeat (first | (refine wpSeq_pure (v := ?_) rfl ?_ ?_; rotate_left 1; (focus (intro wq_ hSq_; (try dsimp only at hSq_); go_simp; (try with_reducible rfl); done)); (try simp only [Act.put, List.setIfInBounds_toArray, List.set_cons_zero, List.set_cons_succ])) | (refine wpSeq_pureG (v := ?_) rfl rfl ?_ ?_; rotate_left 1; (focus (intro wq_ hSq_; (try dsimp only at hSq_); go_simp; (try with_reducible rfl); done)); (try simp only [Act.put, List.setIfInBounds_toArray, List.set_cons_zero, List.set_cons_succ])) | (refine wpSeq_off rfl rfl ?_; (try simp only [Act.put, List.setIfInBounds_toArray, List.set_cons_zero, List.set_cons_succ])))
                    intro wz2 gz2 sz2
                    (try simp only [endJ, List.drop_succ_cons, List.drop_zero])
                    have hxz : Ext wr wz2 := bt HX6.out sz2
                    have hzs : R0 ≤ wz2.heap.size := Nat.le_trans HQ2.out.2.2.2.2 (Ext.size hxz)
                    have hLz : L + 1 ≤ wz2.heap.size := by omega
                    have hLv : L + 1 ≤ v1.heap.size := by
                      have h1 := HQ2.out.2.2.2.2
                      have h2 := Ext.size (bt HX6.out s1)
                      omega
                    have hrow : wz2.ownsRow (L + 1) TNR 3 (.slice (some ⟨v1.heap.size, 0, none⟩) 1 1) 1 (cel prN [(wa + wb, min la lb, .slice A9 p c9)]) := own_below (World.ownsRow_lit v1 #[.int .i64 (wa + wb), .int .i64 (min la lb), .slice A9 p c9] 1 hLv (by unfold maxLen; omega) rfl) gz2
                    have hoz := HQ2.out.2.2.1.below hxz
                    have hj1 : NdW L wz2 [(wa + wb, min la lb, .slice A9 p c9)] [joinN (wa, la, na) (wb, lb, nb)] := ⟨⟨rfl, rfl, hoz.sl, fun e => by
                      have := own_geE hoz L e
                      omega⟩, trivial⟩
                    obtain ⟨dr, hdr1, hdr2, hdr3⟩ := (HQ2.out.2.1.below hxz).rest
                    have hnews : ∀ j u, (cel prN dr)[j]? = some u → wz2.cell? ((⟨g, 0, none⟩ : Addr).add j) = some u := fun j u hj => by
                      rw [add_addr]
                      first
                        | exact hdr3 j u hj
                        | (have h0 : dr = [] := List.eq_nil_of_length_eq_zero (by omega)
                           subst h0
                           simp [cel] at hj)
                    have HR2 := Lib.hid (And.intro hrow (And.intro hj1 (And.intro hnews hdr2)))
                    have HLEN := Lib.hid hdr1
                    have HLBZ := Lib.hid (And.intro (Blk.below HQ2.out.1 hxz) (HQ2.out.2.2.2.1.trans (Below.mono hxz (Nat.le_of_lt hLr))))
                    have hlc : (cel prN dr).length = (2 - 2) * 3 := by rw [cel_len (k := 3) (fun x _ => rfl), hdr1]; congr 1; omega
                    clear hst3 k23 g1 s1 gz2 sz2 hxz hzs hLv hrow hoz hj1 hdr1 hdr2 hdr3 hnews
                    go_wp2_with (at_builtin; (refine wp_appE TNL TNR _ 3 40 nr_info Tryd.underlying111 rfl (by omega) (by omega) rfl _ _ rfl (L + 1) (.slice (some ⟨v1.heap.size, 0, none⟩) 1 1) 1 (cel prN [(wa + wb, min la lb, .slice A9 p c9)]) rfl HR2.out.1 ⟨g, 0, none⟩ (2 - 2) (2 - 2) (cel prN dr) rfl hlc HR2.out.2.2.1 (NdW.one_cell HR2.out.2.2.2) (by omega) (by omega) hLz ?_; intro v8 w8 hown8 hb8 hg8; have hn8 : OwN L (L + 1) w8 v8 (joinN (wa, la, na) (wb, lb, nb) :: r) := OwN.cat (d := [(wa + wb, min la lb, .slice A9 p c9)]) HR2.out.1 HR2.out.2.1 HR2.out.2.2.2 (by rw [HLEN.out]; omega) hown8 hg8; obtain ⟨g8, c8, hv8, hc8, hc8', _⟩ := hn8.form (by simp); rw [show (joinN (wa, la, na) (wb, lb, nb) :: r).length = 2 - 1 from (show r.length + 1 = 2 - 1 by omega)] at hv8 hc8; subst hv8; have HE := Lib.hid (show CsW ws w L w8 g8 (2 - 1) c8 (j + 1) (joinN (wa, la, na) (wb, lb, nb) :: r) (incL ls (na ++ nb)) (S + (wa + wb)) from ⟨hn8, Blk.grown HLBZ.out.1 hg8 (own_tag HR2.out.1 (by decide)), HST.out, HLBZ.out.2.trans (hb8.mono (Nat.le_succ L)), Nat.le_trans hLz hg8.size⟩); clear hn8 hown8 hb8 hg8))
                    go_roundw
                    case rel => exact ⟨j + 1, _, _, _, joinN (wa, la, na) (wb, lb, nb) :: r, _, _, rfl, rfl, (show r.length + 1 = 2 - 1 by omega), by omega, hc8, hc8', HE.out⟩
                    case measure => (simp [slN] <;> omega)
                  · have hcap2 : ¬ (cc - 2 = 0) := by omega
                    refine wp_region_adv 4 [] [(0, true, some 155, none), (2, true, some 157, none), (3, true, some 158, none), (1, false, some 156, none)] (by kernel_rfl) (by kernel_rfl) (by kernel_rfl) (by intro it hit; (repeat (rcases List.mem_cons.1 hit with rfl | hit; (focus (intro o ho ev w; injection ho with ho; subst ho; kernel_rfl)))); cases hit) (fun _ _ _ _ _ => ⟨fun h => h, fun h => h⟩) hst3 ?_
                    repeat (first | (refine wpSeq_pure (v := ?_) rfl ?_ ?_; rotate_left 1; (focus (intro wq_ hSq_; (try dsimp only at hSq_); go_simp; (try with_reducible rfl); done)); (try simp only [Act.put, List.setIfInBounds_toArray, List.set_cons_zero, List.set_cons_succ])) | (refine wpSeq_pureG (v := ?_) rfl rfl ?_ ?_; rotate_left 1; (focus (intro wq_ hSq_; (try dsimp only at hSq_); go_simp; (try with_reducible rfl); done)); (try simp only [Act.put, List.setIfInBounds_toArray, List.set_cons_zero, List.set_cons_succ])) | (refine wpSeq_off rfl rfl ?_; (try simp only [Act.put, List.setIfInBounds_toArray, List.set_cons_zero, List.set_cons_succ])))
                    first | refine wpSeq_call rfl (fun v1 g1 s1 K hK => ?_) | refine wpSeq_callG rfl rfl (fun v1 g1 s1 K hK => ?_)
                    go_simp
                    (try go_wp2_with fail)
                    refine hK.out _ _ (Ext.allocR _ _) ?_
                    clear hK K
                    (try simp only [Act.put, List.setIfInBounds_toArray, List.set_cons_zero, List.set_cons_succ])
                    repeat (first | (refine wpSeq_pure (v := ?_) rfl ?_ ?_; rotate_left 1; (focus (intro wq_ hSq_; (try dsimp only at hSq_); go_simp; (try with_reducible rfl); done)); (try simp only [Act.put, List.setIfInBounds_toArray, List.set_cons_zero, List.set_cons_succ])) | (refine wpSeq_pureG (v := ?_) rfl rfl ?_ ?_; rotate_left 1; (focus (intro wq_ hSq_; (try dsimp only at hSq_); go_simp; (try with_reducible rfl); done)); (try simp only [Act.put, List.setIfInBounds_toArray, List.set_cons_zero, List.set_cons_succ])) | (refine wpSeq_off rfl rfl ?_; (try simp only [Act.put, List.setIfInBounds_toArray, List.set_cons_zero, List.set_cons_succ])))
                    intro wz2 gz2 sz2
                    (try simp only [endJ, List.drop_succ_cons, List.drop_zero])
                    have hxz : Ext wr wz2 := bt HX6.out sz2
                    have hzs : R0 ≤ wz2.heap.size := Nat.le_trans HQ2.out.2.2.2.2 (Ext.size hxz)
                    have hLz : L + 1 ≤ wz2.heap.size := by omega
                    have hLv : L + 1 ≤ v1.heap.size := by
                      have h1 := HQ2.out.2.2.2.2
                      have h2 := Ext.size (bt HX6.out s1)
                      omega
                    have hrow : wz2.ownsRow (L + 1) TNR 3 (.slice (some ⟨v1.heap.size, 0, none⟩) 1 1) 1 (cel prN [(wa + wb, min la lb, .slice A9 p c9)]) := own_below (World.ownsRow_lit v1 #[.int .i64 (wa + wb), .int .i64 (min la lb), .slice A9 p c9] 1 hLv (by unfold maxLen; omega) rfl) gz2
                    have hoz := HQ2.out.2.2.1.below hxz
                    have hj1 : NdW L wz2 [(wa + wb, min la lb, .slice A9 p c9)] [joinN (wa, la, na) (wb, lb, nb)] := ⟨⟨rfl, rfl, hoz.sl, fun e => by
                      have := own_geE hoz L e
                      omega⟩, trivial⟩
                    obtain ⟨dr, hdr1, hdr2, hdr3⟩ := (HQ2.out.2.1.below hxz).rest
                    have hnews : ∀ j u, (cel prN dr)[j]? = some u → wz2.cell? ((⟨g, 6, none⟩ : Addr).add j) = some u := fun j u hj => by
                      rw [add_addr]
                      first
                        | exact hdr3 j u hj
                        | (have h0 : dr = [] := List.eq_nil_of_length_eq_zero (by omega)
                           subst h0
                           simp [cel] at hj)
                    have HR2 := Lib.hid (And.intro hrow (And.intro hj1 (And.intro hnews hdr2)))
                    have HLEN := Lib.hid hdr1
                    have HLBZ := Lib.hid (And.intro (Blk.below HQ2.out.1 hxz) (HQ2.out.2.2.2.1.trans (Below.mono hxz (Nat.le_of_lt hLr))))
                    have hlc : (cel prN dr).length = (q - 2) * 3 := by rw [cel_len (k := 3) (fun x _ => rfl), hdr1]; congr 1; omega
                    clear hst3 k23 g1 s1 gz2 sz2 hxz hzs hLv hrow hoz hj1 hdr1 hdr2 hdr3 hnews
                    go_wp2_with (at_builtin; (refine wp_appE TNL TNR _ 3 40 nr_info Tryd.underlying111 rfl (by omega) (by omega) rfl _ _ rfl (L + 1) (.slice (some ⟨v1.heap.size, 0, none⟩) 1 1) 1 (cel prN [(wa + wb, min la lb, .slice A9 p c9)]) rfl HR2.out.1 ⟨g, 6, none⟩ (q - 2) (cc - 2) (cel prN dr) rfl hlc HR2.out.2.2.1 (NdW.one_cell HR2.out.2.2.2) (by omega) (by omega) hLz ?_; intro v8 w8 hown8 hb8 hg8; have hn8 : OwN L (L + 1) w8 v8 (joinN (wa, la, na) (wb, lb, nb) :: r) := OwN.cat (d := [(wa + wb, min la lb, .slice A9 p c9)]) HR2.out.1 HR2.out.2.1 HR2.out.2.2.2 (by rw [HLEN.out]; omega) hown8 hg8; obtain ⟨g8, c8, hv8, hc8, hc8', _⟩ := hn8.form (by simp); rw [show (joinN (wa, la, na) (wb, lb, nb) :: r).length = q - 1 from (show r.length + 1 = q - 1 by omega)] at hv8 hc8; subst hv8; have HE := Lib.hid (show CsW ws w L w8 g8 (q - 1) c8 (j + 1) (joinN (wa, la, na) (wb, lb, nb) :: r) (incL ls (na ++ nb)) (S + (wa + wb)) from ⟨hn8, Blk.grown HLBZ.out.1 hg8 (own_tag HR2.out.1 (by decide)), HST.out, HLBZ.out.2.trans (hb8.mono (Nat.le_succ L)), Nat.le_trans hLz hg8.size⟩); clear hn8 hown8 hb8 hg8))
                    go_roundw
                    case rel => exact ⟨j + 1, _, _, _, joinN (wa, la, na) (wb, lb, nb) :: r, _, _, rfl, rfl, (show r.length + 1 = q - 1 by omega), by omega, hc8, hc8', HE.out⟩
                    case measure => (simp [slN] <;> omega)
        · have hq : q = 1 := by omega
          subst hq
          obtain ⟨bs, hr1, hr2, _⟩ := hcs.2.2.1
          have hb1 : bs.length = 1 := by
            have := hr2.length_eq
            rw [List.length_map, hnl] at this
            omega
          obtain ⟨b, rfl⟩ : ∃ b, bs = [b] := by
            match bs, hb1 with
            | [b], _ => exact ⟨b, rfl⟩
          obtain rfl : j = n6 - 1 := by omega
          have hok := HRk.ok HW.out hr1
          have hlk : ls.length = n6 := by rw [hok.ll]; exact HL.out
          have HE := Lib.hid (And.intro (hcs.2.1.il hlk (by omega)) (And.intro hr1 (show Below w.heap.size w wr by rw [HLE.out]; exact hcs.2.2.2.1)))
          clear hcs hr1 hr2 hok hnl
          go_wp2
          go_returns
          exact ⟨_, rfl, ⟨_, _, _, _, _, rfl, HE.out.1, HE.out.2.1⟩, HE.out.2.2⟩
end Go.Proofs.Tb
