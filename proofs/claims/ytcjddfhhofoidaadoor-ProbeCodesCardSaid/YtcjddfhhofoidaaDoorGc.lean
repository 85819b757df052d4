/- Plain law: classes of numbers with the same pattern, in the order in which they come. -/
import Derived.Test.YtcjddfhhofoidaaDoorRb
import Derived.Test.YtcjddfhhofoidaaDoorBsv
set_option linter.unusedVariables false
set_option linter.unusedSimpArgs false
namespace Go.Proofs.Tb
open Go.RowKit
attribute [local go_sem] cell_set_same

set_option maxHeartbeats 1600000 in
theorem znumbers_any (A : Option Addr) (n c : Nat) (ts : List Tt) (w : World) (h : Ts w A n c ts) (hs : n ≤ 1000000) :
    Calls Tryd.prog 53 #[.slice A n c] w (Ret (fun v w' => OwI w.heap.size w' v (upL n)) w) := by
  have hn := h.le
  have hc := h.cap
  clear h
  go_enter Tryd.func53, Tryd.ntmps53
  go_wp2_with fail
  have hb0 : Below w.heap.size w (w.alloc (.cells #[] TIN)) := by go_grown
  have hw0 := OwI.empty w
  go_loopw [3, 4] (fun v i wr => ∃ k : Nat, k ≤ n ∧ i = .int .i64 (k : Int) ∧ OwI w.heap.size wr v (upL k) ∧ Below w.heap.size w wr) (fun _ i _ => n - (intOf i).toNat)
  case atStart => exact ⟨0, by omega, rfl, hw0, hb0⟩
  case round =>
    clear hw0 hb0
    obtain ⟨k, hk, rfl, hown, hbw⟩ := hrel
    have HO := Lib.hid hown
    have HBW := Lib.hid hbw
    clear hown hbw
    have hll := upL_len k
    by_cases hkn : k < n
    · have g1 : decide ((k : Int) < (n : Int)) = true := by simp; omega
      have hz : w.heap.size ≤ wr.heap.size := HBW.out.size
      go_wp2_with (at_builtin; refine wp_appE TIS TIN _ 1 8 int_info Tryd.underlying37 rfl (by omega) (by omega) rfl _ _ rfl w.heap.size _ _ _ rfl (HO.out.alloc _) ⟨wr.heap.size, 0, none⟩ 1 1 [.int .i64 (k : Int)] rfl rfl (cell_new wr [.int .i64 (k : Int)] TIN) (int_one _) (by omega) (by omega) (by simp; omega) ?_; intro v3 w3 hown3 hb3 _)
      have HN : OwI w.heap.size w3 v3 (upL (k + 1)) := by rw [upL_succ]; exact OwI.snoc hown3
      have HN2 := HBW.out.trans (((Below.refl w.heap.size wr).alloc hz _).trans hb3)
      clear hown3 hb3 HO HBW hll
      go_roundw
      case rel => exact ⟨k + 1, by omega, by go_num, HN, HN2⟩
      case measure => simp [intOf]; omega
    · have hkn2 : k = n := by omega
      subst hkn2
      have g1 : decide ((k : Int) < (k : Int)) = false := by simp
      go_wp2
      go_returns
      exact ⟨_, rfl, HO.out, HBW.out⟩
/-- Does the k-th of some tests tell two faults apart? -/
def tdk (ts : List Tt) (ks : List Int) (a b : Int) (k : Nat) : Bool := shB (tS ts (ks.getD k 0).toNat) a != shB (tS ts (ks.getD k 0).toNat) b
def tdB (ts : List Tt) (ks : List Int) (a b : Int) : Bool := (List.range ks.length).any (tdk ts ks a b)
theorem tdB_t {ts : List Tt} {ks : List Int} {a b : Int} {k : Nat} (hk : k < ks.length) (h : tdk ts ks a b k = true) : tdB ts ks a b = true := by
  unfold tdB
  rw [List.any_eq_true]
  exact ⟨k, List.mem_range.2 hk, h⟩
theorem tdB_f {ts : List Tt} {ks : List Int} {a b : Int} (h : ∀ k, k < ks.length → tdk ts ks a b k = false) : tdB ts ks a b = false := by
  unfold tdB
  rw [List.any_eq_false]
  intro k hk
  rw [h k (List.mem_range.1 hk)]
  exact Bool.false_ne_true
set_option maxHeartbeats 3200000 in
set_option maxRecDepth 100000 in
theorem ztold_any (A A' : Option Addr) (n c m d : Nat) (ts : List Tt) (ks : List Int) (a b : Int) (w : World) (h : Ts w A n c ts) (h' : Il w A' m d ks) (hk : ∀ j, j < m → 0 ≤ ks.getD j 0 ∧ ks.getD j 0 < (n : Int)) :
    Calls Tryd.prog 54 #[.slice A n c, .slice A' m d, .int .i64 a, .int .i64 b] w (Ret (fun v _ => v = .bool (tdB ts ks a b)) w) := by
  have hn := h.le
  have hc := h.cap
  have hm := h'.le
  have hd := h'.cap
  have HL := Lib.hid h.len
  have HL' := Lib.hid h'.len
  have H := Lib.hid h
  have H' := Lib.hid h'
  have HK := Lib.hid hk
  clear h h' hk
  go_enter Tryd.func54, Tryd.ntmps54
  go_wp2_with fail
  go_loopw [9] (fun i wr => ∃ k : Nat, k ≤ m ∧ i = .int .i64 (k : Int) ∧ (∀ j, j < k → tdk ts ks a b j = false) ∧ Below w.heap.size w wr) (fun i _ => m - (intOf i).toNat)
  case atStart => exact ⟨0, by omega, rfl, fun j hj => absurd hj (by omega), Below.refl _ _⟩
  case round =>
    obtain ⟨k, hk, rfl, hr, hbw⟩ := hrel
    have HBW := Lib.hid hbw
    have HR := Lib.hid hr
    clear hr
    by_cases hkm : k < m
    · have pk : (k : Int) < (m : Int) := by omega
      obtain ⟨bS, oS, rfl, hcs⟩ := (H'.out.below hbw).at_ (by omega)
      have ck := hcs k hkm
      have hq := HK.out k hkm
      obtain ⟨q, hqe⟩ : ∃ q : Nat, ks.getD k 0 = (q : Int) := ⟨(ks.getD k 0).toNat, by omega⟩
      have HQ := Lib.hid (show (ks.getD k 0).toNat = q by omega)
      rw [hqe] at ck hq
      have hqn : q < n := by omega
      have pq : (q : Int) < (n : Int) := by omega
      obtain ⟨bT, oT, rfl, hcell⟩ := (H.out.below hbw).at_ (by omega)
      obtain ⟨ck1, A5, n5, c5, ck2, il5⟩ := hcell q hqn
      obtain ⟨x, hx⟩ : ∃ x, tC ts q = x := ⟨_, rfl⟩
      rw [hx] at ck1
      have IL5 := Lib.hid il5
      have kS := fun w' (hh : Ext wr w') => (show w'.cell? ⟨bS, oS + k, none⟩ = some (.int .i64 (q : Int)) from Ext.cell hh ck)
      have kT1 := fun w' (hh : Ext wr w') => (show w'.cell? ⟨bT, oT + q * 2, none⟩ = some (.int .i64 x) from Ext.cell hh ck1)
      have kT2 := fun w' (hh : Ext wr w') => (show w'.cell? ⟨bT, oT + q * 2 + 1, none⟩ = some (.slice A5 n5 c5) from Ext.cell hh ck2)
      have hst : Ext wr wr.drew := Ext.drew _
      clear hcs hcell hx il5 ck ck1 ck2 hq hqe hbw
      go_upto_region 4 with fail
      refine wp_region_adv 17 [] [(0, true, some 16, none), (1, true, some 17, none), (2, true, some 18, none), (3, true, some 19, none), (4, true, some 20, none), (5, true, some 21, none), (6, true, some 22, none), (7, true, some 23, none), (9, true, some 25, none), (10, true, some 26, none), (11, true, some 27, none), (12, true, some 28, none), (13, true, some 29, none), (14, true, some 30, none), (15, true, some 31, none), (16, true, some 32, none), (8, false, some 24, none)] (by kernel_rfl) (by kernel_rfl) (by kernel_rfl) (by intro it hit; (repeat (rcases List.mem_cons.1 hit with rfl | hit; (focus (intro o ho ev w; injection ho with ho; subst ho; kernel_rfl)))); cases hit) (fun _ _ _ _ _ => ⟨fun h => h, fun h => h⟩) hst ?_
      repeat (first | (refine wpSeq_pure (v := ?_) rfl ?_ ?_; rotate_left 1; (focus (intro wq_ hSq_; (try dsimp only at hSq_); go_simp; (try with_reducible rfl); done)); (try simp only [Act.put, List.setIfInBounds_toArray, List.set_cons_zero, List.set_cons_succ])) | (refine wpSeq_pureG (v := ?_) rfl rfl ?_ ?_; rotate_left 1; (focus (intro wq_ hSq_; (try dsimp only at hSq_); go_simp; (try with_reducible rfl); done)); (try simp only [Act.put, List.setIfInBounds_toArray, List.set_cons_zero, List.set_cons_succ])) | (refine wpSeq_off rfl rfl ?_; (try simp only [Act.put, List.setIfInBounds_toArray, List.set_cons_zero, List.set_cons_succ])))
      first | refine wpSeq_call rfl (fun u1 g1 s1 K hK => ?_) | refine wpSeq_callG rfl rfl (fun u1 g1 s1 K hK => ?_)
      go_simp
      refine (zshows_any A5 n5 c5 (tS ts q) x a u1 (IL5.out.below s1)).mono ?_
      rintro e y1 ⟨z1, rfl, rfl, b1⟩
      (try go_wp2_with fail)
      refine hK.out _ _ b1 ?_
      clear hK K
      (try simp only [Act.put, List.setIfInBounds_toArray, List.set_cons_zero, List.set_cons_succ])
      repeat (first | (refine wpSeq_pure (v := ?_) rfl ?_ ?_; rotate_left 1; (focus (intro wq_ hSq_; (try dsimp only at hSq_); go_simp; (try with_reducible rfl); done)); (try simp only [Act.put, List.setIfInBounds_toArray, List.set_cons_zero, List.set_cons_succ])) | (refine wpSeq_pureG (v := ?_) rfl rfl ?_ ?_; rotate_left 1; (focus (intro wq_ hSq_; (try dsimp only at hSq_); go_simp; (try with_reducible rfl); done)); (try simp only [Act.put, List.setIfInBounds_toArray, List.set_cons_zero, List.set_cons_succ])) | (refine wpSeq_off rfl rfl ?_; (try simp only [Act.put, List.setIfInBounds_toArray, List.set_cons_zero, List.set_cons_succ])))
      intro wz gz sz_
      (try simp only [endJ, List.drop_succ_cons, List.drop_zero])
      go_wp2_with fail
      refine (zshows_any A5 n5 c5 (tS ts q) x b wz (IL5.out.below sz_)).mono ?_
      rintro e y2 ⟨z2, rfl, rfl, b2⟩
      have HZ := Lib.hid (bt HBW.out (bt sz_ b2))
      have HTK : Hid (tdk ts ks a b k = (shB (tS ts q) a != shB (tS ts q) b)) := show tdk ts ks a b k = _ by unfold tdk; rw [HQ.out]
      obtain ⟨sa, hsa⟩ : ∃ sa, shB (tS ts q) a = sa := ⟨_, rfl⟩
      obtain ⟨sb, hsb⟩ : ∃ sb, shB (tS ts q) b = sb := ⟨_, rfl⟩
      rw [hsa, hsb] at HTK ⊢
      clear hst g1 s1 b1 b2 gz sz_ kS kT1 kT2 hsa hsb
      cases sa
      · cases sb
        · have HN := Lib.hid (show ∀ j, j < k + 1 → tdk ts ks a b j = false from fun j hj => by
            rcases Nat.lt_or_eq_of_le (Nat.le_of_lt_succ hj) with h | rfl
            · exact HR.out j h
            · exact HTK.out)
          clear HR
          go_wp2
          go_roundw
          case rel => exact ⟨k + 1, by omega, by go_num, HN.out, HZ.out⟩
          case measure => simp [intOf]; omega
        · have HT := Lib.hid (tdB_t (ts := ts) (ks := ks) (a := a) (b := b) (by rw [HL'.out]; exact hkm) HTK.out)
          go_wp2
          go_returns
          exact ⟨_, rfl, by rw [HT.out]; rfl, HZ.out⟩
      · cases sb
        · have HT := Lib.hid (tdB_t (ts := ts) (ks := ks) (a := a) (b := b) (by rw [HL'.out]; exact hkm) HTK.out)
          go_wp2
          go_returns
          exact ⟨_, rfl, by rw [HT.out]; rfl, HZ.out⟩
        · have HN := Lib.hid (show ∀ j, j < k + 1 → tdk ts ks a b j = false from fun j hj => by
            rcases Nat.lt_or_eq_of_le (Nat.le_of_lt_succ hj) with h | rfl
            · exact HR.out j h
            · exact HTK.out)
          clear HR
          go_wp2
          go_roundw
          case rel => exact ⟨k + 1, by omega, by go_num, HN.out, HZ.out⟩
          case measure => simp [intOf]; omega
    · obtain rfl : k = m := by omega
      have HF := Lib.hid (tdB_f (ts := ts) (ks := ks) (a := a) (b := b) (fun j hj => HR.out j (by rw [← HL'.out]; exact hj)))
      clear HR hbw
      go_wp2
      go_returns
      exact ⟨_, rfl, by rw [HF.out]; rfl, HBW.out⟩
theorem upL_mem' {n : Nat} {x : Int} : x ∈ upL n ↔ 0 ≤ x ∧ x < (n : Int) := by
  unfold upL
  rw [List.mem_map]
  constructor
  · rintro ⟨i, hi, rfl⟩
    have := List.mem_range.1 hi
    omega
  · rintro ⟨h1, h2⟩
    exact ⟨x.toNat, List.mem_range.2 (by omega), by omega⟩
theorem mem_set' {α : Type} {l : List α} {a : Nat} {x : α} (ha : a < l.length) : x ∈ l.set a x := by
  rw [List.mem_iff_getElem]
  exact ⟨a, by rw [List.length_set]; exact ha, by rw [List.getElem_set, if_pos rfl]⟩
/-- What the tests say of a fault. -/
def pat (ts : List Tt) (a : Int) : List Bool := ts.map fun t => shB t.2 a
theorem tdB_pat (ts : List Tt) (a b : Int) : tdB ts (upL ts.length) a b = decide (pat ts a ≠ pat ts b) := by
  have hg : ∀ k, k < ts.length → (upL ts.length).getD k 0 = (k : Int) := fun k hk => by simp [upL, List.getD, hk]
  by_cases h : pat ts a = pat ts b
  · have h1 : ∀ k, k < (upL ts.length).length → tdk ts (upL ts.length) a b k = false := fun k hk => by
      rw [upL_len] at hk
      unfold tdk
      rw [hg k hk, Int.toNat_natCast]
      have h2 := congrArg (fun l => l[k]?) h
      simp only [pat, List.getElem?_map, List.getElem?_eq_getElem hk, Option.map_some, Option.some.injEq] at h2
      have e : tS ts k = ts[k].2 := by simp [tS, List.getD, hk]
      rw [e, h2]
      simp
    rw [tdB_f h1]
    simp [h]
  · have h1 : ∃ k, k < ts.length ∧ shB (tS ts k) a ≠ shB (tS ts k) b := by
      refine Classical.byContradiction fun hn => h ?_
      refine List.ext_getElem (by simp [pat]) fun k h1 h2 => ?_
      have hk : k < ts.length := by simpa [pat] using h1
      have h3 : shB (tS ts k) a = shB (tS ts k) b := Classical.byContradiction fun h4 => hn ⟨k, hk, h4⟩
      have e : tS ts k = ts[k].2 := by simp [tS, List.getD, hk]
      rw [e] at h3
      simpa [pat] using h3
    obtain ⟨k, hk, hne⟩ := h1
    rw [tdB_t (k := k) (by rw [upL_len]; exact hk) (by
      unfold tdk
      rw [hg k hk, Int.toNat_natCast]
      simpa using hne)]
    simp [h]
/-- The class of i among the first k classes: the last whose first number is not told from i; -1: none. -/
def atK (td : Int → Int → Bool) (out : List (List Int)) (i : Int) : Nat → Int
  | 0 => -1
  | k + 1 => if td ((out.getD k []).getD 0 0) i then atK td out i k else (k : Int)
/-- One more number. -/
def stepC (td : Int → Int → Bool) (out : List (List Int)) (i : Int) : List (List Int) :=
  if atK td out i out.length < 0 then out ++ [[i]] else out.set (atK td out i out.length).toNat (out.getD (atK td out i out.length).toNat [] ++ [i])
def apC (td : Int → Int → Bool) : Nat → List (List Int)
  | 0 => []
  | k + 1 => stepC td (apC td k) (k : Int)
theorem atK_bd (td : Int → Int → Bool) (out : List (List Int)) (i : Int) : ∀ k, -1 ≤ atK td out i k ∧ atK td out i k < (k : Int) := by
  intro k
  induction k with
  | zero => simp [atK]
  | succ k ih => unfold atK; split <;> omega
/-- The classes are as they should be: k numbers, the pattern p. -/
structure ClsR {α : Type} [DecidableEq α] (p : Int → α) (k : Nat) (out : List (List Int)) : Prop where
  cls : ∀ c ∈ out, ∃ i, i ∈ upL k ∧ c = (upL k).filter fun x => p x = p i
  dist : out.Pairwise fun c d => ∀ x ∈ c, ∀ y ∈ d, p x ≠ p y
  cov : ∀ i ∈ upL k, ∃ c ∈ out, i ∈ c
section
variable {α : Type} [DecidableEq α] {p : Int → α} {td : Int → Int → Bool}
theorem ClsR.ne {k : Nat} {out : List (List Int)} (h : ClsR p k out) {c : List Int} (hc : c ∈ out) : c ≠ [] := by
  obtain ⟨i, hi, rfl⟩ := h.cls c hc
  intro e
  have : i ∈ (upL k).filter fun x => p x = p i := List.mem_filter.2 ⟨hi, by simp⟩
  rw [e] at this; cases this
theorem ClsR.head {k : Nat} {out : List (List Int)} (h : ClsR p k out) {c : List Int} (hc : c ∈ out) : c.getD 0 0 ∈ c := by
  have := h.ne hc
  cases c with
  | nil => exact absurd rfl this
  | cons x t => exact List.mem_cons_self ..
theorem ClsR.mem {k : Nat} {out : List (List Int)} (h : ClsR p k out) {c : List Int} (hc : c ∈ out) {i j : Int} (hi : i ∈ c) : j ∈ c ↔ j ∈ upL k ∧ p j = p i := by
  obtain ⟨x, hx, rfl⟩ := h.cls c hc
  rw [List.mem_filter] at hi ⊢
  simp only [decide_eq_true_eq] at hi ⊢
  rw [hi.2]
theorem ClsR.eq {k : Nat} {out : List (List Int)} (h : ClsR p k out) {c : List Int} (hc : c ∈ out) {i : Int} (hi : i ∈ c) : c = (upL k).filter fun x => p x = p i := by
  obtain ⟨x, hx, rfl⟩ := h.cls c hc
  rw [List.mem_filter] at hi
  simp only [decide_eq_true_eq] at hi
  rw [hi.2]
theorem ClsR.rng {k : Nat} {out : List (List Int)} (h : ClsR p k out) {c : List Int} (hc : c ∈ out) {i : Int} (hi : i ∈ c) : 0 ≤ i ∧ i < (k : Int) := by
  obtain ⟨x, hx, rfl⟩ := h.cls c hc
  exact upL_mem'.1 (List.mem_filter.1 hi).1
theorem ClsR.clen {k : Nat} {out : List (List Int)} (h : ClsR p k out) {c : List Int} (hc : c ∈ out) : c.length ≤ k := by
  obtain ⟨x, hx, rfl⟩ := h.cls c hc
  exact Nat.le_trans (List.length_filter_le _ _) (Nat.le_of_eq (upL_len k))
theorem ClsR.inj {k : Nat} {out : List (List Int)} (h : ClsR p k out) {a b : Nat} (ha : a < out.length) (hb : b < out.length) {x y : Int} (hx : x ∈ out[a]) (hy : y ∈ out[b]) (e : p x = p y) : a = b := by
  have hd := List.pairwise_iff_getElem.1 h.dist
  rcases Nat.lt_trichotomy a b with h1 | h1 | h1
  · exact absurd e (hd a b ha hb h1 x hx y hy)
  · exact h1
  · exact absurd e.symm (hd b a hb ha h1 y hy x hx)
theorem ClsR.at {k : Nat} {out : List (List Int)} (h : ClsR p k out) (htd : ∀ a b, td a b = decide (p a ≠ p b)) (i : Int) : ∀ m, m ≤ out.length →
    (atK td out i m = -1 ∧ ∀ a (ha : a < out.length), a < m → p (out[a].getD 0 0) ≠ p i) ∨ ∃ a, ∃ ha : a < out.length, a < m ∧ atK td out i m = (a : Int) ∧ p (out[a].getD 0 0) = p i := by
  intro m
  induction m with
  | zero => intro _; exact Or.inl ⟨rfl, fun a _ h => absurd h (by omega)⟩
  | succ m ih =>
    intro hm
    have e : out.getD m [] = out[m] := by simp [List.getD, show m < out.length by omega]
    by_cases hp : p (out[m].getD 0 0) = p i
    · refine Or.inr ⟨m, by omega, by omega, ?_, hp⟩
      unfold atK
      rw [htd, e, decide_eq_false (fun h => h hp)]
      rfl
    · have e2 : atK td out i (m + 1) = atK td out i m := by
        conv => lhs; unfold atK
        rw [htd, e, decide_eq_true hp]
        rfl
      rw [e2]
      rcases ih (by omega) with ⟨h1, h2⟩ | ⟨a, ha, h1, h2, h3⟩
      · refine Or.inl ⟨h1, fun a ha hlt => ?_⟩
        rcases Nat.lt_or_eq_of_le (Nat.le_of_lt_succ hlt) with h4 | rfl
        · exact h2 a ha h4
        · exact hp
      · exact Or.inr ⟨a, ha, by omega, h2, h3⟩
theorem ClsR.step {k : Nat} {out : List (List Int)} (h : ClsR p k out) (htd : ∀ a b, td a b = decide (p a ≠ p b)) : ClsR p (k + 1) (stepC td out (k : Int)) := by
  have hup : upL (k + 1) = upL k ++ [(k : Int)] := upL_succ k
  have hfil : ∀ i, (upL (k + 1)).filter (fun x => p x = p i) = (upL k).filter (fun x => p x = p i) ++ if p k = p i then [(k : Int)] else [] := fun i => by
    rw [hup, List.filter_append]
    congr 1
    by_cases e : p k = p i <;> simp [e]
  unfold stepC
  rcases h.at htd (k : Int) out.length (Nat.le_refl _) with ⟨h1, h2⟩ | ⟨a, ha, _, h1, h2⟩
  · have hno : ∀ c ∈ out, ∀ x ∈ c, p x ≠ p (k : Int) := fun c hc x hx e => by
      obtain ⟨a, ha, rfl⟩ := List.getElem_of_mem hc
      refine h2 a ha ha ?_
      rw [((h.mem hc hx).1 (h.head hc)).2, e]
    rw [h1, if_pos (by omega)]
    refine ⟨fun c hc => ?_, ?_, fun i hi => ?_⟩
    · rcases List.mem_append.1 hc with hc | hc
      · obtain ⟨i, hi, e⟩ := h.cls c hc
        refine ⟨i, by rw [hup]; exact List.mem_append_left _ hi, ?_⟩
        have hic : i ∈ c := by rw [e]; exact List.mem_filter.2 ⟨hi, by simp⟩
        rw [hfil, if_neg (fun e' => hno c hc i hic e'.symm), List.append_nil]
        exact e
      · rw [List.mem_singleton] at hc
        subst hc
        refine ⟨(k : Int), by rw [hup]; exact List.mem_append_right _ (List.mem_singleton.2 rfl), ?_⟩
        rw [hfil, if_pos rfl]
        rw [List.filter_eq_nil_iff.2 fun x hx => ?_]
        · rfl
        · obtain ⟨c, hc, hx'⟩ := h.cov x hx
          have := hno c hc x hx'
          simpa using this
    · rw [List.pairwise_append]
      refine ⟨h.dist, List.pairwise_singleton _ _, fun c hc d hd x hx y hy => ?_⟩
      rw [List.mem_singleton] at hd
      subst hd
      rw [List.mem_singleton] at hy
      subst hy
      exact hno c hc x hx
    · rw [hup] at hi
      rcases List.mem_append.1 hi with hi | hi
      · obtain ⟨c, hc, hic⟩ := h.cov i hi
        exact ⟨c, List.mem_append_left _ hc, hic⟩
      · exact ⟨[(k : Int)], List.mem_append_right _ (List.mem_singleton.2 rfl), hi⟩
  · have hm : out[a] ∈ out := List.getElem_mem ha
    have hall : ∀ x ∈ out[a], p x = p (k : Int) := fun x hx => by
      rw [((h.mem hm (h.head hm)).1 hx).2, h2]
    have hoth : ∀ b (hb : b < out.length), b ≠ a → ∀ x ∈ out[b], p x ≠ p (k : Int) := fun b hb hne x hx e => hne (h.inj hb ha hx (h.head hm) (by rw [e, h2]))
    rw [h1, if_neg (by omega), Int.toNat_natCast]
    have e : out.getD a [] = out[a] := by simp [List.getD, ha]
    rw [e]
    refine ⟨fun c hc => ?_, ?_, fun i hi => ?_⟩
    · obtain ⟨b, hb, rfl⟩ := List.getElem_of_mem hc
      rw [List.length_set] at hb
      rw [List.getElem_set]
      by_cases hab : a = b
      · rw [if_pos hab]
        refine ⟨(k : Int), by rw [hup]; exact List.mem_append_right _ (List.mem_singleton.2 rfl), ?_⟩
        rw [hfil, if_pos rfl, h.eq hm (h.head hm), h2]
      · rw [if_neg hab]
        obtain ⟨i, hi, e⟩ := h.cls out[b] (List.getElem_mem hb)
        have hic : i ∈ out[b] := by rw [e]; exact List.mem_filter.2 ⟨hi, by simp⟩
        refine ⟨i, by rw [hup]; exact List.mem_append_left _ hi, ?_⟩
        rw [hfil, if_neg (fun e' => hoth b hb (fun h => hab h.symm) i hic e'.symm), List.append_nil]
        exact e
    · rw [List.pairwise_iff_getElem]
      intro b d hb hd hbd x hx y hy
      rw [List.length_set] at hb hd
      rw [List.getElem_set] at hx hy
      have hd0 := List.pairwise_iff_getElem.1 h.dist b d hb hd hbd
      by_cases e1 : a = b
      · rw [if_pos e1] at hx
        rw [if_neg (by omega)] at hy
        have hxk : p x = p (k : Int) := by
          rcases List.mem_append.1 hx with hx | hx
          · exact hall x hx
          · rw [List.mem_singleton.1 hx]
        rw [hxk]
        exact fun e => hoth d hd (by omega) y hy e.symm
      · rw [if_neg e1] at hx
        by_cases e2 : a = d
        · rw [if_pos e2] at hy
          have hyk : p y = p (k : Int) := by
            rcases List.mem_append.1 hy with hy | hy
            · exact hall y hy
            · rw [List.mem_singleton.1 hy]
          rw [hyk]
          exact hoth b hb (by omega) x hx
        · rw [if_neg e2] at hy
          exact hd0 x hx y hy
    · rw [hup] at hi
      rcases List.mem_append.1 hi with hi | hi
      · obtain ⟨c, hc, hic⟩ := h.cov i hi
        obtain ⟨b, hb, rfl⟩ := List.getElem_of_mem hc
        by_cases hab : a = b
        · subst hab
          exact ⟨_, mem_set' ha, List.mem_append_left _ hic⟩
        · refine ⟨out[b], ?_, hic⟩
          rw [List.mem_iff_getElem]
          exact ⟨b, by rw [List.length_set]; exact hb, by rw [List.getElem_set, if_neg hab]⟩
      · exact ⟨_, mem_set' ha, List.mem_append_right _ hi⟩
theorem ClsR.all (htd : ∀ a b, td a b = decide (p a ≠ p b)) : ∀ k, ClsR p k (apC td k) := by
  intro k
  induction k with
  | zero => exact ⟨(fun c hc => by cases hc), List.Pairwise.nil, (fun i hi => by cases hi)⟩
  | succ k ih => exact ih.step htd
theorem apC_len (td : Int → Int → Bool) : ∀ k, (apC td k).length ≤ k := by
  intro k
  induction k with
  | zero => exact Nat.le_refl _
  | succ k ih =>
    unfold apC stepC
    split
    · simp; exact ih
    · rw [List.length_set]; omega
end
/-- The classes of a case. -/
def clsT (n : Nat) (ts : List Tt) : List (List Int) := apC (tdB ts (upL ts.length)) n
theorem clsT_ok (n : Nat) (ts : List Tt) : ClsR (pat ts) n (clsT n ts) := ClsR.all (tdB_pat ts) n
end Go.Proofs.Tb
