/- Functions of the package slices on rows of integers; the order of choices. -/
import Derived.Test.YtcjddfhhofoidaaDoorNea
set_option linter.unusedVariables false
set_option linter.unusedSimpArgs false
namespace Go.Proofs.Tb
open Go.RowKit
attribute [local go_sem] cell_set_same

set_option maxHeartbeats 1600000 in
theorem lindex_any (A : Option Addr) (n c : Nat) (xs : List Int) (x : Int) (w : World) (h : Il w A n c xs) : Calls Tryd.prog 77 #[.slice A n c, .int .i64 x] w (Ret (fun v _ => ∃ i : Int, v = .int .i64 i ∧ decide (0 ≤ i) = shB xs x) w) := by
  have hn := h.le
  have hc := h.cap
  have HL := Lib.hid h.len
  have H := Lib.hid h
  clear h
  go_enter Tryd.func77, Tryd.ntmps77
  go_wp2_with fail
  go_loopw [8] (fun i wr => ∃ k : Nat, k ≤ n ∧ i = .int .i64 (k : Int) ∧ (∀ j, j < k → xs.getD j 0 ≠ x) ∧ Ext w wr) (fun i _ => n - (intOf i).toNat)
  case atStart => exact ⟨0, by omega, rfl, fun j hj => absurd hj (by omega), Ext.refl _⟩
  case round =>
    obtain ⟨k, hk, rfl, hr, hx⟩ := hrel
    have HR := Lib.hid hr
    have HX := Lib.hid hx
    by_cases hkn : k < n
    · have pk : (k : Int) < (n : Int) := by omega
      obtain ⟨b, o, rfl, hcell⟩ := (H.out.below hx).at_ (by omega)
      have ck := hcell k hkn
      obtain ⟨y, hy⟩ : ∃ y, xs.getD k 0 = y := ⟨_, rfl⟩
      rw [hy] at ck
      by_cases hxy : x = y
      · subst hxy
        have g2 : (x == x) = true := by simp
        have HN := Lib.hid (shB_t (by rw [HL.out]; exact hkn) hy)
        clear hr hx hcell hy
        go_wp2
        go_returns
        exact ⟨_, rfl, ⟨(k : Int), rfl, by rw [HN.out]; simp⟩, HX.out⟩
      · have g2 : (x == y) = false := by simpa using hxy
        have HN := Lib.hid (show ∀ j, j < k + 1 → xs.getD j 0 ≠ x from fun j hj => by
          rcases Nat.lt_or_eq_of_le (Nat.le_of_lt_succ hj) with h | rfl
          · exact hr j h
          · rw [hy]; exact fun e => hxy e.symm)
        clear hr hx hcell hy
        go_wp2
        go_roundw
        case rel => exact ⟨k + 1, by omega, by go_num, HN.out, HX.out⟩
        case measure => simp [intOf]; omega
    · obtain rfl : k = n := by omega
      have HN := Lib.hid (shB_f (xs := xs) (f := x) (by rw [HL.out]; exact hr))
      clear hr hx
      go_wp2
      go_returns
      exact ⟨_, rfl, ⟨-1, rfl, by rw [HN.out]; rfl⟩, HX.out⟩
theorem lcontains_any (A : Option Addr) (n c : Nat) (xs : List Int) (x : Int) (w : World) (h : Il w A n c xs) : Calls Tryd.prog 59 #[.slice A n c, .int .i64 x] w (Ret (fun v _ => v = .bool (shB xs x)) w) := by
  have H := Lib.hid h
  clear h
  go_enter Tryd.func59, Tryd.ntmps59
  go_wp2_with fail
  refine (lindex_any A n c xs x w H.out).mono ?_
  rintro e w1 ⟨v1, rfl, ⟨i, rfl, hi⟩, hb⟩
  have HI := Lib.hid hi
  have HB := Lib.hid hb
  clear hi hb
  by_cases h0 : 0 ≤ i
  · have HN := Lib.hid (show shB xs x = true by rw [← HI.out]; simpa using h0)
    go_wp2
    go_returns
    exact ⟨_, rfl, by rw [HN.out]; rfl, HB.out⟩
  · have HN := Lib.hid (show shB xs x = false by rw [← HI.out]; simpa using h0)
    have g2 : decide (0 ≤ i) = false := by simpa using h0
    go_wp2
    go_returns
    exact ⟨_, rfl, by rw [HN.out]; rfl, HB.out⟩
theorem rneedf_any (x s : Int) (g : Nat) (w : World) (h : w.cell? ⟨g, 0, none⟩ = some (.int .i64 s)) : Calls Tryd.prog 61 #[.int .i64 x, .pointer (some ⟨g, 0, none⟩)] w (Ret (fun v _ => v = .bool (decide (bits .and .i64 x s = 0))) w) := by
  obtain ⟨z, hz⟩ : ∃ z, bits .and .i64 x s = z := ⟨_, rfl⟩
  rw [hz]
  go_enter Tryd.func61, Tryd.ntmps61
  by_cases h0 : z = 0
  · have g2 : (z == 0) = true := by simpa using h0
    go_wp2
    go_returns
    exact ⟨_, rfl, by rw [decide_eq_true h0]; rfl, Below.refl _ _⟩
  · have g2 : (z == 0) = false := by simpa using h0
    go_wp2
    go_returns
    exact ⟨_, rfl, by rw [decide_eq_false h0]; rfl, Below.refl _ _⟩
theorem getD_mem' {xs : List Int} {k : Nat} (h : k < xs.length) : xs.getD k 0 ∈ xs := by
  rw [show xs.getD k 0 = xs[k] by simp [List.getD, h]]
  exact List.getElem_mem h
theorem misB_t {xs : List Int} {s : Int} {k : Nat} (hk : k < xs.length) (h : decide (bits .and .i64 (xs.getD k 0) s = 0) = true) : misB xs s = true := by
  unfold misB
  exact List.any_eq_true.2 ⟨_, getD_mem' hk, h⟩
theorem misB_f {xs : List Int} {s : Int} (h : ∀ k, k < xs.length → decide (bits .and .i64 (xs.getD k 0) s = 0) = false) : misB xs s = false := by
  unfold misB
  rw [List.any_eq_false]
  intro x hx
  obtain ⟨k, hk, rfl⟩ := List.getElem_of_mem hx
  have := h k hk
  rw [show xs.getD k 0 = xs[k] by simp [List.getD, hk]] at this
  simpa using this
set_option maxHeartbeats 1600000 in
theorem lindexf_any (A : Option Addr) (n c : Nat) (xs : List Int) (s : Int) (g : Nat) (w : World) (h : Il w A n c xs) (hg : w.cell? ⟨g, 0, none⟩ = some (.int .i64 s)) :
    Calls Tryd.prog 78 #[.slice A n c, .func (.func 61) #[] #[.pointer (some ⟨g, 0, none⟩)]] w (Ret (fun v _ => ∃ i : Int, v = .int .i64 i ∧ decide (0 ≤ i) = misB xs s) w) := by
  have hn := h.le
  have hc := h.cap
  have HL := Lib.hid h.len
  have H := Lib.hid h
  have HG := Lib.hid hg
  clear h hg
  go_enter Tryd.func78, Tryd.ntmps78
  go_wp2_with fail
  go_loopw [8] (fun i wr => ∃ k : Nat, k ≤ n ∧ i = .int .i64 (k : Int) ∧ (∀ j, j < k → decide (bits .and .i64 (xs.getD j 0) s = 0) = false) ∧ Ext w wr) (fun i _ => n - (intOf i).toNat)
  case atStart => exact ⟨0, by omega, rfl, fun j hj => absurd hj (by omega), Ext.refl _⟩
  case round =>
    obtain ⟨k, hk, rfl, hr, hx⟩ := hrel
    have HR := Lib.hid hr
    have HX := Lib.hid hx
    clear hr
    by_cases hkn : k < n
    · have pk : (k : Int) < (n : Int) := by omega
      obtain ⟨b, o, rfl, hcell⟩ := (H.out.below hx).at_ (by omega)
      have ck := hcell k hkn
      obtain ⟨y, hy⟩ : ∃ y, xs.getD k 0 = y := ⟨_, rfl⟩
      rw [hy] at ck
      have HY := Lib.hid hy
      clear hcell hy hx
      go_wp2_with fail
      refine (rneedf_any y s g wr (Ext.cell HX.out HG.out)).mono ?_
      rintro e w2 ⟨v2, rfl, rfl, hb2⟩
      have HX2 := Lib.hid (bt HX.out hb2)
      clear hb2
      cases hd : decide (bits .and .i64 y s = 0) with
      | true =>
        have HN := Lib.hid (misB_t (xs := xs) (s := s) (k := k) (by rw [HL.out]; exact hkn) (by rw [HY.out]; exact hd))
        clear hd
        go_wp2
        go_returns
        exact ⟨_, rfl, ⟨(k : Int), rfl, by rw [HN.out]; simp⟩, HX2.out⟩
      | false =>
        have HN := Lib.hid (show ∀ j, j < k + 1 → decide (bits .and .i64 (xs.getD j 0) s = 0) = false from fun j hj => by
          rcases Nat.lt_or_eq_of_le (Nat.le_of_lt_succ hj) with h | rfl
          · exact HR.out j h
          · rw [HY.out]; exact hd)
        clear hd
        go_wp2
        go_roundw
        case rel => exact ⟨k + 1, by omega, by go_num, HN.out, HX2.out⟩
        case measure => simp [intOf]; omega
    · obtain rfl : k = n := by omega
      have HN := Lib.hid (misB_f (xs := xs) (s := s) (by rw [HL.out]; exact HR.out))
      clear hx
      go_wp2
      go_returns
      exact ⟨_, rfl, ⟨-1, rfl, by rw [HN.out]; rfl⟩, HX.out⟩
theorem lcontainsf_any (A : Option Addr) (n c : Nat) (xs : List Int) (s : Int) (g : Nat) (w : World) (h : Il w A n c xs) (hg : w.cell? ⟨g, 0, none⟩ = some (.int .i64 s)) :
    Calls Tryd.prog 60 #[.slice A n c, .func (.func 61) #[] #[.pointer (some ⟨g, 0, none⟩)]] w (Ret (fun v _ => v = .bool (misB xs s)) w) := by
  have H := Lib.hid h
  have HG := Lib.hid hg
  clear h hg
  go_enter Tryd.func60, Tryd.ntmps60
  go_wp2_with fail
  refine (lindexf_any A n c xs s g w H.out HG.out).mono ?_
  rintro e w1 ⟨v1, rfl, ⟨i, rfl, hi⟩, hb⟩
  have HI := Lib.hid hi
  have HB := Lib.hid hb
  clear hi hb
  by_cases h0 : 0 ≤ i
  · have HN := Lib.hid (show misB xs s = true by rw [← HI.out]; simpa using h0)
    go_wp2
    go_returns
    exact ⟨_, rfl, by rw [HN.out]; rfl, HB.out⟩
  · have HN := Lib.hid (show misB xs s = false by rw [← HI.out]; simpa using h0)
    have g2 : decide (0 ≤ i) = false := by simpa using h0
    go_wp2
    go_returns
    exact ⟨_, rfl, by rw [HN.out]; rfl, HB.out⟩
theorem drop_get {xs : List Int} {k : Nat} (h : k < xs.length) : xs.drop k = xs.getD k 0 :: xs.drop (k + 1) := by
  rw [List.drop_eq_getElem_cons h]
  simp [List.getD, h]
set_option maxHeartbeats 1600000 in
theorem lcmp_any (A A' : Option Addr) (n c m d : Nat) (xs ys : List Int) (w : World) (h : Il w A n c xs) (h' : Il w A' m d ys) : Calls Tryd.prog 80 #[.slice A n c, .slice A' m d] w (Ret (fun v _ => v = .int .i64 (cmpL xs ys)) w) := by
  have hn := h.le
  have hc := h.cap
  have hm := h'.le
  have hd := h'.cap
  have HL := Lib.hid h.len
  have HL' := Lib.hid h'.len
  have H := Lib.hid h
  have H' := Lib.hid h'
  clear h h'
  go_enter Tryd.func80, Tryd.ntmps80
  go_wp2_with fail
  go_loopw [11] (fun i wr => ∃ k : Nat, k ≤ n ∧ k ≤ m ∧ i = .int .i64 (k : Int) ∧ cmpL xs ys = cmpL (xs.drop k) (ys.drop k) ∧ Ext w wr) (fun i _ => n - (intOf i).toNat)
  case atStart => exact ⟨0, by omega, by omega, rfl, rfl, Ext.refl _⟩
  case round =>
    obtain ⟨k, hk, hk', rfl, hr, hx⟩ := hrel
    have HX := Lib.hid hx
    by_cases hkn : k < n
    · have pk : (k : Int) < (n : Int) := by omega
      have dx := drop_get (xs := xs) (k := k) (by rw [HL.out]; exact hkn)
      obtain ⟨b, o, rfl, hcell⟩ := (H.out.below hx).at_ (by omega)
      have ck := hcell k hkn
      obtain ⟨x, hxx⟩ : ∃ y, xs.getD k 0 = y := ⟨_, rfl⟩
      rw [hxx] at ck dx
      by_cases hkm : k < m
      · have pm : (k : Int) < (m : Int) := by omega
        have pm' : ¬ ((m : Int) ≤ (k : Int)) := by omega
        have dy := drop_get (xs := ys) (k := k) (by rw [HL'.out]; exact hkm)
        obtain ⟨b', o', rfl, hcell'⟩ := (H'.out.below hx).at_ (by omega)
        have ck' := hcell' k hkm
        obtain ⟨y, hyy⟩ : ∃ z, ys.getD k 0 = z := ⟨_, rfl⟩
        rw [hyy] at ck' dy
        rw [dx, dy, cmpL] at hr
        have HR := Lib.hid hr
        clear hr dx dy hcell hcell' hxx hyy hx
        go_wp2_with fail
        refine (lcompare_any x y wr).mono ?_
        rintro e y1 ⟨rfl, rfl⟩
        obtain ⟨z, hz⟩ : ∃ z, cmI x y = z := ⟨_, rfl⟩
        rw [hz] at HR ⊢
        clear hz
        by_cases h0 : z = 0
        · have g2 : (z != 0) = false := by simpa using h0
          have HN : Hid (cmpL xs ys = cmpL (xs.drop (k + 1)) (ys.drop (k + 1))) := show _ = _ by rw [HR.out, if_pos h0]
          clear ck ck'
          go_wp2
          go_roundw
          case rel => exact ⟨k + 1, by omega, by omega, by go_num, HN.out, HX.out⟩
          case measure => simp [intOf]; omega
        · have g2 : (z != 0) = true := by simpa using h0
          have HN : Hid (cmpL xs ys = z) := show _ = _ by rw [HR.out, if_neg h0]
          clear ck ck'
          go_wp2
          go_returns
          exact ⟨_, rfl, by rw [HN.out]; rfl, HX.out⟩
      · obtain rfl : k = m := by omega
        have pm : (k : Int) ≤ (k : Int) := by omega
        have HN : Hid (cmpL xs ys = 1) := show _ = _ by rw [hr, dx, show ys.drop k = [] from List.drop_of_length_le (by rw [HL'.out]; exact Nat.le_refl _)]; rfl
        clear hr dx hcell hxx hx
        go_wp2
        go_returns
        exact ⟨_, rfl, by rw [HN.out]; rfl, HX.out⟩
    · obtain rfl : k = n := by omega
      rw [show xs.drop k = [] from List.drop_of_length_le (by rw [HL.out]; exact Nat.le_refl _)] at hr
      clear hx
      by_cases hkm : k < m
      · have pm : (k : Int) < (m : Int) := by omega
        have HN : Hid (cmpL xs ys = -1) := show _ = _ by rw [hr, drop_get (by rw [HL'.out]; exact hkm)]; rfl
        clear hr
        go_wp2
        go_returns
        exact ⟨_, rfl, by rw [HN.out]; rfl, HX.out⟩
      · obtain rfl : k = m := by omega
        have HN : Hid (cmpL xs ys = 0) := show _ = _ by rw [hr, show ys.drop k = [] from List.drop_of_length_le (by rw [HL'.out]; exact Nat.le_refl _)]; rfl
        clear hr
        go_wp2
        go_returns
        exact ⟨_, rfl, by rw [HN.out]; rfl, HX.out⟩
theorem lor3_any (x y z : Int) (g c : Nat) (w : World) (h : Il w (some ⟨g, 0, none⟩) 3 c [x, y, z]) : Calls Tryd.prog 72 #[.slice (some ⟨g, 0, none⟩) 3 c] w (Ret (fun v _ => v = .int .i64 (or3 x y z)) w) := by
  have hc := h.cap
  have hl := h.le
  obtain ⟨b, o, hA, hcell⟩ := h.at_ (by omega)
  injection hA with hA
  injection hA with e1 e2 _
  subst e1 e2
  have c0 : w.cell? ⟨g, 0, none⟩ = some (.int .i64 x) := hcell 0 (by omega)
  have c1 : w.cell? ⟨g, 0 + 1, none⟩ = some (.int .i64 y) := hcell 1 (by omega)
  have c2 : w.cell? ⟨g, 0 + 2, none⟩ = some (.int .i64 z) := hcell 2 (by omega)
  rw [Nat.zero_add] at c1 c2
  clear hcell h
  go_enter Tryd.func72, Tryd.ntmps72
  go_wp2_with fail
  go_loopw [8] (fun i wr => wr = w ∧ ((i = .int .i64 0) ∨ (i = .int .i64 1 ∧ x = 0) ∨ (i = .int .i64 2 ∧ x = 0 ∧ y = 0) ∨ (i = .int .i64 3 ∧ x = 0 ∧ y = 0 ∧ z = 0))) (fun i _ => 4 - (intOf i).toNat)
  case atStart => exact ⟨rfl, Or.inl rfl⟩
  case round =>
    obtain ⟨rfl, hrel⟩ := hrel
    rcases hrel with rfl | ⟨rfl, hx⟩ | ⟨rfl, hx, hy⟩ | ⟨rfl, hx, hy, hz⟩
    · by_cases hx : x = 0
      · have g1 : (x != 0) = false := by simpa using hx
        go_wp2
        go_roundw
        case rel => exact ⟨trivial, Or.inr (Or.inl ⟨rfl, hx⟩)⟩
        case measure => simp [intOf]
      · have g1 : (x != 0) = true := by simpa using hx
        have HE : Hid (or3 x y z = x) := show _ = _ by unfold or3 orI; rw [if_neg hx]
        go_wp2
        go_returns
        exact ⟨_, rfl, by rw [HE.out]; rfl, Below.refl _ _⟩
    · by_cases hy : y = 0
      · have g1 : (y != 0) = false := by simpa using hy
        go_wp2
        go_roundw
        case rel => exact ⟨trivial, Or.inr (Or.inr (Or.inl ⟨rfl, hx, hy⟩))⟩
        case measure => simp [intOf]
      · have g1 : (y != 0) = true := by simpa using hy
        have HE : Hid (or3 x y z = y) := show _ = _ by unfold or3 orI; rw [if_pos hx, if_neg hy]
        go_wp2
        go_returns
        exact ⟨_, rfl, by rw [HE.out]; rfl, Below.refl _ _⟩
    · by_cases hz : z = 0
      · have g1 : (z != 0) = false := by simpa using hz
        go_wp2
        go_roundw
        case rel => exact ⟨trivial, Or.inr (Or.inr (Or.inr ⟨rfl, hx, hy, hz⟩))⟩
        case measure => simp [intOf]
      · have g1 : (z != 0) = true := by simpa using hz
        have HE : Hid (or3 x y z = z) := show _ = _ by unfold or3 orI; rw [if_pos hx, if_pos hy]
        go_wp2
        go_returns
        exact ⟨_, rfl, by rw [HE.out]; rfl, Below.refl _ _⟩
    · have HE : Hid (or3 x y z = 0) := show _ = _ by unfold or3 orI; rw [if_pos hx, if_pos hy, hz]
      go_wp2
      go_returns
      exact ⟨_, rfl, by rw [HE.out]; rfl, Below.refl _ _⟩
abbrev TCH : TypeId := 106
set_option maxHeartbeats 1600000 in
set_option maxRecDepth 100000 in
theorem rbefore_any (a b : Int) (xs ys : List Int) (A A' : Option Addr) (n c n' c' : Nat) (w : World) (hx : Il w A n c xs) (hy : Il w A' n' c' ys) :
    Calls Tryd.prog 63 #[.agg #[.int .i64 a, .slice A n c], .agg #[.int .i64 b, .slice A' n' c']] w (Ret (fun v _ => v = .int .i64 (or3 (cmI a b) (cmI (n : Int) (n' : Int)) (cmpL xs ys))) w) := by
  have HX := Lib.hid hx
  have HY := Lib.hid hy
  have lx := hx.le
  have lx' := hx.cap
  have ly := hy.le
  have ly' := hy.cap
  obtain ⟨C1, hC1⟩ : ∃ R, cmI a b = R := ⟨_, rfl⟩
  obtain ⟨C2, hC2⟩ : ∃ R, cmI (n : Int) (n' : Int) = R := ⟨_, rfl⟩
  obtain ⟨C3, hC3⟩ : ∃ R, cmpL xs ys = R := ⟨_, rfl⟩
  obtain ⟨R, hR⟩ : ∃ R, or3 C1 C2 C3 = R := ⟨_, rfl⟩
  rw [hC1, hC2, hC3, hR]
  have HC1 := Lib.hid hC1
  have HC2 := Lib.hid hC2
  have HC3 := Lib.hid hC3
  have HR := Lib.hid hR
  clear hx hy hR hC1 hC2 hC3
  go_enter Tryd.func63, Tryd.ntmps63
  go_upto_region 1 with fail
  refine wp_world (fun W0 => Blk W0 w.heap.size TCH #[.int .i64 a, .slice A n c] ∧ Blk W0 (w.heap.size + 1) TCH #[.int .i64 b, .slice A' n' c'] ∧ Below w.heap.size w W0) (by exact ⟨(Blk.new_ _ _ rfl).alloc _, Blk.new_ _ _ (by simp), by go_grown⟩) ?_
  rintro W0 ⟨b0, b1, hbw⟩
  have HBW := Lib.hid hbw
  have k0 := fun w' (hh : Ext W0 w') => (b0.below hh).cells
  have k1 := fun w' (hh : Ext W0 w') => (b1.below hh).cells
  simp only [cellsAre, Nat.zero_add, Nat.reduceAdd, and_true] at k0 k1
  have hst : Ext W0 W0.drew := Ext.drew _
  clear b0 b1 hbw
  refine wp_region_adv 16 [] [(0, true, some 5, none), (1, true, some 6, none), (2, true, some 7, none), (3, true, some 8, none), (5, true, some 10, none), (6, true, some 11, none), (7, true, some 12, none), (8, true, some 13, none), (9, true, some 14, none), (10, true, some 15, none), (12, true, some 17, none), (13, true, some 18, none), (14, true, some 19, none), (15, true, some 20, none), (4, false, some 9, none), (11, false, some 16, none)] (by kernel_rfl) (by kernel_rfl) (by kernel_rfl) (by intro it hit; (repeat (rcases List.mem_cons.1 hit with rfl | hit; (focus (intro o ho ev w; injection ho with ho; subst ho; kernel_rfl)))); cases hit) (fun _ _ _ _ _ => ⟨fun h => h, fun h => h⟩) hst ?_
  repeat (first | (refine wpSeq_pure (v := ?_) rfl ?_ ?_; rotate_left 1; (focus (intro wq_ hSq_; (try dsimp only at hSq_); go_simp; (try with_reducible rfl); done)); (try simp only [Act.put, List.setIfInBounds_toArray, List.set_cons_zero, List.set_cons_succ])) | (refine wpSeq_pureG (v := ?_) rfl rfl ?_ ?_; rotate_left 1; (focus (intro wq_ hSq_; (try dsimp only at hSq_); go_simp; (try with_reducible rfl); done)); (try simp only [Act.put, List.setIfInBounds_toArray, List.set_cons_zero, List.set_cons_succ])) | (refine wpSeq_off rfl rfl ?_; (try simp only [Act.put, List.setIfInBounds_toArray, List.set_cons_zero, List.set_cons_succ])))
  first | refine wpSeq_call rfl (fun u1 g1 s1 K hK => ?_) | refine wpSeq_callG rfl rfl (fun u1 g1 s1 K hK => ?_)
  go_simp
  refine (lcompare_any a b u1).mono ?_
  rintro e y1 ⟨rfl, rfl⟩
  rw [HC1.out]
  (try go_wp2_with fail)
  refine hK.out _ _ (Ext.refl _) ?_
  clear hK K
  (try simp only [Act.put, List.setIfInBounds_toArray, List.set_cons_zero, List.set_cons_succ])
  repeat (first | (refine wpSeq_pure (v := ?_) rfl ?_ ?_; rotate_left 1; (focus (intro wq_ hSq_; (try dsimp only at hSq_); go_simp; (try with_reducible rfl); done)); (try simp only [Act.put, List.setIfInBounds_toArray, List.set_cons_zero, List.set_cons_succ])) | (refine wpSeq_pureG (v := ?_) rfl rfl ?_ ?_; rotate_left 1; (focus (intro wq_ hSq_; (try dsimp only at hSq_); go_simp; (try with_reducible rfl); done)); (try simp only [Act.put, List.setIfInBounds_toArray, List.set_cons_zero, List.set_cons_succ])) | (refine wpSeq_off rfl rfl ?_; (try simp only [Act.put, List.setIfInBounds_toArray, List.set_cons_zero, List.set_cons_succ])))
  first | refine wpSeq_call rfl (fun u2 g2 s2 K hK => ?_) | refine wpSeq_callG rfl rfl (fun u2 g2 s2 K hK => ?_)
  go_simp
  refine (lcompare_any (n : Int) (n' : Int) u2).mono ?_
  rintro e y2 ⟨rfl, rfl⟩
  rw [HC2.out]
  (try go_wp2_with fail)
  refine hK.out _ _ (Ext.refl _) ?_
  clear hK K
  (try simp only [Act.put, List.setIfInBounds_toArray, List.set_cons_zero, List.set_cons_succ])
  repeat (first | (refine wpSeq_pure (v := ?_) rfl ?_ ?_; rotate_left 1; (focus (intro wq_ hSq_; (try dsimp only at hSq_); go_simp; (try with_reducible rfl); done)); (try simp only [Act.put, List.setIfInBounds_toArray, List.set_cons_zero, List.set_cons_succ])) | (refine wpSeq_pureG (v := ?_) rfl rfl ?_ ?_; rotate_left 1; (focus (intro wq_ hSq_; (try dsimp only at hSq_); go_simp; (try with_reducible rfl); done)); (try simp only [Act.put, List.setIfInBounds_toArray, List.set_cons_zero, List.set_cons_succ])) | (refine wpSeq_off rfl rfl ?_; (try simp only [Act.put, List.setIfInBounds_toArray, List.set_cons_zero, List.set_cons_succ])))
  intro wz gz sz_
  (try simp only [endJ, List.drop_succ_cons, List.drop_zero])
  have HZ := Lib.hid (bt HBW.out sz_)
  clear hst k0 k1 g1 s1 g2 s2 gz sz_
  go_wp2_with fail
  refine (lcmp_any A A' n c n' c' xs ys wz (HX.out.below HZ.out) (HY.out.below HZ.out)).mono ?_
  rintro e y2 ⟨v2, rfl, rfl, hb2⟩
  rw [HC3.out]
  have HB2 := Lib.hid (bt HZ.out hb2)
  clear hb2
  go_wp2_with fail
  have hb : Blk (y2.alloc (.cells #[.int .i64 C1, .int .i64 C2, .int .i64 C3] TIN)) y2.heap.size TIN #[.int .i64 C1, .int .i64 C2, .int .i64 C3] := Blk.new_ _ _ rfl
  have hil : Il (y2.alloc (.cells #[.int .i64 C1, .int .i64 C2, .int .i64 C3] TIN)) (some ⟨y2.heap.size, 0, none⟩) 3 3 [C1, C2, C3] := ⟨rfl, Nat.le_refl _, by omega, fun _ => ⟨_, 0, rfl, fun j hj => by
    rw [Nat.zero_add, cell_of_row _ _ j _ TIN (0, 0) hb]
    obtain rfl | rfl | rfl : j = 0 ∨ j = 1 ∨ j = 2 := by omega
    · rfl
    · rfl
    · rfl⟩⟩
  refine (lor3_any C1 C2 C3 y2.heap.size 3 _ hil).mono ?_
  rintro e y3 ⟨v3, rfl, rfl, hb3⟩
  rw [HR.out]
  have HB3 := Lib.hid (bt HB2.out (bt (Ext.allocR y2 (.cells #[.int .i64 C1, .int .i64 C2, .int .i64 C3] TIN)) hb3))
  clear hb hil hb3
  go_wp2
  go_returns
  exact ⟨_, rfl, rfl, HB3.out⟩
end Go.Proofs.Tb
