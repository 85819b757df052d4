/- Contracts of slices.Grow at nil and of slices.Concat at two slices of integers. -/
import Derived.Test.YtcjddfhhofoidaaDoorQa
set_option linter.unusedVariables false
set_option linter.unusedSimpArgs false
namespace Go.Proofs.Tb
open Go.RowKit
attribute [local go_sem] cell_set_same

theorem zc_size (z : Value) (n : Nat) : (Builtin.zeroCells z.cells n).size = n * z.cells.size := size_zeroCells _ _
set_option maxHeartbeats 1600000 in
set_option maxRecDepth 100000 in
theorem lgrow_any (n : Nat) (h0 : 0 < n) (h1 : n ≤ 1000) (w : World) :
    Calls Tryd.prog 89 #[.slice none 0 0, .int .i64 (n : Int)] w (Ret (fun v w' => OwI w.heap.size w' v []) w) := by
  obtain ⟨i0, hi, hz0, hz1, hz2⟩ := info_parts int_info
  have hrun := fun (ty : TypeId) => Go.Lib.run_append_nil_zeros (P := Tryd.prog) w TIS TIN ty TIN i0 (.int .i64 0) .i64 .i64 Tryd.underlying37 Tryd.underlying3 hi hz0 n h0 (by omega) (by omega) (by rw [hz2]; omega)
  have hge := grownCap_ge w n 0 TIN
  have hle := grownCap_le_maxLen w n 0 TIN (by unfold maxLen; omega)
  obtain ⟨G, hG⟩ : ∃ G, grownCap w n 0 TIN = G := ⟨_, rfl⟩
  rw [hG] at hge hle
  simp only [hG] at hrun
  obtain ⟨CS, hCS⟩ : ∃ CS, Builtin.zeroCells (Value.int .i64 0).cells n ++ Builtin.zeroCells (Value.int .i64 0).cells (G - n) = CS := ⟨_, rfl⟩
  have hsz : CS.size = G := by rw [← hCS, Array.size_append, zc_size, zc_size]; show n * 1 + (G - n) * 1 = G; omega
  simp only [hCS] at hrun
  have HO : Hid (OwI w.heap.size (w.drew.alloc (.cells CS TIN)) (.slice (some ⟨w.heap.size, 0, none⟩) 0 G) []) :=
    show _ ∧ _ from ⟨rfl, Or.inr ⟨w.heap.size, G, CS, rfl, Nat.le_refl _, heap_alloc_new w.drew _, Nat.zero_le _, hle, by rw [hsz, Nat.mul_one], rfl⟩⟩
  have HB : Hid (Below w.heap.size w (w.drew.alloc (.cells CS TIN))) := (show Below _ _ _ from ((Below.refl _ _).drew).alloc (Nat.le_refl _) _)
  have pn : (0 : Int) < (n : Int) := by omega
  have pG : G ≤ 9223372036854775807 := by simpa [maxLen] using hle
  have qn : 0 < n := h0
  clear hi hz0 hz1 hz2 hG hCS hsz hle
  go_enter Tryd.func89, Tryd.ntmps89
  go_wp2_with (at_builtin; refine Go.Lib.wpList_append_run _ rfl _ _ _ _ rfl _ _ rfl rfl _ _ (hrun _) ?_)
  go_returns
  exact ⟨_, rfl, HO.out, HB.out⟩
/-- All elements of a slice of integers, as cells. -/
theorem Il.cells {w : World} {b o n c : Nat} {xs : List Int} (h : Il w (some ⟨b, o, none⟩) n c xs) : ∀ j u, (ic xs)[j]? = some u → w.cell? ((⟨b, o, none⟩ : Addr).add j) = some u := by
  intro j u hj
  have hjl : j < xs.length := by
    rcases Nat.lt_or_ge j xs.length with h1 | h1
    · exact h1
    · rw [List.getElem?_eq_none (by simpa [ic] using h1)] at hj; cases hj
  obtain ⟨b', o', hA, hc⟩ := h.at_ (by rw [← h.len]; omega)
  injection hA with hA
  injection hA with e1 e2 _
  subst e1 e2
  have e : (⟨b, o, none⟩ : Addr).add j = ⟨b, o + j, none⟩ := by simp only [Addr.add]; split <;> simp_all
  rw [e, hc j (by rw [← h.len]; exact hjl)]
  have h2 : (ic xs)[j]? = some (.int .i64 (xs.getD j 0)) := by simp [ic, List.getD, hjl]
  rw [← hj, h2]
theorem ic_one (xs : List Int) : ∀ u, u ∈ ic xs → u.oneCell' = true := fun u hu => by
  obtain ⟨x, _, rfl⟩ := List.mem_map.1 hu
  rfl
theorem OwI.cat {base : Nat} {w : World} {v : Value} {xs ys : List Int} {m : Nat} (hm : ys.length = m) (h : w.ownsRow base TIN 1 v (xs.length + m) (ic xs ++ ic ys)) : OwI base w v (xs ++ ys) := by
  unfold OwI ic at *
  rw [List.length_append, List.map_append, hm]
  exact h
set_option maxHeartbeats 3200000 in
set_option maxRecDepth 100000 in
theorem lconcat_any (g n1 c1 n2 c2 : Nat) (A1 A2 : Option Addr) (xs ys : List Int) (w : World) (hg : Blk w g TIS #[.slice A1 n1 c1, .slice A2 n2 c2]) (h1 : Il w A1 n1 c1 xs) (h2 : Il w A2 n2 c2 ys)
    (p1 : 0 < n1) (p2 : 0 < n2) (q1 : n1 ≤ 400) (q2 : n2 ≤ 400) :
    Calls Tryd.prog 76 #[.slice (some ⟨g, 0, none⟩) 2 2] w (Ret (fun v w' => OwI w.heap.size w' v (xs ++ ys)) w) := by
  obtain ⟨b1, o1, rfl, _⟩ := h1.at_ p1
  obtain ⟨b2, o2, rfl, _⟩ := h2.at_ p2
  have l1 := h1.le
  have l1' := h1.cap
  have l2 := h2.le
  have l2' := h2.cap
  have cg := hg.cells
  simp only [cellsAre, Nat.zero_add, Nat.reduceAdd, and_true] at cg
  have HG := Lib.hid hg
  have H1 := Lib.hid h1
  have H2 := Lib.hid h2
  clear hg h1 h2
  go_enter Tryd.func76, Tryd.ntmps76
  go_wp2_with fail
  go_loopw [3, 11] (fun s i wr => w = wr ∧ ((i = .int .i64 0 ∧ s = .int .i64 0) ∨ (i = .int .i64 1 ∧ s = .int .i64 (n1 : Int)) ∨ (i = .int .i64 2 ∧ s = .int .i64 ((n1 : Int) + (n2 : Int))))) (fun _ i _ => 3 - (intOf i).toNat)
  case atStart => exact ⟨rfl, Or.inl ⟨rfl, rfl⟩⟩
  case round =>
    obtain ⟨rfl, hrel⟩ := hrel
    rcases hrel with ⟨rfl, rfl⟩ | ⟨rfl, rfl⟩ | ⟨rfl, rfl⟩
    · have d1 : decide ((n1 : Int) < 0) = false := by simp
      go_wp2
      go_roundw
      case rel => exact ⟨trivial, Or.inr (Or.inl ⟨rfl, rfl⟩)⟩
      case measure => simp [intOf]
    · have d1 : decide ((n1 : Int) + (n2 : Int) < 0) = false := by simp; omega
      have wq : wrap64 ((n1 : Int) + (n2 : Int)) = (n1 : Int) + (n2 : Int) := by unfold wrap64; omega
      go_wp2
      go_roundw
      case rel => exact ⟨trivial, Or.inr (Or.inr ⟨rfl, rfl⟩)⟩
      case measure => simp [intOf]
    · obtain ⟨M, hM⟩ : ∃ M, n1 + n2 = M := ⟨_, rfl⟩
      have ea : (n1 : Int) + (n2 : Int) = (M : Int) := by omega
      rw [ea]
      clear ea
      go_wp2_with fail
      refine (lgrow_any M (by omega) (by omega) w).mono ?_
      rintro e w1 ⟨v1, rfl, ho, hb⟩
      have HO := Lib.hid (And.intro ho hb)
      have HL1 := Lib.hid H1.out.len
      have HL2 := Lib.hid H2.out.len
      clear ho hb
      go_wp2_with fail
      go_loopw [6, 27] (fun v i W => Below w.heap.size w W ∧ ((i = .int .i64 0 ∧ OwI w.heap.size W v []) ∨ (i = .int .i64 1 ∧ OwI w.heap.size W v xs) ∨ (i = .int .i64 2 ∧ OwI w.heap.size W v (xs ++ ys)))) (fun _ i _ => 3 - (intOf i).toNat)
      case atStart => exact ⟨HO.out.2, Or.inl ⟨rfl, HO.out.1⟩⟩
      case round =>
        clear HO
        obtain ⟨hbw, hrel⟩ := hrel
        have cg2 := (HG.out.below hbw).cells
        simp only [cellsAre, Nat.zero_add, Nat.reduceAdd, and_true] at cg2
        have HBW := Lib.hid hbw
        have hz := hbw.size
        clear hbw
        rcases hrel with ⟨rfl, ho⟩ | ⟨rfl, ho⟩ | ⟨rfl, ho⟩
        · have HO := Lib.hid ho
          clear ho
          go_wp2_with (at_builtin; refine wp_appE TIS TIN _ 1 8 int_info Tryd.underlying37 rfl (by omega) (by omega) rfl _ _ rfl w.heap.size _ 0 (ic []) rfl HO.out ⟨b1, o1, none⟩ n1 c1 (ic xs) rfl (by simp [ic, HL1.out]) (H1.out.below HBW.out).cells (ic_one _) (by omega) (by omega) hz ?_; intro v3 w3 hown3 hb3 _)
          have HN : OwI w.heap.size w3 v3 xs := by have h := OwI.cat (xs := []) HL1.out hown3; rw [List.nil_append] at h; exact h
          have HN2 := HBW.out.trans hb3
          clear hown3 hb3 HO HBW
          go_roundw
          case rel => exact ⟨HN2, Or.inr (Or.inl ⟨rfl, HN⟩)⟩
          case measure => simp [intOf]
        · have HO := Lib.hid ho
          clear ho
          go_wp2_with (at_builtin; refine wp_appE TIS TIN _ 1 8 int_info Tryd.underlying37 rfl (by omega) (by omega) rfl _ _ rfl w.heap.size _ xs.length (ic xs) rfl HO.out ⟨b2, o2, none⟩ n2 c2 (ic ys) rfl (by simp [ic, HL2.out]) (H2.out.below HBW.out).cells (ic_one _) (by have := HL1.out; omega) (by omega) hz ?_; intro v3 w3 hown3 hb3 _)
          have HN : OwI w.heap.size w3 v3 (xs ++ ys) := OwI.cat HL2.out hown3
          have HN2 := HBW.out.trans hb3
          clear hown3 hb3 HO HBW
          go_roundw
          case rel => exact ⟨HN2, Or.inr (Or.inr ⟨rfl, HN⟩)⟩
          case measure => simp [intOf]
        · have HO := Lib.hid ho
          clear ho
          go_wp2
          go_returns
          exact ⟨_, rfl, HO.out, HBW.out⟩
end Go.Proofs.Tb
