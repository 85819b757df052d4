/- Contracts of package wide: fractions: Ratio. -/
import Derived.Test.YtcbffkkcldnegaaWideI
set_option linter.unusedVariables false
set_option linter.unusedSimpArgs false
namespace Go.Proofs.Tb
open Go.RowKit
attribute [local go_sem] cell_set_same
attribute [local go_sem ↓] Go.wp_at_zero Go.wp_at_succ

/-- The type wide.Rat. -/
abbrev TR : TypeId := 89
/-- A wide.Rat's value reads as p/q. -/
def WQ (w : World) (v : Value) (p q : Int) : Prop := ∃ A n c A' n' c', v = .agg #[.bool (ng p), .slice A n c, .bool (ng q), .slice A' n' c'] ∧ Sl TU w A n c (L p.natAbs) ∧ Sl TU w A' n' c' (L q.natAbs) ∧ 0 < q
theorem WQ.below {w w' : World} {v : Value} {p q : Int} (h : WQ w v p q) (hb : Below w.heap.size w w') : WQ w' v p q := by
  obtain ⟨A, n, c, A', n', c', hv, h1, h2, hq⟩ := h
  exact ⟨A, n, c, A', n', c', hv, h1.below hb, h2.below hb, hq⟩
/-- What Ratio makes of a numerator and a denominator. -/
def rn (n d : Int) : Int := if d < 0 then -n else n
def rd (d : Int) : Int := (d.natAbs : Int)
theorem sz_rn (n d : Int) : sz (rn n d) = sz n := by unfold rn; split; exact sz_neg n; rfl
theorem sz_rd (d : Int) : sz (rd d) = sz d := by unfold rd sz; simp
theorem rd_pos {d : Int} (h : d ≠ 0) : 0 < rd d := by unfold rd; omega

set_option maxHeartbeats 1600000 in
theorem wratio_any (v v' : Value) (x y : Int) (w : World) (h : WI w v x) (h' : WI w v' y) (hy : y ≠ 0) :
    Calls Try.prog 57 #[v, v'] w (Ret (fun v w' => WQ w' v (rn x y) (rd y)) w) := by
  obtain ⟨A, n, c, rfl, h⟩ := h
  obtain ⟨A', n', c', rfl, h'⟩ := h'
  have H := Lib.hid h
  have H' := Lib.hid h'
  clear h h'
  obtain ⟨s, hsx⟩ : ∃ s, ng x = s := ⟨_, rfl⟩
  by_cases hy0 : y < 0
  · have hs : ng y = true := by unfold ng; simpa using hy0
    have HN := Lib.hid (show rn x y = -x by unfold rn; rw [if_pos hy0])
    have HD := Lib.hid (show rd y = -y by unfold rd; omega)
    have HSX := Lib.hid hsx
    have HY := Lib.hid hs
    rw [hsx, hs]
    clear hs hy hy0 hsx
    go_enter Try.func57, Try.ntmps57
    go_wp2
    refine wp_world (fun W0 => Blk W0 w.heap.size TI #[.bool s, .slice A n c] ∧ Blk W0 (w.heap.size + 1) TI #[.bool true, .slice A' n' c'] ∧ Blk W0 (w.heap.size + 1 + 1) TR #[.bool false, .slice none 0 0, .bool false, .slice none 0 0] ∧ Below w.heap.size w W0) (by exact ⟨((Blk.new_ _ _ rfl).alloc _).alloc _, (Blk.new_ _ _ (by simp)).alloc _, Blk.new_ _ _ (by simp), by go_grown⟩) ?_
    rintro W0 ⟨b0, b1, b2, hbw⟩
    have k0 := fun w' (hh : Ext W0 w') => (b0.below hh).cells
    have k1 := fun w' (hh : Ext W0 w') => (b1.below hh).cells
    have k2 := fun w' (hh : Ext W0 w') => (b2.below hh).cells
    have f0 := fun w' (hh : Ext W0 w') => (b0.below hh).free
    have f1 := fun w' (hh : Ext W0 w') => (b1.below hh).free
    have f2 := fun w' (hh : Ext W0 w') => (b2.below hh).free
    simp only [cellsAre, Nat.zero_add, Nat.reduceAdd, and_true] at k0 k1 k2
    have B0 := Lib.hid b0
    have B1 := Lib.hid b1
    have B2 := Lib.hid b2
    have hh0 : Ext W0 W0 := Ext.refl _
    clear b0 b1 b2
    go_region_with (first | (go_at_call 98; have tk := hh1; refine (wneg_any _ y _ ⟨_, _, _, (by rw [HY.out]), (H'.out.below hbw.drew).below hb1⟩).mono ?_; rintro e w2 ⟨v2, rfl, ⟨A2, n2, c2, rfl, h2⟩, hb2⟩; have hh2 : Ext W0 w2 := bt hh1 hb2) | (go_at_call 98; refine (wneg_any _ x _ ⟨_, _, _, (by rw [HSX.out]), H.out.below hbw.drew⟩).mono ?_; rintro e w1 ⟨v1, rfl, ⟨A1, n1, c1, rfl, h1⟩, hb1⟩; have hh1 : Ext W0 w1 := bt (Ext.drew W0) hb1))
    all_goals
      go_wp2
      have kk0 := k0 w2 hh2
      have kk1 := k1 w2 hh2
      have kk2 := k2 w2 hh2
      clear k0 k1 k2 f0 f1 f2
      (try simp only [Exit.inBlock, Exit.then])
      refine bodyPost_ret (v := .agg #[.bool (ng (-x)), .slice A1 n1 c1, .bool (ng (-y)), .slice A2 n2 c2]) (by simp [results, Try.results57, go_sem, kk0, kk1, kk2]) rfl ?_
      have hM : HeldM [(w.heap.size, 2, TI), (w.heap.size + 1, 2, TI), (w.heap.size + 1 + 1, 4, TR)] w2 w2 := by
        refine ⟨rfl, rfl, rfl, Nat.le_refl _, fun _ _ _ => rfl, ?_, ?_⟩
        all_goals
          intro r hr
          simp only [List.mem_cons, List.not_mem_nil, or_false] at hr
          rcases hr with rfl | rfl | rfl
          · exact ⟨_, B0.out.below hh2, rfl⟩
          · exact ⟨_, B1.out.below hh2, rfl⟩
          · exact ⟨_, B2.out.below hh2, rfl⟩
      have m0 : ∃ r, r ∈ [(w.heap.size, 2, TI), (w.heap.size + 1, 2, TI), (w.heap.size + 1 + 1, 4, TR)] ∧ r.1 = w.heap.size := ⟨_, .head _, rfl⟩
      have m1 : ∃ r, r ∈ [(w.heap.size, 2, TI), (w.heap.size + 1, 2, TI), (w.heap.size + 1 + 1, 4, TR)] ∧ r.1 = w.heap.size + 1 := ⟨_, .tail _ (.head _), rfl⟩
      have m2 : ∃ r, r ∈ [(w.heap.size, 2, TI), (w.heap.size + 1, 2, TI), (w.heap.size + 1 + 1, 4, TR)] ∧ r.1 = w.heap.size + 1 + 1 := ⟨_, .tail _ (.tail _ (.head _)), rfl⟩
      have hF := ((((((((hM.set_ m0 0 (.bool (ng (-x)))).set_ m0 1 (.slice A1 n1 c1)).set_ m1 0 (.bool (ng (-y)))).set_ m1 1 (.slice A2 n2 c2)).set_ m2 0 (.bool (ng (-x)))).set_ m2 1 (.slice A1 n1 c1)).set_ m2 2 (.bool (ng (-y)))).set_ m2 3 (.slice A2 n2 c2))
      have hne : ∀ r, r ∈ [(w.heap.size, 2, TI), (w.heap.size + 1, 2, TI), (w.heap.size + 1 + 1, 4, TR)] → TU ≠ r.2.2 := by
        intro r hr
        simp only [List.mem_cons, List.not_mem_nil, or_false] at hr
        rcases hr with rfl | rfl | rfl <;> first | exact (by decide : TU ≠ TI) | exact (by decide : TU ≠ TR)
      refine ⟨_, rfl, ⟨A1, n1, c1, A2, n2, c2, ?_, ?_, ?_, ?_⟩, hF.below (bt hbw hh2) ?_⟩
      · rw [HN.out, HD.out]
      · rw [HN.out]; exact (h1.below hb2).heldM hF hne
      · rw [HD.out]; exact h2.heldM hF hne
      · have := HY.out; unfold ng at this; simp at this; have := HD.out; omega
      · intro r hr
        simp only [List.mem_cons, List.not_mem_nil, or_false] at hr
        rcases hr with rfl | rfl | rfl <;> simp <;> omega
  · have hs : ng y = false := by unfold ng; simpa using hy0
    have HN := Lib.hid (show rn x y = x by unfold rn; rw [if_neg hy0])
    have HD := Lib.hid (show rd y = y by unfold rd; omega)
    have HY := Lib.hid hs
    have HYP := Lib.hid (show 0 < y by omega)
    have HSX := Lib.hid hsx
    rw [hsx, hs]
    clear hs hy hy0 hsx
    go_enter Try.func57, Try.ntmps57
    go_wp2
    go_returns
    have hb : Below w.heap.size w (((w.alloc (.cells #[.bool s, .slice A n c] TI)).alloc (.cells #[.bool false, .slice A' n' c'] TI)).alloc (.cells #[.bool s, .slice A n c, .bool false, .slice A' n' c'] TR)) := by go_grown
    exact ⟨_, rfl, ⟨A, n, c, A', n', c', by rw [HN.out, HD.out, HSX.out, HY.out], by rw [HN.out]; exact H.out.below hb, by rw [HD.out]; exact H'.out.below hb, by rw [HD.out]; exact HYP.out⟩, hb⟩
end Go.Proofs.Tb
