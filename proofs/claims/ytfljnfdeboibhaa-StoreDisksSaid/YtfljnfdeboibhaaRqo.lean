/- The reference's disk: Write refused, Arm; blocked. -/
import Derived.Test.YtfljnfdeboibhaaRqn
set_option linter.unusedVariables false
set_option linter.unusedSimpArgs false
namespace Go.Proofs.Tb
open Go.Maps Go.RowKit Go.Lib
attribute [local go_sem] cell_set_same neqMapL

set_option maxHeartbeats 1600000 in
set_option maxRecDepth 100000 in
theorem zwrite_dn {w : World} {v : Value} {bl : List (List (List Nat))} {left : Nat} (h : RdV w v bl true left) (k : Int) (A2 : Option Addr) (n2 c2 : Nat) :
    Calls Try.prog 42 #[v, .int .i64 k, .slice A2 n2 c2] w (Ret (fun z w' => z = .tuple #[v, .int .i64 9] ∧ RdV w' v bl true left) w) := by
  have HH := Lib.hid h
  obtain ⟨A, n, c, a, lf, rfl, ho, h3⟩ := h
  clear h3 ho
  unfold rdk at HH ⊢
  go_enter Try.func42, Try.ntmps42
  go_wp2
  (try simp only [Exit.inBlock, Exit.then])
  refine bodyPost_ret (v := (.tuple #[.agg #[.slice A n c, .bool true, .bool a, .int .i64 lf], .int .i64 9])) (by simp [results, Try.results42, go_sem, *]) rfl ?_
  have x9 : Ext w ((w.alloc (.cells #[.slice A n c, .bool true, .bool a, .int .i64 lf] TRD)).alloc (.cells #[.slice A n c, .bool true, .bool a, .int .i64 lf] TRD)) := bt (Ext.allocR _ _) (Ext.allocR _ _)
  exact ⟨_, rfl, ⟨rfl, HH.out.ext x9⟩, x9⟩
set_option maxHeartbeats 1600000 in
set_option maxRecDepth 100000 in
theorem zwrite_bad {w : World} {v : Value} {bl : List (List (List Nat))} {left : Nat} (h : RdV w v bl false left) (k : Int) (A2 : Option Addr) (n2 c2 : Nat) (hn2 : n2 ≤ 1000) (hk : k < 0 ∨ (bl.length : Int) ≤ k ∨ n2 ≠ 64) :
    Calls Try.prog 42 #[v, .int .i64 k, .slice A2 n2 c2] w (Ret (fun z w' => z = .tuple #[v, .int .i64 1] ∧ RdV w' v bl false left) w) := by
  have HH := Lib.hid h
  obtain ⟨A, n, c, a, lf, rfl, ho, h3⟩ := h
  obtain ⟨hn, hle, hcp⟩ := ho.len
  rw [← hn] at hk
  clear h3 ho hn
  unfold rdk at HH ⊢
  have x9 : Ext w ((w.alloc (.cells #[.slice A n c, .bool false, .bool a, .int .i64 lf] TRD)).alloc (.cells #[.slice A n c, .bool false, .bool a, .int .i64 lf] TRD)) := bt (Ext.allocR _ _) (Ext.allocR _ _)
  have X9 := Lib.hid x9
  clear x9
  go_enter Try.func42, Try.ntmps42
  by_cases h0 : k < 0
  · clear hk
    go_wp2
    (try simp only [Exit.inBlock, Exit.then])
    refine bodyPost_ret (v := (.tuple #[.agg #[.slice A n c, .bool false, .bool a, .int .i64 lf], .int .i64 1])) (by simp [results, Try.results42, go_sem, *]) rfl ?_
    exact ⟨_, rfl, ⟨rfl, HH.out.ext X9.out⟩, X9.out⟩
  · by_cases h1 : (n : Int) ≤ k
    · clear hk
      go_wp2
      (try simp only [Exit.inBlock, Exit.then])
      refine bodyPost_ret (v := (.tuple #[.agg #[.slice A n c, .bool false, .bool a, .int .i64 lf], .int .i64 1])) (by simp [results, Try.results42, go_sem, *]) rfl ?_
      exact ⟨_, rfl, ⟨rfl, HH.out.ext X9.out⟩, X9.out⟩
    · have h2 : ¬ ((n2 : Int) = 64) := by omega
      clear hk
      go_wp2
      (try simp only [Exit.inBlock, Exit.then])
      refine bodyPost_ret (v := (.tuple #[.agg #[.slice A n c, .bool false, .bool a, .int .i64 lf], .int .i64 1])) (by simp [results, Try.results42, go_sem, *]) rfl ?_
      exact ⟨_, rfl, ⟨rfl, HH.out.ext X9.out⟩, X9.out⟩
theorem zarm_any {w : World} {v : Value} {bl : List (List (List Nat))} {down : Bool} {left : Nat} (h : RdV w v bl down left) (k : Int) :
    Calls Try.prog 38 #[v, .int .i64 k] w (Ret (fun z w' => RdV w' z bl down (if down = true then left else (max 0 k).toNat)) w) := by
  obtain ⟨A, n, c, a, lf, rfl, ho, h3⟩ := h
  cases down with
  | true =>
    refine (zarm_dn A n c a lf k w).mono ?_
    rintro e w' ⟨z, rfl, rfl, b⟩
    exact ⟨_, rfl, ⟨A, n, c, a, lf, rfl, ho.ext b, fun h => absurd h (by decide)⟩, b⟩
  | false =>
    refine (zarm_up A n c a lf k w).mono ?_
    rintro e w' ⟨z, rfl, rfl, b⟩
    refine ⟨_, rfl, ⟨A, n, c, _, _, rfl, ho.ext b, fun _ => ?_⟩, b⟩
    rw [if_neg (by decide)]
    refine ⟨?_, fun h => by omega⟩
    by_cases hk : 1 ≤ k
    · rw [decide_eq_true hk, decide_eq_true (by omega)]
    · rw [decide_eq_false hk, decide_eq_false (by omega)]
theorem DW.ne {F : Nat → Prop} {w : World} {d : Nat} {bl : List (List (List Nat))} {down : Bool} {left : Nat} (h : DW F w d bl down left) {k : Nat} (hk : k < bl.length) : bl.getD k [] ≠ [] := by
  obtain ⟨g, h1, _⟩ := h
  exact h1.ne k (by rw [List.length_map]; exact hk)
theorem DW.lft {F : Nat → Prop} {w : World} {d : Nat} {bl : List (List (List Nat))} {down : Bool} {left : Nat} (h : DW F w d bl down left) : left ≤ 9223372036854775807 := by
  obtain ⟨g, h1, _⟩ := h
  exact h1.lft
set_option maxHeartbeats 3200000 in
set_option maxRecDepth 100000 in
theorem rblocked_any {F : Nat → Prop} {w : World} {d : Nat} {r : Value} {bl : List (List (List Nat))} {down : Bool} {left l2 : Nat} (hd : DW F w d bl down left) (hr : RdV w r bl down l2) (hb : bl.length ≤ 1000) (hfew : ∀ k, (bl.getD k []).length ≤ 100000) :
    Calls Try.prog 45 #[.pointer (some ⟨d, 0, none⟩), r] w (Ret (fun z _ => z = .bool true) w) := by
  have HD := Lib.hid hd
  have HR := Lib.hid hr
  have HFEW := Lib.hid hfew
  obtain ⟨A, n, c, a, lf, rfl, ho, h3⟩ := hr
  obtain ⟨hn, hle, hcp⟩ := ho.len
  have HN := Lib.hid hn
  have hn2 : n ≤ 1000 := by omega
  clear hd hb hfew ho h3 hn
  unfold rdk at HR ⊢
  go_enter Try.func45, Try.ntmps45
  go_upto_region 1 with fail
  obtain ⟨H, hH⟩ : ∃ H, w.heap.size = H := ⟨_, rfl⟩
  refine wp_world (fun W => SD w H #[.slice A n c, .bool down, .bool a, .int .i64 lf] W) ⟨Ext.allocR _ _, Blk.new_ _ _ hH⟩ ?_
  rw [hH]
  rintro W hs
  have HS := Lib.hid hs
  clear hs hH
  go_wp2_with fail
  go_loopw [5] (fun i wr => ∃ j : Nat, j ≤ n ∧ i = .int .i64 (j : Int) ∧ SD w H #[.slice A n c, .bool down, .bool a, .int .i64 lf] wr) (fun i _ => n - (intOf i).toNat)
  case atStart => exact ⟨0, by omega, rfl, HS.out⟩
  case round =>
    clear HS
    obtain ⟨j, hj, rfl, hs⟩ := hrel
    obtain ⟨W4, rfl⟩ : ∃ W4, W4 = wr := ⟨_, rfl⟩
    have HS := Lib.hid hs
    have kb := hs.2.cells
    simp only [cellsAre, Nat.zero_add, Nat.reduceAdd, and_true] at kb
    clear hs
    by_cases hjn : j < n
    · have pj : (j : Int) < (n : Int) := by omega
      have wj : IntKind.i64.wrap ((j : Int) + 1) = ((j + 1 : Nat) : Int) := by rw [IntWalk.i64_in _ (by omega)]; rfl
      have hjl : j < bl.length := by rw [← HN.out]; exact hjn
      have HJL := Lib.hid hjl
      clear hjl
      cases down with
      | true =>
        go_wp2_with fail
        refine (rread_dn (HD.out.ext HS.out.1) (j : Int)).mono ?_
        rintro e w1 ⟨z1, rfl, rfl, b1⟩
        have HS1 := Lib.hid (HS.out.ext b1)
        have kb := HS1.out.2.cells
        simp only [cellsAre, Nat.zero_add, Nat.reduceAdd, and_true] at kb
        clear b1
        go_wp2_with fail
        refine (zread_dn (HR.out.ext HS1.out.1) (j : Int)).mono ?_
        rintro e w2 ⟨z2, rfl, rfl, b2⟩
        have HS2 := Lib.hid (HS1.out.ext b2)
        have hcv := run_convert_bytes_nil (P := Try.prog) w2 TBY TU8 Try.underlying44 Try.underlying5 0 0 9 Try.underlying9
        clear b2
        go_wp2_with fail
        exact ⟨⟨j + 1, by omega, by go_num, HS2.out⟩, by simp [intOf]; omega⟩
      | false =>
        go_wp2_with fail
        refine (rread_ok (HD.out.ext HS.out.1) HJL.out).mono ?_
        rintro e w1 ⟨z1, rfl, ⟨A1, c1, rfl, ob⟩, b1⟩
        have HS1 := Lib.hid (HS.out.ext b1)
        have kb := HS1.out.2.cells
        simp only [cellsAre, Nat.zero_add, Nat.reduceAdd, and_true] at kb
        have OB := Lib.hid ob
        clear ob b1
        obtain ⟨y, hy⟩ : ∃ y, (bl.getD j []).getLastD z64 = y := ⟨_, rfl⟩
        rw [hy] at OB
        have HY := Lib.hid hy
        clear hy
        go_wp2_with fail
        refine (zread_ok (HR.out.ext HS1.out.1) HJL.out (by rw [← HN.out]; omega) (HD.out.ne HJL.out) (Nat.le_trans (HFEW.out j) (by omega))).mono ?_
        rintro e w2 ⟨z2, rfl, rfl, b2⟩
        rw [HY.out]
        have HS2 := Lib.hid (HS1.out.ext b2)
        have hlen := OB.out.len64
        have hrv := OwB.rv (own_below OB.out b2)
        obtain ⟨b0, o0, rfl, hc0⟩ := hrv.at_ (by omega)
        have hcv := run_convert_bytes_arg (P := Try.prog) w2 TBY TU8 Try.underlying44 Try.underlying5 b0 o0 64 c1 (y.map fun (x : Nat) => (x : Int)) (by rw [List.length_map]; exact hlen) (fun i hi => hc0 i _ (by
          unfold bc
          rw [List.getElem?_map, List.getD_eq_getElem?_getD, List.getElem?_map, List.getElem?_eq_getElem (by omega)]
          rfl)) 9 Try.underlying9
        obtain ⟨x, hx⟩ : ∃ x, sb y = x := ⟨_, rfl⟩
        rw [show strOfNums (y.map fun (x : Nat) => (x : Int)) = x from hx] at hcv
        rw [hx]
        clear b2 hrv hc0 hlen hx OB
        go_wp2_with fail
        exact ⟨⟨j + 1, by omega, by go_num, HS2.out⟩, by simp [intOf]; omega⟩
    · obtain rfl : j = n := by omega
      go_wp2_with fail
      go_returns
      exact ⟨_, rfl, rfl, HS.out.1⟩
end Go.Proofs.Tb
