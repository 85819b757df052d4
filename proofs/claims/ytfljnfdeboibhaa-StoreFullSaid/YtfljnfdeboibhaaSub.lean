/- Contract of (*Store).free. -/
import Derived.Test.YtfljnfdeboibhaaSua
set_option linter.unusedVariables false
set_option linter.unusedSimpArgs false
namespace Go.Proofs.Tb
open Go.Maps Go.RowKit
attribute [local go_sem] cell_set_same neqMapL

abbrev TVE : TypeId := 101
abbrev TVS : TypeId := 102
theorem ins_last (k : Nat) : ∀ L : List Nat, (∀ x ∈ L, x < k) → DataW.insert (H := Unit) (kI k, .lit (.bool true)) (entB L) = entB (L ++ [k])
  | [], _ => rfl
  | x :: L, h => by
    have hx := h x List.mem_cons_self
    have hb : (kI k).before (.int .i64 (x : Int)) = false := by
      show decide ((k : Int) < (x : Int)) = false
      exact decide_eq_false (by omega)
    show (if (kI k).before (.int .i64 (x : Int)) = true then _ else _) = _
    rw [hb, if_neg Bool.false_ne_true]
    have ih := ins_last k L fun y hy => h y (List.mem_cons_of_mem _ hy)
    exact congrArg (fun l => (Lit.int .i64 (x : Int), DataW.lit (Lit.bool true)) :: l) ih
set_option maxRecDepth 100000 in
theorem MkB.put {w : World} {b n : Nat} {L : List Nat} (h : MkB w b n L) {k : Nat} (hk : k ≤ 1000000000) (hL : ∀ x ∈ L, x < k) (hn : n ≤ 1000000) : ∃ w', (Instr.mapUpdate TMB (.map (some b)) (.int .i64 (k : Int)) (.bool true)).run Try.prog w = .ok () w' ∧ MkB w' b (n + 1) (L ++ [k]) ∧ w.grownBy w' (some b) := by
  obtain ⟨w', hrun, h2, h3⟩ := World.ownsMap.store (H := Unit) h lawI Try.underlying141 (by unfold maxLen; omega) (keyI k hk) (plainElem_bool Try.underlying4 true)
  refine ⟨w', hrun, ?_, h3.grown⟩
  have e : (DataW.map (entB L)).put (.int .i64 (k : Int)) (.lit (.bool true)) = (.map (entB (L ++ [k])) : DataW Unit) := by
    unfold DataW.put
    simp only [DataW.map.injEq]
    rw [show (entB L).filter (fun p => !p.1.sameKey (.int .i64 (k : Int))) = entB L from List.filter_eq_self.2 fun p hp => by
      obtain ⟨x, hx, rfl⟩ := List.mem_map.1 hp
      have := hL x hx
      simp [Lit.sameKey]
      omega]
    exact ins_last k L hL
  rw [e] at h2
  exact h2
/-- What stands free behind some versions. -/
def frF (B : Nat → Nat) (vs : List (Nat × MT)) (L : List Nat) : List Nat := vs.foldl (fun L v => v.2.unf B L) L
theorem unf_sub (B : Nat → Nat) : ∀ (t : MT) (L : List Nat), (t.unf B L).Sublist L
  | .nil, L => List.Sublist.refl L
  | .node g k v l r, L => by
    unfold MT.unf
    split
    · exact (unf_sub B r _).trans ((unf_sub B l _).trans List.filter_sublist)
    · exact List.Sublist.refl L
theorem frF_sub (B : Nat → Nat) : ∀ (vs : List (Nat × MT)) (L : List Nat), (frF B vs L).Sublist L
  | [], L => List.Sublist.refl L
  | v :: vs, L => (frF_sub B vs (v.2.unf B L)).trans (unf_sub B v.2 L)
theorem frF_take {B : Nat → Nat} {vs : List (Nat × MT)} {L : List Nat} {i : Nat} (hi : i < vs.length) : frF B (vs.take (i + 1)) L = (vs[i]).2.unf B (frF B (vs.take i) L) := by
  rw [List.take_succ_eq_append_getElem hi]
  unfold frF
  rw [List.foldl_append]
  rfl
/-- Blocks from 2 on. -/
def upB (j : Nat) : List Nat := List.range' 2 j
theorem upB_lt {j x : Nat} (h : x ∈ upB j) : x < 2 + j := by
  unfold upB at h
  have := List.mem_range'_1.1 h
  omega
theorem upB_succ (j : Nat) : upB (j + 1) = upB j ++ [2 + j] := by
  unfold upB
  rw [List.range'_concat]
  simp
theorem upB_pair (j : Nat) : (upB j).Pairwise (· < ·) := by unfold upB; exact List.pairwise_lt_range'
/-- The cells of versions. -/
def vc (vs : List (Nat × MT)) : List Value := (vs.map fun v => [Value.int .i64 (v.1 : Int), .pointer v.2.ad]).flatten
theorem vc_len : ∀ vs : List (Nat × MT), (vc vs).length = vs.length * 2
  | [] => rfl
  | v :: vs => by
    have := vc_len vs
    unfold vc at this ⊢
    simp only [List.map_cons, List.flatten_cons, List.length_append, List.length_cons, List.length_nil]
    omega
theorem vc_at : ∀ (vs : List (Nat × MT)) (i : Nat) (hi : i < vs.length), (vc vs)[i * 2]? = some (.int .i64 ((vs[i]).1 : Int)) ∧ (vc vs)[i * 2 + 1]? = some (.pointer (vs[i]).2.ad)
  | v :: vs, 0, _ => ⟨rfl, rfl⟩
  | v :: vs, i + 1, hi => by
    have := vc_at vs i (by simpa using hi)
    have e : vc (v :: vs) = .int .i64 (v.1 : Int) :: .pointer v.2.ad :: vc vs := rfl
    rw [e, show (i + 1) * 2 = i * 2 + 1 + 1 by omega, show i * 2 + 1 + 1 + 1 = (i * 2 + 1) + 1 + 1 by omega]
    simp only [List.getElem?_cons_succ, List.getElem_cons_succ]
    exact this
theorem MkB.ext {w w' : World} {b n : Nat} {L : List Nat} (h : MkB w b n L) (hx : Ext w w') : MkB w' b n L := World.ownsMap.kept h (row := none) ⟨hx.os, hx.tape, hx.output, hx.size, fun k hk _ => hx.block k hk⟩ (by simp)
theorem ext_grow {w w1 w2 : World} {b : Nat} (h : Ext w w1) (hg : w1.grownBy w2 (some b)) (hb : w.heap.size ≤ b) : Ext w w2 :=
  Below.trans h ⟨hg.os, hg.tape, hg.output, hg.size, fun k hk => hg.block k (by have := Ext.size h; omega) (fun e => by injection e with e; omega)⟩
set_option maxHeartbeats 6400000 in
set_option maxRecDepth 100000 in
theorem rfree_any (B : Nat → Nat) (Q : Nat → Prop) (hB : ∀ g, B g ≤ 1000000) (s d : Nat) (keep : Int) (A A' : Option Addr) (m c n c' mm : Nat) (br down : Bool) (left : Nat) (vs : List (Nat × MT)) (w : World)
    (hs : Blk w s TSE #[.pointer (some ⟨d, 0, none⟩), .int .i64 keep, .slice A m c, .bool br]) (hv : Rv w 2 A m c (vc vs)) (ht : ∀ v ∈ vs, TrW w B Q v.2) (hd : Blk w d TDK #[.slice A' n c', .map (some mm), .bool down, .int .i64 (left : Int)]) (hn : 2 ≤ n) (hn2 : n ≤ 4096) (hm : m ≤ 1000) :
    Calls Try.prog 52 #[.pointer (some ⟨s, 0, none⟩)] w (Ret (fun v w' => w'.ownsRow w.heap.size TIN 1 v (frF B vs (upB (n - 2))).length (ri (frF B vs (upB (n - 2))))) w) := by
  have hml : vs.length = m := by have := hv.len; rw [vc_len] at this; omega
  have hle := hv.le
  have hcp := hv.cap
  have HS := Lib.hid hs
  have HV := Lib.hid hv
  have HT := Lib.hid ht
  have HD := Lib.hid hd
  have HML := Lib.hid hml
  have hmm := @run_makeMap Try.prog
  clear hs hv ht hd hml
  go_enter Try.func52, Try.ntmps52
  go_wp2_with fail
  obtain ⟨M, hM⟩ : ∃ M, w.heap.size = M := ⟨_, rfl⟩
  have hm0 : MkB (w.alloc (.map #[] 0)) M 0 (upB 0) := by rw [← hM]; exact World.ownsMap_made _ _ _ _
  have H0 := Lib.hid (And.intro hm0 (Ext.allocR w (.map #[] 0)))
  rw [hM]
  have HM := Lib.hid hM
  clear hm0 hM hmm
  go_loopw [4] (fun i wr => ∃ j : Nat, 2 + j ≤ n ∧ i = .int .i64 ((2 + j : Nat) : Int) ∧ MkB wr M j (upB j) ∧ Ext w wr) (fun i _ => n - (intOf i).toNat)
  case atStart => exact ⟨0, by omega, rfl, H0.out⟩
  case round =>
    clear H0
    obtain ⟨j, hj, rfl, hmk, hx⟩ := hrel
    have HX := Lib.hid hx
    have HK := Lib.hid hmk
    have ks := (HS.out.below hx).cells
    simp only [cellsAre, Nat.zero_add, Nat.reduceAdd, and_true] at ks
    clear hmk hx
    obtain ⟨i, hi⟩ : ∃ i, 2 + j = i := ⟨_, rfl⟩
    rw [hi] at hj ⊢
    have HI := Lib.hid hi
    clear hi
    go_wp2_with fail
    refine (rblocks_any d mm A' n c' down left wr (HD.out.below HX.out) (by omega)).mono ?_
    rintro e w1 ⟨z1, rfl, rfl, b1⟩
    have X1 := Lib.hid (show Ext wr w1 from b1)
    have hk1 : MkB w1 M j (upB j) := World.ownsMap.kept HK.out (row := none) ⟨b1.os, b1.tape, b1.output, b1.size, fun k hk _ => b1.block k hk⟩ (by simp)
    have K1 := Lib.hid hk1
    clear b1 hk1 HK ks
    by_cases hin : i < n
    · have pj : (i : Int) < (n : Int) := by omega
      obtain ⟨w2, hupd, hk2, hg2⟩ := K1.out.put (k := i) (by omega) (fun x hx => by have := upB_lt hx; have := HI.out; omega) (by have := HI.out; omega)
      have hX2 : Ext w w2 := (Below.trans (bt HX.out X1.out) ⟨hg2.os, hg2.tape, hg2.output, hg2.size, fun k hk => hg2.block k (by have := Ext.size (bt HX.out X1.out); omega) (fun e => by injection e with e; have := HM.out; omega)⟩)
      have HZ := Lib.hid (And.intro (show MkB w2 M (j + 1) (upB (j + 1)) by rw [upB_succ, HI.out]; exact hk2) hX2)
      clear hk2 hg2 hX2
      go_wp2
      go_roundw
      case rel => exact ⟨j + 1, by have := HI.out; omega, by have := HI.out; go_num, HZ.out⟩
      case measure => simp [intOf]; omega
    · obtain rfl : i = n := by omega
      have hjn : i - 2 = j := by have := HI.out; omega
      have HJ := Lib.hid hjn
      have ks1 := (HS.out.below (bt HX.out X1.out)).cells
      simp only [cellsAre, Nat.zero_add, Nat.reduceAdd, and_true] at ks1
      clear hjn
      have HZ0 := Lib.hid (And.intro K1.out (bt HX.out X1.out))
      go_wp2_with fail
      go_loopw [24] (fun q wr => ∃ j : Nat, j ≤ m ∧ q = .int .i64 (j : Int) ∧ MkB wr M (i - 2) (frF B (vs.take j) (upB (i - 2))) ∧ Ext w wr) (fun q _ => m - (intOf q).toNat)
      case atStart => exact ⟨0, by omega, rfl, by rw [HJ.out, List.take_zero]; exact HZ0.out.1, HZ0.out.2⟩
      case round =>
        clear HZ0 ks1
        obtain ⟨q, hq, rfl, hmk, hx⟩ := hrel
        have HX2 := Lib.hid hx
        have HK2 := Lib.hid hmk
        clear hmk
        by_cases hqm : q < m
        · have pq : (q : Int) < (m : Int) := by omega
          obtain ⟨b, o, rfl, hc⟩ := (HV.out.below hx).at_ (by omega)
          have hqv : q < vs.length := by rw [HML.out]; exact hqm
          obtain ⟨c1, c2⟩ := vc_at vs q hqv
          have k1 := hc _ _ c1
          have k2 := hc _ _ c2
          rw [← Nat.add_assoc] at k2
          have ht := HT.out _ (List.getElem_mem hqv)
          have HN := Lib.hid (frF_take (B := B) (L := upB (i - 2)) hqv)
          obtain ⟨v, hv⟩ : ∃ v, vs[q] = v := ⟨_, rfl⟩
          rw [hv] at k1 k2 ht HN
          have T2 := Lib.hid (ht.below hx)
          obtain ⟨v1, v2⟩ := v
          clear hc c1 c2 ht hv hx hqv
          go_wp2_with fail
          have xa : Ext wr (wr.alloc (.cells #[.int .i64 (v1 : Int), .pointer v2.ad] TVE)) := Ext.allocR _ _
          have HXA := Lib.hid (bt HX2.out xa)
          refine (runfree_any B Q hB M (i - 2) v2 (frF B (List.take q vs) (upB (i - 2))) _ (T2.out.below xa) (HK2.out.ext xa)).mono ?_
          rintro e w3 ⟨⟨z3, rfl⟩, hm3, hg3⟩
          have HZ := Lib.hid (And.intro (show MkB w3 M (i - 2) (frF B (vs.take (q + 1)) (upB (i - 2))) by rw [HN.out]; exact hm3) (ext_grow HXA.out hg3 (by rw [HM.out]; exact Nat.le_refl _)))
          clear xa hm3 hg3 k1 k2
          go_wp2
          go_roundw
          case rel => exact ⟨q + 1, by omega, by go_num, HZ.out⟩
          case measure => simp [intOf]; omega
        · obtain rfl : q = m := by omega
          have HK3 := Lib.hid (show MkB wr M (i - 2) (frF B vs (upB (i - 2))) by
            have h := HK2.out
            rw [List.take_of_length_le (by rw [HML.out]; exact Nat.le_refl _)] at h
            exact h)
          have HLE := Lib.hid (show (frF B vs (upB (i - 2))).length ≤ 1000000 by
            have h := (frF_sub B vs (upB (i - 2))).length_le
            unfold upB at h ⊢
            rw [List.length_range'] at h
            omega)
          clear hx
          go_wp2_with fail
          refine (rkeysB_any M wr).mono ?_
          rintro e w3 ⟨z3, rfl, ⟨rfl, hb3, hx3⟩, b3⟩
          have HB3 := Lib.hid hb3
          have HX3 := Lib.hid hx3
          clear hb3 hx3 b3
          go_wp2_with fail
          refine (rsortedB_any wr.heap.size M (i - 2) (frF B vs (upB (i - 2))) w3 HB3.out (HK3.out.ext HX3.out) ((upB_pair _).sublist (frF_sub B vs _)) HLE.out).mono ?_
          rintro e w4 ⟨z4, rfl, ho4, b4⟩
          have HZ := Lib.hid (And.intro (own_lower ho4 (Ext.size (bt HX2.out HX3.out))) (bt HX2.out (bt HX3.out b4)))
          obtain ⟨A4, c4, hz4, _⟩ := own_rv ho4
          obtain ⟨q4, hq4⟩ : ∃ q4, (frF B vs (upB (i - 2))).length = q4 := ⟨_, rfl⟩
          rw [hq4] at hz4
          subst hz4
          clear ho4 b4 hq4
          go_wp2
          go_returns
          exact ⟨_, rfl, HZ.out.1, HZ.out.2⟩
end Go.Proofs.Tb
