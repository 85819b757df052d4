/- The reference's read: a plan read from the front. -/
import Derived.Test.YtcjddfhhofoidaaDoorEna
import Derived.Test.YtcjddfhhofoidaaDoorApx
set_option linter.unusedVariables false
set_option linter.unusedSimpArgs false
namespace Go.Proofs.Tb
open Go.RowKit
attribute [local go_sem] cell_set_same

theorem rdF_end {ts : List Tt} {f : Nat} {set way bs : List Int} {rest : List Tt} (h : ∀ k, k < ts.length → spB (tS ts k) set = false) : rdF ts (f + 1) set way ((-1, bs) :: rest) = if bs = set then some ([(set, way)], rest) else none := by
  unfold rdF
  rw [if_pos rfl, if_neg]
  intro ha
  obtain ⟨t, ht, hs⟩ := List.any_eq_true.1 ha
  obtain ⟨k, hk, rfl⟩ := List.getElem_of_mem ht
  have e : tS ts k = ts[k].2 := by simp [tS, List.getD, hk]
  have := h k hk
  rw [e, hs] at this
  cases this
theorem rdF_bad {ts : List Tt} {f : Nat} {set way bs : List Int} {rest : List Tt} {k : Nat} (hk : k < ts.length) (h : spB (tS ts k) set = true) : rdF ts (f + 1) set way ((-1, bs) :: rest) = none := by
  unfold rdF
  rw [if_pos rfl, if_pos]
  have e : tS ts k = ts[k].2 := by simp [tS, List.getD, hk]
  exact List.any_eq_true.2 ⟨ts[k], List.getElem_mem hk, by rw [← e]; exact h⟩
theorem rdF_no {ts : List Tt} {f : Nat} {set way : List Int} {b : Tt} {rest : List Tt} (h1 : b.1 ≠ -1) (h : ¬ ((0 ≤ b.1 ∧ b.1 < (ts.length : Int)) ∧ b.2 = [] ∧ spB (tS ts b.1.toNat) set = true)) : rdF ts (f + 1) set way (b :: rest) = none := by
  unfold rdF
  rw [if_neg h1, if_neg h]
theorem rdF_t {ts : List Tt} {f i : Nat} {set way : List Int} {rest : List Tt} (hi : i < ts.length) (h : spB (tS ts i) set = true) : rdF ts (f + 1) set way (((i : Int), []) :: rest) =
    match rdF ts f (set.filter fun x => shB (tS ts i) x) (way ++ [(i : Int)]) rest with
      | none => none
      | some (e1, r1) => match rdF ts f (set.filter fun x => !shB (tS ts i) x) (way ++ [(i : Int)]) r1 with
        | none => none
        | some (e2, r2) => some (e1 ++ e2, r2) := by
  conv => lhs; unfold rdF
  rw [if_neg (by simp only; omega), if_pos ⟨⟨by simp only; omega, by simp only; omega⟩, rfl, by simpa using h⟩]
  simp only [Int.toNat_natCast]
  rfl
theorem rdF_nil (ts : List Tt) (f : Nat) (set way : List Int) : rdF ts f set way [] = none := by cases f <;> rfl
def RdR (r : Option (List En × List Tt)) (n4 : Nat) (v : Value) (w' : World) : Prop := ∃ (A5 : Option Addr) (n5 c5 : Nat) (A6 : Option Addr) (n6 c6 : Nat) (es' : List En), v = .tuple #[.slice A5 n5 c5, .slice A6 n6 c6, .bool r.isSome] ∧
  SlE w' A5 n5 c5 es' ∧ n5 ≤ n4 ∧ ∀ es rest, r = some (es, rest) → es' = es ∧ Ts w' A6 n6 c6 rest ∧ n5 + n6 ≤ n4 ∧ n6 < n4
theorem RdR.no {r : Option (List En × List Tt)} {n4 : Nat} {w' : World} (h : r = none) : RdR r n4 (.tuple #[.slice none 0 0, .slice none 0 0, .bool false]) w' := by
  subst h
  exact ⟨none, 0, 0, none, 0, 0, [], rfl, SlE.nil _, Nat.zero_le _, fun es rest he => by cases he⟩
set_option maxHeartbeats 6400000 in
set_option maxRecDepth 100000 in
theorem zread_any (A A' : Option Addr) (n c m d : Nat) (ts : List Tt) (hm : m ≤ 1000) : ∀ (f : Nat) (A2 A3 A4 : Option Addr) (n2 c2 n3 c3 n4 c4 : Nat) (set way : List Int) (plan : List Tt) (w : World), Ts w A' m d ts → SL TIN w (.slice A2 n2 c2) (ic set) → SL TIN w (.slice A3 n3 c3) (ic way) →
    Ts w A4 n4 c4 plan → n4 ≤ f → set.length ≤ 1000 → way.length + f ≤ 900 →
    Calls Tryd.prog 52 #[.slice A n c, .slice A' m d, .slice A2 n2 c2, .slice A3 n3 c3, .slice A4 n4 c4] w (Ret (RdR (rdF ts f set way plan) n4) w) := by
  intro f
  induction f with
  | zero =>
    intro A2 A3 A4 n2 c2 n3 c3 n4 c4 set way plan w h h2 h3 h4 hf hs hw
    have e0 : n4 = 0 := by omega
    subst e0
    have ep : plan = [] := List.eq_nil_of_length_eq_zero h4.len
    subst ep
    go_enter Tryd.func52, Tryd.ntmps52
    go_wp2
    go_returns
    exact ⟨_, rfl, RdR.no (rdF_nil _ _ _ _), Below.refl _ _⟩
  | succ f ih =>
    intro A2 A3 A4 n2 c2 n3 c3 n4 c4 set way plan w h h2 h3 h4 hf hs hw
    by_cases h40 : n4 = 0
    · subst h40
      have ep : plan = [] := List.eq_nil_of_length_eq_zero h4.len
      subst ep
      clear ih
      go_enter Tryd.func52, Tryd.ntmps52
      go_wp2
      go_returns
      exact ⟨_, rfl, RdR.no (rdF_nil _ _ _ _), Below.refl _ _⟩
    · have l4 := h4.le
      have l4' := h4.cap
      have hd := h.le
      have hd' := h.cap
      have p4 : (n4 : Int) ≠ 0 := by omega
      have p40 : (0 : Int) < (n4 : Int) := by omega
      have hn40 : 0 < n4 := by omega
      have hn41 : 1 ≤ n4 := by omega
      have p41 : (1 : Int) ≤ (n4 : Int) := by omega
      have p42 : (n4 : Int) ≤ (c4 : Int) := by omega
      obtain ⟨bP, oP, rfl, hc4⟩ := h4.at_ (by omega)
      obtain ⟨ck1, Ab, nb, cb, ck2, ilb⟩ := hc4 0 (by omega)
      rw [Nat.zero_mul, Nat.add_zero] at ck1 ck2
      obtain ⟨bt0, hbt⟩ : ∃ x, tC plan 0 = x := ⟨_, rfl⟩
      obtain ⟨bs0, hbs⟩ : ∃ x, tS plan 0 = x := ⟨_, rfl⟩
      rw [hbt] at ck1
      rw [hbs] at ilb
      obtain ⟨rest, hpl⟩ : ∃ rest, plan = (bt0, bs0) :: rest := by
        cases plan with
        | nil => exact absurd h4.len.symm h40
        | cons b rest => exact ⟨rest, by rw [← hbt, ← hbs]; rfl⟩
      have hrest : Ts w (some ⟨bP, oP + 2, none⟩) (n4 - 1) (c4 - 1) rest := by
        refine ⟨by have := h4.len; rw [hpl] at this; simp at this; omega, by omega, by omega, fun h0 => ⟨bP, oP + 2, rfl, fun j hj => ?_⟩⟩
        obtain ⟨k1, A1, n1, c1, k2, il⟩ := hc4 (j + 1) (by omega)
        rw [hpl] at k1 il
        refine ⟨?_, A1, n1, c1, ?_, il⟩
        · rw [show oP + 2 + j * 2 = oP + (j + 1) * 2 by omega]; exact k1
        · rw [show oP + 2 + j * 2 + 1 = oP + (j + 1) * 2 + 1 by omega]; exact k2
      have hnb := ilb.le
      have hcb := ilb.cap
      have H := Lib.hid h
      have H2 := Lib.hid h2
      have H3 := Lib.hid h3
      have HR := Lib.hid hrest
      have IB := Lib.hid ilb
      have HPL := Lib.hid hpl
      have IH := Lib.hid ih
      have hst : Ext w w.drew := Ext.drew _
      have k1 := fun w' (hh : Ext w w') => (show w'.cell? ⟨bP, oP, none⟩ = some (.int .i64 bt0) from Ext.cell hh ck1)
      have k2 := fun w' (hh : Ext w w') => (show w'.cell? ⟨bP, oP + 1, none⟩ = some (.slice Ab nb cb) from Ext.cell hh ck2)
      clear h h2 h3 h4 hc4 ck1 ck2 ilb hbt hbs hpl hrest ih
      go_enter Tryd.func52, Tryd.ntmps52
      go_upto_region 3 with fail
      refine wp_region_brn (S := Ext w) (by kernel_rfl) (by kernel_rfl) (fun _ _ _ _ _ => ⟨fun h => h, fun h => h⟩) ?_
      intro hsel_ hQ_
      refine wpB_chunk (f := 0) (L' := #[true, true, true, true, true, true, true, true]) hsel_ hQ_ [(0, true, some 25, none), (1, true, some 26, none), (2, true, some 27, none), (3, true, some 28, none), (4, true, some 29, none), (5, false, some 13, none), (6, false, none, none), (7, false, some 14, none)] _ _ _ (by kernel_rfl) hst ?_
      repeat (first | (refine wpSeqB_pure (v := ?_) rfl ?_ ?_; rotate_left 1; (focus (intro wq_ hSq_; (try dsimp only at hSq_); go_simp; (try with_reducible rfl); done)); (try simp only [Act.put, List.setIfInBounds_toArray, List.set_cons_zero, List.set_cons_succ])) | (refine wpSeqB_pureG (v := ?_) rfl rfl ?_ ?_; rotate_left 1; (focus (intro wq_ hSq_; (try dsimp only at hSq_); go_simp; (try with_reducible rfl); done)); (try simp only [Act.put, List.setIfInBounds_toArray, List.set_cons_zero, List.set_cons_succ])) | (refine wpSeqB_off rfl rfl ?_; (try simp only [Act.put, List.setIfInBounds_toArray, List.set_cons_zero, List.set_cons_succ])) | (refine wpSeqB_offU rfl ?_; (try simp only [Act.put, List.setIfInBounds_toArray, List.set_cons_zero, List.set_cons_succ])))
      generalize hA5 : (if c4 = 1 then some (⟨bP, oP, none⟩ : Addr) else some ⟨bP, oP + 2, none⟩) = A5
      obtain ⟨n5, hn5⟩ : ∃ n5, n4 - 1 = n5 := ⟨_, rfl⟩
      obtain ⟨c5, hc5⟩ : ∃ c5, c4 - 1 = c5 := ⟨_, rfl⟩
      rw [hn5, hc5] at HR ⊢
      have HT5 : Hid (Ts w A5 n5 c5 rest) := by
        show Ts w A5 n5 c5 rest
        by_cases h1 : c4 = 1
        · have h5 : n5 = 0 := by omega
          subst h5
          exact ⟨HR.out.len, HR.out.le, HR.out.cap, fun h => absurd h (by omega)⟩
        · rw [if_neg h1] at hA5
          rw [← hA5]; exact HR.out
      have hn54 : n5 < n4 := by omega
      have hn5f : n5 ≤ f := by omega
      clear hA5 hn5 hc5 HR
      first | refine wpSeqB_call rfl (fun K hK => ?_) | refine wpSeqB_callG rfl rfl (fun K hK => ?_)
      go_simp
      have xa : Ext w (w.alloc (.cells #[.int .i64 0, .slice none 0 0] TBR)).drew := bt (Ext.allocR _ _) (Ext.drew _)
      have ba : Blk (w.alloc (.cells #[.int .i64 0, .slice none 0 0] TBR)).drew w.heap.size TBR #[.int .i64 0, .slice none 0 0] := (Blk.new_ _ _ rfl).drew
      refine hK.out _ _ xa ?_
      clear hK K
      (try simp only [List.getElem_toArray, List.getElem_cons_succ, List.getElem_cons_zero, Act.put, List.setIfInBounds_toArray, List.set_cons_zero, List.set_cons_succ])
      obtain ⟨g, hg⟩ : ∃ g, w.heap.size = g := ⟨_, rfl⟩
      rw [hg] at ba ⊢
      obtain ⟨W1, hW1⟩ : ∃ W, (w.alloc (.cells #[.int .i64 0, .slice none 0 0] TBR)).drew = W := ⟨_, rfl⟩
      rw [hW1] at xa ba ⊢
      clear hW1
      have ca := ba.cells
      have fa0 := ba.free 0
      have fa1 := ba.free 1
      simp only [cellsAre, Nat.zero_add, Nat.reduceAdd, and_true] at ca
      first | refine wpSeqB_call rfl (fun K hK => ?_) | refine wpSeqB_callG rfl rfl (fun K hK => ?_)
      go_simp
      have xb : Ext w ((W1.setCell ⟨g, 0, none⟩ (.int .i64 bt0)).setCell ⟨g, 1, none⟩ (.slice Ab nb cb)) := (Below.setCell (Below.setCell xa (by rw [hg]; exact Nat.le_refl _) _) (by rw [hg]; exact Nat.le_refl _) _)
      have bb := (ba.set_ 0 (.int .i64 bt0)).set_ 1 (.slice Ab nb cb)
      refine hK.out _ _ xb ?_
      clear hK K
      (try simp only [List.getElem_toArray, List.getElem_cons_succ, List.getElem_cons_zero, Act.put, List.setIfInBounds_toArray, List.set_cons_zero, List.set_cons_succ])
      first | refine wpSeqB_call rfl (fun K hK => ?_) | refine wpSeqB_callG rfl rfl (fun K hK => ?_)
      go_simp
      refine hK.out _ _ xb ?_
      clear hK K
      (try simp only [List.getElem_toArray, List.getElem_cons_succ, List.getElem_cons_zero, Act.put, List.setIfInBounds_toArray, List.set_cons_zero, List.set_cons_succ])
      repeat (first | (refine wpSeqB_pure (v := ?_) rfl ?_ ?_; rotate_left 1; (focus (intro wq_ hSq_; (try dsimp only at hSq_); go_simp; (try with_reducible rfl); done)); (try simp only [Act.put, List.setIfInBounds_toArray, List.set_cons_zero, List.set_cons_succ])) | (refine wpSeqB_pureG (v := ?_) rfl rfl ?_ ?_; rotate_left 1; (focus (intro wq_ hSq_; (try dsimp only at hSq_); go_simp; (try with_reducible rfl); done)); (try simp only [Act.put, List.setIfInBounds_toArray, List.set_cons_zero, List.set_cons_succ])) | (refine wpSeqB_off rfl rfl ?_; (try simp only [Act.put, List.setIfInBounds_toArray, List.set_cons_zero, List.set_cons_succ])) | (refine wpSeqB_offU rfl ?_; (try simp only [Act.put, List.setIfInBounds_toArray, List.set_cons_zero, List.set_cons_succ])))
      intro s_
      refine wpB_end (by kernel_rfl) ?_
      obtain ⟨W2, hW2⟩ : ∃ W, ((W1.setCell ⟨g, 0, none⟩ (.int .i64 bt0)).setCell ⟨g, 1, none⟩ (.slice Ab nb cb)) = W := ⟨_, rfl⟩
      rw [hW2] at xb bb ⊢
      have X2 := Lib.hid xb
      have B2 := Lib.hid (show Blk W2 g TBR #[.int .i64 bt0, .slice Ab nb cb] from bb)
      have HG := Lib.hid hg
      have c2' := B2.out.cells
      simp only [cellsAre, Nat.zero_add, Nat.reduceAdd, and_true] at c2'
      clear hW2 xa ba ca fa0 fa1 xb bb s_ hsel_ hQ_ k1 k2 hst hg
      by_cases hb1 : bt0 = -1
      · subst hb1
        have HPL2 : Hid (plan = (-1, bs0) :: rest) := HPL.out
        go_wp2_with fail
        go_loopw [15] (fun i wr => ∃ k : Nat, k ≤ m ∧ i = .int .i64 (k : Int) ∧ (∀ j, j < k → spB (tS ts j) set = false) ∧ Ext W2 wr) (fun i _ => m - (intOf i).toNat)
        case atStart => exact ⟨0, by omega, rfl, fun j hj => absurd hj (by omega), Ext.refl _⟩
        case round =>
          obtain ⟨k, hk, rfl, hr, hx⟩ := hrel
          have HX := Lib.hid hx
          have HRR := Lib.hid hr
          have I2 := Lib.hid (H2.out.below (bt X2.out hx)).ilv
          have i2 := I2.out.le
          have i2' := I2.out.cap
          have hn2 : n2 ≤ 1000 := by rw [← I2.out.len]; exact hs
          by_cases hkm : k < m
          · have pk : (k : Int) < (m : Int) := by omega
            obtain ⟨bT, oT, rfl, hcT⟩ := (H.out.below (bt X2.out hx)).at_ (by omega)
            obtain ⟨ct1, At, nt, ct, ct2, ilt⟩ := hcT k hkm
            obtain ⟨x, hxx⟩ : ∃ x, tC ts k = x := ⟨_, rfl⟩
            rw [hxx] at ct1
            clear hcT hr hxx hx
            go_wp2_with fail
            refine (zsplits_any At A2 nt ct n2 c2 (tS ts k) set x wr ilt I2.out (by omega)).mono ?_
            rintro e w5 ⟨v5, rfl, hv5, hb5⟩
            have HX5 := Lib.hid (bt HX.out hb5)
            clear ct1 ct2 ilt hb5
            cases hsp : spB (tS ts k) set with
            | true =>
              rw [hsp] at hv5
              subst hv5
              have HN := Lib.hid (rdF_bad (f := f) (way := way) (bs := bs0) (rest := rest) (by rw [H.out.len]; exact hkm) hsp)
              rw [← HPL2.out] at HN
              clear hsp
              go_wp2
              go_returns
              exact ⟨_, rfl, RdR.no HN.out, bt X2.out HX5.out⟩
            | false =>
              rw [hsp] at hv5
              subst hv5
              have HN := Lib.hid (show ∀ j, j < k + 1 → spB (tS ts j) set = false from fun j hj => by
                rcases Nat.lt_or_eq_of_le (Nat.le_of_lt_succ hj) with h | rfl
                · exact HRR.out j h
                · exact hsp)
              clear hsp
              go_wp2
              go_roundw
              case rel => exact ⟨k + 1, by omega, by go_num, HN.out, HX5.out⟩
              case measure => simp [intOf]; omega
          · obtain rfl : k = m := by omega
            have hcc := (B2.out.below hx).cells
            simp only [cellsAre, Nat.zero_add, Nat.reduceAdd, and_true] at hcc
            have HE := Lib.hid (rdF_end (f := f) (way := way) (bs := bs0) (rest := rest) (set := set) (fun j hj => hr j (by rw [← H.out.len]; exact hj)))
            rw [← HPL2.out] at HE
            have xe : Ext wr (wr.alloc (.cells #[.slice A2 n2 c2, .slice A3 n3 c3] TEN)) := Ext.allocR _ _
            have hcd := (B2.out.below (bt hx xe)).cells
            simp only [cellsAre, Nat.zero_add, Nat.reduceAdd, and_true] at hcd
            have hx3 := bt hx xe
            have hse : SlE (wr.alloc (.cells #[.slice A2 n2 c2, .slice A3 n3 c3] TEN)) (some ⟨wr.heap.size, 0, none⟩) 1 1 [(set, way)] := SlE.one (Blk.new_ _ _ rfl) (H2.out.below (bt X2.out hx3)) (H3.out.below (bt X2.out hx3))
            have HSE := Lib.hid (And.intro hse hx3)
            clear hr hcc xe hse hx3
            go_wp2_with fail
            refine (zsame_any Ab A2 nb cb n2 c2 bs0 set _ (IB.out.below (bt X2.out HSE.out.2)) (H2.out.below (bt X2.out HSE.out.2)).ilv).mono ?_
            rintro e w5 ⟨v5, rfl, hv5, hb5⟩
            have HSE5 := Lib.hid (And.intro (HSE.out.1.below hb5) (bt HSE.out.2 hb5))
            clear hb5 hcd hx HSE
            by_cases hbs : bs0 = set
            · rw [sameB_t hbs] at hv5
              subst hv5
              have HE2 : Hid (rdF ts (f + 1) set way plan = some ([(set, way)], rest)) := show _ = _ by rw [HE.out, if_pos hbs]
              clear hbs
              go_wp2
              go_returns
              exact ⟨_, rfl, ⟨_, _, _, _, _, _, _, by rw [HE2.out]; rfl, HSE5.out.1, by omega, fun es r he => by
                rw [HE2.out] at he
                injection he with he
                injection he with he1 he2
                subst he1 he2
                exact ⟨rfl, HT5.out.below (bt X2.out HSE5.out.2), by omega, hn54⟩⟩, bt X2.out HSE5.out.2⟩
            · rw [sameB_f hbs] at hv5
              subst hv5
              have HE2 : Hid (rdF ts (f + 1) set way plan = none) := show _ = _ by rw [HE.out, if_neg hbs]
              clear hbs
              go_wp2
              go_returns
              exact ⟨_, rfl, ⟨_, _, _, _, _, _, _, by rw [HE2.out]; rfl, HSE5.out.1, by omega, fun es r he => by rw [HE2.out] at he; cases he⟩, bt X2.out HSE5.out.2⟩
      · have hb1' : decide (bt0 = -1) = false := by simpa using hb1
        have HM1 := Lib.hid hm
        go_wp2_with fail
        refine (zin_any bt0 0 ((m : Int) - 1) _).mono ?_
        rintro e w3 ⟨rfl, rfl⟩
        by_cases hin : 0 ≤ bt0 ∧ bt0 ≤ (m : Int) - 1
        rotate_left
        · rw [inB_f hin]
          have HN := Lib.hid (rdF_no (ts := ts) (f := f) (set := set) (way := way) (b := (bt0, bs0)) (rest := rest) hb1 (fun hh => hin ⟨hh.1.1, by have h1 := hh.1.2; rw [H.out.len] at h1; simp only at h1; omega⟩))
          rw [← HPL.out] at HN
          clear hin
          go_wp2
          go_returns
          exact ⟨_, rfl, RdR.no HN.out, X2.out⟩
        · rw [inB_t hin.1 hin.2]
          obtain ⟨i, rfl⟩ := Int.eq_ofNat_of_zero_le hin.1
          have him : i < m := by omega
          have pim : (i : Int) < (m : Int) := by omega
          by_cases hnb0 : 0 < nb
          · have pnb : (0 : Int) < (nb : Int) := by omega
            have HN := Lib.hid (rdF_no (ts := ts) (f := f) (set := set) (way := way) (b := ((i : Int), bs0)) (rest := rest) hb1 (fun hh => by have h1 := hh.2.1; have h2 := IB.out.len; simp only at h1; rw [h1] at h2; simp at h2; omega))
            rw [← HPL.out] at HN
            clear hin
            go_wp2
            go_returns
            exact ⟨_, rfl, RdR.no HN.out, X2.out⟩
          · obtain rfl : nb = 0 := by omega
            have ebs : bs0 = [] := List.eq_nil_of_length_eq_zero IB.out.len
            subst ebs
            obtain ⟨bT, oT, rfl, hcT⟩ := (H.out.below X2.out).at_ (by omega)
            obtain ⟨ct1, At, nt, ct, ct2, ilt⟩ := hcT i him
            obtain ⟨x, hxx⟩ : ∃ x, tC ts i = x := ⟨_, rfl⟩
            rw [hxx] at ct1
            have I2 := Lib.hid (H2.out.below X2.out).ilv
            have i2 := I2.out.le
            have i2' := I2.out.cap
            have hn2 : n2 ≤ 1000 := by rw [← I2.out.len]; exact hs
            have HIT := Lib.hid ilt
            clear hcT hxx hin
            go_wp2_with fail
            refine (zsplits_any At A2 nt ct n2 c2 (tS ts i) set x w3 ilt I2.out (by omega)).mono ?_
            rintro e w5 ⟨v5, rfl, hv5, hb5⟩
            have HX5 := Lib.hid (show Ext w3 w5 from hb5)
            by_cases hsp : spB (tS ts i) set = true
            rotate_left
            · rw [show spB (tS ts i) set = false by simpa using hsp] at hv5
              subst hv5
              have HN := Lib.hid (rdF_no (ts := ts) (f := f) (set := set) (way := way) (b := ((i : Int), [])) (rest := rest) hb1 (fun hh => hsp (by simpa using hh.2.2)))
              rw [← HPL.out] at HN
              clear ct1 ct2 ilt hsp hb5
              go_wp2
              go_returns
              exact ⟨_, rfl, RdR.no HN.out, bt X2.out HX5.out⟩
            · rw [hsp] at hv5
              subst hv5
              have HY := Lib.hid (rdF_t (f := f) (way := way) (rest := rest) (by rw [H.out.len]; exact him) hsp)
              rw [← HPL.out] at HY
              have ct1' := Ext.cell hb5 ct1
              have ct2' := Ext.cell hb5 ct2
              have c5' := (B2.out.below hb5).cells
              simp only [cellsAre, Nat.zero_add, Nat.reduceAdd, and_true] at c5'
              clear ct1 ct2 hsp
              go_upto_region 13 with fail
              go_wp2_with fail
              refine (zparts_any At A2 nt ct n2 c2 (tS ts i) set x w5 (HIT.out.below hb5) (I2.out.below hb5) (by omega)).mono ?_
              rintro e w6 ⟨v6, rfl, ⟨Ay, ny, cy, An, nn, cn, hv6, hily, hiln, hsy, hsn⟩, hb6⟩
              subst hv6
              have SY := Lib.hid hsy
              have SN := Lib.hid hsn
              have X6 := Lib.hid (bt (bt X2.out hb5) hb6)
              have B6 := Lib.hid ((B2.out.below hb5).below hb6)
              clear ct1' ct2' c5' c2' ilt hily hiln hsy hsn hb5 hb6
              have c6 := B6.out.cells
              simp only [cellsAre, Nat.zero_add, Nat.reduceAdd, and_true] at c6
              go_upto_region 14 with fail
              have kg := fun w' (hh : Ext w6 w') => (B6.out.below hh).cells
              simp only [cellsAre, Nat.zero_add, Nat.reduceAdd, and_true] at kg
              have hst : Ext w6 w6.drew := Ext.drew _
              have I3 := Lib.hid (H3.out.below X6.out).ilv
              have i3 := I3.out.le
              have i3' := I3.out.cap
              have hn3 : n3 ≤ 1000 := by rw [← I3.out.len]; omega
              go_cut [18] (fun s18 wx => ∃ (A7 : Option Addr) (n7 c7 : Nat), s18 = .slice A7 n7 c7 ∧ OwI w6.heap.size wx (.slice A7 n7 c7) (way ++ [(i : Int)]) ∧ Ext w6 wx)
              case first =>
                refine wp_region_brn (S := Ext w6) (by kernel_rfl) (by kernel_rfl) (fun _ _ _ _ _ => ⟨fun h => h, fun h => h⟩) ?_
                intro hsel_ hQ_
                refine wpB_chunk (f := 5) (L' := #[false, true, false, true, true, false, false, false]) hsel_ hQ_ [(1, true, some 88, none), (3, true, some 90, none), (4, true, some 91, none)] _ _ _ (by kernel_rfl) hst ?_
                repeat (first | (refine wpSeqB_pure (v := ?_) rfl ?_ ?_; rotate_left 1; (focus (intro wq_ hSq_; (try dsimp only at hSq_); go_simp; (try with_reducible rfl); done)); (try simp only [Act.put, List.setIfInBounds_toArray, List.set_cons_zero, List.set_cons_succ])) | (refine wpSeqB_pureG (v := ?_) rfl rfl ?_ ?_; rotate_left 1; (focus (intro wq_ hSq_; (try dsimp only at hSq_); go_simp; (try with_reducible rfl); done)); (try simp only [Act.put, List.setIfInBounds_toArray, List.set_cons_zero, List.set_cons_succ])) | (refine wpSeqB_off rfl rfl ?_; (try simp only [Act.put, List.setIfInBounds_toArray, List.set_cons_zero, List.set_cons_succ])) | (refine wpSeqB_offU rfl ?_; (try simp only [Act.put, List.setIfInBounds_toArray, List.set_cons_zero, List.set_cons_succ])))
                intro s0
                obtain ⟨wd, hwd⟩ : ∃ wd, w6.drew = wd := ⟨_, rfl⟩
                rw [hwd] at s0 ⊢
                have hBd : w6.heap.size ≤ wd.heap.size := Ext.size s0
                clear hst hwd
                have X0 := OwI.lit0 hBd
                have Z0 := OwI.lit1 (x := (i : Int)) hBd
                refine wpB_two 0 5 (by kernel_rfl) rfl rfl rfl rfl ?_ ?_
                · intro K hK
                  go_simp
                  have s1 := bt s0 (Ext.allocR wd (.cells #[] TIN))
                  refine hK.out _ _ s1 ?_
                  clear hK K
                  (try simp only [List.getElem_toArray, List.getElem_cons_succ, List.getElem_cons_zero, Act.put, List.setIfInBounds_toArray, List.set_cons_zero, List.set_cons_succ])
                  have sz1 : (wd.alloc (.cells #[] TIN)).heap.size = wd.heap.size + 1 := by simp
                  refine wpB_two 2 5 (by kernel_rfl) rfl rfl rfl rfl ?_ ?_
                  · intro K hK
                    refine wp_appI _ _ (by rfl) w6.heap.size (.slice (some ⟨wd.heap.size, 0, none⟩) 0 0) [] (by rfl) X0 A3 n3 c3 way (by rfl) (I3.out.below s1) (by simp) hn3 (Ext.size s1) ?_
                    intro A7 n7 c7 w7 hO hB hG
                    rw [List.nil_append] at hO
                    have s7 : Ext w6 w7 := Below.trans s1 hB
                    refine hK.out _ _ s7 ?_
                    clear hK K hG hB
                    (try simp only [List.getElem_toArray, List.getElem_cons_succ, List.getElem_cons_zero, Act.put, List.setIfInBounds_toArray, List.set_cons_zero, List.set_cons_succ])
                    refine wpB_chunk (f := 0) (L' := #[true, true, true, true, true, true, true, true]) hsel_ hQ_ [(5, false, some 92, none), (6, false, some 93, none), (7, false, some 18, none)] _ _ _ (by kernel_rfl) s7 ?_
                    repeat (first | (refine wpSeqB_pure (v := ?_) rfl ?_ ?_; rotate_left 1; (focus (intro wq_ hSq_; (try dsimp only at hSq_); go_simp; (try with_reducible rfl); done)); (try simp only [Act.put, List.setIfInBounds_toArray, List.set_cons_zero, List.set_cons_succ])) | (refine wpSeqB_pureG (v := ?_) rfl rfl ?_ ?_; rotate_left 1; (focus (intro wq_ hSq_; (try dsimp only at hSq_); go_simp; (try with_reducible rfl); done)); (try simp only [Act.put, List.setIfInBounds_toArray, List.set_cons_zero, List.set_cons_succ])) | (refine wpSeqB_off rfl rfl ?_; (try simp only [Act.put, List.setIfInBounds_toArray, List.set_cons_zero, List.set_cons_succ])) | (refine wpSeqB_offU rfl ?_; (try simp only [Act.put, List.setIfInBounds_toArray, List.set_cons_zero, List.set_cons_succ])))
                    first | refine wpSeqB_call rfl (fun K hK => ?_) | refine wpSeqB_callG rfl rfl (fun K hK => ?_)
                    go_simp
                    have s9 := bt s7 (Ext.allocR w7 (.cells #[.int .i64 (i : Int)] TIN))
                    refine hK.out _ _ s9 ?_
                    clear hK K
                    (try simp only [List.getElem_toArray, List.getElem_cons_succ, List.getElem_cons_zero, Act.put, List.setIfInBounds_toArray, List.set_cons_zero, List.set_cons_succ])
                    have hO9 := hO.below (Ext.allocR w7 (.cells #[.int .i64 (i : Int)] TIN))
                    have hZ9 := (OwI.lit1 (x := (i : Int)) (Ext.size s7)).ilv
                    first | refine wpSeqB_call rfl (fun K hK => ?_) | refine wpSeqB_callG rfl rfl (fun K hK => ?_)
                    refine wp_appI _ _ (by rfl) w6.heap.size (.slice A7 n7 c7) way (by rfl) hO9 (some ⟨w7.heap.size, 0, none⟩) 1 1 [(i : Int)] (by rfl) hZ9 (by omega) (by omega) (Ext.size s9) ?_
                    intro A10 n10 c10 w10 hO10 hB10 hG10
                    have s10 : Ext w6 w10 := Below.trans s9 hB10
                    refine hK.out _ _ s10 ?_
                    clear hK K
                    (try simp only [List.getElem_toArray, List.getElem_cons_succ, List.getElem_cons_zero, Act.put, List.setIfInBounds_toArray, List.set_cons_zero, List.set_cons_succ])
                    repeat (first | (refine wpSeqB_pure (v := ?_) rfl ?_ ?_; rotate_left 1; (focus (intro wq_ hSq_; (try dsimp only at hSq_); go_simp; (try with_reducible rfl); done)); (try simp only [Act.put, List.setIfInBounds_toArray, List.set_cons_zero, List.set_cons_succ])) | (refine wpSeqB_pureG (v := ?_) rfl rfl ?_ ?_; rotate_left 1; (focus (intro wq_ hSq_; (try dsimp only at hSq_); go_simp; (try with_reducible rfl); done)); (try simp only [Act.put, List.setIfInBounds_toArray, List.set_cons_zero, List.set_cons_succ])) | (refine wpSeqB_off rfl rfl ?_; (try simp only [Act.put, List.setIfInBounds_toArray, List.set_cons_zero, List.set_cons_succ])) | (refine wpSeqB_offU rfl ?_; (try simp only [Act.put, List.setIfInBounds_toArray, List.set_cons_zero, List.set_cons_succ])))
                    first | refine wpSeqB_call rfl (fun K hK => ?_) | refine wpSeqB_callG rfl rfl (fun K hK => ?_)
                    go_simp
                    refine hK.out _ _ s10 ?_
                    clear hK K
                    (try simp only [List.getElem_toArray, List.getElem_cons_succ, List.getElem_cons_zero, Act.put, List.setIfInBounds_toArray, List.set_cons_zero, List.set_cons_succ])
                    repeat (first | (refine wpSeqB_pure (v := ?_) rfl ?_ ?_; rotate_left 1; (focus (intro wq_ hSq_; (try dsimp only at hSq_); go_simp; (try with_reducible rfl); done)); (try simp only [Act.put, List.setIfInBounds_toArray, List.set_cons_zero, List.set_cons_succ])) | (refine wpSeqB_pureG (v := ?_) rfl rfl ?_ ?_; rotate_left 1; (focus (intro wq_ hSq_; (try dsimp only at hSq_); go_simp; (try with_reducible rfl); done)); (try simp only [Act.put, List.setIfInBounds_toArray, List.set_cons_zero, List.set_cons_succ])) | (refine wpSeqB_off rfl rfl ?_; (try simp only [Act.put, List.setIfInBounds_toArray, List.set_cons_zero, List.set_cons_succ])) | (refine wpSeqB_offU rfl ?_; (try simp only [Act.put, List.setIfInBounds_toArray, List.set_cons_zero, List.set_cons_succ])))
                    intro s_
                    refine wpB_end (by kernel_rfl) ?_
                    go_wp2_with fail
                    go_meet
                    exact ⟨_, _, _, rfl, hO10, s10⟩
                  · intro K hK
                    go_simp
                    have s2 := bt s1 (Ext.allocR (wd.alloc (.cells #[] TIN)) (.cells #[.int .i64 (i : Int)] TIN))
                    refine hK.out _ _ s2 ?_
                    clear hK K
                    (try simp only [List.getElem_toArray, List.getElem_cons_succ, List.getElem_cons_zero, Act.put, List.setIfInBounds_toArray, List.set_cons_zero, List.set_cons_succ])
                    have X2' := X0.below (Ext.allocR (wd.alloc (.cells #[] TIN)) (.cells #[.int .i64 (i : Int)] TIN))
                    have Z2 := OwI.lit1 (w := wd.alloc (.cells #[] TIN)) (x := (i : Int)) (Ext.size s1)
                    rw [sz1] at Z2
                    refine wpB_chunk (f := 0) (L' := #[true, true, true, true, true, true, true, true]) hsel_ hQ_ [(2, false, some 89, none), (6, false, some 93, none), (7, false, some 18, none)] _ _ _ (by kernel_rfl) s2 ?_
                    repeat (first | (refine wpSeqB_pure (v := ?_) rfl ?_ ?_; rotate_left 1; (focus (intro wq_ hSq_; (try dsimp only at hSq_); go_simp; (try with_reducible rfl); done)); (try simp only [Act.put, List.setIfInBounds_toArray, List.set_cons_zero, List.set_cons_succ])) | (refine wpSeqB_pureG (v := ?_) rfl rfl ?_ ?_; rotate_left 1; (focus (intro wq_ hSq_; (try dsimp only at hSq_); go_simp; (try with_reducible rfl); done)); (try simp only [Act.put, List.setIfInBounds_toArray, List.set_cons_zero, List.set_cons_succ])) | (refine wpSeqB_off rfl rfl ?_; (try simp only [Act.put, List.setIfInBounds_toArray, List.set_cons_zero, List.set_cons_succ])) | (refine wpSeqB_offU rfl ?_; (try simp only [Act.put, List.setIfInBounds_toArray, List.set_cons_zero, List.set_cons_succ])))
                    first | refine wpSeqB_call rfl (fun K hK => ?_) | refine wpSeqB_callG rfl rfl (fun K hK => ?_)
                    refine wp_appI _ _ (by rfl) w6.heap.size (.slice (some ⟨wd.heap.size, 0, none⟩) 0 0) [] (by rfl) X2' A3 n3 c3 way (by rfl) (I3.out.below s2) (by simp) hn3 (Ext.size s2) ?_
                    intro A7 n7 c7 w7 hO9 hB hG
                    rw [List.nil_append] at hO9
                    have s9 : Ext w6 w7 := Below.trans s2 hB
                    have hZ9 := (OwI.apart (q1 := wd.heap.size) Z2 hG (by omega)).ilv
                    refine hK.out _ _ s9 ?_
                    clear hK K
                    (try simp only [List.getElem_toArray, List.getElem_cons_succ, List.getElem_cons_zero, Act.put, List.setIfInBounds_toArray, List.set_cons_zero, List.set_cons_succ])
                    repeat (first | (refine wpSeqB_pure (v := ?_) rfl ?_ ?_; rotate_left 1; (focus (intro wq_ hSq_; (try dsimp only at hSq_); go_simp; (try with_reducible rfl); done)); (try simp only [Act.put, List.setIfInBounds_toArray, List.set_cons_zero, List.set_cons_succ])) | (refine wpSeqB_pureG (v := ?_) rfl rfl ?_ ?_; rotate_left 1; (focus (intro wq_ hSq_; (try dsimp only at hSq_); go_simp; (try with_reducible rfl); done)); (try simp only [Act.put, List.setIfInBounds_toArray, List.set_cons_zero, List.set_cons_succ])) | (refine wpSeqB_off rfl rfl ?_; (try simp only [Act.put, List.setIfInBounds_toArray, List.set_cons_zero, List.set_cons_succ])) | (refine wpSeqB_offU rfl ?_; (try simp only [Act.put, List.setIfInBounds_toArray, List.set_cons_zero, List.set_cons_succ])))
                    first | refine wpSeqB_call rfl (fun K hK => ?_) | refine wpSeqB_callG rfl rfl (fun K hK => ?_)
                    refine wp_appI _ _ (by rfl) w6.heap.size (.slice A7 n7 c7) way (by rfl) hO9 (some ⟨(wd.heap.size + 1), 0, none⟩) 1 1 [(i : Int)] (by rfl) hZ9 (by omega) (by omega) (Ext.size s9) ?_
                    intro A10 n10 c10 w10 hO10 hB10 hG10
                    have s10 : Ext w6 w10 := Below.trans s9 hB10
                    refine hK.out _ _ s10 ?_
                    clear hK K
                    (try simp only [List.getElem_toArray, List.getElem_cons_succ, List.getElem_cons_zero, Act.put, List.setIfInBounds_toArray, List.set_cons_zero, List.set_cons_succ])
                    repeat (first | (refine wpSeqB_pure (v := ?_) rfl ?_ ?_; rotate_left 1; (focus (intro wq_ hSq_; (try dsimp only at hSq_); go_simp; (try with_reducible rfl); done)); (try simp only [Act.put, List.setIfInBounds_toArray, List.set_cons_zero, List.set_cons_succ])) | (refine wpSeqB_pureG (v := ?_) rfl rfl ?_ ?_; rotate_left 1; (focus (intro wq_ hSq_; (try dsimp only at hSq_); go_simp; (try with_reducible rfl); done)); (try simp only [Act.put, List.setIfInBounds_toArray, List.set_cons_zero, List.set_cons_succ])) | (refine wpSeqB_off rfl rfl ?_; (try simp only [Act.put, List.setIfInBounds_toArray, List.set_cons_zero, List.set_cons_succ])) | (refine wpSeqB_offU rfl ?_; (try simp only [Act.put, List.setIfInBounds_toArray, List.set_cons_zero, List.set_cons_succ])))
                    first | refine wpSeqB_call rfl (fun K hK => ?_) | refine wpSeqB_callG rfl rfl (fun K hK => ?_)
                    go_simp
                    refine hK.out _ _ s10 ?_
                    clear hK K
                    (try simp only [List.getElem_toArray, List.getElem_cons_succ, List.getElem_cons_zero, Act.put, List.setIfInBounds_toArray, List.set_cons_zero, List.set_cons_succ])
                    repeat (first | (refine wpSeqB_pure (v := ?_) rfl ?_ ?_; rotate_left 1; (focus (intro wq_ hSq_; (try dsimp only at hSq_); go_simp; (try with_reducible rfl); done)); (try simp only [Act.put, List.setIfInBounds_toArray, List.set_cons_zero, List.set_cons_succ])) | (refine wpSeqB_pureG (v := ?_) rfl rfl ?_ ?_; rotate_left 1; (focus (intro wq_ hSq_; (try dsimp only at hSq_); go_simp; (try with_reducible rfl); done)); (try simp only [Act.put, List.setIfInBounds_toArray, List.set_cons_zero, List.set_cons_succ])) | (refine wpSeqB_off rfl rfl ?_; (try simp only [Act.put, List.setIfInBounds_toArray, List.set_cons_zero, List.set_cons_succ])) | (refine wpSeqB_offU rfl ?_; (try simp only [Act.put, List.setIfInBounds_toArray, List.set_cons_zero, List.set_cons_succ])))
                    intro s_
                    refine wpB_end (by kernel_rfl) ?_
                    go_wp2_with fail
                    go_meet
                    exact ⟨_, _, _, rfl, hO10, s10⟩
                · intro K hK
                  go_simp
                  have s1 := bt s0 (Ext.allocR wd (.cells #[.int .i64 (i : Int)] TIN))
                  refine hK.out _ _ s1 ?_
                  clear hK K
                  (try simp only [List.getElem_toArray, List.getElem_cons_succ, List.getElem_cons_zero, Act.put, List.setIfInBounds_toArray, List.set_cons_zero, List.set_cons_succ])
                  have sz1 : (wd.alloc (.cells #[.int .i64 (i : Int)] TIN)).heap.size = wd.heap.size + 1 := by simp
                  refine wpB_chunk (f := 0) (L' := #[true, true, true, true, true, true, true, true]) hsel_ hQ_ [(0, false, some 87, none), (2, false, some 89, none), (6, false, some 93, none), (7, false, some 18, none)] _ _ _ (by kernel_rfl) s1 ?_
                  repeat (first | (refine wpSeqB_pure (v := ?_) rfl ?_ ?_; rotate_left 1; (focus (intro wq_ hSq_; (try dsimp only at hSq_); go_simp; (try with_reducible rfl); done)); (try simp only [Act.put, List.setIfInBounds_toArray, List.set_cons_zero, List.set_cons_succ])) | (refine wpSeqB_pureG (v := ?_) rfl rfl ?_ ?_; rotate_left 1; (focus (intro wq_ hSq_; (try dsimp only at hSq_); go_simp; (try with_reducible rfl); done)); (try simp only [Act.put, List.setIfInBounds_toArray, List.set_cons_zero, List.set_cons_succ])) | (refine wpSeqB_off rfl rfl ?_; (try simp only [Act.put, List.setIfInBounds_toArray, List.set_cons_zero, List.set_cons_succ])) | (refine wpSeqB_offU rfl ?_; (try simp only [Act.put, List.setIfInBounds_toArray, List.set_cons_zero, List.set_cons_succ])))
                  first | refine wpSeqB_call rfl (fun K hK => ?_) | refine wpSeqB_callG rfl rfl (fun K hK => ?_)
                  go_simp
                  have s2 := bt s1 (Ext.allocR (wd.alloc (.cells #[.int .i64 (i : Int)] TIN)) (.cells #[] TIN))
                  refine hK.out _ _ s2 ?_
                  clear hK K
                  (try simp only [List.getElem_toArray, List.getElem_cons_succ, List.getElem_cons_zero, Act.put, List.setIfInBounds_toArray, List.set_cons_zero, List.set_cons_succ])
                  have X2' := OwI.lit0 (base := w6.heap.size) (W := wd.alloc (.cells #[.int .i64 (i : Int)] TIN)) (Ext.size s1)
                  rw [sz1] at X2'
                  have Z2 := Z0.below (Ext.allocR (wd.alloc (.cells #[.int .i64 (i : Int)] TIN)) (.cells #[] TIN))
                  first | refine wpSeqB_call rfl (fun K hK => ?_) | refine wpSeqB_callG rfl rfl (fun K hK => ?_)
                  refine wp_appI _ _ (by rfl) w6.heap.size (.slice (some ⟨(wd.heap.size + 1), 0, none⟩) 0 0) [] (by rfl) X2' A3 n3 c3 way (by rfl) (I3.out.below s2) (by simp) hn3 (Ext.size s2) ?_
                  intro A7 n7 c7 w7 hO9 hB hG
                  rw [List.nil_append] at hO9
                  have s9 : Ext w6 w7 := Below.trans s2 hB
                  have hZ9 := (OwI.apart (q1 := (wd.heap.size + 1)) Z2 hG (by omega)).ilv
                  refine hK.out _ _ s9 ?_
                  clear hK K
                  (try simp only [List.getElem_toArray, List.getElem_cons_succ, List.getElem_cons_zero, Act.put, List.setIfInBounds_toArray, List.set_cons_zero, List.set_cons_succ])
                  repeat (first | (refine wpSeqB_pure (v := ?_) rfl ?_ ?_; rotate_left 1; (focus (intro wq_ hSq_; (try dsimp only at hSq_); go_simp; (try with_reducible rfl); done)); (try simp only [Act.put, List.setIfInBounds_toArray, List.set_cons_zero, List.set_cons_succ])) | (refine wpSeqB_pureG (v := ?_) rfl rfl ?_ ?_; rotate_left 1; (focus (intro wq_ hSq_; (try dsimp only at hSq_); go_simp; (try with_reducible rfl); done)); (try simp only [Act.put, List.setIfInBounds_toArray, List.set_cons_zero, List.set_cons_succ])) | (refine wpSeqB_off rfl rfl ?_; (try simp only [Act.put, List.setIfInBounds_toArray, List.set_cons_zero, List.set_cons_succ])) | (refine wpSeqB_offU rfl ?_; (try simp only [Act.put, List.setIfInBounds_toArray, List.set_cons_zero, List.set_cons_succ])))
                  first | refine wpSeqB_call rfl (fun K hK => ?_) | refine wpSeqB_callG rfl rfl (fun K hK => ?_)
                  refine wp_appI _ _ (by rfl) w6.heap.size (.slice A7 n7 c7) way (by rfl) hO9 (some ⟨wd.heap.size, 0, none⟩) 1 1 [(i : Int)] (by rfl) hZ9 (by omega) (by omega) (Ext.size s9) ?_
                  intro A10 n10 c10 w10 hO10 hB10 hG10
                  have s10 : Ext w6 w10 := Below.trans s9 hB10
                  refine hK.out _ _ s10 ?_
                  clear hK K
                  (try simp only [List.getElem_toArray, List.getElem_cons_succ, List.getElem_cons_zero, Act.put, List.setIfInBounds_toArray, List.set_cons_zero, List.set_cons_succ])
                  repeat (first | (refine wpSeqB_pure (v := ?_) rfl ?_ ?_; rotate_left 1; (focus (intro wq_ hSq_; (try dsimp only at hSq_); go_simp; (try with_reducible rfl); done)); (try simp only [Act.put, List.setIfInBounds_toArray, List.set_cons_zero, List.set_cons_succ])) | (refine wpSeqB_pureG (v := ?_) rfl rfl ?_ ?_; rotate_left 1; (focus (intro wq_ hSq_; (try dsimp only at hSq_); go_simp; (try with_reducible rfl); done)); (try simp only [Act.put, List.setIfInBounds_toArray, List.set_cons_zero, List.set_cons_succ])) | (refine wpSeqB_off rfl rfl ?_; (try simp only [Act.put, List.setIfInBounds_toArray, List.set_cons_zero, List.set_cons_succ])) | (refine wpSeqB_offU rfl ?_; (try simp only [Act.put, List.setIfInBounds_toArray, List.set_cons_zero, List.set_cons_succ])))
                  first | refine wpSeqB_call rfl (fun K hK => ?_) | refine wpSeqB_callG rfl rfl (fun K hK => ?_)
                  go_simp
                  refine hK.out _ _ s10 ?_
                  clear hK K
                  (try simp only [List.getElem_toArray, List.getElem_cons_succ, List.getElem_cons_zero, Act.put, List.setIfInBounds_toArray, List.set_cons_zero, List.set_cons_succ])
                  repeat (first | (refine wpSeqB_pure (v := ?_) rfl ?_ ?_; rotate_left 1; (focus (intro wq_ hSq_; (try dsimp only at hSq_); go_simp; (try with_reducible rfl); done)); (try simp only [Act.put, List.setIfInBounds_toArray, List.set_cons_zero, List.set_cons_succ])) | (refine wpSeqB_pureG (v := ?_) rfl rfl ?_ ?_; rotate_left 1; (focus (intro wq_ hSq_; (try dsimp only at hSq_); go_simp; (try with_reducible rfl); done)); (try simp only [Act.put, List.setIfInBounds_toArray, List.set_cons_zero, List.set_cons_succ])) | (refine wpSeqB_off rfl rfl ?_; (try simp only [Act.put, List.setIfInBounds_toArray, List.set_cons_zero, List.set_cons_succ])) | (refine wpSeqB_offU rfl ?_; (try simp only [Act.put, List.setIfInBounds_toArray, List.set_cons_zero, List.set_cons_succ])))
                  intro s_
                  refine wpB_end (by kernel_rfl) ?_
                  go_wp2_with fail
                  go_meet
                  exact ⟨_, _, _, rfl, hO10, s10⟩
              case rest =>
                obtain ⟨A7, n7, c7, rfl, ho7, hx7⟩ := hcut
                have S7 := Lib.hid ho7.sl
                have X7 := Lib.hid (bt X6.out hx7)
                have X67 := Lib.hid hx7
                have hly := Nat.le_trans (List.length_filter_le (fun x => shB (tS ts i) x) set) hs
                have hln := Nat.le_trans (List.length_filter_le (fun x => !shB (tS ts i) x) set) hs
                have hlw : (way ++ [(i : Int)]).length + f ≤ 900 := by simp; omega
                clear kg hst ho7 hx7
                go_wp2_with fail
                refine (IH.out Ay A7 A5 ny cy n7 c7 n5 c5 _ _ rest wc (H.out.below X7.out) (SY.out.below X67.out) S7.out (HT5.out.below X7.out) hn5f hly hlw).mono ?_
                rintro e w8 ⟨v8, rfl, ⟨Ae, ne, ce, Ar, nr, cr, es1, rfl, hse, hne, hr1⟩, hb8⟩
                have X8 := Lib.hid (bt X7.out hb8)
                have X68 := Lib.hid (bt X67.out hb8)
                have S8 := Lib.hid (S7.out.below hb8)
                have HE1 := Lib.hid hse
                have l8 := hse.le
                have l8' := hse.cap
                clear hb8 hse
                cases h1 : rdF ts f (set.filter fun x => shB (tS ts i) x) (way ++ [(i : Int)]) rest with
                | none =>
                  have HN : Hid (rdF ts (f + 1) set way plan = none) := show _ = _ by rw [HY.out, h1]
                  clear h1 hr1
                  go_wp2
                  go_returns
                  exact ⟨_, rfl, RdR.no HN.out, X8.out⟩
                | some x1 =>
                  obtain ⟨e1, r1⟩ := x1
                  obtain ⟨rfl, hts1, hl1, hlt1⟩ := hr1 e1 r1 h1
                  have HR1 := Lib.hid hts1
                  have H1 := Lib.hid h1
                  have q8 := hts1.le
                  have q8' := hts1.cap
                  have hnrf : nr ≤ f := by omega
                  clear h1 hr1 hts1
                  go_wp2_with fail
                  refine (IH.out An A7 Ar nn cn n7 c7 nr cr _ _ r1 w8 (H.out.below X8.out) (SN.out.below X68.out) S8.out HR1.out hnrf hln hlw).mono ?_
                  rintro e w9 ⟨v9, rfl, ⟨Af, nf, cf, Aq, nq, cq, es2, rfl, hse2, hne2, hr2⟩, hb9⟩
                  have X9 := Lib.hid (bt X8.out hb9)
                  have HE2 := Lib.hid hse2
                  have HE1 := Lib.hid (HE1.out.below hb9)
                  have l9 := hse2.le
                  have l9' := hse2.cap
                  have HR2 := Lib.hid hr2
                  have x9 : Ext w9 (w9.alloc (.cells #[] TEN)) := Ext.allocR _ _
                  have E0 := Lib.hid (OwE.lit0 (base := w9.heap.size) (Nat.le_refl _))
                  have F1 := Lib.hid (HE1.out.below x9)
                  have hle1 : es1.length ≤ 1000 := by rw [HE1.out.len]; omega
                  have XA := Lib.hid x9
                  clear hb9 hse2 hr2 x9
                  obtain ⟨r9, h2⟩ : ∃ r9, rdF ts f (set.filter fun x => !shB (tS ts i) x) (way ++ [(i : Int)]) r1 = r9 := ⟨_, rfl⟩
                  rw [h2] at HR2 ⊢
                  have HH2 := Lib.hid h2
                  obtain ⟨b9, hb9⟩ : ∃ b9, r9.isSome = b9 := ⟨_, rfl⟩
                  rw [hb9]
                  have HB9 := Lib.hid hb9
                  have hle2 : es2.length ≤ 1000 := by rw [HE2.out.len]; omega
                  clear h2 hb9
                  go_wp2_with (at_builtin; refine wpList_plain rfl (fun K hK => ?_); first | (refine wp_appEn _ _ (by rfl) w9.heap.size (.slice (some ⟨w9.heap.size, 0, none⟩) 0 0) [] (by rfl) E0.out Ae ne ce es1 (by rfl) F1.out (by simp) (by omega) (Ext.size XA.out) ?_; intro A10 n10 c10 w10 hO10 hB10 hG10; rw [List.nil_append] at hO10; have X10 := Lib.hid (show Ext w9 w10 from Below.trans XA.out hB10); have F2 := Lib.hid (HE2.out.below X10.out); have O10 := Lib.hid hO10; clear hO10 hB10 hG10; refine hK _ _ ?_) | (refine wp_appEn _ _ (by rfl) w9.heap.size (.slice A10 n10 c10) es1 (by rfl) O10.out Af nf cf es2 (by rfl) F2.out (by omega) (by omega) (Ext.size X10.out) ?_; intro A11 n11 c11 w11 hO11 hB11 hG11; obtain ⟨A12, c12, hv12, sl12⟩ := hO11.sle; injection hv12 with hv1 hv2 hv3; subst hv1 hv3; rw [← hv2] at sl12; have HN11 := Lib.hid hv2; clear hv2; have S12 := Lib.hid sl12; have X911 := Lib.hid (show Ext w9 w11 from Below.trans X10.out hB11); have X11 := Lib.hid (bt X9.out X911.out); clear hO11 hB11 hG11 sl12; refine hK _ _ ?_))
                  go_returns
                  have hl12 : n11 = ne + nf := by rw [HN11.out, List.length_append, HE1.out.len, HE2.out.len]
                  cases r9 with
                  | none =>
                    have hf : b9 = false := HB9.out.symm
                    subst hf
                    have hN : rdF ts (f + 1) set way plan = none := by rw [HY.out, H1.out]; simp only [HH2.out]
                    exact ⟨_, rfl, ⟨_, _, _, _, _, _, _, by rw [hN]; rfl, S12.out, by omega, fun es r he => by rw [hN] at he; cases he⟩, X11.out⟩
                  | some x2 =>
                    obtain ⟨e2, r2⟩ := x2
                    have hf : b9 = true := HB9.out.symm
                    subst hf
                    obtain ⟨rfl, hts2, hl2, hlt2⟩ := HR2.out e2 r2 rfl
                    have hN : rdF ts (f + 1) set way plan = some (es1 ++ es2, r2) := by rw [HY.out, H1.out]; simp only [HH2.out]
                    exact ⟨_, rfl, ⟨_, _, _, _, _, _, _, by rw [hN]; rfl, S12.out, by omega, fun es r he => by
                      rw [hN] at he
                      injection he with he
                      injection he with he1 he2
                      subst he1 he2
                      exact ⟨rfl, hts2.below X911.out, by omega, by omega⟩⟩, X11.out⟩
end Go.Proofs.Tb
