/- The pairs of a tree from a key on: walk, pairs, for every loop body that keeps the trees. -/
import Derived.RangeFuncKeeps
import Derived.RangeFuncBound
import Derived.RangeFuncLeaves
import Derived.Shelf.Abstract
import Derived.Shelf.RegionOpen
import Derived.WalkKit
import Derived.OwnWalkIn
import Derived.TacticsInMore
import Derived.Test.YtfljnfdeboibhaaTsj
import Derived.Test.YtfljnfdeboibhaaFen
set_option linter.unusedVariables false
set_option linter.unusedSimpArgs false
namespace Go.Proofs.Tb
open Go.Maps Go.RowKit Go.Shelf
attribute [local go_sem] Oper.semAt_some

theorem room_none {F : Fence} (hd : F.depth = none) (k : Nat) : F.room k := fun d h => by rw [hd] at h; cases h
theorem roundIn_any {F : Fence} (hd : F.depth = none) {m m' : Nat} {P : Program} {l : Nat} {f : FuncId} {tmps : Array Value} {assign body : Code} {w : World} {R : Ending → World → Prop}
    (h : RoundIn F m P l f tmps assign body w R) : RoundIn F m' P l f tmps assign body w R := ⟨h.1, fun c cs _ => h.2 c cs (room_none hd _)⟩
theorem yieldAt_any {F : Fence} (hd : F.depth = none) {m : Nat} (m' : Nat) {P : Program} {l : Nat} {args : Array Value} {W : World} {R : Ending → World → Prop} (h : YieldAt F m P l args W R) : YieldAt F m' P l args W R := by
  obtain ⟨fn, tmps, assign, body, hy, hR⟩ := h
  exact ⟨fn, tmps, assign, body, hy, roundIn_any hd hR⟩
/-- The nodes of trees lie as they lay. -/
def KN (W W' : World) : Prop := ∀ (b : Nat) (cs : Array Value), W.heap[b]? = some (Obj.cells cs TNO (0, 0)) → W'.heap[b]? = some (Obj.cells cs TNO (0, 0))
theorem KN.trans {A B C : World} (h : KN A B) (k : KN B C) : KN A C := fun b cs e => k b cs (h b cs e)
theorem KN.refl (A : World) : KN A A := fun _ _ e => e
theorem KN.ext {A B : World} (h : Ext A B) : KN A B := fun b cs e => (h.block b (obj_lt e)).trans e
theorem KN.chg {X : Nat → Obj → Prop} {A B : World} (h : Chg X A B) (hX : ∀ b cs, ¬ X b (.cells cs TNO (0, 0))) : KN A B := fun b cs e => h.same b _ e (hX b cs)
theorem KN.tr {A W : World} {B : Nat → Nat} {Q : Nat → Prop} (h : KN A W) : ∀ {t : MT}, TrW A B Q t → TrW W B Q t
  | .nil, _ => trivial
  | .node _ _ _ _ _, ⟨h1, h2, h3, h4⟩ => ⟨h _ _ h1, h2, h.tr h3, h.tr h4⟩
/-- The pairs from a key on. -/
def geP (k : Str) (l : List Pr) : List Pr := l.filter fun p => !sl p.1 k
theorem geP_app (k : Str) (a b : List Pr) : geP k (a ++ b) = geP k a ++ geP k b := List.filter_append ..
abbrev encP (p : Pr) : Array Value := #[.string p.1, .string p.2]
set_option maxRecDepth 100000 in
set_option maxHeartbeats 4000000 in
theorem walk_in (F : Fence) (hd : F.depth = none) (hfn : ∀ f, F.fn f) (hro : F.round = none) (B : Nat → Nat) (Q : Nat → Prop) (l N : Nat) (low : Str) (J Jx : List Pr → World → Prop)
    (hJd : ∀ pre W, J pre W → J pre W.drew) (hY : ∀ m pre (x : Pr) W, J pre W → pre.length < N → YieldAt F m Try.prog l (encP x) W fun e W' =>
      (e = .returned (.bool true) ∧ J (pre ++ [x]) W' ∧ KN W W') ∨ (e = .returned (.bool false) ∧ Jx (pre ++ [x]) W')) (t : MT) :
    ∀ (n : Nat) (pre : List Pr) (W : World), TrW W B Q t → Srtd t.er.prs → J pre W → pre.length + (geP low t.er.prs).length ≤ N →
      CallsIn F n Try.prog 88 #[.pointer t.ad, .string low, .func (.yield l) #[] #[]] W fun e W' =>
        (e = .returned (.bool true) ∧ J (pre ++ geP low t.er.prs) W' ∧ KN W W') ∨ (e = .returned (.bool false) ∧ ∃ q, q <+: geP low t.er.prs ∧ Jx (pre ++ q) W') := by
  induction t with
  | nil =>
    intro n pre W ht _ hJ _
    show CallsIn F n Try.prog 88 #[.pointer none, .string low, .func (.yield l) #[] #[]] W _
    refine callsIn_of_wp Try.func88 rfl (hfn _) ?_ hro
    simp only [Try.ntmps88, List.size_toArray, List.length_cons, List.length_nil, Nat.reduceAdd, Nat.reduceSub, Array.replicate_succ, Array.replicate_zero, List.push_toArray, List.append_toArray, List.nil_append, List.cons_append]
    gi_wp2
    go_ret
    exact .inl ⟨rfl, by simpa [MT.er, Tr.prs, geP] using hJ, KN.refl _⟩
  | node g k v tl tr ihl ihr =>
    intro n pre W ht hs hJ hN
    have hdd : ∀ k : Nat, (F.depth.isSome = true → 1 ≤ k) := fun k h => by rw [hd] at h; cases h
    have hs' : Srtd (tl.er.prs ++ (k, v) :: tr.er.prs) := hs
    rw [srtd_mid] at hs'
    obtain ⟨sl1, sr1, sl2, sr2⟩ := hs'
    have hE : geP low (MT.node g k v tl tr).er.prs = geP low tl.er.prs ++ (if sl k low = true then [] else [(k, v)]) ++ geP low tr.er.prs := by
      show geP low (tl.er.prs ++ (k, v) :: tr.er.prs) = _
      rw [geP_app]
      unfold geP
      rw [List.filter_cons]
      cases h : sl k low <;> simp [h]
    rw [MT.ad_node]
    by_cases hlt : sl k low = true
    · have hl0 : geP low tl.er.prs = [] := List.filter_eq_nil_iff.2 fun p hp => by rw [sl_trans (sl2 p hp) hlt]; simp
      rw [if_pos hlt, hl0, List.nil_append, List.nil_append] at hE
      rw [hE] at hN ⊢
      have c := ht.1.cells
      simp only [cellsAre, Nat.zero_add, Nat.reduceAdd, and_true] at c
      have d1 : Op.bytesLess k.toList low.toList = true := hlt
      have HR := ihr (n - 1) pre W ht.2.2.2 sr1 hJ hN
      clear ihl ihr hY hJd hs sl1 sr1 sl2 sr2 hE hl0 hlt hN ht hJ
      refine callsIn_of_wp Try.func88 rfl (hfn _) ?_ hro
      simp only [Try.ntmps88, List.size_toArray, List.length_cons, List.length_nil, Nat.reduceAdd, Nat.reduceSub, Array.replicate_succ, Array.replicate_zero, List.push_toArray, List.append_toArray, List.nil_append, List.cons_append]
      gi_wp2_with ((try refine ⟨hdd _, ?_⟩); gi_at_call 88; refine HR.mono ?_; clear HR; rintro e W1 (⟨rfl, hJ1, hk1⟩ | ⟨rfl, q, hq, hx1⟩))
      · go_ret
        exact .inl ⟨rfl, hJ1, hk1⟩
      · go_ret
        exact .inr ⟨rfl, q, hq, hx1⟩
    · have hlt' : sl k low = false := by simpa using hlt
      rw [if_neg hlt] at hE
      rw [hE, List.length_append, List.length_append, List.length_singleton] at hN
      rw [hE]
      have d1 : Op.bytesLess k.toList low.toList = false := hlt'
      have c := fun w' (hh : KN W w') => (hh.tr ht).1.cells
      simp only [cellsAre, Nat.zero_add, Nat.reduceAdd, and_true] at c
      have c0 := c W (KN.refl W)
      have hkd : KN W W.drew := KN.ext (Ext.drew W)
      have HL := Lib.hid (ihl (n - 1) pre W.drew (hkd.tr ht.2.2.1) sl1 (hJd _ _ hJ) (by omega))
      have HR := Lib.hid ihr
      have HY := Lib.hid hY
      have HT := Lib.hid ht
      have HSR := Lib.hid sr1
      have HE := Lib.hid (show ∀ pre : List Pr, pre ++ (geP low tl.er.prs ++ [(k, v)] ++ geP low tr.er.prs) = pre ++ geP low tl.er.prs ++ [(k, v)] ++ geP low tr.er.prs from fun pre => by simp only [List.append_assoc])
      obtain ⟨GL, hGL⟩ : ∃ GL, geP low tl.er.prs = GL := ⟨_, rfl⟩
      obtain ⟨GR, hGR⟩ : ∃ GR, geP low tr.er.prs = GR := ⟨_, rfl⟩
      rw [hGL] at HL
      rw [hGL, hGR] at hN HE ⊢
      have HGR := Lib.hid hGR
      clear ihl ihr hY hs sl1 sr1 sl2 sr2 hE hlt hlt' ht hJ hJd hGL hGR
      refine callsIn_of_wp Try.func88 rfl (hfn _) ?_ hro
      simp only [Try.ntmps88, List.size_toArray, List.length_cons, List.length_nil, Nat.reduceAdd, Nat.reduceSub, Array.replicate_succ, Array.replicate_zero, List.push_toArray, List.append_toArray, List.nil_append, List.cons_append]
      gi_wp2
      refine wp_region_cut hro hfn (S := (KN W)) [6, 17, 26] [(0, true, some 22, none), (1, true, some 23, none), (2, true, some 24, none), (3, true, some 25, none), (4, true, some 26, none), (5, true, some 27, none), (6, false, some 28, none), (7, true, some 29, none), (8, true, some 30, some (29, true)), (9, true, some 31, some (29, true)), (10, true, some 32, some (29, true)), (11, true, some 33, some (29, true)), (12, true, some 34, some (29, true)), (13, true, some 35, some (29, true)), (14, true, some 36, some (29, true)), (15, true, some 37, some (29, true)), (16, true, some 38, some (29, true)), (17, false, some 39, some (29, true)), (18, true, some 40, none), (19, true, some 41, none), (20, true, some 42, some (41, true)), (21, true, some 43, some (41, true)), (22, true, some 44, some (41, true)), (23, true, some 45, some (41, true)), (24, true, some 46, some (41, true)), (25, true, some 47, some (41, true)), (26, false, some 48, some (41, true)), (27, true, some 49, none), (28, false, some 6, none)] #[true, true, true, true, true, true, true, true, true, true, true, true, true, true, true, true, true, true, true, true, true, true, true, true, true, true, true, true, true] (by kernel_rfl) (by kernel_rfl) (fun _ _ _ _ _ => ⟨fun h => h, fun h => h⟩) (cuts_of [(6, [3, 4, 5, 2, 1, 0], [7, 8, 9, 10, 11, 12, 13, 14, 15, 16, 17, 18, 19, 20, 21, 22, 23, 24, 25, 26, 27, 28]), (17, [7, 6, 3, 4, 5, 2, 1, 0, 8, 12, 11, 10, 9, 16, 15, 14, 13], [18, 19, 20, 21, 22, 23, 24, 25, 26, 27, 28]), (26, [19, 18, 17, 7, 6, 3, 4, 5, 2, 1, 0, 8, 12, 11, 10, 9, 16, 15, 14, 13, 23, 24, 25, 22, 21, 20], [27, 28])] (by kernel_rfl)) (by kernel_rfl) rfl (by kernel_rfl) hkd ?_
      repeat (first | (refine wpSeqBC_pure (v := ?_) rfl ?_ ?_; rotate_left 1; (focus (intro wq_ hSq_; (try dsimp only at hSq_); go_simp; (try with_reducible rfl); done)); (try simp only [Act.put, List.setIfInBounds_toArray, List.set_cons_zero, List.set_cons_succ])) | (refine wpSeqBC_pureG (v := ?_) rfl rfl ?_ ?_; rotate_left 1; (focus (intro wq_ hSq_; (try dsimp only at hSq_); go_simp; (try with_reducible rfl); done)); (try simp only [Act.put, List.setIfInBounds_toArray, List.set_cons_zero, List.set_cons_succ])) | (refine wpSeqBC_off rfl rfl ?_; (try simp only [Act.put, List.setIfInBounds_toArray, List.set_cons_zero, List.set_cons_succ])) | (refine wpSeqBC_offU rfl ?_; (try simp only [Act.put, List.setIfInBounds_toArray, List.set_cons_zero, List.set_cons_succ])))
      first | refine wpSeqBC_call rfl (fun K hK => ?_) | refine wpSeqBC_callG rfl rfl (fun K hK => ?_)
      go_simp
      refine HL.out.mono ?_
      rintro e W1 (⟨rfl, hJ1, hk1⟩ | ⟨rfl, q, hq, hx1⟩)
      · have s1 := hkd.trans hk1
        refine hK.out _ _ _ (Or.inl rfl) s1 ?_
        clear hK K
        (try simp only [List.getElem_toArray, List.getElem_cons_succ, List.getElem_cons_zero, Act.put, List.setIfInBounds_toArray, List.set_cons_zero, List.set_cons_succ])
        repeat (first | (refine wpSeqBC_pure (v := ?_) rfl ?_ ?_; rotate_left 1; (focus (intro wq_ hSq_; (try dsimp only at hSq_); go_simp; (try with_reducible rfl); done)); (try simp only [Act.put, List.setIfInBounds_toArray, List.set_cons_zero, List.set_cons_succ])) | (refine wpSeqBC_pureG (v := ?_) rfl rfl ?_ ?_; rotate_left 1; (focus (intro wq_ hSq_; (try dsimp only at hSq_); go_simp; (try with_reducible rfl); done)); (try simp only [Act.put, List.setIfInBounds_toArray, List.set_cons_zero, List.set_cons_succ])) | (refine wpSeqBC_off rfl rfl ?_; (try simp only [Act.put, List.setIfInBounds_toArray, List.set_cons_zero, List.set_cons_succ])) | (refine wpSeqBC_offU rfl ?_; (try simp only [Act.put, List.setIfInBounds_toArray, List.set_cons_zero, List.set_cons_succ])))
        obtain ⟨fn, tmps, assign, body, hy, hR⟩ := HY.out (n - 1) (pre ++ GL) (k, v) W1 hJ1 (by rw [List.length_append]; omega)
        dsimp only [encP] at hy
        first | refine wpSeqBC_call rfl (fun K hK => ?_) | refine wpSeqBC_callG rfl rfl (fun K hK => ?_)
        go_simp
        refine hR.mono ?_
        rintro e W2 (⟨rfl, hJ2, hk2⟩ | ⟨rfl, hx2⟩)
        · have s2 := s1.trans hk2
          refine hK.out _ _ _ (Or.inl rfl) s2 ?_
          clear hK K
          (try simp only [List.getElem_toArray, List.getElem_cons_succ, List.getElem_cons_zero, Act.put, List.setIfInBounds_toArray, List.set_cons_zero, List.set_cons_succ])
          repeat (first | (refine wpSeqBC_pure (v := ?_) rfl ?_ ?_; rotate_left 1; (focus (intro wq_ hSq_; (try dsimp only at hSq_); go_simp; (try with_reducible rfl); done)); (try simp only [Act.put, List.setIfInBounds_toArray, List.set_cons_zero, List.set_cons_succ])) | (refine wpSeqBC_pureG (v := ?_) rfl rfl ?_ ?_; rotate_left 1; (focus (intro wq_ hSq_; (try dsimp only at hSq_); go_simp; (try with_reducible rfl); done)); (try simp only [Act.put, List.setIfInBounds_toArray, List.set_cons_zero, List.set_cons_succ])) | (refine wpSeqBC_off rfl rfl ?_; (try simp only [Act.put, List.setIfInBounds_toArray, List.set_cons_zero, List.set_cons_succ])) | (refine wpSeqBC_offU rfl ?_; (try simp only [Act.put, List.setIfInBounds_toArray, List.set_cons_zero, List.set_cons_succ])))
          first | refine wpSeqBC_call rfl (fun K hK => ?_) | refine wpSeqBC_callG rfl rfl (fun K hK => ?_)
          go_simp
          refine (HR.out (n - 1) (pre ++ GL ++ [(k, v)]) W2 (s2.tr HT.out.2.2.2) HSR.out hJ2 (by rw [HGR.out]; simp only [List.length_append, List.length_singleton]; omega)).mono ?_
          rw [HGR.out]
          rintro e W3 (⟨rfl, hJ3, hk3⟩ | ⟨rfl, q, hq, hx3⟩)
          · have s3 := s2.trans hk3
            refine hK.out _ _ _ (Or.inl rfl) s3 ?_
            clear hK K
            (try simp only [List.getElem_toArray, List.getElem_cons_succ, List.getElem_cons_zero, Act.put, List.setIfInBounds_toArray, List.set_cons_zero, List.set_cons_succ])
            repeat (first | (refine wpSeqBC_pure (v := ?_) rfl ?_ ?_; rotate_left 1; (focus (intro wq_ hSq_; (try dsimp only at hSq_); go_simp; (try with_reducible rfl); done)); (try simp only [Act.put, List.setIfInBounds_toArray, List.set_cons_zero, List.set_cons_succ])) | (refine wpSeqBC_pureG (v := ?_) rfl rfl ?_ ?_; rotate_left 1; (focus (intro wq_ hSq_; (try dsimp only at hSq_); go_simp; (try with_reducible rfl); done)); (try simp only [Act.put, List.setIfInBounds_toArray, List.set_cons_zero, List.set_cons_succ])) | (refine wpSeqBC_off rfl rfl ?_; (try simp only [Act.put, List.setIfInBounds_toArray, List.set_cons_zero, List.set_cons_succ])) | (refine wpSeqBC_offU rfl ?_; (try simp only [Act.put, List.setIfInBounds_toArray, List.set_cons_zero, List.set_cons_succ])))
            first | refine wpSeqBC_call rfl (fun K hK => ?_) | refine wpSeqBC_callG rfl rfl (fun K hK => ?_)
            go_simp
            refine hK.out _ _ _ (Or.inl rfl) s3 ?_
            clear hK K
            (try simp only [List.getElem_toArray, List.getElem_cons_succ, List.getElem_cons_zero, Act.put, List.setIfInBounds_toArray, List.set_cons_zero, List.set_cons_succ])
            repeat (first | (refine wpSeqBC_pure (v := ?_) rfl ?_ ?_; rotate_left 1; (focus (intro wq_ hSq_; (try dsimp only at hSq_); go_simp; (try with_reducible rfl); done)); (try simp only [Act.put, List.setIfInBounds_toArray, List.set_cons_zero, List.set_cons_succ])) | (refine wpSeqBC_pureG (v := ?_) rfl rfl ?_ ?_; rotate_left 1; (focus (intro wq_ hSq_; (try dsimp only at hSq_); go_simp; (try with_reducible rfl); done)); (try simp only [Act.put, List.setIfInBounds_toArray, List.set_cons_zero, List.set_cons_succ])) | (refine wpSeqBC_off rfl rfl ?_; (try simp only [Act.put, List.setIfInBounds_toArray, List.set_cons_zero, List.set_cons_succ])) | (refine wpSeqBC_offU rfl ?_; (try simp only [Act.put, List.setIfInBounds_toArray, List.set_cons_zero, List.set_cons_succ])))
            refine wpSeqBC_nil ?_
            gi_wp2
            go_ret
            exact .inl ⟨rfl, by rw [HE.out]; exact hJ3, s3⟩
          · refine hK.out _ _ (fun _ => True) (Or.inr (by simp)) trivial ?_
            clear hK K
            (try simp only [List.getElem_toArray, List.getElem_cons_succ, List.getElem_cons_zero, Act.put, List.setIfInBounds_toArray, List.set_cons_zero, List.set_cons_succ])
            repeat (first | (refine wpSeqBC_pure (v := ?_) rfl ?_ ?_; rotate_left 1; (focus (intro wq_ hSq_; (try dsimp only at hSq_); go_simp; (try with_reducible rfl); done)); (try simp only [Act.put, List.setIfInBounds_toArray, List.set_cons_zero, List.set_cons_succ])) | (refine wpSeqBC_pureG (v := ?_) rfl rfl ?_ ?_; rotate_left 1; (focus (intro wq_ hSq_; (try dsimp only at hSq_); go_simp; (try with_reducible rfl); done)); (try simp only [Act.put, List.setIfInBounds_toArray, List.set_cons_zero, List.set_cons_succ])) | (refine wpSeqBC_off rfl rfl ?_; (try simp only [Act.put, List.setIfInBounds_toArray, List.set_cons_zero, List.set_cons_succ])) | (refine wpSeqBC_offU rfl ?_; (try simp only [Act.put, List.setIfInBounds_toArray, List.set_cons_zero, List.set_cons_succ])))
            first | refine wpSeqBC_call rfl (fun K hK => ?_) | refine wpSeqBC_callG rfl rfl (fun K hK => ?_)
            go_simp
            refine hK.out _ _ _ (Or.inl rfl) trivial ?_
            clear hK K
            (try simp only [List.getElem_toArray, List.getElem_cons_succ, List.getElem_cons_zero, Act.put, List.setIfInBounds_toArray, List.set_cons_zero, List.set_cons_succ])
            repeat (first | (refine wpSeqBC_pure (v := ?_) rfl ?_ ?_; rotate_left 1; (focus (intro wq_ hSq_; (try dsimp only at hSq_); go_simp; (try with_reducible rfl); done)); (try simp only [Act.put, List.setIfInBounds_toArray, List.set_cons_zero, List.set_cons_succ])) | (refine wpSeqBC_pureG (v := ?_) rfl rfl ?_ ?_; rotate_left 1; (focus (intro wq_ hSq_; (try dsimp only at hSq_); go_simp; (try with_reducible rfl); done)); (try simp only [Act.put, List.setIfInBounds_toArray, List.set_cons_zero, List.set_cons_succ])) | (refine wpSeqBC_off rfl rfl ?_; (try simp only [Act.put, List.setIfInBounds_toArray, List.set_cons_zero, List.set_cons_succ])) | (refine wpSeqBC_offU rfl ?_; (try simp only [Act.put, List.setIfInBounds_toArray, List.set_cons_zero, List.set_cons_succ])))
            refine wpSeqBC_nil ?_
            gi_wp2
            go_ret
            obtain ⟨r, hr'⟩ := hq
            exact .inr ⟨rfl, GL ++ (k, v) :: q, ⟨r, by rw [← hr']; simp⟩, by simpa [List.append_assoc] using hx3⟩
        · refine hK.out _ _ (fun _ => True) (Or.inr (by simp)) trivial ?_
          clear hK K
          (try simp only [List.getElem_toArray, List.getElem_cons_succ, List.getElem_cons_zero, Act.put, List.setIfInBounds_toArray, List.set_cons_zero, List.set_cons_succ])
          repeat (first | (refine wpSeqBC_pure (v := ?_) rfl ?_ ?_; rotate_left 1; (focus (intro wq_ hSq_; (try dsimp only at hSq_); go_simp; (try with_reducible rfl); done)); (try simp only [Act.put, List.setIfInBounds_toArray, List.set_cons_zero, List.set_cons_succ])) | (refine wpSeqBC_pureG (v := ?_) rfl rfl ?_ ?_; rotate_left 1; (focus (intro wq_ hSq_; (try dsimp only at hSq_); go_simp; (try with_reducible rfl); done)); (try simp only [Act.put, List.setIfInBounds_toArray, List.set_cons_zero, List.set_cons_succ])) | (refine wpSeqBC_off rfl rfl ?_; (try simp only [Act.put, List.setIfInBounds_toArray, List.set_cons_zero, List.set_cons_succ])) | (refine wpSeqBC_offU rfl ?_; (try simp only [Act.put, List.setIfInBounds_toArray, List.set_cons_zero, List.set_cons_succ])))
          first | refine wpSeqBC_call rfl (fun K hK => ?_) | refine wpSeqBC_callG rfl rfl (fun K hK => ?_)
          go_simp
          refine hK.out _ _ _ (Or.inl rfl) trivial ?_
          clear hK K
          (try simp only [List.getElem_toArray, List.getElem_cons_succ, List.getElem_cons_zero, Act.put, List.setIfInBounds_toArray, List.set_cons_zero, List.set_cons_succ])
          repeat (first | (refine wpSeqBC_pure (v := ?_) rfl ?_ ?_; rotate_left 1; (focus (intro wq_ hSq_; (try dsimp only at hSq_); go_simp; (try with_reducible rfl); done)); (try simp only [Act.put, List.setIfInBounds_toArray, List.set_cons_zero, List.set_cons_succ])) | (refine wpSeqBC_pureG (v := ?_) rfl rfl ?_ ?_; rotate_left 1; (focus (intro wq_ hSq_; (try dsimp only at hSq_); go_simp; (try with_reducible rfl); done)); (try simp only [Act.put, List.setIfInBounds_toArray, List.set_cons_zero, List.set_cons_succ])) | (refine wpSeqBC_off rfl rfl ?_; (try simp only [Act.put, List.setIfInBounds_toArray, List.set_cons_zero, List.set_cons_succ])) | (refine wpSeqBC_offU rfl ?_; (try simp only [Act.put, List.setIfInBounds_toArray, List.set_cons_zero, List.set_cons_succ])))
          refine wpSeqBC_nil ?_
          gi_wp2
          go_ret
          exact .inr ⟨rfl, GL ++ [(k, v)], ⟨GR, by simp⟩, by simpa [List.append_assoc] using hx2⟩
      · refine hK.out _ _ (fun _ => True) (Or.inr (by simp)) trivial ?_
        clear hK K
        (try simp only [List.getElem_toArray, List.getElem_cons_succ, List.getElem_cons_zero, Act.put, List.setIfInBounds_toArray, List.set_cons_zero, List.set_cons_succ])
        repeat (first | (refine wpSeqBC_pure (v := ?_) rfl ?_ ?_; rotate_left 1; (focus (intro wq_ hSq_; (try dsimp only at hSq_); go_simp; (try with_reducible rfl); done)); (try simp only [Act.put, List.setIfInBounds_toArray, List.set_cons_zero, List.set_cons_succ])) | (refine wpSeqBC_pureG (v := ?_) rfl rfl ?_ ?_; rotate_left 1; (focus (intro wq_ hSq_; (try dsimp only at hSq_); go_simp; (try with_reducible rfl); done)); (try simp only [Act.put, List.setIfInBounds_toArray, List.set_cons_zero, List.set_cons_succ])) | (refine wpSeqBC_off rfl rfl ?_; (try simp only [Act.put, List.setIfInBounds_toArray, List.set_cons_zero, List.set_cons_succ])) | (refine wpSeqBC_offU rfl ?_; (try simp only [Act.put, List.setIfInBounds_toArray, List.set_cons_zero, List.set_cons_succ])))
        first | refine wpSeqBC_call rfl (fun K hK => ?_) | refine wpSeqBC_callG rfl rfl (fun K hK => ?_)
        go_simp
        refine hK.out _ _ _ (Or.inl rfl) trivial ?_
        clear hK K
        (try simp only [List.getElem_toArray, List.getElem_cons_succ, List.getElem_cons_zero, Act.put, List.setIfInBounds_toArray, List.set_cons_zero, List.set_cons_succ])
        repeat (first | (refine wpSeqBC_pure (v := ?_) rfl ?_ ?_; rotate_left 1; (focus (intro wq_ hSq_; (try dsimp only at hSq_); go_simp; (try with_reducible rfl); done)); (try simp only [Act.put, List.setIfInBounds_toArray, List.set_cons_zero, List.set_cons_succ])) | (refine wpSeqBC_pureG (v := ?_) rfl rfl ?_ ?_; rotate_left 1; (focus (intro wq_ hSq_; (try dsimp only at hSq_); go_simp; (try with_reducible rfl); done)); (try simp only [Act.put, List.setIfInBounds_toArray, List.set_cons_zero, List.set_cons_succ])) | (refine wpSeqBC_off rfl rfl ?_; (try simp only [Act.put, List.setIfInBounds_toArray, List.set_cons_zero, List.set_cons_succ])) | (refine wpSeqBC_offU rfl ?_; (try simp only [Act.put, List.setIfInBounds_toArray, List.set_cons_zero, List.set_cons_succ])))
        refine wpSeqBC_nil ?_
        gi_wp2
        go_ret
        exact .inr ⟨rfl, q, hq.trans ⟨[(k, v)] ++ GR, by simp⟩, hx1⟩
set_option maxRecDepth 100000 in
set_option maxHeartbeats 2000000 in
theorem pairs1_in (F : Fence) (hd : F.depth = none) (hfn : ∀ f, F.fn f) (hro : F.round = none) (n : Nat) (l b1 b2 : Nat) (B : Nat → Nat) (Q : Nat → Prop) (t : MT) (low : Str) (J Jx : List Pr → World → Prop) (hJd : ∀ pre W, J pre W → J pre W.drew)
    (hY : ∀ pre (x : Pr) W, J pre W → pre.length < (geP low t.er.prs).length → YieldAt F (n - 1) Try.prog l (encP x) W fun e W' =>
      (e = .returned (.bool true) ∧ J (pre ++ [x]) W' ∧ KN W W') ∨ (e = .returned (.bool false) ∧ Jx (pre ++ [x]) W'))
    (W : World) (h1 : W.cell? ⟨b1, 0, none⟩ = some (.pointer t.ad)) (h2 : W.cell? ⟨b2, 0, none⟩ = some (.string low)) (ht : TrW W B Q t) (hs : Srtd t.er.prs) (h0 : J [] W) :
    CallsIn F n Try.prog 87 #[.func (.yield l) #[] #[], .pointer (some ⟨b1, 0, none⟩), .pointer (some ⟨b2, 0, none⟩)] W fun e W' => (∃ v, e = .returned v) ∧
      ((∃ ys, ys = geP low t.er.prs ∧ J ys W') ∨ (∃ pre, pre <+: geP low t.er.prs ∧ Jx pre W')) := by
  have hdd : ∀ k : Nat, (F.depth.isSome = true → 1 ≤ k) := fun k h => by rw [hd] at h; cases h
  have HP := Lib.hid (walk_in F hd hfn hro B Q l (geP low t.er.prs).length low J Jx hJd (fun m pre x W hj hl => yieldAt_any hd m (hY pre x W hj hl)) t (n - 1) [] W ht hs h0 (by simp))
  clear hJd hY ht hs h0
  refine callsIn_of_wp Try.func87 rfl (hfn _) ?_ hro
  simp only [Try.ntmps87, List.size_toArray, List.length_cons, List.length_nil, Nat.reduceAdd, Nat.reduceSub, Array.replicate_succ, Array.replicate_zero, List.push_toArray, List.append_toArray, List.nil_append, List.cons_append]
  gi_wp2_with ((try refine ⟨hdd _, ?_⟩); gi_at_call 88; refine HP.out.mono ?_; rintro e W1 (⟨rfl, hJ1, _⟩ | ⟨rfl, q, hq, hx⟩))
  · go_end0
    exact ⟨⟨_, rfl⟩, .inl ⟨_, rfl, by simpa using hJ1⟩⟩
  · go_end0
    exact ⟨⟨_, rfl⟩, .inr ⟨q, hq, by simpa using hx⟩⟩
theorem pairs_stops (F : Fence) (hd : F.depth = none) (hfn : ∀ f, F.fn f) (hro : F.round = none) (n : Nat) (b1 b2 : Nat) (B : Nat → Nat) (Q : Nat → Prop) (t : MT) (low : Str) (w : World) (hb1 : b1 < w.heap.size) (hb2 : b2 < w.heap.size)
    (h1 : w.cell? ⟨b1, 0, none⟩ = some (.pointer t.ad)) (h2 : w.cell? ⟨b2, 0, none⟩ = some (.string low)) (ht : TrW w B Q t) (hs : Srtd t.er.prs) :
    SeqStopsK F n Try.prog 87 #[.pointer (some ⟨b1, 0, none⟩), .pointer (some ⟨b2, 0, none⟩)] encP KN (fun ys => ys = geP low t.er.prs) (fun pre => pre <+: geP low t.er.prs) (geP low t.er.prs).length w := fun l J Jx W hW hJ _ hY h0 =>
  pairs1_in F hd hfn hro n l b1 b2 B Q t low J Jx (fun pre W h => hJ pre W W.drew none h ⟨rfl, rfl, rfl, Nat.le_refl _, fun _ _ _ => rfl⟩ (fun r e => by cases e)) hY W ((hW.cell (p := ⟨b1, 0, none⟩) hb1).trans h1) ((hW.cell (p := ⟨b2, 0, none⟩) hb2).trans h2) (ht.below hW) hs h0
set_option maxRecDepth 100000 in
set_option maxHeartbeats 1000000 in
theorem rpairs_any (p : Option Addr) (low : Str) (w : World) :
    Calls Try.prog 61 #[.pointer p, .string low] w fun e w' => e = .returned (.func (.func 87) #[] #[.pointer (some ⟨w.heap.size, 0, none⟩), .pointer (some ⟨w.heap.size + 1, 0, none⟩)]) ∧ w' = (w.alloc (.cells #[.pointer p] TNP)).alloc (.cells #[.string low] TST) := by
  go_enter Try.func61, Try.ntmps61
  go_wp2
  go_returns
  exact ⟨rfl, rfl⟩
end Go.Proofs.Tb
