/- Contracts of the reference for rates: middle, Slopes, Median. -/
import Derived.Test.YtcbffkkcldnegaaGreatZsrt
import Derived.Test.YtcbffkkcldnegaaGreatRmed
import Derived.Test.YtcbffkkcldnegaaGreatRefU
set_option linter.unusedVariables false
set_option linter.unusedSimpArgs false
namespace Go.Proofs.Tb
open Go.RowKit
attribute [local go_sem] cell_set_same

set_option maxHeartbeats 3200000 in
set_option maxRecDepth 100000 in
theorem zmiddle_any (b o n c s : Nat) (d : List QE) (w : World) (h : Rw qE 4 TQ w (some ⟨b, o, none⟩) n c d) (hz : QZ w s d) (h0 : 0 < n) (hs : s ≤ 1000000000) (hn : n ≤ 100000000) :
    Calls Tryz.prog 48 #[.slice (some ⟨b, o, none⟩) n c] w (Ret (fun v w' => ZX w' v (med (d.map Prod.snd)) (s + s + 6)) w) := by
  have hnc := h.le
  have hc := h.cap
  have HL := Lib.hid h.len
  have H := Lib.hid h
  have HZ := Lib.hid hz
  clear h hz
  go_enter Tryz.func48, Tryz.ntmps48
  go_wp2_with fail
  obtain ⟨W0, hW0⟩ : ∃ W0, W0 = w.alloc (.cells #[.bool false, .slice none 0 0, .bool false, .slice none 0 0] TQ) := ⟨_, rfl⟩
  have e0 : Blk W0 w.heap.size TQ #[.bool false, .slice none 0 0, .bool false, .slice none 0 0] := by rw [hW0]; exact Blk.new_ _ _ rfl
  have hbw : Below w.heap.size w W0 := by rw [hW0]; go_grown
  rw [← hW0]
  clear hW0
  refine (zsorted_any b o n c s d W0 (H.out.below hbw) (HZ.out.below hbw) (by omega) hn).mono ?_
  rintro e w1 ⟨v1, rfl, ⟨b1, o1, c1, el, rfl, hr1, hz1, hs1, hp1⟩, hb1⟩
  have hc1 := hr1.cap
  have hn1 := hr1.le
  have HR1 := Lib.hid hr1
  have HZ1 := Lib.hid hz1
  have HS1 := Lib.hid hs1
  have HP1 := Lib.hid hp1
  have E0 := Lib.hid (e0.below hb1)
  have HB1 := Lib.hid (bt hbw hb1)
  clear hr1 hz1 hs1 hp1 e0 hbw hb1
  have q3 : IntKind.i64.wrap ((n : Int) / 2) = ((n / 2 : Nat) : Int) := by
    rw [IntWalk.i64_in _ (by omega)]; omega
  have p2 : ((n / 2 : Nat) : Int) < (n : Int) := by omega
  have hln : (d.map Prod.snd).length = n := by rw [List.length_map, HL.out]
  obtain ⟨i2, hi2⟩ : ∃ i, n / 2 = i := ⟨_, rfl⟩
  by_cases hodd : n % 2 = 1
  · have HM : Hid (qAt el i2 = med (d.map Prod.snd)) := by
      rw [med_odd HP1.out HS1.out (by rw [hln]; exact hodd), hln, hi2, qAt_map _ _ (by rw [HR1.out.len]; omega)]
      exact (rfl : _ = _)
    have g1 : ((n : Int) % 2 == 1) = true := by simp; omega
    rw [hi2] at q3 p2
    have hi3 : i2 < n := by omega
    clear hi2 hln hodd
    obtain ⟨x1, X1, m1, l1, x2, X2, m2, l2, hx, _, hxc⟩ := QZ.at HZ1.out HR1.out hi3
    obtain ⟨k1, k2, k3, k4⟩ := hxc w1 (Ext.refl _)
    have HX := Lib.hid hx
    have k0 := zcells E0.out
    have kf := E0.out.free
    have hh1 : Held w.heap.size 4 TQ w1 w1 := E0.out.heldS
    have r1 := (rules w.heap.size 4 TQ w1).some
    clear hx hxc
    go_wp2
    (try simp only [Exit.inBlock, Exit.then])
    refine bodyPost_ret (v := .agg #[.bool x1, .slice X1 m1 l1, .bool x2, .slice X2 m2 l2]) (by simp [results, Tryz.results48, go_sem, r1 _ hh1]) rfl ?_
    have hst2 := Held.set_ (Held.set_ (Held.set_ (Held.set_ (hh1) 0 (.bool x1)) 1 (.slice X1 m1 l1)) 2 (.bool x2)) 3 (.slice X2 m2 l2)
    exact ⟨_, rfl, ((HX.out.eq HM.out).le (by omega)).held hst2 (by decide), hst2.below HB1.out (Nat.le_refl _)⟩
  · have hev : n % 2 = 0 := by omega
    have hn2 : 2 ≤ n := by omega
    have HM : Hid ((qAt el (i2 - 1) + qAt el i2) / ((2 : Int) : Rat) = med (d.map Prod.snd)) := by
      rw [med_even HP1.out HS1.out (by rw [hln]; exact hev), hln, hi2, qAt_map _ _ (by rw [HR1.out.len]; omega), qAt_map _ _ (by rw [HR1.out.len]; omega)]
      exact (rfl : _ = _)
    have g1 : ((n : Int) % 2 == 1) = false := by simp; omega
    rw [hi2] at q3 p2
    have hi3 : i2 < n := by omega
    have hi4 : i2 - 1 < n := by omega
    obtain ⟨i1, hi1⟩ : ∃ i, i2 - 1 = i := ⟨_, rfl⟩
    have q4 : IntKind.i64.wrap ((i2 : Int) - 1) = (i1 : Int) := by
      rw [IntWalk.i64_in _ (by omega)]; omega
    rw [hi1] at HM hi4
    have p1 : (i1 : Int) < (n : Int) := by omega
    clear hi2 hln hodd hev hi1
    obtain ⟨x1, X1, m1, l1, x2, X2, m2, l2, hx, _, hxc⟩ := QZ.at HZ1.out HR1.out hi4
    obtain ⟨y1, Y1, r1, t1, y2, Y2, r2, t2, hy, _, hyc⟩ := QZ.at HZ1.out HR1.out hi3
    have HX := Lib.hid hx
    have HY := Lib.hid hy
    have kx := fun w' (hh : Ext w1 w') => hxc w' hh
    have ky := fun w' (hh : Ext w1 w') => hyc w' hh
    have hst : Ext w1 w1.drew := Ext.drew _
    clear hx hxc hy hyc
    go_upto_region 4 with fail
    refine wp_region_adv 11 [] [(0, true, some 17, none), (1, true, some 18, none), (2, true, some 19, none), (3, true, some 20, none), (4, true, some 21, none), (5, true, some 22, none), (6, true, some 23, none), (7, true, some 24, none), (8, true, some 25, none), (9, true, some 26, none), (10, true, some 27, none)] (by kernel_rfl) (by kernel_rfl) (by kernel_rfl) (by intro it hit; (repeat (rcases List.mem_cons.1 hit with rfl | hit; (focus (intro o ho ev w; injection ho with ho; subst ho; kernel_rfl)))); cases hit) (fun _ _ _ _ _ => ⟨fun h => h, fun h => h⟩) hst ?_
    repeat (first | (refine wpSeq_pure (v := ?_) rfl ?_ ?_; rotate_left 1; (focus (intro wq_ hSq_; (try dsimp only at hSq_); go_simp; (try with_reducible rfl); done)); (try simp only [Act.put, List.setIfInBounds_toArray, List.set_cons_zero, List.set_cons_succ])) | (refine wpSeq_pureG (v := ?_) rfl rfl ?_ ?_; rotate_left 1; (focus (intro wq_ hSq_; (try dsimp only at hSq_); go_simp; (try with_reducible rfl); done)); (try simp only [Act.put, List.setIfInBounds_toArray, List.set_cons_zero, List.set_cons_succ])) | (refine wpSeq_off rfl rfl ?_; (try simp only [Act.put, List.setIfInBounds_toArray, List.set_cons_zero, List.set_cons_succ])))
    intro wz gz sz_
    (try simp only [endJ, List.drop_succ_cons, List.drop_zero])
    have SZ := Lib.hid (show Ext w1 wz from sz_)
    clear hst kx ky gz sz_
    go_wp2_with fail
    refine (xadd_any (HX.out.below SZ.out) (HY.out.below SZ.out) (by omega)).mono ?_
    rintro ex w5 ⟨v5, rfl, x5, b5⟩
    obtain ⟨d5, A5, n5, c5, d5', A5', n5', c5', rfl⟩ := x5.form
    go_wp2_with fail
    refine (xwh_any 2 _ (by omega) (by omega)).mono ?_
    rintro ex w6 ⟨v6, rfl, x6, b6⟩
    obtain ⟨d6, A6, n6, c6, d6', A6', n6', c6', rfl⟩ := x6.form
    go_wp2_with fail
    refine (xdiv_any (x5.below b6) x6 (by decide) (by omega)).mono ?_
    rintro ex w7 ⟨v7, rfl, x7, b7⟩
    obtain ⟨d7, A7, n7, c7, d7', A7', n7', c7', rfl⟩ := x7.form
    go_wp2_with fail
    refine (xlowest_any x7 (by omega)).mono ?_
    rintro ex w8 ⟨v8, rfl, hz8, b8⟩
    have x8 := hz8.zx
    obtain ⟨d8, A8, n8, c8, d8', A8', n8', c8', rfl⟩ := x8.form
    have HB8 := Lib.hid (show Ext w1 w8 from bt SZ.out (bt b5 (bt b6 (bt b7 b8))))
    have X8 := Lib.hid x8
    have E8 := Lib.hid (E0.out.below HB8.out)
    have k0 := zcells E8.out
    have kf := E8.out.free
    have hh1 : Held w.heap.size 4 TQ w8 w8 := E8.out.heldS
    have r1 := (rules w.heap.size 4 TQ w8).some
    clear x5 x6 x7 x8 b5 b6 b7 b8 hz8
    go_wp2
    (try simp only [Exit.inBlock, Exit.then])
    refine bodyPost_ret (v := .agg #[.bool d8, .slice A8 n8 c8, .bool d8', .slice A8' n8' c8']) (by simp [results, Tryz.results48, go_sem, r1 _ hh1]) rfl ?_
    have hst2 := Held.set_ (Held.set_ (Held.set_ (Held.set_ (hh1) 0 (.bool d8)) 1 (.slice A8 n8 c8)) 2 (.bool d8')) 3 (.slice A8' n8' c8')
    exact ⟨_, rfl, ((X8.out.eq HM.out).le (by omega)).held hst2 (by decide), hst2.below (bt HB1.out HB8.out) (Nat.le_refl _)⟩
theorem ZX.grown {w w' : World} {v : Value} {x : Rat} {s : Nat} {row : Option Nat} (h : ZX w v x s) (hg : w.grownBy w' row) (hr : ∀ g, row = some g → ∀ cs fr, w.heap[g]? ≠ some (.cells cs TN fr)) : ZX w' v x s := by
  obtain ⟨p, q, ⟨A, n, c, A', n', c', hv, h1, h2, hq⟩, h3⟩ := h
  have hk : ∀ (b : Nat) (cs : Array Value) (fr : Nat × Nat), w.heap[b]? = some (Obj.cells cs TN fr) → w'.heap[b]? = w.heap[b]? := fun b cs fr hb => hg.block b (block_lt hb) (fun e => hr b e.symm cs fr hb)
  exact ⟨p, q, ⟨A, n, c, A', n', c', hv, h1.keep hk, h2.keep hk, hq⟩, h3⟩
theorem QZ.grown {w w' : World} {s : Nat} {d : List QE} {row : Option Nat} (h : QZ w s d) (hg : w.grownBy w' row) (hr : ∀ g, row = some g → ∀ cs fr, w.heap[g]? ≠ some (.cells cs TN fr)) : QZ w' s d := fun x hx => ⟨(h x hx).1, (h x hx).2.grown hg hr⟩
/-- The slopes of the reference, behind i outer rounds, and behind k rounds of the next one. -/
def prP (f : Nat → Nat → Rat) (n i : Nat) : List Rat := (List.range i).flatMap fun i => (List.range' (i + 1) (n - (i + 1))).map fun j => f i j
def prQ (f : Nat → Nat → Rat) (i k : Nat) : List Rat := (List.range' (i + 1) k).map fun j => f i j
theorem prP_succ (f : Nat → Nat → Rat) (n i : Nat) : prP f n (i + 1) = prP f n i ++ prQ f i (n - (i + 1)) := by
  unfold prP prQ
  rw [List.range_succ, List.flatMap_append]
  simp
theorem prQ_succ (f : Nat → Nat → Rat) (i k : Nat) : prQ f i (k + 1) = prQ f i k ++ [f i (i + 1 + k)] := by
  unfold prQ
  rw [List.range'_1_concat, List.map_append]
  rfl
theorem prP_len (f : Nat → Nat → Rat) (n i : Nat) (hn : n ≤ 64) : (prP f n i).length ≤ 64 * i := by
  induction i with
  | zero => simp [prP]
  | succ i ih => rw [prP_succ, List.length_append]; simp [prQ]; omega
/-- A list of the reference that the call owns. -/
def OwQ (base s : Nat) (w : World) (v : Value) (l : List Rat) : Prop := ∃ e : List QE, e.map Prod.snd = l ∧ QZ w s e ∧ w.ownsRow base TQ 4 v l.length (cel qE e) ∧ v.ownBlock ≠ none
theorem OwQ.empty (w : World) (s : Nat) : OwQ w.heap.size s (w.alloc (.cells #[] TQ)) (.slice (some ⟨w.heap.size, 0, none⟩) 0 0) [] :=
  ⟨[], rfl, QZ.nil, World.ownsRow_lit w #[] 0 (Nat.le_refl _) (by unfold maxLen; omega) rfl, by simp [Value.ownBlock]⟩
theorem OwQ.below {base s : Nat} {w w' : World} {v : Value} {l : List Rat} (h : OwQ base s w v l) (hb : Below w.heap.size w w') : OwQ base s w' v l := by
  obtain ⟨e, h1, h2, h3, h4⟩ := h
  exact ⟨e, h1, h2.below hb, own_below h3 hb, h4⟩
theorem OwQ.rw_ {base s : Nat} {w : World} {v : Value} {l : List Rat} (h : OwQ base s w v l) : ∃ b o c e, v = .slice (some ⟨b, o, none⟩) l.length c ∧ e.map Prod.snd = l ∧ QZ w s e ∧ Rw qE 4 TQ w (some ⟨b, o, none⟩) l.length c e := by
  obtain ⟨e, h1, h2, h3, h4⟩ := h
  rcases h3.2 with ⟨rfl, _⟩ | ⟨g, cap, cur, rfl, _⟩
  · simp [Value.ownBlock] at h4
  · exact ⟨g, 0, cap, e, rfl, h1, h2, Rw.of_own h3 (by simp) (by rw [← h1, List.length_map]) rfl (fun x hx => (h2 x hx).1)⟩
theorem OwQ.snoc {base s : Nat} {w w' : World} {v v' : Value} {l : List Rat} {a b c d : Value} {q : Rat} {e : List QE} (h1 : e.map Prod.snd = l) (h2 : QZ w s e) (h3 : w.ownsRow base TQ 4 v l.length (cel qE e)) (hx : ZX w (.agg #[a, b, c, d]) q s)
    (hg : w.grownBy w' v.ownBlock) (ho : w'.ownsRow base TQ 4 v' (l.length + 1) (cel qE e ++ [a, b, c, d])) : OwQ base s w' v' (l ++ [q]) := by
  refine ⟨e ++ [([a, b, c, d], q)], by rw [List.map_append, h1]; rfl, ?_, by rw [List.length_append, cel_app, cel_one]; exact ho, ?_⟩
  · exact (h2.app (QZ.single hx)).grown hg (own_tag h3 (by decide))
  · obtain ⟨b, o, c, rfl⟩ := own_app ho (by omega)
    simp [Value.ownBlock]
theorem zq_four (a b c d : Value) (h1 : a.oneCell' = true) (h2 : b.oneCell' = true) (h3 : c.oneCell' = true) (h4 : d.oneCell' = true) : ∀ u, u ∈ [a, b, c, d] → u.oneCell' = true := rE_four a b c d 0 h1 h2 h3 h4

set_option maxHeartbeats 3200000 in
set_option maxRecDepth 100000 in
theorem zslopes_any (A : Option Addr) (n c : Nat) (rs : List Rdg) (w : World) (h : Rd w A n c rs) (hv : Vld rs) :
    Calls Tryz.prog 16 #[.slice A n c] w (Ret (fun v w' => OwQ w.heap.size 10 w' v (prB (slQ rs) rs.length)) w) := by
  have hn := h.le
  have hc := h.cap
  have HL := Lib.hid h.len
  have H := Lib.hid h
  have HV := Lib.hid hv
  have hn64 : n ≤ 64 := by have := hv.2.1; have := HL.out; omega
  clear h hv
  go_enter Tryz.func16, Tryz.ntmps16
  go_wp2_with fail
  have hb0 : Below w.heap.size w (w.alloc (.cells #[] TQ)) := by go_grown
  have hw0 := OwQ.empty w 10
  go_loopw [3, 4] (fun vo iv wr => ∃ i : Nat, iv = .int .i64 (i : Int) ∧ i ≤ n ∧ OwQ w.heap.size 10 wr vo (prP (slQ rs) n i) ∧ Below w.heap.size w wr) (fun _ iv _ => n - (intOf iv).toNat)
  case atStart => exact ⟨0, rfl, by omega, hw0, hb0⟩
  case round =>
    clear hw0 hb0
    obtain ⟨i, rfl, hi, hown, hbw⟩ := hrel
    have HO := Lib.hid hown
    have HBW := Lib.hid hbw
    clear hown hbw
    by_cases hin : i < n
    · have g1 : decide ((i : Int) < (n : Int)) = true := by simp; omega
      go_wp2_with fail
      go_loopw [3, 5] (fun vo jv wx => ∃ k : Nat, jv = .int .i64 ((i + 1 + k : Nat) : Int) ∧ i + 1 + k ≤ n ∧ OwQ w.heap.size 10 wx vo (prP (slQ rs) n i ++ prQ (slQ rs) i k) ∧ Below w.heap.size w wx) (fun _ jv _ => n - (intOf jv).toNat)
      case atStart => exact ⟨0, by go_num, by omega, by unfold prQ; simpa using HO.out, HBW.out⟩
      case round =>
        clear HO HBW g1
        obtain ⟨k, rfl, hk, hown, hbw⟩ := hrel
        have HO := Lib.hid hown
        have HBW := Lib.hid hbw
        clear hown hbw
        obtain ⟨j, hj⟩ : ∃ j, i + 1 + k = j := ⟨_, rfl⟩
        rw [hj] at hk ⊢
        by_cases hjn : j < n
        · have g1 : decide ((j : Int) < (n : Int)) = true := by simp; omega
          go_wp2_with fail
          refine (zslope_any A n c rs i j wr (H.out.below HBW.out) HV.out hin hjn (by omega)).mono ?_
          rintro e w3 ⟨v3, rfl, hz3, hb3⟩
          have hx3 := hz3.zx
          obtain ⟨d3, A3, n3, c3, d3', A3', n3', c3', rfl⟩ := hx3.form
          obtain ⟨e, he1, he2, he3, he4⟩ := HO.out.below hb3
          have hll : (prP (slQ rs) n i ++ prQ (slQ rs) i k).length ≤ 100000 := by
            have := prP_len (slQ rs) n i hn64
            rw [List.length_append]; simp [prQ]; omega
          have HX3 := Lib.hid hx3
          have HE1 := Lib.hid he1
          have HE2 := Lib.hid he2
          have HE3 := Lib.hid he3
          have HB3 := Lib.hid (bt HBW.out hb3)
          have hz : w.heap.size ≤ w3.heap.size := HB3.out.size
          clear hx3 hz3 he1 he2 he3 he4 hb3 HO HBW
          go_wp2_with (at_builtin; refine wp_appE TQS TQ _ 4 64 q_info Tryz.underlying43 rfl (by omega) (by omega) rfl _ _ rfl w.heap.size _ _ _ rfl (HE3.out.alloc _) ⟨w3.heap.size, 0, none⟩ 1 1 [.bool d3, .slice A3 n3 c3, .bool d3', .slice A3' n3' c3'] rfl rfl (cell_new w3 [.bool d3, .slice A3 n3 c3, .bool d3', .slice A3' n3' c3'] TQ) (zq_four _ _ _ _ rfl rfl rfl rfl) (by omega) (by omega) (by simp; omega) ?_; intro v4 w4 hown4 hb4 hg4)
          have hal : Below w3.heap.size w3 (w3.alloc (.cells #[.bool d3, .slice A3 n3 c3, .bool d3', .slice A3' n3' c3'] TQ)) := (Below.refl _ _).alloc (Nat.le_refl _) _
          have HN := OwQ.snoc HE1.out (HE2.out.below hal) (own_below HE3.out hal) (HX3.out.below hal) hg4 hown4
          have HN1 : OwQ w.heap.size 10 w4 v4 (prP (slQ rs) n i ++ prQ (slQ rs) i (k + 1)) := by rw [prQ_succ, hj, ← List.append_assoc]; exact HN
          have HN2 := HB3.out.trans (((Below.refl w.heap.size w3).alloc hz _).trans hb4)
          clear hal HN hown4 hb4 hg4 HE1 HE2 HE3 HX3 HB3
          go_roundw
          case rel => exact ⟨k + 1, by rw [show i + 1 + (k + 1) = j + 1 by omega]; go_num, by omega, HN1, HN2⟩
          case measure => simp [intOf]; omega
        · have hjn2 : j = n := by omega
          subst hjn2
          have g1 : decide ((j : Int) < (j : Int)) = false := by simp
          have HN1 : OwQ w.heap.size 10 wr u3 (prP (slQ rs) j (i + 1)) := by
            rw [prP_succ, show j - (i + 1) = k by omega]; exact HO.out
          have HN2 := HBW.out
          clear HO HBW hjn
          go_wp2
          go_roundw
          case rel => exact ⟨i + 1, by go_num, by omega, HN1, HN2⟩
          case measure => simp [intOf]; omega
    · have hin2 : i = n := by omega
      subst hin2
      have g1 : decide ((i : Int) < (i : Int)) = false := by simp
      go_wp2
      go_returns
      exact ⟨_, rfl, by rw [HL.out]; exact HO.out, HBW.out⟩
theorem prA_pos {α : Type} (f : Nat → Nat → α) {n : Nat} (h : 2 ≤ n) : 0 < (prA f n).length := by
  obtain ⟨k, rfl⟩ : ∃ k, n = k + 1 := ⟨n - 1, by omega⟩
  rw [prA_succ, List.length_append, List.length_map, List.length_range]; omega
theorem prA_len {α : Type} (f : Nat → Nat → α) (n : Nat) : (prA f n).length ≤ n * n := by
  induction n with
  | zero => simp [prA]
  | succ n ih => rw [prA_succ, List.length_append, List.length_map, List.length_range]; have : (n + 1) * (n + 1) = n * n + n + n + 1 := by rw [Nat.add_mul, Nat.mul_add]; omega
                 omega

/-- append of one element to a row that the call owns: where the row lies behind it. -/
theorem wp_appE2 {P : Program} {ops : Array Oper} {rest : List Oper} {o : Oper} {a : Act} {Q : Exit → Act → World → Prop} {wr : World} (TS TE : TypeId) (z : Value) (k bytes : Nat)
    (hinf : (P.info? TE).map (fun i => (i.zero, i.size, i.bytes)) = some (some z, k, bytes)) (hund : P.underlying TS = some (.slice TE)) (hzs : z.cells.size = k) (h0 : 0 < k) (hby : bytes ≤ 1000)
    (hgd : o.guard = none) (s x : Operand) (ho : o.op = .call { callee := .builtin .append, args := #[s, x], argTypes := #[TS, TS] }) (base : Nat) (v : Value) (n : Nat) (xs : List Value) (hs : a.eval s = v) (hown : wr.ownsRow base TE k v n xs)
    (ad : Addr) (m c : Nat) (news : List Value) (hx : a.eval x = .slice (some ad) m c) (hl : news.length = m * k) (hc : ∀ j u, news[j]? = some u → wr.cell? (ad.add j) = some u) (h1 : ∀ u, u ∈ news → u.oneCell' = true)
    (hn : n ≤ 1000000000) (hm : m ≤ 1000000000) (hbase : base ≤ wr.heap.size)
    (h : ∀ v' w', w'.ownsRow base TE k v' (n + m) (xs ++ news) → Below base wr w' → wr.grownBy w' v.ownBlock → (v'.ownBlock = v.ownBlock ∨ v'.ownBlock = some wr.heap.size) → wpList P ops Q rest (a.put o.dst v') w') : wpList P ops Q (o :: rest) a wr := by
  obtain ⟨i0, hi, hz0, hz1, hz2⟩ := info_parts hinf
  refine wpList_append_own_at _ hgd s x TS ho base TE i0 z k bytes hund hi hz0 hz1 hz2 hzs h0 v n xs hs hown ad m c news hx hl hc h1 (by unfold maxLen; omega) ?_ hbase ?_
  · have : (n + m) * bytes ≤ 2000000000 * 1000 := Nat.mul_le_mul (by omega) hby
    omega
  · intro v' w' h2 h3 _ h5
    exact h v' w' h2 ((Below.refl _ _).grown h3 hbase (own_geE hown)) h3 h5

set_option maxHeartbeats 3200000 in
set_option maxRecDepth 100000 in
theorem zmedian_any (A : Option Addr) (n c : Nat) (rs : List Rdg) (w : World) (h : Rd w A n c rs) (hv : Vld rs) :
    Calls Tryz.prog 13 #[.slice A n c] w (Ret (fun v w' => ZL w' v (medS rs) (medH rs) 80) w) := by
  have hn := h.le
  have hc := h.cap
  have HL := Lib.hid h.len
  have H := Lib.hid h
  have HV := Lib.hid hv
  have hn64 : n ≤ 64 := by have := hv.2.1; have := HL.out; omega
  have hn2 : 2 ≤ n := by have := hv.1; have := HL.out; omega
  clear h hv
  go_enter Tryz.func13, Tryz.ntmps13
  go_wp2_with fail
  obtain ⟨W0, hW0⟩ : ∃ W0, W0 = w.alloc (.cells #[.bool false, .slice none 0 0, .bool false, .slice none 0 0, .bool false, .slice none 0 0, .bool false, .slice none 0 0] TQL) := ⟨_, rfl⟩
  have e0 : Blk W0 w.heap.size TQL #[.bool false, .slice none 0 0, .bool false, .slice none 0 0, .bool false, .slice none 0 0, .bool false, .slice none 0 0] := by rw [hW0]; exact Blk.new_ _ _ rfl
  have hbw : Below w.heap.size w W0 := by rw [hW0]; go_grown
  rw [← hW0]
  clear hW0
  refine (zslopes_any A n c rs W0 (H.out.below hbw) HV.out).mono ?_
  rintro e w1 ⟨v1, rfl, ho1, hb1⟩
  have HPR : Hid ((prB (slQ rs) rs.length).Perm (prA (slQ rs) rs.length)) := pr_perm _ _
  obtain ⟨b1, o1, c1, e1, rfl, hm1, hz1, hr1⟩ := ho1.rw_
  obtain ⟨L, hL⟩ : ∃ L, (prB (slQ rs) rs.length).length = L := ⟨_, rfl⟩
  rw [hL] at hr1 ⊢
  have hL0 : 0 < L := by rw [← hL, HPR.out.length_eq, HL.out]; exact prA_pos _ hn2
  have hL1 : L ≤ 100000000 := by
    rw [← hL, HPR.out.length_eq, HL.out]
    have h1 := prA_len (slQ rs) n
    have h2 : n * n ≤ 64 * 64 := Nat.mul_le_mul (by omega) (by omega)
    omega
  have HM1 : Hid (med (e1.map Prod.snd) = medS rs) := by unfold medS; rw [hm1]; exact med_perm HPR.out
  have HZ1 := Lib.hid hz1
  have HR1 := Lib.hid hr1
  have E0 := Lib.hid (e0.below hb1)
  have HB1 := Lib.hid (bt hbw hb1)
  clear ho1 hm1 hz1 hr1 e0 hbw hb1 hL HPR
  go_wp2_with fail
  refine (zmiddle_any b1 o1 L c1 10 e1 w1 HR1.out HZ1.out hL0 (by omega) hL1).mono ?_
  rintro e w2 ⟨v2, rfl, hx2, hb2⟩
  rw [HM1.out] at hx2
  obtain ⟨d3, A3, n3, c3, d3', A3', n3', c3', rfl⟩ := hx2.form
  have HX2 := Lib.hid hx2
  have E0 := Lib.hid (E0.out.below hb2)
  have HB2 := Lib.hid (bt HB1.out hb2)
  clear hx2 hb2 HB1 HM1 HZ1 HR1 hL0 hL1
  go_upto_region 2 with fail
  refine wp_world (fun W => OwQ w2.heap.size 37 W (.slice (some ⟨w2.heap.size, 0, none⟩) 0 0) [] ∧ Blk W (w2.heap.size + 1) TQ #[.bool d3, .slice A3 n3 c3, .bool d3', .slice A3' n3' c3'] ∧ Below w2.heap.size w2 W) (by exact ⟨(OwQ.empty w2 37).below ((Below.refl _ _).alloc (Nat.le_refl _) _), Blk.new_ _ _ (by simp), by go_grown⟩) ?_
  rintro W4 ⟨ho4, b4, hb4⟩
  have HS := Lib.hid (HX2.out.below hb4)
  have HR2 := Lib.hid (H.out.below HB2.out)
  obtain ⟨sq, hsq⟩ : ∃ x, medS rs = x := ⟨_, rfl⟩
  rw [hsq] at HX2
  have HSQ := Lib.hid hsq
  obtain ⟨t3, ht3⟩ : ∃ x, w2.heap.size + 1 = x := ⟨_, rfl⟩
  have hne0 : (Value.slice (some ⟨w2.heap.size, 0, none⟩) 0 0).ownBlock ≠ some t3 := by simp [Value.ownBlock]; omega
  rw [ht3] at b4 ⊢
  have HT3 := Lib.hid ht3
  have HBW0 := Lib.hid (And.intro ho4 (And.intro b4 hb4))
  clear ho4 b4 hb4 hsq HS ht3
  go_wp2_with fail
  go_loopw [4, 5] (fun vo kv wr => ∃ k : Nat, kv = .int .i64 (k : Int) ∧ k ≤ n ∧ OwQ w2.heap.size 37 wr vo (shL rs sq k) ∧ vo.ownBlock ≠ some t3 ∧ Blk wr t3 TQ #[.bool d3, .slice A3 n3 c3, .bool d3', .slice A3' n3' c3'] ∧ Below w2.heap.size w2 wr) (fun _ kv _ => n - (intOf kv).toNat)
  case atStart => exact ⟨0, rfl, by omega, HBW0.out.1, hne0, HBW0.out.2.1, HBW0.out.2.2⟩
  case round =>
    clear hne0 HBW0
    obtain ⟨k, rfl, hk, hown, hnt, hbt, hbw⟩ := hrel
    have HO := Lib.hid hown
    have HNT := Lib.hid hnt
    have HBT := Lib.hid hbt
    have HBW := Lib.hid hbw
    clear hown hbw hnt hbt
    by_cases hki : k < n
    · have g1 : decide ((k : Int) < (n : Int)) = true := by simp; omega
      obtain ⟨b, o, rfl, hcell⟩ := (HR2.out.below HBW.out).at_ (by omega)
      have tk := HV.out.tm_bd (i := k) (by have := HL.out; omega)
      have HSH := Lib.hid (shL_succ rs sq k)
      obtain ⟨ck1, ck2⟩ := hcell k hki
      unfold yq tq at HSH
      obtain ⟨x1, hx1⟩ : ∃ x, tm rs k = x := ⟨_, rfl⟩
      obtain ⟨x2, hx2⟩ : ∃ x, ofs rs k = x := ⟨_, rfl⟩
      have ck1 : wr.cell? ⟨b, o + k * 2, none⟩ = some (.int .i64 x1) := by rw [← hx1]; exact ck1
      have ck2 : wr.cell? ⟨b, o + k * 2 + 1, none⟩ = some (.int .i64 x2) := by rw [← hx2]; exact ck2
      rw [hx1, hx2] at tk HSH
      have pk_ : (k : Int) < (n : Int) := by omega
      have hll : (shL rs sq k).length = k := by simp [shL]
      clear hcell hx1 hx2
      go_upto_region 5 with fail
      have kr := fun w' (hh : Ext wr w') => (show w'.cell? ⟨b, o + k * 2, none⟩ = some (.int .i64 x1) ∧ w'.cell? ⟨b, o + k * 2 + 1, none⟩ = some (.int .i64 x2) from ⟨Ext.cell hh ck1, Ext.cell hh ck2⟩)
      have k7 := cells4 HBT.out
      have hst : Ext wr wr.drew := Ext.drew _
      clear ck1 ck2 g1
      refine wp_region_adv 18 [] [(0, true, some 16, none), (1, true, some 17, none), (2, true, some 18, none), (3, true, some 19, none), (4, true, some 20, none), (5, true, some 21, none), (7, true, some 23, none), (8, true, some 24, none), (9, true, some 25, none), (10, true, some 26, none), (11, true, some 27, none), (12, true, some 28, none), (6, false, some 22, none), (13, false, some 29, none), (14, false, some 30, none), (15, false, some 31, none), (16, false, some 32, none), (17, false, some 33, none)] (by kernel_rfl) (by kernel_rfl) (by kernel_rfl) (by intro it hit; (repeat (rcases List.mem_cons.1 hit with rfl | hit; (focus (intro o ho ev w; injection ho with ho; subst ho; kernel_rfl)))); cases hit) (fun _ _ _ _ _ => ⟨fun h => h, fun h => h⟩) hst ?_
      repeat (first | (refine wpSeq_pure (v := ?_) rfl ?_ ?_; rotate_left 1; (focus (intro wq_ hSq_; (try dsimp only at hSq_); go_simp; (try with_reducible rfl); done)); (try simp only [Act.put, List.setIfInBounds_toArray, List.set_cons_zero, List.set_cons_succ])) | (refine wpSeq_pureG (v := ?_) rfl rfl ?_ ?_; rotate_left 1; (focus (intro wq_ hSq_; (try dsimp only at hSq_); go_simp; (try with_reducible rfl); done)); (try simp only [Act.put, List.setIfInBounds_toArray, List.set_cons_zero, List.set_cons_succ])) | (refine wpSeq_off rfl rfl ?_; (try simp only [Act.put, List.setIfInBounds_toArray, List.set_cons_zero, List.set_cons_succ])))
      first | refine wpSeq_call rfl (fun u1 g1 s1 K hK => ?_) | refine wpSeq_callG rfl rfl (fun u1 g1 s1 K hK => ?_)
      go_simp
      refine (xwh_any x2 u1 (by omega) (by omega)).mono ?_
      rintro ex1 y1 ⟨z1, rfl, X1, b1'⟩
      obtain ⟨d4, A4, n4, c4, d4', A4', n4', c4', rfl⟩ := X1.form
      (try go_wp2_with fail)
      refine hK.out _ _ b1' ?_
      clear hK K
      (try simp only [Act.put, List.setIfInBounds_toArray, List.set_cons_zero, List.set_cons_succ])
      repeat (first | (refine wpSeq_pure (v := ?_) rfl ?_ ?_; rotate_left 1; (focus (intro wq_ hSq_; (try dsimp only at hSq_); go_simp; (try with_reducible rfl); done)); (try simp only [Act.put, List.setIfInBounds_toArray, List.set_cons_zero, List.set_cons_succ])) | (refine wpSeq_pureG (v := ?_) rfl rfl ?_ ?_; rotate_left 1; (focus (intro wq_ hSq_; (try dsimp only at hSq_); go_simp; (try with_reducible rfl); done)); (try simp only [Act.put, List.setIfInBounds_toArray, List.set_cons_zero, List.set_cons_succ])) | (refine wpSeq_off rfl rfl ?_; (try simp only [Act.put, List.setIfInBounds_toArray, List.set_cons_zero, List.set_cons_succ])))
      first | refine wpSeq_call rfl (fun u2 g2 s2 K hK => ?_) | refine wpSeq_callG rfl rfl (fun u2 g2 s2 K hK => ?_)
      go_simp
      refine (xwh_any x1 u2 (by omega) (by omega)).mono ?_
      rintro ex2 y2 ⟨z2, rfl, X2, b2⟩
      obtain ⟨d5, A5, n5, c5, d5', A5', n5', c5', rfl⟩ := X2.form
      (try go_wp2_with fail)
      refine hK.out _ _ b2 ?_
      clear hK K
      (try simp only [Act.put, List.setIfInBounds_toArray, List.set_cons_zero, List.set_cons_succ])
      repeat (first | (refine wpSeq_pure (v := ?_) rfl ?_ ?_; rotate_left 1; (focus (intro wq_ hSq_; (try dsimp only at hSq_); go_simp; (try with_reducible rfl); done)); (try simp only [Act.put, List.setIfInBounds_toArray, List.set_cons_zero, List.set_cons_succ])) | (refine wpSeq_pureG (v := ?_) rfl rfl ?_ ?_; rotate_left 1; (focus (intro wq_ hSq_; (try dsimp only at hSq_); go_simp; (try with_reducible rfl); done)); (try simp only [Act.put, List.setIfInBounds_toArray, List.set_cons_zero, List.set_cons_succ])) | (refine wpSeq_off rfl rfl ?_; (try simp only [Act.put, List.setIfInBounds_toArray, List.set_cons_zero, List.set_cons_succ])))
      first | refine wpSeq_call rfl (fun u3 g3 s3 K hK => ?_) | refine wpSeq_callG rfl rfl (fun u3 g3 s3 K hK => ?_)
      go_simp
      refine (xmul_any (HX2.out.below (bt HBW.out s3)) (X2.below g3) (by omega)).mono ?_
      rintro ex3 y3 ⟨z3, rfl, X3, b3⟩
      obtain ⟨d6, A6, n6, c6, d6', A6', n6', c6', rfl⟩ := X3.form
      (try go_wp2_with fail)
      refine hK.out _ _ b3 ?_
      clear hK K
      (try simp only [Act.put, List.setIfInBounds_toArray, List.set_cons_zero, List.set_cons_succ])
      repeat (first | (refine wpSeq_pure (v := ?_) rfl ?_ ?_; rotate_left 1; (focus (intro wq_ hSq_; (try dsimp only at hSq_); go_simp; (try with_reducible rfl); done)); (try simp only [Act.put, List.setIfInBounds_toArray, List.set_cons_zero, List.set_cons_succ])) | (refine wpSeq_pureG (v := ?_) rfl rfl ?_ ?_; rotate_left 1; (focus (intro wq_ hSq_; (try dsimp only at hSq_); go_simp; (try with_reducible rfl); done)); (try simp only [Act.put, List.setIfInBounds_toArray, List.set_cons_zero, List.set_cons_succ])) | (refine wpSeq_off rfl rfl ?_; (try simp only [Act.put, List.setIfInBounds_toArray, List.set_cons_zero, List.set_cons_succ])))
      first | refine wpSeq_call rfl (fun u4' g4 s4 K hK => ?_) | refine wpSeq_callG rfl rfl (fun u4' g4 s4 K hK => ?_)
      go_simp
      refine (xsub_any ((((((X1.below g2).below b2).below g3).below b3).below g4)) (X3.below g4) (by omega)).mono ?_
      rintro ex4 y4 ⟨z4, rfl, X4, b4⟩
      obtain ⟨d7, A7, n7, c7, d7', A7', n7', c7', rfl⟩ := X4.form
      (try go_wp2_with fail)
      refine hK.out _ _ b4 ?_
      clear hK K
      (try simp only [Act.put, List.setIfInBounds_toArray, List.set_cons_zero, List.set_cons_succ])
      repeat (first | (refine wpSeq_pure (v := ?_) rfl ?_ ?_; rotate_left 1; (focus (intro wq_ hSq_; (try dsimp only at hSq_); go_simp; (try with_reducible rfl); done)); (try simp only [Act.put, List.setIfInBounds_toArray, List.set_cons_zero, List.set_cons_succ])) | (refine wpSeq_pureG (v := ?_) rfl rfl ?_ ?_; rotate_left 1; (focus (intro wq_ hSq_; (try dsimp only at hSq_); go_simp; (try with_reducible rfl); done)); (try simp only [Act.put, List.setIfInBounds_toArray, List.set_cons_zero, List.set_cons_succ])) | (refine wpSeq_off rfl rfl ?_; (try simp only [Act.put, List.setIfInBounds_toArray, List.set_cons_zero, List.set_cons_succ])))
      first | refine wpSeq_call rfl (fun u5' g5 s5 K hK => ?_) | refine wpSeq_callG rfl rfl (fun u5' g5 s5 K hK => ?_)
      go_simp
      refine (xlowest_any (X4.below g5) (by omega)).mono ?_
      rintro ex5 y5 ⟨z5, rfl, hz5, b5⟩
      have X5 := hz5.zx
      obtain ⟨d8, A8, n8, c8, d8', A8', n8', c8', rfl⟩ := X5.form
      (try go_wp2_with fail)
      refine hK.out _ _ b5 ?_
      clear hK K
      (try simp only [Act.put, List.setIfInBounds_toArray, List.set_cons_zero, List.set_cons_succ])
      repeat (first | (refine wpSeq_pure (v := ?_) rfl ?_ ?_; rotate_left 1; (focus (intro wq_ hSq_; (try dsimp only at hSq_); go_simp; (try with_reducible rfl); done)); (try simp only [Act.put, List.setIfInBounds_toArray, List.set_cons_zero, List.set_cons_succ])) | (refine wpSeq_pureG (v := ?_) rfl rfl ?_ ?_; rotate_left 1; (focus (intro wq_ hSq_; (try dsimp only at hSq_); go_simp; (try with_reducible rfl); done)); (try simp only [Act.put, List.setIfInBounds_toArray, List.set_cons_zero, List.set_cons_succ])) | (refine wpSeq_off rfl rfl ?_; (try simp only [Act.put, List.setIfInBounds_toArray, List.set_cons_zero, List.set_cons_succ])))
      first | refine wpSeq_call rfl (fun u6' g6 s6 K hK => ?_) | refine wpSeq_callG rfl rfl (fun u6' g6 s6 K hK => ?_)
      go_simp
      (try go_wp2_with fail)
      refine hK.out _ _ (Ext.allocR _ _) ?_
      clear hK K
      (try simp only [Act.put, List.setIfInBounds_toArray, List.set_cons_zero, List.set_cons_succ])
      repeat (first | (refine wpSeq_pure (v := ?_) rfl ?_ ?_; rotate_left 1; (focus (intro wq_ hSq_; (try dsimp only at hSq_); go_simp; (try with_reducible rfl); done)); (try simp only [Act.put, List.setIfInBounds_toArray, List.set_cons_zero, List.set_cons_succ])) | (refine wpSeq_pureG (v := ?_) rfl rfl ?_ ?_; rotate_left 1; (focus (intro wq_ hSq_; (try dsimp only at hSq_); go_simp; (try with_reducible rfl); done)); (try simp only [Act.put, List.setIfInBounds_toArray, List.set_cons_zero, List.set_cons_succ])) | (refine wpSeq_off rfl rfl ?_; (try simp only [Act.put, List.setIfInBounds_toArray, List.set_cons_zero, List.set_cons_succ])))
      intro wz gz sz_
      (try simp only [endJ, List.drop_succ_cons, List.drop_zero])
      have HZ := Lib.hid (show Ext wr wz from sz_)
      have hb5' : Ext y5 wz := bt g6 (bt (Ext.allocR _ _) gz)
      have HX5 := Lib.hid ((X5.below hb5').le (show 5 + (26 + 5) + 1 ≤ 37 by omega))
      have HBN := Lib.hid (show Blk wz u6'.heap.size TQ #[.bool d8, .slice A8 n8 c8, .bool d8', .slice A8' n8' c8'] from (Blk.new_ TQ #[.bool d8, .slice A8 n8 c8, .bool d8', .slice A8' n8' c8'] rfl).below gz)
      have hz : w2.heap.size ≤ wz.heap.size := (bt HBW.out HZ.out).size
      obtain ⟨el, he1, he2, he3, he4⟩ := HO.out.below HZ.out
      have HBT6 := Lib.hid (HBT.out.below HZ.out)
      have HE1 := Lib.hid he1
      have HE2 := Lib.hid he2
      rw [hll] at he3
      have HE3 := Lib.hid he3
      have HB6 := Lib.hid (bt HBW.out HZ.out)
      clear hst kr k7 b1' g1 g2 s1 s2 gz sz_ g3 g4 g5 g6 s3 s4 s5 s6 b2 b3 b4 b5 X1 X2 X3 X4 X5 hz5 hb5' HO HBT he1 he2 he3 he4 HBW HZ
      go_wp2_with (at_builtin; refine wp_appE2 TQS TQ _ 4 64 q_info Tryz.underlying43 rfl (by omega) (by omega) rfl _ _ rfl w2.heap.size _ k _ rfl HE3.out ⟨u6'.heap.size, 0, none⟩ 1 1 [.bool d8, .slice A8 n8 c8, .bool d8', .slice A8' n8' c8'] rfl rfl (blk_cells HBN.out) (zq_four _ _ _ _ rfl rfl rfl rfl) (by omega) (by omega) hz ?_; intro v8 w8 hown8 hb8 hgb8 hob8)
      have HN1 := OwQ.snoc (s := 37) HE1.out HE2.out (by rw [hll]; exact HE3.out) HX5.out hgb8 (by rw [hll]; exact hown8)
      rw [← HSH.out] at HN1
      have HN2 : v8.ownBlock ≠ some t3 := by
        rcases hob8 with h | h
        · rw [h]; exact HNT.out
        · rw [h]; intro h2; injection h2 with h2; have := HBT6.out.lt; omega
      have HN3 : Blk w8 t3 TQ #[.bool d3, .slice A3 n3 c3, .bool d3', .slice A3' n3' c3'] := (hgb8.block t3 HBT6.out.lt (fun e => HNT.out e.symm)).trans HBT6.out
      have HN4 := HB6.out.trans hb8
      clear hown8 hb8 hgb8 hob8 HE1 HE2 HE3 HX5 HBN HBT6 HB6 HNT
      go_roundw
      case rel => exact ⟨k + 1, by go_num, by omega, HN1, HN2, HN3, HN4⟩
      case measure => simp [intOf]; omega
    · have hki2 : k = n := by omega
      subst hki2
      have g1 : decide ((k : Int) < (k : Int)) = false := by simp
      have hll : (shL rs sq k).length = k := by simp [shL]
      obtain ⟨b, o, cc, el, rfl, he1, he2, he3⟩ := HO.out.rw_
      rw [hll] at he3 ⊢
      have HMH : Hid (med (el.map Prod.snd) = medH rs) := by unfold medH; rw [HSQ.out, he1, HL.out]; exact (rfl : _ = _)
      have HE2 := Lib.hid he2
      have HE3 := Lib.hid he3
      have hst : Ext wr wr.drew := Ext.drew _
      have k7 := cells4 HBT.out
      have HS := Lib.hid (HX2.out.below HBW.out)
      have HB4 := Lib.hid (bt HB2.out HBW.out)
      have E4 := Lib.hid (E0.out.below HBW.out)
      clear he1 he2 he3 HO HNT hki hll
      go_upto_region 6 with fail
      refine wp_region_adv 3 [] [(0, true, some 35, none), (1, true, some 36, none), (2, false, some 37, none)] (by kernel_rfl) (by kernel_rfl) (by kernel_rfl) (by intro it hit; (repeat (rcases List.mem_cons.1 hit with rfl | hit; (focus (intro o ho ev w; injection ho with ho; subst ho; kernel_rfl)))); cases hit) (fun _ _ _ _ _ => ⟨fun h => h, fun h => h⟩) hst ?_
      repeat (first | (refine wpSeq_pure (v := ?_) rfl ?_ ?_; rotate_left 1; (focus (intro wq_ hSq_; (try dsimp only at hSq_); go_simp; (try with_reducible rfl); done)); (try simp only [Act.put, List.setIfInBounds_toArray, List.set_cons_zero, List.set_cons_succ])) | (refine wpSeq_pureG (v := ?_) rfl rfl ?_ ?_; rotate_left 1; (focus (intro wq_ hSq_; (try dsimp only at hSq_); go_simp; (try with_reducible rfl); done)); (try simp only [Act.put, List.setIfInBounds_toArray, List.set_cons_zero, List.set_cons_succ])) | (refine wpSeq_off rfl rfl ?_; (try simp only [Act.put, List.setIfInBounds_toArray, List.set_cons_zero, List.set_cons_succ])))
      first | refine wpSeq_call rfl (fun u1 g1' s1 K hK => ?_) | refine wpSeq_callG rfl rfl (fun u1 g1' s1 K hK => ?_)
      go_simp
      refine (zmiddle_any b o k cc 37 el u1 (HE3.out.below s1) (HE2.out.below s1) (by omega) (by omega) (by omega)).mono ?_
      rintro ex y1 ⟨z1, rfl, x1, b1'⟩
      rw [HMH.out] at x1
      obtain ⟨d4, A4, n4, c4, d4', A4', n4', c4', rfl⟩ := x1.form
      (try go_wp2_with fail)
      refine hK.out _ _ b1' ?_
      clear hK K
      (try simp only [Act.put, List.setIfInBounds_toArray, List.set_cons_zero, List.set_cons_succ])
      repeat (first | (refine wpSeq_pure (v := ?_) rfl ?_ ?_; rotate_left 1; (focus (intro wq_ hSq_; (try dsimp only at hSq_); go_simp; (try with_reducible rfl); done)); (try simp only [Act.put, List.setIfInBounds_toArray, List.set_cons_zero, List.set_cons_succ])) | (refine wpSeq_pureG (v := ?_) rfl rfl ?_ ?_; rotate_left 1; (focus (intro wq_ hSq_; (try dsimp only at hSq_); go_simp; (try with_reducible rfl); done)); (try simp only [Act.put, List.setIfInBounds_toArray, List.set_cons_zero, List.set_cons_succ])) | (refine wpSeq_off rfl rfl ?_; (try simp only [Act.put, List.setIfInBounds_toArray, List.set_cons_zero, List.set_cons_succ])))
      intro wz gz sz_
      (try simp only [endJ, List.drop_succ_cons, List.drop_zero])
      have hh1 : Held w.heap.size 8 TQL wz wz := (E4.out.below sz_).heldS
      have kf := (E4.out.below sz_).free
      have kc := (E4.out.below sz_).cells
      simp only [cellsAre, Nat.zero_add, Nat.reduceAdd, and_true] at kc
      have r1 := (rules w.heap.size 8 TQL wz).some
      have X7 := Lib.hid (x1.below gz)
      have X1 := Lib.hid (HS.out.below sz_)
      have SZ := Lib.hid (bt HB4.out sz_)
      rw [← HSQ.out] at X1
      clear x1 b1' g1' s1 k7 hst gz sz_
      go_wp2
      (try simp only [Exit.inBlock, Exit.then])
      refine bodyPost_ret (v := .agg #[.bool d3, .slice A3 n3 c3, .bool d3', .slice A3' n3' c3', .bool d4, .slice A4 n4 c4, .bool d4', .slice A4' n4' c4']) (by simp [results, Tryz.results13, go_sem, r1 _ hh1]) rfl ?_
      have hst2 := Held.set_ (Held.set_ (Held.set_ (Held.set_ (Held.set_ (Held.set_ (Held.set_ (Held.set_ (hh1.here) 0 (.bool d3)) 1 (.slice A3 n3 c3)) 2 (.bool d3')) 3 (.slice A3' n3' c3')) 4 (.bool d4)) 5 (.slice A4 n4 c4)) 6 (.bool d4')) 7 (.slice A4' n4' c4')
      exact ⟨_, rfl, ⟨_, _, _, _, _, _, _, _, _, _, _, _, _, _, _, _, rfl, (X1.out.le (by omega)).held hst2 (by decide), (X7.out.le (by omega)).held hst2 (by decide)⟩, hst2.below SZ.out (by omega)⟩
end Go.Proofs.Tb
