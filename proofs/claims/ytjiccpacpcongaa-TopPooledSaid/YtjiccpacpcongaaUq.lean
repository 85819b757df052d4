/- Read. -/
import Derived.Test.YtjiccpacpcongaaUn
import Derived.Test.YtjiccpacpcongaaUp
set_option linter.unusedVariables false
set_option linter.unusedSimpArgs false
namespace Go.Proofs.Tb
open Go.RowKit Go.Lib
attribute [local go_sem] cell_set_same

def cnL (q : Nat) (l ys : List Int) (k : Nat) : Nat := ((List.range k).filter fun (x : Nat) => decide (hv (q : Int) l (x : Int) ≠ ro ys x)).length
theorem cnL_succ (q : Nat) (l ys : List Int) (k : Nat) : cnL q l ys (k + 1) = cnL q l ys k + (if hv (q : Int) l (k : Int) = ro ys k then 0 else 1) := by
  unfold cnL
  rw [List.range_succ, List.filter_append, List.length_append]
  congr 1
  by_cases h : hv (q : Int) l (k : Int) = ro ys k
  · rw [if_pos h, List.filter_cons_of_neg (by simp [h])]
    rfl
  · rw [if_neg h, List.filter_cons_of_pos (by simp [h])]
    rfl
theorem cnL_le {q : Nat} {l ys : List Int} {P : Nat} {ks : List Nat} (h : ∀ x, x < P → x ∉ ks → ro ys x = hv (q : Int) l (x : Int)) {k : Nat} (hk : k ≤ P) : cnL q l ys k ≤ ks.length := by
  refine Nat.le_trans ?_ (few_in k ks)
  unfold cnL
  have : ∀ (L : List Nat), (∀ x ∈ L, x < P) → (L.filter fun (x : Nat) => decide (hv (q : Int) l (x : Int) ≠ ro ys x)).length ≤ (L.filter fun x => decide (x ∈ ks)).length := by
    intro L hL
    induction L with
    | nil => exact Nat.le_refl _
    | cons a L ih =>
      have ih := ih fun x hx => hL x (List.mem_cons_of_mem _ hx)
      have ha := hL a (List.mem_cons_self ..)
      by_cases h1 : hv (q : Int) l (a : Int) = ro ys a
      · rw [List.filter_cons_of_neg (by simp [h1])]
        by_cases h2 : a ∈ ks
        · rw [List.filter_cons_of_pos (by simp [h2]), List.length_cons]; omega
        · rw [List.filter_cons_of_neg (by simp [h2])]; exact ih
      · have h2 : a ∈ ks := Classical.byContradiction fun hn => h1 (h a ha hn).symm
        rw [List.filter_cons_of_pos (by simp [h1]), List.filter_cons_of_pos (by simp [h2]), List.length_cons, List.length_cons]
        omega
  exact this _ fun x hx => by have := List.mem_range.1 hx; omega
set_option maxHeartbeats 6400000 in
set_option maxRecDepth 100000 in
theorem rreadC_any {q P t c bq bp bk bm bx : Nat} {A : Option Addr} {ys : List Int} (hq : Q4 q) (w : World) (hw : OwC 0 w (.slice A P c) ys) (hr : ∀ y ∈ ys, 0 ≤ y ∧ y < (q : Int)) (hP : 2 ≤ P) (ht : t = (P - 2) / 2) (hPq : P ≤ q) {ks : List Nat} (hks : ks.length ≤ t) {d0 d1 : Int} (h0 : 0 ≤ d0 ∧ d0 < (q : Int)) (h1 : 0 ≤ d1 ∧ d1 < (q : Int)) (hy : ∀ x, x < P → x ∉ ks → ro ys x = hv (q : Int) [d0, d1] (x : Int))
    (k1 : Blk w bq TIN #[.int .i64 (q : Int)]) (k2 : Blk w bp TLI #[.slice A P c]) (k3 : Blk w bk TIN #[.int .i64 2]) (k4 : Blk w bm TLI #[.slice none 0 0]) (k5 : Blk w bx TIN #[.int .i64 0]) (hne : bm ≠ bx) :
    Calls Try.prog 18 #[.pointer (some ⟨bq, 0, none⟩), .pointer (some ⟨bp, 0, none⟩), .pointer (some ⟨bk, 0, none⟩), .pointer (some ⟨bm, 0, none⟩), .pointer (some ⟨bx, 0, none⟩)] w fun e w' => e = .returned (.tuple #[]) ∧ Chg (XC [bm, bx] w.heap.size) w w' ∧ (∃ A' c', Blk w' bm TLI #[.slice A' 2 c'] ∧ OwC w.heap.size w' (.slice A' 2 c') [d0, d1]) ∧ ∃ n : Nat, n ≤ t ∧ Blk w' bx TIN #[.int .i64 (n : Int)] := by
  have hb : 5 ≤ q ∧ q ≤ 13 := by rcases hq with h | h | h | h <;> omega
  obtain ⟨hb1, hb2⟩ := hb
  have hln := hw.len
  have HOV := Lib.hid (fun w' => rover_any hq w')
  have HEL := Lib.hid (fun (w' : World) (hh : Ext w w') => relements_any (q := q) w' (hw.below hh).rv hln (by omega) hr)
  have HME := Lib.hid (fun (w' : World) (hh : Ext w w') => rmended_any (t := t) hq w' (hw.below hh) hr (by omega) hPq hks h0 h1 (fun x hx hn => by
    rw [hy x hx hn]
    exact hv_two (by omega) (x : Int)))
  have HCN := Lib.hid (fun k (hk : k ≤ P) => Nat.le_trans (cnL_le hy hk) hks)
  have HB := Lib.hid (And.intro k1 (And.intro k2 (And.intro k3 (And.intro k4 k5))))
  obtain ⟨pA, cA, eA⟩ := own_form0 hw (by omega)
  rw [hln] at eA
  injection eA with eA1 _ eA3
  subst eA1 eA3
  have HW := Lib.hid hw
  have HCELL := Lib.hid (fun (w' : World) (hh : Ext w w') (x : Nat) (hx : x < P) => (show w'.cell? ⟨pA, x, none⟩ = some (.int .i64 (ro ys x)) from by
    obtain ⟨b, e, _, _, hc⟩ := (hw.below hh).cell (by omega)
    injection e with e
    injection e with e
    subst e
    exact hc x hx))
  have c1 := blk_one k1
  have c2 := blk_one k2
  have hle := hw.rv.le
  have hcp := hw.rv.cap
  have p1 : (2 : Int) ≤ (P : Int) := by omega
  have p2 : (P : Int) ≤ (q : Int) := by omega
  obtain ⟨m, hm⟩ : ∃ m, P - 2 = m := ⟨_, rfl⟩
  have w2_ : IntKind.i64.wrap ((P : Int) - 2) = (m : Int) := by rw [IntWalk.i64_in _ (by omega)]; omega
  have pd : ((m : Nat) : Int) / 2 = (t : Int) := by omega
  have wt : IntKind.i64.wrap (t : Int) = (t : Int) := by rw [IntWalk.i64_in _ (by omega)]
  have htb : t ≤ 6 := by omega
  have HT := Lib.hid (And.intro hm ht)
  clear hw hr hks hy k1 k2 k3 k4 k5 hq hln ht hm
  go_enter Try.func18, Try.ntmps18
  go_wp2_with fail
  refine (HOV.out w).mono ?_
  rintro e w1 ⟨z, rfl, rfl, b1⟩
  have X1 := Lib.hid (show Ext w w1 from b1)
  have c2 := ext_cell b1 c2
  clear b1
  go_wp2_with fail
  refine (HEL.out w1 X1.out).mono ?_
  rintro e w2 ⟨z, rfl, rfl, b2⟩
  have X2 := Lib.hid (bt X1.out b2)
  have c1 := blk_one (HB.out.1.below X2.out)
  have c2 := blk_one (HB.out.2.1.below X2.out)
  have c3 := blk_one (HB.out.2.2.1.below X2.out)
  clear b2
  go_wp2_with fail
  refine (rmust_any w2).mono ?_
  rintro e w3 ⟨z, rfl, rfl, b3⟩
  have X3 := Lib.hid (bt X2.out b3)
  have c2 := blk_one (HB.out.2.1.below X3.out)
  have c3 := blk_one (HB.out.2.2.1.below X3.out)
  clear b3
  go_wp2_with fail
  refine (HME.out w3 X3.out).mono ?_
  rintro e w4 ⟨z, rfl, ⟨z1, rfl, o4⟩, b4⟩
  obtain ⟨A4, c4, e4, _⟩ := o4.form
  subst e4
  have X4 := Lib.hid (And.intro (o4.lower (Ext.size X3.out)) (bt X3.out b4))
  have c2 := blk_one (HB.out.2.1.below X4.out.2)
  clear o4 b4
  go_wp2_with fail
  go_loopw [9, 47] (fun cv xv wr => ∃ x : Nat, x ≤ P ∧ xv = .int .i64 (x : Int) ∧ cv = .int .i64 ((cnL q [d0, d1] ys x : Nat) : Int) ∧ Ext w4 wr) (fun _ xv _ => P - (intOf xv).toNat)
  case atStart => exact ⟨0, by omega, rfl, rfl, Ext.refl _⟩
  case round =>
    obtain ⟨x, hx, rfl, rfl, hxx⟩ := hrel
    obtain ⟨W, rfl⟩ : ∃ W, W = wr := ⟨_, rfl⟩
    have hcn := HCN.out x hx
    have hsu := cnL_succ q [d0, d1] ys x
    have XX := Lib.hid (And.intro hxx (bt X4.out.2 hxx))
    obtain ⟨cn, hcn_⟩ : ∃ cn, cnL q [d0, d1] ys x = cn := ⟨_, rfl⟩
    rw [hcn_] at hcn hsu ⊢
    by_cases hxP : x < P
    · have px : (x : Int) < (P : Int) := by omega
      have wx : IntKind.i64.wrap ((x : Int) + 1) = ((x + 1 : Nat) : Int) := by rw [IntWalk.i64_in _ (by omega)]; rfl
      have wcn : IntKind.i64.wrap ((cn : Int) + 1) = ((cn + 1 : Nat) : Int) := by rw [IntWalk.i64_in _ (by omega)]; rfl
      have kx := HCELL.out W XX.out.2 x hxP
      have HVA := Lib.hid (rvalue_any (q := q) (by omega) (by omega) (x := (x : Int)) (by omega) (n := 2) W ((X4.out.1.below hxx).rv) rfl (by omega) (fun a ha => by
        rcases List.mem_cons.1 ha with h | h
        · rw [h]; exact h0
        · rw [List.mem_singleton.1 h]; exact h1))
      obtain ⟨y, hy⟩ : ∃ y, ro ys x = y := ⟨_, rfl⟩
      obtain ⟨z, hz⟩ : ∃ z, hv (q : Int) [d0, d1] (x : Int) = z := ⟨_, rfl⟩
      rw [hy] at kx hsu
      rw [hz] at hsu HVA
      have HSU := Lib.hid hsu
      clear hxx hcn_ hy hz hsu
      go_wp2_with fail
      refine HVA.out.mono ?_
      rintro e w5 ⟨z5, rfl, rfl, b5⟩
      have X5 := Lib.hid (bt XX.out.1 b5)
      clear b5
      by_cases hzy : z = y
      · have hs := HSU.out
        rw [if_pos hzy] at hs
        have HS := Lib.hid hs
        subst hzy
        clear hs
        go_wp2_with fail
        exact ⟨⟨x + 1, by omega, by go_num, by rw [HS.out]; rfl, X5.out⟩, by simp [intOf]; omega⟩
      · have hs := HSU.out
        rw [if_neg hzy] at hs
        have HS := Lib.hid hs
        clear hs
        go_wp2_with fail
        exact ⟨⟨x + 1, by omega, by go_num, by rw [HS.out]; first | rfl | (congr 1; omega), X5.out⟩, by simp [intOf]; omega⟩
    · obtain rfl : P = x := by omega
      have hB4 := HB.out.2.2.2.1.below XX.out.2
      have hB5 := HB.out.2.2.2.2.below XX.out.2
      have HBB := Lib.hid (And.intro hB4 (And.intro hB5 (X4.out.1.below hxx)))
      have c4_ := blk_one hB4
      have c5_ := blk_one hB5
      have f4_ := hB4.free
      have f5_ := hB5.free
      have pcn : ¬ (t : Int) < (cn : Int) := by omega
      clear hcn_ hsu hB4 hB5 hxx
      go_wp2_with fail
      go_returns
      have hbx := HB.out.2.2.2.2.lt
      have hS1 : Blk (W.setCell ⟨bm, 0, none⟩ (.slice A4 2 c4)) bm TLI #[.slice A4 2 c4] := HBB.out.1.set_ 0 _
      have hS2 : Blk (W.setCell ⟨bm, 0, none⟩ (.slice A4 2 c4)) bx TIN #[.int .i64 0] := HBB.out.2.1.far (p := ⟨bm, 0, none⟩) (Ne.symm hne) _
      have hO1 : OwC w.heap.size (W.setCell ⟨bm, 0, none⟩ (.slice A4 2 c4)) (.slice A4 2 c4) [d0, d1] := own_far HBB.out.2.2 (p := ⟨bm, 0, none⟩) HBB.out.1 (show TIN ≠ TLI by decide) _
      refine ⟨rfl, ((Chg.ext XX.out.2).trans (Chg.set_ (p := ⟨bm, 0, none⟩) HBB.out.1 (Or.inl (by simp)) _)).trans (Chg.set_ (p := ⟨bx, 0, none⟩) hS2 (Or.inl (by simp)) _), ⟨A4, c4, hS1.far (p := ⟨bx, 0, none⟩) hne _, ?_⟩, cn, hcn, hS2.set_ 0 _⟩
      exact own_keep hO1 fun g cs _ hg _ => Below.heap_setCell _ _ _ g (by show g ≠ bx; omega)
structure RdS (w : World) (B : Nat) (mv xv : Value) (l : List Int) (w' : World) : Prop where
  e : Ext w w'
  m : Blk w' (B + 1 + 1 + 1) TLI #[mv]
  x : Blk w' (B + 1 + 1 + 1 + 1) TIN #[xv]
  o : OwC (B + 1 + 1 + 1 + 1 + 1) w' mv l
theorem RdS.drew {w : World} {B : Nat} {m x : Value} {l : List Int} {w' : World} (h : RdS w B m x l w') : RdS w B m x l w'.drew := ⟨bt h.e (Ext.drew _), h.m.drew, h.x.drew, h.o.below (Ext.drew _)⟩
theorem RdS.setm {w : World} {B : Nat} {m x : Value} {l : List Int} {w' : World} (h : RdS w B m x l w') (hB : w.heap.size = B) : RdS w B m x l (w'.setCell ⟨B + 1 + 1 + 1, 0, none⟩ m) :=
  ⟨by
    have h1 := h.e
    unfold Ext at h1 ⊢
    rw [hB] at h1 ⊢
    exact h1.trans ((Chg.set_ (X := fun b _ => B ≤ b) (p := ⟨B + 1 + 1 + 1, 0, none⟩) h.m (show B ≤ B + 1 + 1 + 1 by omega) _).below (fun b o h => h) (by have := h1.size; omega)), h.m.set_ 0 _, h.x.far (p := ⟨B + 1 + 1 + 1, 0, none⟩) (by simp) _, own_far h.o (p := ⟨B + 1 + 1 + 1, 0, none⟩) h.m (show TIN ≠ TLI by decide) _⟩
theorem RdS.setx {w : World} {B : Nat} {m x : Value} {l : List Int} {w' : World} (h : RdS w B m x l w') (hB : w.heap.size = B) : RdS w B m x l (w'.setCell ⟨B + 1 + 1 + 1 + 1, 0, none⟩ x) :=
  ⟨by
    have h1 := h.e
    unfold Ext at h1 ⊢
    rw [hB] at h1 ⊢
    exact h1.trans ((Chg.set_ (X := fun b _ => B ≤ b) (p := ⟨B + 1 + 1 + 1 + 1, 0, none⟩) h.x (show B ≤ B + 1 + 1 + 1 + 1 by omega) _).below (fun b o h => h) (by have := h1.size; omega)), h.m.far (p := ⟨B + 1 + 1 + 1 + 1, 0, none⟩) (by simp) _, h.x.set_ 0 _, own_keep h.o fun g cs _ hg _ => Below.heap_setCell _ _ _ g (by show g ≠ B + 1 + 1 + 1 + 1; omega)⟩
theorem enter18 (args : Array Value) (W : World) : (callFunc 18 args).run Try.prog W = .ok (.enter 18 args) W := rfl
set_option maxHeartbeats 3200000 in
set_option maxRecDepth 100000 in
theorem rRead_any {q P t c : Nat} {A : Option Addr} {ys : List Int} (hq : Q4 q) (w : World) (hw : OwC 0 w (.slice A P c) ys) (hr : ∀ y ∈ ys, 0 ≤ y ∧ y < (q : Int)) (hP : 2 ≤ P) (ht : t = (P - 2) / 2) (hPq : P ≤ q) {ks : List Nat} (hks : ks.length ≤ t) {d0 d1 : Int} (h0 : 0 ≤ d0 ∧ d0 < (q : Int)) (h1 : 0 ≤ d1 ∧ d1 < (q : Int)) (hy : ∀ x, x < P → x ∉ ks → ro ys x = hv (q : Int) [d0, d1] (x : Int)) :
    Calls Try.prog 8 #[.int .i64 (q : Int), .int .i64 2, .slice A P c] w (Ret (fun z w' => ∃ A' c', ∃ n : Nat, n ≤ t ∧ z = .tuple #[.slice A' 2 c', .int .i64 (n : Int), .int .i64 0] ∧ OwC w.heap.size w' (.slice A' 2 c') [d0, d1]) w) := by
  have hmf : ∀ (fn : Fn) (first cap : Array Value) (w : World), (Instr.makeFunc fn first cap).run Try.prog w = .ok (.func fn first cap) w := fun _ _ _ _ => rfl
  obtain ⟨B, hB⟩ : ∃ B, w.heap.size = B := ⟨_, rfl⟩
  obtain ⟨W, hW⟩ : ∃ W, W = ((((w.alloc (.cells #[.int .i64 (q : Int)] TIN)).alloc (.cells #[.int .i64 2] TIN)).alloc (.cells #[.slice A P c] TLI)).alloc (.cells #[.slice none 0 0] TLI)).alloc (.cells #[.int .i64 0] TIN) := ⟨_, rfl⟩
  have b1 : Blk W B TIN #[.int .i64 (q : Int)] := by rw [hW]; exact ((((Blk.new_ _ _ hB).alloc _).alloc _).alloc _).alloc _
  have b2 : Blk W (B + 1) TIN #[.int .i64 2] := by rw [hW]; exact (((Blk.new_ _ _ (by simp [hB])).alloc _).alloc _).alloc _
  have b3 : Blk W (B + 1 + 1) TLI #[.slice A P c] := by rw [hW]; exact ((Blk.new_ _ _ (by simp [hB])).alloc _).alloc _
  have b4 : Blk W (B + 1 + 1 + 1) TLI #[.slice none 0 0] := by rw [hW]; exact (Blk.new_ _ _ (by simp [hB])).alloc _
  have b5 : Blk W (B + 1 + 1 + 1 + 1) TIN #[.int .i64 0] := by rw [hW]; exact Blk.new_ _ _ (by simp [hB])
  have xW : Ext w W := by rw [hW]; exact bt (Ext.allocR _ _) (bt (Ext.allocR _ _) (bt (Ext.allocR _ _) (bt (Ext.allocR _ _) (Ext.allocR _ _))))
  have HW := Lib.hid (And.intro b1 (And.intro b2 (And.intro b3 (And.intro b4 (And.intro b5 xW)))))
  have HL := Lib.hid (And.intro hw (And.intro hr (And.intro hks (And.intro h0 (And.intro h1 hy)))))
  clear b1 b2 b3 b4 b5 xW hw hr hks h0 h1 hy
  go_enter Try.func8, Try.ntmps8
  go_wp2_with fail
  rw [← hW]
  have hWs : W.heap.size = B + 1 + 1 + 1 + 1 + 1 := by rw [hW]; simp [hB]
  have hlW : OwC 0 (W.alloc (.cells #[.int .i64 0] TER)) (.slice A P c) ys := HL.out.1.below (bt HW.out.2.2.2.2.2 (Ext.allocR _ _))
  refine (rguarded_any 18 _ enter18 (Phi := fun w' => Chg (XC [B + 1 + 1 + 1, B + 1 + 1 + 1 + 1] (W.alloc (.cells #[.int .i64 0] TER)).heap.size) (W.alloc (.cells #[.int .i64 0] TER)) w' ∧ (∃ A' c', Blk w' (B + 1 + 1 + 1) TLI #[.slice A' 2 c'] ∧ OwC (W.alloc (.cells #[.int .i64 0] TER)).heap.size w' (.slice A' 2 c') [d0, d1]) ∧ ∃ n : Nat, n ≤ t ∧ Blk w' (B + 1 + 1 + 1 + 1) TIN #[.int .i64 (n : Int)])
    ((rreadC_any hq _ hlW HL.out.2.1 hP ht hPq HL.out.2.2.1 HL.out.2.2.2.1 HL.out.2.2.2.2.1 HL.out.2.2.2.2.2 (HW.out.1.alloc _) (HW.out.2.2.1.alloc _) (HW.out.2.1.alloc _) (HW.out.2.2.2.1.alloc _) (HW.out.2.2.2.2.1.alloc _) (by omega)).mono ?_)).mono ?_
  · rintro e w1 ⟨rfl, hc, hm, hx⟩
    exact ⟨rfl, ⟨hc, hm, hx⟩, XC.blk hc (Blk.new_ _ _ rfl) (by rw [hWs]; simp; try omega) (by simp)⟩
  rintro e w' ⟨rfl, w1, ⟨hc, ⟨A', c', hy, ho⟩, n, hn, hx⟩, hbe, rfl⟩
  have X9 : Below B W (w1.setCell ⟨W.heap.size, 0, none⟩ (.int .i64 0)) := ((Chg.ext (Ext.allocR W _)).trans ((hc.mono fun b o h => show B ≤ b from by
    rcases h with h | h
    · simp at h; omega
    · rw [World.alloc] at h; simp at h; omega).trans (Chg.set_ (p := ⟨W.heap.size, 0, none⟩) hbe (show B ≤ W.heap.size from by omega) _))).below (fun b o h => h) (by omega)
  have hy2 := hy.far (p := ⟨W.heap.size, 0, none⟩) (by rw [hWs]; simp; try omega) (.int .i64 0)
  have hx2 := hx.far (p := ⟨W.heap.size, 0, none⟩) (by rw [hWs]; simp; try omega) (.int .i64 0)
  have ho2 : OwC B _ _ _ := (OwC.lower (show OwC _ _ _ _ from own_far ho (p := ⟨W.heap.size, 0, none⟩) hbe (show TIN ≠ TER by decide) (.int .i64 0)) (by simp; omega) : OwC (B + 1 + 1 + 1 + 1 + 1) (w1.setCell ⟨W.heap.size, 0, none⟩ (.int .i64 0)) (.slice A' 2 c') [d0, d1]).lower (by omega)
  have ho3 : OwC (B + 1 + 1 + 1 + 1 + 1) _ _ _ := (OwC.lower (show OwC _ _ _ _ from own_far ho (p := ⟨W.heap.size, 0, none⟩) hbe (show TIN ≠ TER by decide) (.int .i64 0)) (by simp; omega) : OwC (B + 1 + 1 + 1 + 1 + 1) (w1.setCell ⟨W.heap.size, 0, none⟩ (.int .i64 0)) (.slice A' 2 c') [d0, d1])
  obtain ⟨W9, hW9⟩ : ∃ W9, w1.setCell ⟨W.heap.size, 0, none⟩ (.int .i64 0) = W9 := ⟨_, rfl⟩
  rw [hW9] at X9 hy2 hx2 ho3 ⊢
  have XX := Lib.hid (show Ext w W9 from by
    have h1 := HW.out.2.2.2.2.2
    unfold Ext at h1 ⊢
    rw [hB] at h1 ⊢
    exact h1.trans X9)
  have HY := Lib.hid (RdS.mk XX.out hy2 hx2 ho3 : RdS w B (.slice A' 2 c') (.int .i64 (n : Int)) [d0, d1] W9)
  clear hy hc hbe hy2 hlW X9 hW9 hW ho ho2 hx hx2 ho3
  go_upto_region 2 with fail
  go_cut [8] (fun s8 wx => s8 = .int .i64 0 ∧ RdS w B (.slice A' 2 c') (.int .i64 (n : Int)) [d0, d1] wx)
  case first =>
    have kka : ∀ w', RdS w B (.slice A' 2 c') (.int .i64 (n : Int)) [d0, d1] w' → w'.cell? ⟨B + 1 + 1 + 1, 0, none⟩ = some (.slice A' 2 c') := fun w' h => blk_one h.m
    have kkb : ∀ w', RdS w B (.slice A' 2 c') (.int .i64 (n : Int)) [d0, d1] w' → w'.cell? ⟨B + 1 + 1 + 1 + 1, 0, none⟩ = some (.int .i64 (n : Int)) := fun w' h => blk_one h.x
    refine wp_region_brn (S := (RdS w B (.slice A' 2 c') (.int .i64 (n : Int)) [d0, d1])) (by kernel_rfl) (by kernel_rfl) (fun _ _ _ _ _ => ⟨fun h => h, fun h => h⟩) ?_
    intro hsel_ hQ_
    refine wpB_chunk (f := 0) (L' := #[true, true, true, true, true, true]) hsel_ hQ_ [(0, true, some 11, none), (1, true, some 12, none), (2, true, some 13, none), (3, false, none, none), (4, false, none, none), (5, false, some 8, none)] _ _ _ (by kernel_rfl) HY.out.drew ?_
    repeat (first | (refine wpSeqB_pure (v := ?_) rfl ?_ ?_; rotate_left 1; (focus (intro wq_ hSq_; (try dsimp only at hSq_); go_simp; (try with_reducible rfl); done)); (try simp only [Act.put, List.setIfInBounds_toArray, List.set_cons_zero, List.set_cons_succ])) | (refine wpSeqB_pureG (v := ?_) rfl rfl ?_ ?_; rotate_left 1; (focus (intro wq_ hSq_; (try dsimp only at hSq_); go_simp; (try with_reducible rfl); done)); (try simp only [Act.put, List.setIfInBounds_toArray, List.set_cons_zero, List.set_cons_succ])) | (refine wpSeqB_off rfl rfl ?_; (try simp only [Act.put, List.setIfInBounds_toArray, List.set_cons_zero, List.set_cons_succ])) | (refine wpSeqB_offU rfl ?_; (try simp only [Act.put, List.setIfInBounds_toArray, List.set_cons_zero, List.set_cons_succ])))
    have hS0 := HY.out.drew
    obtain ⟨wd, hwd⟩ : ∃ wd, W9.drew = wd := ⟨_, rfl⟩
    rw [hwd] at hS0 ⊢
    clear kka kkb hwd
    have f3 := hS0.m.free
    have k3 := blk_one hS0.m
    first | refine wpSeqB_call rfl (fun K hK => ?_) | refine wpSeqB_callG rfl rfl (fun K hK => ?_)
    go_simp
    clear f3 k3
    have hS1 := hS0.setm hB
    refine hK.out _ _ hS1 ?_
    clear hK K
    (try simp only [List.getElem_toArray, List.getElem_cons_succ, List.getElem_cons_zero, Act.put, List.setIfInBounds_toArray, List.set_cons_zero, List.set_cons_succ])
    repeat (first | (refine wpSeqB_pure (v := ?_) rfl ?_ ?_; rotate_left 1; (focus (intro wq_ hSq_; (try dsimp only at hSq_); go_simp; (try with_reducible rfl); done)); (try simp only [Act.put, List.setIfInBounds_toArray, List.set_cons_zero, List.set_cons_succ])) | (refine wpSeqB_pureG (v := ?_) rfl rfl ?_ ?_; rotate_left 1; (focus (intro wq_ hSq_; (try dsimp only at hSq_); go_simp; (try with_reducible rfl); done)); (try simp only [Act.put, List.setIfInBounds_toArray, List.set_cons_zero, List.set_cons_succ])) | (refine wpSeqB_off rfl rfl ?_; (try simp only [Act.put, List.setIfInBounds_toArray, List.set_cons_zero, List.set_cons_succ])) | (refine wpSeqB_offU rfl ?_; (try simp only [Act.put, List.setIfInBounds_toArray, List.set_cons_zero, List.set_cons_succ])))
    obtain ⟨we, hwe⟩ : ∃ we, wd.setCell ⟨B + 1 + 1 + 1, 0, none⟩ (.slice A' 2 c') = we := ⟨_, rfl⟩
    rw [hwe] at hS1 ⊢
    clear hwe
    have f4 := hS1.x.free
    have k4 := blk_one hS1.x
    first | refine wpSeqB_call rfl (fun K hK => ?_) | refine wpSeqB_callG rfl rfl (fun K hK => ?_)
    go_simp
    clear f4 k4
    have hS2 := hS1.setx hB
    refine hK.out _ _ hS2 ?_
    clear hK K
    (try simp only [List.getElem_toArray, List.getElem_cons_succ, List.getElem_cons_zero, Act.put, List.setIfInBounds_toArray, List.set_cons_zero, List.set_cons_succ])
    repeat (first | (refine wpSeqB_pure (v := ?_) rfl ?_ ?_; rotate_left 1; (focus (intro wq_ hSq_; (try dsimp only at hSq_); go_simp; (try with_reducible rfl); done)); (try simp only [Act.put, List.setIfInBounds_toArray, List.set_cons_zero, List.set_cons_succ])) | (refine wpSeqB_pureG (v := ?_) rfl rfl ?_ ?_; rotate_left 1; (focus (intro wq_ hSq_; (try dsimp only at hSq_); go_simp; (try with_reducible rfl); done)); (try simp only [Act.put, List.setIfInBounds_toArray, List.set_cons_zero, List.set_cons_succ])) | (refine wpSeqB_off rfl rfl ?_; (try simp only [Act.put, List.setIfInBounds_toArray, List.set_cons_zero, List.set_cons_succ])) | (refine wpSeqB_offU rfl ?_; (try simp only [Act.put, List.setIfInBounds_toArray, List.set_cons_zero, List.set_cons_succ])))
    first | refine wpSeqB_call rfl (fun K hK => ?_) | refine wpSeqB_callG rfl rfl (fun K hK => ?_)
    go_simp
    refine hK.out _ _ hS2 ?_
    clear hK K
    (try simp only [List.getElem_toArray, List.getElem_cons_succ, List.getElem_cons_zero, Act.put, List.setIfInBounds_toArray, List.set_cons_zero, List.set_cons_succ])
    repeat (first | (refine wpSeqB_pure (v := ?_) rfl ?_ ?_; rotate_left 1; (focus (intro wq_ hSq_; (try dsimp only at hSq_); go_simp; (try with_reducible rfl); done)); (try simp only [Act.put, List.setIfInBounds_toArray, List.set_cons_zero, List.set_cons_succ])) | (refine wpSeqB_pureG (v := ?_) rfl rfl ?_ ?_; rotate_left 1; (focus (intro wq_ hSq_; (try dsimp only at hSq_); go_simp; (try with_reducible rfl); done)); (try simp only [Act.put, List.setIfInBounds_toArray, List.set_cons_zero, List.set_cons_succ])) | (refine wpSeqB_off rfl rfl ?_; (try simp only [Act.put, List.setIfInBounds_toArray, List.set_cons_zero, List.set_cons_succ])) | (refine wpSeqB_offU rfl ?_; (try simp only [Act.put, List.setIfInBounds_toArray, List.set_cons_zero, List.set_cons_succ])))
    intro s_
    refine wpB_end (by kernel_rfl) ?_
    go_wp2_with fail
    go_meet
    exact ⟨rfl, hS2⟩
  case rest =>
    obtain ⟨rfl, hS⟩ := hcut
    have k9 := blk_one hS.m
    have k9x := blk_one hS.x
    go_wp2_with fail
    refine bodyPost_ret (v := .tuple #[.slice A' 2 c', .int .i64 (n : Int), .int .i64 0]) (by simp [results, Try.results8, go_sem, k9, k9x]) rfl ?_
    exact ⟨_, rfl, ⟨A', c', n, hn, rfl, hS.o.lower (by omega)⟩, hS.e⟩
end Go.Proofs.Tb
