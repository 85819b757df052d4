/- Value, Engrave. -/
import Derived.Test.YtjiccpacpcongaaUl
set_option linter.unusedVariables false
set_option linter.unusedSimpArgs false
namespace Go.Proofs.Tb
open Go.RowKit Go.Lib
attribute [local go_sem] cell_set_same

/-- Some boxes, and what is young. -/
def XC (bs : List Nat) (s : Nat) (b : Nat) (_ : Obj) : Prop := b ∈ bs ∨ s ≤ b
theorem XC.blk {bs : List Nat} {s : Nat} {w w' : World} (hc : Chg (XC bs s) w w') {b : Nat} {T : TypeId} {cs : Array Value} (hb : Blk w b T cs) (h1 : b ∉ bs) (h2 : b < s) : Blk w' b T cs := hc.blk hb fun hX => by
  rcases hX with hX | hX
  · exact h1 hX
  · omega
abbrev TIB : TypeId := 3
set_option maxHeartbeats 3200000 in
set_option maxRecDepth 100000 in
theorem rvalueC_any {q n c bq bp bx by_ : Nat} {A : Option Addr} {l : List Int} {x : Int} {y0 : Value} (hq : Q4 q) (hx : 0 ≤ x ∧ x < (q : Int)) (w : World) (hl : Rv w 1 A n c (ci l)) (hn : l.length = n) (hn2 : n ≤ q) (hr : ∀ a ∈ l, 0 ≤ a ∧ a < (q : Int))
    (h1 : Blk w bq TIN #[.int .i64 (q : Int)]) (h2 : Blk w bp TLI #[.slice A n c]) (h3 : Blk w bx TIN #[.int .i64 x]) (h4 : Blk w by_ TIN #[y0]) :
    Calls Try.prog 20 #[.pointer (some ⟨bq, 0, none⟩), .pointer (some ⟨bp, 0, none⟩), .pointer (some ⟨bx, 0, none⟩), .pointer (some ⟨by_, 0, none⟩)] w fun e w' => e = .returned (.tuple #[]) ∧ Chg (XC [by_] w.heap.size) w w' ∧ Blk w' by_ TIN #[.int .i64 (hv (q : Int) l x)] := by
  have hb : 5 ≤ q ∧ q ≤ 13 := by rcases hq with h | h | h | h <;> omega
  obtain ⟨hb1, hb2⟩ := hb
  have HOV := Lib.hid (fun w' => rover_any hq w')
  have HEL := Lib.hid (fun (w' : World) (hh : Ext w w') => relements_any (q := q) w' (hl.below hh) hn (by omega) hr)
  have HEX := Lib.hid (fun (w' : World) (A' : Option Addr) (c' : Nat) (h : Rv w' 1 A' 1 c' (ci [x])) => relements_any (q := q) w' h rfl (by omega) (fun a ha => by rw [List.mem_singleton.1 ha]; exact hx))
  have HVA := Lib.hid (fun (w' : World) (hh : Ext w w') => rvalue_any (q := q) (by omega) (by omega) hx w' (hl.below hh) hn (by omega) hr)
  have HB := Lib.hid (And.intro h1 (And.intro h2 (And.intro h3 h4)))
  have k1 := h1.cells
  have k2 := h2.cells
  have k3 := h3.cells
  have hle := hl.le
  have hcp := hl.cap
  simp only [cellsAre, Nat.zero_add, Nat.reduceAdd, and_true] at k1 k2 k3
  obtain ⟨y, hy⟩ : ∃ y, hv (q : Int) l x = y := ⟨_, rfl⟩
  rw [hy] at HVA ⊢
  have pn : (n : Int) ≤ (q : Int) := by omega
  clear hl hn hr h1 h2 h3 h4 hy hx hq
  go_enter Try.func20, Try.ntmps20
  go_wp2_with fail
  refine (HOV.out w).mono ?_
  rintro e w1 ⟨z, rfl, rfl, b1⟩
  have X1 := Lib.hid (show Ext w w1 from b1)
  have k2 := ext_cell b1 k2
  clear b1
  go_wp2_with fail
  refine (HEL.out w1 X1.out).mono ?_
  rintro e w2 ⟨z, rfl, rfl, b2⟩
  have X2 := Lib.hid (bt X1.out b2)
  have k3 := ext_cell X2.out k3
  clear b2
  go_wp2_with fail
  refine (HEX.out _ _ _ (rv_one w2 x)).mono ?_
  rintro e w3 ⟨z, rfl, rfl, b3⟩
  have X3 := Lib.hid (bt X2.out (bt (Ext.allocR w2 (.cells #[.int .i64 x] TIN)) b3))
  have k1 := (HB.out.1.below X3.out).cells
  have k2 := (HB.out.2.1.below X3.out).cells
  simp only [cellsAre, Nat.zero_add, Nat.reduceAdd, and_true] at k1 k2
  clear b3
  go_wp2_with fail
  refine (rmust_any w3).mono ?_
  rintro e w4 ⟨z, rfl, rfl, b4⟩
  have X4 := Lib.hid (bt X3.out b4)
  have k2 := (HB.out.2.1.below X4.out).cells
  have k3 := (HB.out.2.2.1.below X4.out).cells
  simp only [cellsAre, Nat.zero_add, Nat.reduceAdd, and_true] at k2 k3
  clear b4
  go_wp2_with fail
  refine (HVA.out w4 X4.out).mono ?_
  rintro e w5 ⟨z, rfl, rfl, b5⟩
  have X5 := Lib.hid (bt X4.out b5)
  have k4 := (HB.out.2.2.2.below X5.out).cells
  have f4 := (HB.out.2.2.2.below X5.out).free
  simp only [cellsAre, Nat.zero_add, Nat.reduceAdd, and_true] at k4
  clear b5
  go_wp2_with fail
  go_returns
  exact ⟨rfl, (Chg.ext X5.out).trans (Chg.set_ (p := ⟨by_, 0, none⟩) (HB.out.2.2.2.below X5.out) (Or.inl (List.mem_singleton.2 rfl)) _), (HB.out.2.2.2.below X5.out).set_ 0 _⟩
theorem blk_one {w : World} {g : Nat} {T : TypeId} {v : Value} (h : Blk w g T #[v]) : w.cell? ⟨g, 0, none⟩ = some v := by
  have := h.cells
  simp only [cellsAre, Nat.zero_add, Nat.reduceAdd, and_true] at this
  exact this
theorem enter20 (args : Array Value) (W : World) : (callFunc 20 args).run Try.prog W = .ok (.enter 20 args) W := rfl
set_option maxHeartbeats 3200000 in
set_option maxRecDepth 100000 in
theorem rValue_any {q n c : Nat} {A : Option Addr} {l : List Int} {x : Int} (hq : Q4 q) (hx : 0 ≤ x ∧ x < (q : Int)) (w : World) (hl : Rv w 1 A n c (ci l)) (hn : l.length = n) (hn2 : n ≤ q) (hr : ∀ a ∈ l, 0 ≤ a ∧ a < (q : Int)) :
    Calls Try.prog 9 #[.int .i64 (q : Int), .slice A n c, .int .i64 x] w (Ret (fun z _ => z = .tuple #[.int .i64 (hv (q : Int) l x), .int .i64 0]) w) := by
  have hmf : ∀ (fn : Fn) (first cap : Array Value) (w : World), (Instr.makeFunc fn first cap).run Try.prog w = .ok (.func fn first cap) w := fun _ _ _ _ => rfl
  obtain ⟨B, hB⟩ : ∃ B, w.heap.size = B := ⟨_, rfl⟩
  obtain ⟨W, hW⟩ : ∃ W, W = (((w.alloc (.cells #[.int .i64 (q : Int)] TIN)).alloc (.cells #[.slice A n c] TLI)).alloc (.cells #[.int .i64 x] TIN)).alloc (.cells #[.int .i64 0] TIN) := ⟨_, rfl⟩
  have b1 : Blk W B TIN #[.int .i64 (q : Int)] := by rw [hW]; exact (((Blk.new_ _ _ hB).alloc _).alloc _).alloc _
  have b2 : Blk W (B + 1) TLI #[.slice A n c] := by rw [hW]; exact ((Blk.new_ _ _ (by simp [hB])).alloc _).alloc _
  have b3 : Blk W (B + 1 + 1) TIN #[.int .i64 x] := by rw [hW]; exact (Blk.new_ _ _ (by simp [hB])).alloc _
  have b4 : Blk W (B + 1 + 1 + 1) TIN #[.int .i64 0] := by rw [hW]; exact Blk.new_ _ _ (by simp [hB])
  have xW : Ext w W := by rw [hW]; exact bt (Ext.allocR _ _) (bt (Ext.allocR _ _) (bt (Ext.allocR _ _) (Ext.allocR _ _)))
  have HW := Lib.hid (And.intro b1 (And.intro b2 (And.intro b3 (And.intro b4 xW))))
  have HX := Lib.hid hx
  have HL := Lib.hid (And.intro hl (And.intro hn hr))
  clear b1 b2 b3 b4 xW hl hn hr hx
  go_enter Try.func9, Try.ntmps9
  go_wp2_with fail
  rw [← hW]
  have hWs : W.heap.size = B + 1 + 1 + 1 + 1 := by rw [hW]; simp [hB]
  have hlW : Rv (W.alloc (.cells #[.int .i64 0] TER)) 1 A n c (ci l) := HL.out.1.below (bt HW.out.2.2.2.2 (Ext.allocR _ _))
  refine (rguarded_any 20 _ enter20 (Phi := fun w' => Chg (XC [B + 1 + 1 + 1] (W.alloc (.cells #[.int .i64 0] TER)).heap.size) (W.alloc (.cells #[.int .i64 0] TER)) w' ∧ Blk w' (B + 1 + 1 + 1) TIN #[.int .i64 (hv (q : Int) l x)]) ((rvalueC_any hq HX.out _ hlW HL.out.2.1 hn2 HL.out.2.2 (HW.out.1.alloc _) (HW.out.2.1.alloc _) (HW.out.2.2.1.alloc _) (HW.out.2.2.2.1.alloc _)).mono ?_)).mono ?_
  · rintro e w1 ⟨rfl, hc, hy⟩
    exact ⟨rfl, ⟨hc, hy⟩, XC.blk hc (Blk.new_ _ _ rfl) (by rw [hWs]; simp) (by simp)⟩
  rintro e w' ⟨rfl, w1, ⟨hc, hy⟩, hbe, rfl⟩
  have X9 : Below B W (w1.setCell ⟨W.heap.size, 0, none⟩ (.int .i64 0)) := ((Chg.ext (Ext.allocR W _)).trans ((hc.mono fun b o h => show B ≤ b from by
    rcases h with h | h
    · rw [List.mem_singleton.1 h]; omega
    · rw [World.alloc] at h; simp at h; omega).trans (Chg.set_ (p := ⟨W.heap.size, 0, none⟩) hbe (show B ≤ W.heap.size from by omega) _))).below (fun b o h => h) (by omega)
  have hy2 := hy.far (p := ⟨W.heap.size, 0, none⟩) (by rw [hWs]; simp) (.int .i64 0)
  obtain ⟨W9, hW9⟩ : ∃ W9, w1.setCell ⟨W.heap.size, 0, none⟩ (.int .i64 0) = W9 := ⟨_, rfl⟩
  rw [hW9] at X9 hy2 ⊢
  have XX := Lib.hid (show Ext w W9 from by
    have h1 := HW.out.2.2.2.2
    unfold Ext at h1 ⊢
    rw [hB] at h1 ⊢
    exact h1.trans X9)
  have k1 := hy2.cells
  have f1 := hy2.free
  simp only [cellsAre, Nat.zero_add, Nat.reduceAdd, and_true] at k1
  have HY := Lib.hid hy2
  clear hy hc hbe hy2 hlW X9 hW9 hW
  go_wp2_with fail
  have k9 := blk_one (show Blk (W9.setCell ⟨B + 1 + 1 + 1, 0, none⟩ (.int .i64 (hv (q : Int) l x))) (B + 1 + 1 + 1) TIN #[.int .i64 (hv (q : Int) l x)] from HY.out.set_ 0 _)
  refine bodyPost_ret (v := .tuple #[.int .i64 (hv (q : Int) l x), .int .i64 0]) (by simp [results, Try.results9, go_sem, k9]) rfl ?_
  refine ⟨_, rfl, rfl, ?_⟩
  have h1 := XX.out
  unfold Ext at h1
  rw [hB] at h1 ⊢
  exact h1.trans ((Chg.set_ (X := fun b _ => B ≤ b) (p := ⟨B + 1 + 1 + 1, 0, none⟩) HY.out (show B ≤ B + 1 + 1 + 1 by omega) _).below (fun b o h => h) (by have := h1.size; omega))
end Go.Proofs.Tb
