/- Contract of rate.Median. -/
import Derived.Test.YtcbffkkcldnegaaGreatMid
set_option linter.unusedVariables false
set_option linter.unusedSimpArgs false
namespace Go.Proofs.Tb
open Go.RowKit
attribute [local go_sem] cell_set_same

theorem sp_info : (Tryz.prog.info? TSP).map (fun i => (i.zero, i.size, i.bytes)) = some (some (.agg #[.int .i64 0, .int .i64 0]), 2, 16) := by kernel_rfl
theorem rr_info : (Tryz.prog.info? TR).map (fun i => (i.zero, i.size, i.bytes)) = some (some (.agg #[.bool false, .slice none 0 0, .bool false, .slice none 0 0]), 4, 64) := by kernel_rfl
/-- The median of all slopes. -/
def medS (rs : List Rdg) : Rat := med (prA (slQ rs) rs.length)
def shL (rs : List Rdg) (s : Rat) (n : Nat) : List Rat := (List.range n).map fun i => yq rs i - s * tq rs i
/-- The median of what is left at the readings. -/
def medH (rs : List Rdg) : Rat := med (shL rs (medS rs) rs.length)
def MedR (rs : List Rdg) (v : Value) (_ : World) : Prop := (¬ Vld rs → v = .tuple #[.agg #[.int .i64 0, .int .i64 0, .int .i64 0, .int .i64 0], .int .i64 1]) ∧ (Vld rs → LineQ (medS rs) (medH rs) v)
/-- The slopes of the first n readings, as pairs of numbers. -/
def spF (rs : List Rdg) (j i : Nat) : Int × Int := (ofs rs i - ofs rs j, tm rs i - tm rs j)
def spL (rs : List Rdg) (n : Nat) : List (Int × Int) := prA (spF rs) n
def spR (rs : List Rdg) (i j : Nat) : List (Int × Int) := (List.range j).map fun j' => spF rs j' i
theorem spL_succ (rs : List Rdg) (i : Nat) : spL rs (i + 1) = spL rs i ++ spR rs i i := prA_succ _ _
theorem spR_zero (rs : List Rdg) (i : Nat) : spR rs i 0 = [] := rfl
theorem spR_succ (rs : List Rdg) (i j : Nat) : spR rs i (j + 1) = spR rs i j ++ [spF rs j i] := by unfold spR; rw [List.range_succ, List.map_append]; rfl
theorem spR_len (rs : List Rdg) (i j : Nat) : (spR rs i j).length = j := by simp [spR]
theorem spL_len (rs : List Rdg) (n : Nat) : (spL rs n).length ≤ n * n := by
  induction n with
  | zero => simp [spL, prA]
  | succ n ih => rw [spL_succ, List.length_append, spR_len]; have : (n + 1) * (n + 1) = n * n + n + n + 1 := by rw [Nat.add_mul, Nat.mul_add]; omega
                 omega
theorem spL_mem {rs : List Rdg} {n : Nat} {x : Int × Int} (h : x ∈ spL rs n) : ∃ i j, j < i ∧ i < n ∧ x = spF rs j i := by
  unfold spL prA at h
  obtain ⟨i, hi, h⟩ := List.mem_flatMap.1 h
  obtain ⟨j, hj, rfl⟩ := List.mem_map.1 h
  exact ⟨i, j, List.mem_range.1 hj, List.mem_range.1 hi, rfl⟩
theorem spF_ok {rs : List Rdg} (h : Vld rs) {i j : Nat} (hj : j < i) (hi : i < rs.length) : SOk (spF rs j i) := by
  have h1 := h.tm_bd hi
  have h2 := h.tm_bd (i := j) (by omega)
  have h3 := h.mono_tm hj hi
  unfold SOk spF
  dsimp only
  omega
theorem spL_val {rs : List Rdg} (h : Vld rs) {n : Nat} (hn : n ≤ rs.length) : (spL rs n).map sV = prA (slQ rs) n := by
  unfold spL prA
  rw [List.map_flatMap]
  refine flatMap_same fun i hi => ?_
  rw [List.map_map]
  refine List.map_congr_left fun j hj => ?_
  have hi' := List.mem_range.1 hi
  have hj' := List.mem_range.1 hj
  have h3 := h.mono_tm hj' (by omega)
  exact slQ_qv (by omega)
theorem own_below {base : Nat} {w w' : World} {e : TypeId} {k n : Nat} {v : Value} {xs : List Value} (h : w.ownsRow base e k v n xs) (hb : Below w.heap.size w w') : w'.ownsRow base e k v n xs := by
  refine ⟨h.1, ?_⟩
  rcases h.2 with h | ⟨g, cap, cur, hv, h1, h2, h3⟩
  · exact Or.inl h
  · exact Or.inr ⟨g, cap, cur, hv, h1, (hb.block g (block_lt h2)).trans h2, h3⟩
theorem blk_cells {w : World} {g : Nat} {T : TypeId} {cs : List Value} (h : Blk w g T cs.toArray) : ∀ j u, cs[j]? = some u → w.cell? ((⟨g, 0, none⟩ : Addr).add j) = some u := by
  intro j u hj
  have e : (⟨g, 0, none⟩ : Addr).add j = ⟨g, j, none⟩ := by simp [Addr.add]; exact fun h => h.symm
  rw [e, cell_of_row _ _ j cs.toArray T (0, 0) h]
  simpa using hj
theorem sE_one (d : List (Int × Int)) : ∀ u, u ∈ cel sE d → u.oneCell' = true := fun u hu => by
  unfold cel at hu
  obtain ⟨x, _, hu⟩ := List.mem_flatMap.1 hu
  simp only [sE, List.mem_cons, List.not_mem_nil, or_false] at hu
  rcases hu with rfl | rfl <;> rfl
theorem WX.grown {w w' : World} {v : Value} {x : Rat} {s : Nat} {row : Option Nat} (h : WX w v x s) (hg : w.grownBy w' row) (hr : ∀ g, row = some g → ∀ cs fr, w.heap[g]? ≠ some (.cells cs TU fr)) : WX w' v x s := by
  obtain ⟨p, q, ⟨A, n, c, A', n', c', hv, h1, h2, hq⟩, h3⟩ := h
  have hk : ∀ (b : Nat) (cs : Array Value) (fr : Nat × Nat), w.heap[b]? = some (Obj.cells cs TU fr) → w'.heap[b]? = w.heap[b]? := fun b cs fr hb => hg.block b (block_lt hb) (fun e => hr b e.symm cs fr hb)
  exact ⟨p, q, ⟨A, n, c, A', n', c', hv, h1.keep hk, h2.keep hk, hq⟩, h3⟩
theorem own_tag {base : Nat} {w : World} {v : Value} {n k : Nat} {xs : List Value} {T T' : TypeId} (h : w.ownsRow base T k v n xs) (hT : T ≠ T') : ∀ g, v.ownBlock = some g → ∀ cs fr, w.heap[g]? ≠ some (.cells cs T' fr) := by
  intro g hg cs fr hb
  rcases h.2 with ⟨rfl, _⟩ | ⟨g', cap, cur, rfl, _, hh, _⟩
  · simp [Value.ownBlock] at hg
  · simp [Value.ownBlock] at hg
    subst hg
    rw [hh] at hb
    injection hb with hb
    injection hb with _ hb
    exact hT hb
theorem QW.snoc {w : World} {s : Nat} {d : List RE} {v0 v1 v2 v3 : Value} {q : Rat} (h : QW w s d) (hx : WX w (.agg #[v0, v1, v2, v3]) q s) : QW w s (d ++ [([v0, v1, v2, v3], q)]) := fun y hy => by
  rcases List.mem_append.1 hy with hy | hy
  · exact h y hy
  · rw [List.mem_singleton] at hy
    subst hy
    exact ⟨rfl, hx⟩
theorem QW.grown {w w' : World} {s : Nat} {d : List RE} {row : Option Nat} (h : QW w s d) (hg : w.grownBy w' row) (hr : ∀ g, row = some g → ∀ cs fr, w.heap[g]? ≠ some (.cells cs TU fr)) : QW w' s d := fun x hx => ⟨(h x hx).1, (h x hx).2.grown hg hr⟩
theorem rE_four (a b c d : Value) (q : Rat) (h1 : a.oneCell' = true) (h2 : b.oneCell' = true) (h3 : c.oneCell' = true) (h4 : d.oneCell' = true) : ∀ u, u ∈ [a, b, c, d] → u.oneCell' = true := fun u hu => by
  simp only [List.mem_cons, List.not_mem_nil, or_false] at hu
  rcases hu with rfl | rfl | rfl | rfl <;> assumption
theorem shL_succ (rs : List Rdg) (s : Rat) (k : Nat) : shL rs s (k + 1) = shL rs s k ++ [yq rs k - s * tq rs k] := by unfold shL; rw [List.range_succ, List.map_append]; rfl
/-- The two blocks that the end of Median writes. -/
def MG (t g K : Nat) (W0 w : World) : Prop := HeldM [(t, 4, TAL), (g, K, TR)] W0 w
section
variable {t g K : Nat} {W0 w w' : World}
theorem m2a : ∃ r, r ∈ [(t, 4, TAL), (g, K, TR)] ∧ r.1 = t := ⟨_, List.mem_cons_self .., rfl⟩
theorem MG.drew (h : MG t g K W0 w) : MG t g K W0 w.drew := HeldM.drew h
theorem MG.trans_ (h : MG t g K W0 w) (hb : Below w.heap.size w w') : MG t g K W0 w' := HeldM.trans_ h hb
theorem MG.set0 (h : MG t g K W0 w) (j : Nat) (v : Value) : MG t g K W0 (w.setCell ⟨t, j, none⟩ v) := HeldM.set_ h m2a j v
theorem MG.start {a : Array Value} {cs : Array Value} (c0 : Blk w t TAL a) (ha : a.size = 4) (c1 : Blk w g TR cs) (hK : cs.size = K) : MG t g K w w := by
  subst hK
  refine ⟨rfl, rfl, rfl, Nat.le_refl _, fun _ _ _ => rfl, ?_, ?_⟩ <;>
  · intro r hr
    simp only [List.mem_cons, List.not_mem_nil, or_false] at hr
    rcases hr with rfl | rfl
    · exact ⟨_, c0, ha⟩
    · exact ⟨_, c1, rfl⟩
theorem MG.mid (h : MG t g K W0 w) (hh : Held g K TR w w') (hne : t ≠ g) : MG t g K W0 w' := by
  refine ⟨hh.g.os.trans h.os, hh.g.tape.trans h.tape, hh.g.output.trans h.output, Nat.le_trans h.size hh.g.size, fun i hi hn => (hh.g.block i (Nat.lt_of_lt_of_le hi h.size) (fun e => hn (g, K, TR) (by simp) (by injection e))).trans (h.block i hi hn), h.r0, ?_⟩
  intro r hr
  simp only [List.mem_cons, List.not_mem_nil, or_false] at hr
  rcases hr with rfl | rfl
  · obtain ⟨cs, h1, h2⟩ := h.r (t, 4, TAL) (by simp)
    exact ⟨cs, (hh.g.block t (block_lt h1) (fun e => hne (by injection e))).trans h1, h2⟩
  · exact hh.r
theorem MG.wx {v : Value} {x : Rat} {s : Nat} (h : MG t g K W0 w) (hx : WX W0 v x s) : WX w v x s := by
  obtain ⟨p, q, ⟨A, n, c, A', n', c', hv, h1, h2, hq⟩, h3⟩ := hx
  have hne : ∀ r, r ∈ [(t, 4, TAL), (g, K, TR)] → TU ≠ r.2.2 := fun r hr => by
    simp only [List.mem_cons, List.not_mem_nil, or_false] at hr
    rcases hr with rfl | rfl
    · exact show TU ≠ TAL by decide
    · exact show TU ≠ TR by decide
  exact ⟨p, q, ⟨A, n, c, A', n', c', hv, h1.heldM h hne, h2.heldM h hne, hq⟩, h3⟩
theorem MG.blk {b : Nat} {T : TypeId} {cs : Array Value} (h : MG t g K W0 w) (hb : Blk W0 b T cs) (h1 : b ≠ t) (h2 : b ≠ g) : Blk w b T cs := hb.heldM h (fun r hr => by
  simp only [List.mem_cons, List.not_mem_nil, or_false] at hr
  rcases hr with rfl | rfl <;> assumption)
theorem MG.rules (t g K : Nat) (W0 : World) : (∀ w', MG t g K W0 w' → ∀ j, j < 4 → w'.cell? ⟨t, j, none⟩ = some (cnt w' t j)) ∧ (∀ w', MG t g K W0 w' → ∀ j, w'.frozen? ⟨t, j, none⟩ = false) :=
  ⟨rulesM_cell _ W0 t 4 TAL (by simp), rulesM_free _ W0 t 4 TAL (by simp)⟩
theorem MG.below {a : World} (h : MG t g K W0 w) (hb : Below a.heap.size a W0) (h0 : a.heap.size ≤ t) (h1 : a.heap.size ≤ g) : Below a.heap.size a w := HeldM.below h hb (fun r hr => by
  simp only [List.mem_cons, List.not_mem_nil, or_false] at hr
  rcases hr with rfl | rfl <;> assumption)
end
theorem LineQ.exM (x y : Rat) : ∃ p1 p2 p3 p4 pe : Int, (∀ v, LineQ x y v → v = .tuple #[.agg #[.int .i64 p1, .int .i64 p2, .int .i64 p3, .int .i64 p4], .int .i64 pe]) := by
  by_cases h : fitQ x ∧ fitQ y
  · exact ⟨_, _, _, _, _, fun v hl => hl.1 h⟩
  · exact ⟨_, _, _, _, _, fun v hl => hl.2 h⟩
theorem vline_any {w : World} {a b : Value} {x y : Rat} {s t : Nat} (ha : WX w a x s) (hb : WX w b y t) (hs : s + t ≤ 50000000000) : Calls Tryz.prog 28 #[a, b] w (Ret (fun v _ => LineQ x y v) w) := by
  obtain ⟨p, q, h1, rfl, h3, h4⟩ := ha
  obtain ⟨r, u, k1, rfl, k3, k4⟩ := hb
  refine (rline_any a b p q r u w h1 k1 (by omega)).mono ?_
  rintro e w' ⟨v, he, hv, hb⟩
  exact ⟨v, he, hv.q h1.q0 k1.q0, hb⟩
set_option maxHeartbeats 6400000 in
set_option maxRecDepth 100000 in
theorem rmedian_any (A : Option Addr) (n c : Nat) (rs : List Rdg) (w : World) (h : Rd w A n c rs) :
    Calls Tryz.prog 8 #[.slice A n c] w (Ret (MedR rs) w) := by
  have hn := h.le
  have hc := h.cap
  have HL := Lib.hid h.len
  have H := Lib.hid h
  clear h
  go_enter Tryz.func8, Tryz.ntmps8
  go_wp2_with fail
  have hbx : Below w.heap.size w (w.alloc (.cells #[.int .i64 0, .int .i64 0, .int .i64 0, .int .i64 0] TAL)) := by go_grown
  have bl0 : Blk (w.alloc (.cells #[.int .i64 0, .int .i64 0, .int .i64 0, .int .i64 0] TAL)) w.heap.size TAL #[.int .i64 0, .int .i64 0, .int .i64 0, .int .i64 0] := Blk.new_ _ _ rfl
  refine (rvalid_any _ _ _ rs _ (H.out.below hbx)).mono ?_
  rintro e w1 ⟨v1, rfl, rfl, hb1⟩
  have B0 := Lib.hid (bl0.below hb1)
  have HW1 := Lib.hid (bt hbx hb1)
  clear bl0 hbx hb1
  by_cases hv : Vld rs
  rotate_left
  · rw [vld_false hv]
    have HV := Lib.hid hv
    have k0 := zcells0 B0.out
    have f0 := B0.out.free
    clear hv
    go_wp2
    (try simp only [Exit.inBlock, Exit.then])
    refine bodyPost_ret (v := .tuple #[.agg #[.int .i64 0, .int .i64 0, .int .i64 0, .int .i64 0], .int .i64 1]) (by simp [results, Tryz.results8, go_sem, k0]) rfl ?_
    exact ⟨_, rfl, ⟨fun _ => rfl, fun h => absurd h HV.out⟩, ((((HW1.out.setCell (Nat.le_refl _) _).setCell (Nat.le_refl _) _).setCell (Nat.le_refl _) _).setCell (Nat.le_refl _) _)⟩
  rw [vld_true hv]
  have HV := Lib.hid hv
  have hn64 : n ≤ 64 := by have := hv.2.1; have := HL.out; omega
  have hn2 : 2 ≤ n := by have := hv.1; have := HL.out; omega
  have HR1 := Lib.hid (H.out.below HW1.out)
  have hbase : w1.heap.size ≤ w1.heap.size := Nat.le_refl _
  clear hv
  go_wp2_with fail
  go_loopw [4, 17] (fun vo iv wr => ∃ i : Nat, iv = .int .i64 (i : Int) ∧ i ≤ n ∧ wr.ownsRow w1.heap.size TSP 2 vo (spL rs i).length (cel sE (spL rs i)) ∧ Below w1.heap.size w1 wr) (fun _ iv _ => n - (intOf iv).toNat)
  case atStart => exact ⟨0, rfl, by omega, ⟨rfl, Or.inl ⟨rfl, rfl⟩⟩, Below.refl _ _⟩
  case round =>
    obtain ⟨i, rfl, hi, hown, hbw⟩ := hrel
    obtain ⟨W2, hW2⟩ : ∃ W2, W2 = wr := ⟨_, rfl⟩
    subst hW2
    have HO := Lib.hid hown
    have HBW := Lib.hid hbw
    clear hown hbw
    by_cases hin : i < n
    · have g1 : decide ((i : Int) < (n : Int)) = true := by simp; omega
      go_wp2_with fail
      clear g1
      go_loopw [4, 21] (fun vo jv wx => ∃ j : Nat, jv = .int .i64 (j : Int) ∧ j ≤ i ∧ wx.ownsRow w1.heap.size TSP 2 vo (spL rs i ++ spR rs i j).length (cel sE (spL rs i ++ spR rs i j)) ∧ Below w1.heap.size w1 wx) (fun _ jv _ => i - (intOf jv).toNat)
      case atStart => exact ⟨0, rfl, by omega, by rw [spR_zero, List.append_nil]; exact HO.out, HBW.out⟩
      case round =>
        clear HO HBW
        obtain ⟨j, rfl, hj, hown, hbw⟩ := hrel
        have HO := Lib.hid hown
        have HBW := Lib.hid hbw
        clear hown hbw
        by_cases hji : j < i
        · have g1 : decide ((j : Int) < (i : Int)) = true := by simp; omega
          have hll : (spL rs i ++ spR rs i j).length ≤ 100000 := by
            have h1 := spL_len rs i
            have h2 : i * i ≤ 64 * 64 := Nat.mul_le_mul (by omega) (by omega)
            rw [List.length_append, spR_len]; omega
          obtain ⟨b, o, rfl, hcell⟩ := (HR1.out.below HBW.out).at_ (by omega)
          have ti := HV.out.tm_bd (i := i) (by have := HL.out; omega)
          have tj := HV.out.tm_bd (i := j) (by have := HL.out; omega)
          have hlt := HV.out.mono_tm hji (by have := HL.out; omega)
          have HSP := Lib.hid (show spR rs i (j + 1) = spR rs i j ++ [(ofs rs i - ofs rs j, tm rs i - tm rs j)] from spR_succ rs i j)
          obtain ⟨ci1, ci2⟩ := hcell i hin
          obtain ⟨cj1, cj2⟩ := hcell j (by omega)
          obtain ⟨x1, hx1⟩ : ∃ x, tm rs i = x := ⟨_, rfl⟩
          obtain ⟨x2, hx2⟩ : ∃ x, ofs rs i = x := ⟨_, rfl⟩
          obtain ⟨y1, hy1⟩ : ∃ x, tm rs j = x := ⟨_, rfl⟩
          obtain ⟨y2, hy2⟩ : ∃ x, ofs rs j = x := ⟨_, rfl⟩
          have ci1' : wr.cell? ⟨b, o + i * 2, none⟩ = some (.int .i64 x1) := by rw [← hx1]; exact ci1
          have ci2' : wr.cell? ⟨b, o + i * 2 + 1, none⟩ = some (.int .i64 x2) := by rw [← hx2]; exact ci2
          have cj1' : wr.cell? ⟨b, o + j * 2, none⟩ = some (.int .i64 y1) := by rw [← hy1]; exact cj1
          have cj2' : wr.cell? ⟨b, o + j * 2 + 1, none⟩ = some (.int .i64 y2) := by rw [← hy2]; exact cj2
          rw [hx1, hx2] at ti HSP
          rw [hy1, hy2] at tj HSP
          rw [hx1, hy1] at hlt
          have pi_ : (i : Int) < (n : Int) := by omega
          have pj_ : (j : Int) < (n : Int) := by omega
          clear hcell ci1 ci2 cj1 cj2 hx1 hx2 hy1 hy2
          go_upto_region 10 with fail
          have kr := fun w' (hh : Ext wr w') => (show (w'.cell? ⟨b, o + i * 2, none⟩ = some (.int .i64 x1) ∧ w'.cell? ⟨b, o + i * 2 + 1, none⟩ = some (.int .i64 x2)) ∧ w'.cell? ⟨b, o + j * 2, none⟩ = some (.int .i64 y1) ∧ w'.cell? ⟨b, o + j * 2 + 1, none⟩ = some (.int .i64 y2) from ⟨⟨Ext.cell hh ci1', Ext.cell hh ci2'⟩, Ext.cell hh cj1', Ext.cell hh cj2'⟩)
          have hst : Ext wr wr.drew := Ext.drew _
          clear ci1' ci2' cj1' cj2' g1
          refine wp_region_adv 11 [] [(0, true, some 24, none), (1, true, some 25, none), (2, true, some 26, none), (3, true, some 27, none), (4, true, some 28, none), (5, true, some 29, none), (6, true, some 30, none), (7, true, some 31, none), (8, true, some 32, none), (9, false, some 33, none), (10, false, some 34, none)] (by kernel_rfl) (by kernel_rfl) (by kernel_rfl) (by intro it hit; (repeat (rcases List.mem_cons.1 hit with rfl | hit; (focus (intro o ho ev w; injection ho with ho; subst ho; kernel_rfl)))); cases hit) (fun _ _ _ _ _ => ⟨fun h => h, fun h => h⟩) hst ?_
          repeat (first | (refine wpSeq_pure (v := ?_) rfl ?_ ?_; rotate_left 1; (focus (intro wq_ hSq_; (try dsimp only at hSq_); go_simp; (try with_reducible rfl); done)); (try simp only [Act.put, List.setIfInBounds_toArray, List.set_cons_zero, List.set_cons_succ])) | (refine wpSeq_pureG (v := ?_) rfl rfl ?_ ?_; rotate_left 1; (focus (intro wq_ hSq_; (try dsimp only at hSq_); go_simp; (try with_reducible rfl); done)); (try simp only [Act.put, List.setIfInBounds_toArray, List.set_cons_zero, List.set_cons_succ])) | (refine wpSeq_off rfl rfl ?_; (try simp only [Act.put, List.setIfInBounds_toArray, List.set_cons_zero, List.set_cons_succ])))
          first | refine wpSeq_call rfl (fun u1 g1 s1 K hK => ?_) | refine wpSeq_callG rfl rfl (fun u1 g1 s1 K hK => ?_)
          go_simp
          refine (rbetween_any y1 y2 x1 x2 u1 tj ti).mono ?_
          rintro e z1 ⟨v1, rfl, hv1, b1⟩
          rw [if_neg (by omega)] at hv1
          subst hv1
          (try go_wp2_with fail)
          refine hK.out _ _ b1 ?_
          clear hK K
          (try simp only [Act.put, List.setIfInBounds_toArray, List.set_cons_zero, List.set_cons_succ])
          repeat (first | (refine wpSeq_pure (v := ?_) rfl ?_ ?_; rotate_left 1; (focus (intro wq_ hSq_; (try dsimp only at hSq_); go_simp; (try with_reducible rfl); done)); (try simp only [Act.put, List.setIfInBounds_toArray, List.set_cons_zero, List.set_cons_succ])) | (refine wpSeq_pureG (v := ?_) rfl rfl ?_ ?_; rotate_left 1; (focus (intro wq_ hSq_; (try dsimp only at hSq_); go_simp; (try with_reducible rfl); done)); (try simp only [Act.put, List.setIfInBounds_toArray, List.set_cons_zero, List.set_cons_succ])) | (refine wpSeq_off rfl rfl ?_; (try simp only [Act.put, List.setIfInBounds_toArray, List.set_cons_zero, List.set_cons_succ])))
          first | refine wpSeq_call rfl (fun u2 g2 s2 K hK => ?_) | refine wpSeq_callG rfl rfl (fun u2 g2 s2 K hK => ?_)
          go_simp
          (try go_wp2_with fail)
          refine hK.out _ _ (Ext.allocR _ _) ?_
          clear hK K
          (try simp only [Act.put, List.setIfInBounds_toArray, List.set_cons_zero, List.set_cons_succ])
          repeat (first | (refine wpSeq_pure (v := ?_) rfl ?_ ?_; rotate_left 1; (focus (intro wq_ hSq_; (try dsimp only at hSq_); go_simp; (try with_reducible rfl); done)); (try simp only [Act.put, List.setIfInBounds_toArray, List.set_cons_zero, List.set_cons_succ])) | (refine wpSeq_pureG (v := ?_) rfl rfl ?_ ?_; rotate_left 1; (focus (intro wq_ hSq_; (try dsimp only at hSq_); go_simp; (try with_reducible rfl); done)); (try simp only [Act.put, List.setIfInBounds_toArray, List.set_cons_zero, List.set_cons_succ])) | (refine wpSeq_off rfl rfl ?_; (try simp only [Act.put, List.setIfInBounds_toArray, List.set_cons_zero, List.set_cons_succ])))
          intro wz gz sz_
          (try simp only [endJ, List.drop_succ_cons, List.drop_zero])
          have HZ := Lib.hid (show Ext wr wz from sz_)
          have HBN := Lib.hid (show Blk wz u2.heap.size TSP #[.int .i64 (x2 - y2), .int .i64 (x1 - y1)] from (Blk.new_ TSP #[.int .i64 (x2 - y2), .int .i64 (x1 - y1)] rfl).below gz)
          have hz : w1.heap.size ≤ wz.heap.size := (bt HBW.out HZ.out).size
          clear hst kr b1 g1 g2 s1 s2 gz sz_
          go_wp2_with (at_builtin; refine wp_appE TSS TSP _ 2 16 sp_info Tryz.underlying67 rfl (by omega) (by omega) rfl _ _ rfl w1.heap.size _ _ _ rfl (own_below HO.out HZ.out) ⟨u2.heap.size, 0, none⟩ 1 1 [.int .i64 (x2 - y2), .int .i64 (x1 - y1)] rfl rfl (blk_cells HBN.out) (fun u hu => sE_one [(x2 - y2, x1 - y1)] u (by rw [cel_one]; exact hu)) (by omega) (by omega) hz ?_; intro v3 w3 hown3 hb3 _)
          have HN : w3.ownsRow w1.heap.size TSP 2 v3 (spL rs i ++ spR rs i (j + 1)).length (cel sE (spL rs i ++ spR rs i (j + 1))) := by
            rw [HSP.out, ← List.append_assoc, List.length_append, cel_app (sE) (spL rs i ++ spR rs i j), cel_one]
            exact hown3
          have HN2 := (bt HBW.out HZ.out).trans hb3
          clear hown3 hb3 HO HZ HBN HBW
          go_roundw
          case rel => exact ⟨j + 1, by go_num, by omega, HN, HN2⟩
          case measure => simp [intOf]; omega
        · have hji2 : j = i := by omega
          subst hji2
          have g1 : decide ((j : Int) < (j : Int)) = false := by simp
          have HN : wr.ownsRow w1.heap.size TSP 2 u4 (spL rs (j + 1)).length (cel sE (spL rs (j + 1))) := by rw [spL_succ]; exact HO.out
          have HN2 := HBW.out
          clear HO HBW hji
          go_wp2
          go_roundw
          case rel => exact ⟨j + 1, by go_num, by omega, HN, HN2⟩
          case measure => simp [intOf]; omega
    · have hin2 : i = n := by omega
      subst hin2
      have g1 : decide ((i : Int) < (i : Int)) = false := by simp
      have hl0 : 0 < (spL rs i).length := by
        obtain ⟨k, rfl⟩ : ∃ k, i = k + 1 := ⟨i - 1, by omega⟩
        rw [spL_succ, List.length_append, spR_len]; omega
      have hl1 : (spL rs i).length ≤ 1000000 := by
        have h1 := spL_len rs i
        have h2 : i * i ≤ 64 * 64 := Nat.mul_le_mul (by omega) (by omega)
        omega
      have HMID := Lib.hid (rmidS_any w1.heap.size u4 (spL rs i) W2 HO.out hl0 (fun x hx => by obtain ⟨a, b, h1, h2, rfl⟩ := spL_mem hx; exact spF_ok HV.out h1 (by have := HL.out; omega)) HBW.out.size hl1)
      have HMV : Hid (med ((spL rs i).map sV) = medS rs) := by unfold medS; rw [spL_val HV.out (by have := HL.out; omega), HL.out]; exact (rfl : _ = _)
      have HB2 := Lib.hid HBW.out
      clear HO HBW hin hl0 hl1
      go_wp2_with fail
      refine HMID.out.mono ?_
      rintro e w3 ⟨v3, rfl, hx3, hb3⟩
      rw [HMV.out] at hx3
      have HX3 := Lib.hid hx3
      obtain ⟨d3, A3, n3, c3, d3', A3', n3', c3', rfl⟩ := hx3.form
      have HB3 := Lib.hid (HB2.out.trans hb3)
      clear HMID hx3 hb3 HMV HB2
      go_upto_region 14 with fail
      refine wp_world (fun W => Blk W w3.heap.size TR #[.bool d3, .slice A3 n3 c3, .bool d3', .slice A3' n3' c3'] ∧ Below w3.heap.size w3 W) (by exact ⟨Blk.new_ _ _ rfl, by go_grown⟩) ?_
      rintro W4 ⟨b7, hb4⟩
      have B7 := Lib.hid b7
      have HS := Lib.hid (HX3.out.below hb4)
      have HB4 := Lib.hid (bt HB3.out hb4)
      have HR4 := Lib.hid (HR1.out.below HB4.out)
      have B0 := Lib.hid (B0.out.below HB4.out)
      have HW4 := Lib.hid (bt HW1.out HB4.out)
      obtain ⟨sq, hsq⟩ : ∃ x, medS rs = x := ⟨_, rfl⟩
      rw [hsq] at HS
      have HSQ := Lib.hid hsq
      obtain ⟨t7, ht7⟩ : ∃ x, w3.heap.size = x := ⟨_, rfl⟩
      rw [ht7] at B7 ⊢
      clear b7 hb4 HX3 HB3 hsq HB4 HR1 HW1 ht7 hbase
      go_wp2_with fail
      go_loopw [8, 42] (fun vo kv wr => ∃ (k : Nat) (e : List RE), kv = .int .i64 (k : Int) ∧ k ≤ i ∧ e.length = k ∧ e.map Prod.snd = shL rs sq k ∧ QW wr 12 e ∧ wr.ownsRow W4.heap.size TR 4 vo k (cel rE e) ∧ Below W4.heap.size W4 wr) (fun _ kv _ => i - (intOf kv).toNat)
      case atStart => exact ⟨0, [], rfl, by omega, rfl, rfl, (fun x hx => by cases hx), ⟨rfl, Or.inl ⟨rfl, rfl⟩⟩, Below.refl _ _⟩
      case round =>
        obtain ⟨k, e, rfl, hk, hel, hev, hqw, hown, hbw⟩ := hrel
        have HEL := Lib.hid hel
        have HEV := Lib.hid hev
        have HQW := Lib.hid hqw
        have HO := Lib.hid hown
        have HBW := Lib.hid hbw
        clear hel hev hqw hown hbw
        by_cases hki : k < i
        · have g1 : decide ((k : Int) < (i : Int)) = true := by simp; omega
          obtain ⟨b, o, rfl, hcell⟩ := (HR4.out.below HBW.out).at_ (by omega)
          have tk := HV.out.tm_bd (i := k) (by have := HL.out; omega)
          have HSH := Lib.hid (shL_succ rs sq k)
          obtain ⟨ck1, ck2⟩ := hcell k hki
          unfold yq tq at HSH
          obtain ⟨x1, hx1⟩ : ∃ x, tm rs k = x := ⟨_, rfl⟩
          obtain ⟨x2, hx2⟩ : ∃ x, ofs rs k = x := ⟨_, rfl⟩
          have ck1' : wr.cell? ⟨b, o + k * 2, none⟩ = some (.int .i64 x1) := by rw [← hx1]; exact ck1
          have ck2' : wr.cell? ⟨b, o + k * 2 + 1, none⟩ = some (.int .i64 x2) := by rw [← hx2]; exact ck2
          rw [hx1, hx2] at tk HSH
          have pk_ : (k : Int) < (i : Int) := by omega
          clear hcell ck1 ck2 hx1 hx2
          go_upto_region 18 with fail
          refine wp_world (fun W => Blk W wr.heap.size TRD #[.int .i64 x1, .int .i64 x2] ∧ Below wr.heap.size wr W) (by exact ⟨Blk.new_ _ _ rfl, by go_grown⟩) ?_
          rintro W5 ⟨b10, hb5⟩
          have HB5 := Lib.hid (show Below W4.heap.size W4 W5 from bt HBW.out hb5)
          have HO5 := Lib.hid (own_below HO.out hb5)
          have HQ5 := Lib.hid (HQW.out.below hb5)
          have k10 := fun w' (hh : Ext W5 w') => (b10.below hh).cells
          have k7 := fun w' (hh : Ext W5 w') => ((B7.out.below HB5.out).below hh).cells
          have hst : Ext W5 W5.drew := Ext.drew _
          simp only [cellsAre, Nat.zero_add, Nat.reduceAdd, and_true] at k10 k7
          clear ck1' ck2' g1 HO HQW b10 hb5
          refine wp_region_adv 11 [] [(0, true, some 46, none), (1, true, some 47, none), (2, true, some 48, none), (4, true, some 50, none), (5, true, some 51, none), (6, true, some 52, none), (3, false, some 49, none), (7, false, some 53, none), (8, false, some 54, none), (9, false, some 55, none), (10, false, some 56, none)] (by kernel_rfl) (by kernel_rfl) (by kernel_rfl) (by intro it hit; (repeat (rcases List.mem_cons.1 hit with rfl | hit; (focus (intro o ho ev w; injection ho with ho; subst ho; kernel_rfl)))); cases hit) (fun _ _ _ _ _ => ⟨fun h => h, fun h => h⟩) hst ?_
          repeat (first | (refine wpSeq_pure (v := ?_) rfl ?_ ?_; rotate_left 1; (focus (intro wq_ hSq_; (try dsimp only at hSq_); go_simp; (try with_reducible rfl); done)); (try simp only [Act.put, List.setIfInBounds_toArray, List.set_cons_zero, List.set_cons_succ])) | (refine wpSeq_pureG (v := ?_) rfl rfl ?_ ?_; rotate_left 1; (focus (intro wq_ hSq_; (try dsimp only at hSq_); go_simp; (try with_reducible rfl); done)); (try simp only [Act.put, List.setIfInBounds_toArray, List.set_cons_zero, List.set_cons_succ])) | (refine wpSeq_off rfl rfl ?_; (try simp only [Act.put, List.setIfInBounds_toArray, List.set_cons_zero, List.set_cons_succ])))
          first | refine wpSeq_call rfl (fun u1 g1 s1 K hK => ?_) | refine wpSeq_callG rfl rfl (fun u1 g1 s1 K hK => ?_)
          go_simp
          refine (vwhole_any x2 u1 (by omega) (by omega)).mono ?_
          rintro e1 y1 ⟨z1, rfl, X1, b1⟩
          obtain ⟨d4, A4, n4, c4, d4', A4', n4', c4', rfl⟩ := X1.form
          (try go_wp2_with fail)
          refine hK.out _ _ b1 ?_
          clear hK K
          (try simp only [Act.put, List.setIfInBounds_toArray, List.set_cons_zero, List.set_cons_succ])
          repeat (first | (refine wpSeq_pure (v := ?_) rfl ?_ ?_; rotate_left 1; (focus (intro wq_ hSq_; (try dsimp only at hSq_); go_simp; (try with_reducible rfl); done)); (try simp only [Act.put, List.setIfInBounds_toArray, List.set_cons_zero, List.set_cons_succ])) | (refine wpSeq_pureG (v := ?_) rfl rfl ?_ ?_; rotate_left 1; (focus (intro wq_ hSq_; (try dsimp only at hSq_); go_simp; (try with_reducible rfl); done)); (try simp only [Act.put, List.setIfInBounds_toArray, List.set_cons_zero, List.set_cons_succ])) | (refine wpSeq_off rfl rfl ?_; (try simp only [Act.put, List.setIfInBounds_toArray, List.set_cons_zero, List.set_cons_succ])))
          first | refine wpSeq_call rfl (fun u2 g2 s2 K hK => ?_) | refine wpSeq_callG rfl rfl (fun u2 g2 s2 K hK => ?_)
          go_simp
          refine (vwhole_any x1 u2 (by omega) (by omega)).mono ?_
          rintro e2 y2 ⟨z2, rfl, X2, b2⟩
          obtain ⟨d5, A5, n5, c5, d5', A5', n5', c5', rfl⟩ := X2.form
          (try go_wp2_with fail)
          refine hK.out _ _ b2 ?_
          clear hK K
          (try simp only [Act.put, List.setIfInBounds_toArray, List.set_cons_zero, List.set_cons_succ])
          repeat (first | (refine wpSeq_pure (v := ?_) rfl ?_ ?_; rotate_left 1; (focus (intro wq_ hSq_; (try dsimp only at hSq_); go_simp; (try with_reducible rfl); done)); (try simp only [Act.put, List.setIfInBounds_toArray, List.set_cons_zero, List.set_cons_succ])) | (refine wpSeq_pureG (v := ?_) rfl rfl ?_ ?_; rotate_left 1; (focus (intro wq_ hSq_; (try dsimp only at hSq_); go_simp; (try with_reducible rfl); done)); (try simp only [Act.put, List.setIfInBounds_toArray, List.set_cons_zero, List.set_cons_succ])) | (refine wpSeq_off rfl rfl ?_; (try simp only [Act.put, List.setIfInBounds_toArray, List.set_cons_zero, List.set_cons_succ])))
          first | refine wpSeq_call rfl (fun u3 g3 s3 K hK => ?_) | refine wpSeq_callG rfl rfl (fun u3 g3 s3 K hK => ?_)
          go_simp
          refine (vmul_any (HS.out.below (bt HB5.out s3)) (X2.below g3) (by omega)).mono ?_
          rintro e3 y3 ⟨z3, rfl, X3, b3⟩
          obtain ⟨d6, A6, n6, c6, d6', A6', n6', c6', rfl⟩ := X3.form
          (try go_wp2_with fail)
          refine hK.out _ _ b3 ?_
          clear hK K
          (try simp only [Act.put, List.setIfInBounds_toArray, List.set_cons_zero, List.set_cons_succ])
          repeat (first | (refine wpSeq_pure (v := ?_) rfl ?_ ?_; rotate_left 1; (focus (intro wq_ hSq_; (try dsimp only at hSq_); go_simp; (try with_reducible rfl); done)); (try simp only [Act.put, List.setIfInBounds_toArray, List.set_cons_zero, List.set_cons_succ])) | (refine wpSeq_pureG (v := ?_) rfl rfl ?_ ?_; rotate_left 1; (focus (intro wq_ hSq_; (try dsimp only at hSq_); go_simp; (try with_reducible rfl); done)); (try simp only [Act.put, List.setIfInBounds_toArray, List.set_cons_zero, List.set_cons_succ])) | (refine wpSeq_off rfl rfl ?_; (try simp only [Act.put, List.setIfInBounds_toArray, List.set_cons_zero, List.set_cons_succ])))
          first | refine wpSeq_call rfl (fun u4' g4 s4 K hK => ?_) | refine wpSeq_callG rfl rfl (fun u4' g4 s4 K hK => ?_)
          go_simp
          refine (vsub_any ((((((X1.below g2).below b2).below g3).below b3).below g4)) (X3.below g4) (by omega)).mono ?_
          rintro e4 y4 ⟨z4, rfl, X4, b4⟩
          obtain ⟨d7, A7, n7, c7, d7', A7', n7', c7', rfl⟩ := X4.form
          (try go_wp2_with fail)
          refine hK.out _ _ b4 ?_
          clear hK K
          (try simp only [Act.put, List.setIfInBounds_toArray, List.set_cons_zero, List.set_cons_succ])
          repeat (first | (refine wpSeq_pure (v := ?_) rfl ?_ ?_; rotate_left 1; (focus (intro wq_ hSq_; (try dsimp only at hSq_); go_simp; (try with_reducible rfl); done)); (try simp only [Act.put, List.setIfInBounds_toArray, List.set_cons_zero, List.set_cons_succ])) | (refine wpSeq_pureG (v := ?_) rfl rfl ?_ ?_; rotate_left 1; (focus (intro wq_ hSq_; (try dsimp only at hSq_); go_simp; (try with_reducible rfl); done)); (try simp only [Act.put, List.setIfInBounds_toArray, List.set_cons_zero, List.set_cons_succ])) | (refine wpSeq_off rfl rfl ?_; (try simp only [Act.put, List.setIfInBounds_toArray, List.set_cons_zero, List.set_cons_succ])))
          first | refine wpSeq_call rfl (fun u5' g5 s5 K hK => ?_) | refine wpSeq_callG rfl rfl (fun u5' g5 s5 K hK => ?_)
          go_simp
          (try go_wp2_with fail)
          refine hK.out _ _ (Ext.allocR _ _) ?_
          clear hK K
          (try simp only [Act.put, List.setIfInBounds_toArray, List.set_cons_zero, List.set_cons_succ])
          repeat (first | (refine wpSeq_pure (v := ?_) rfl ?_ ?_; rotate_left 1; (focus (intro wq_ hSq_; (try dsimp only at hSq_); go_simp; (try with_reducible rfl); done)); (try simp only [Act.put, List.setIfInBounds_toArray, List.set_cons_zero, List.set_cons_succ])) | (refine wpSeq_pureG (v := ?_) rfl rfl ?_ ?_; rotate_left 1; (focus (intro wq_ hSq_; (try dsimp only at hSq_); go_simp; (try with_reducible rfl); done)); (try simp only [Act.put, List.setIfInBounds_toArray, List.set_cons_zero, List.set_cons_succ])) | (refine wpSeq_off rfl rfl ?_; (try simp only [Act.put, List.setIfInBounds_toArray, List.set_cons_zero, List.set_cons_succ])))
          intro wz gz sz_
          (try simp only [endJ, List.drop_succ_cons, List.drop_zero])
          have HZ := Lib.hid (show Ext W5 wz from sz_)
          have hb5' : Ext y4 wz := bt g5 (bt (Ext.allocR _ _) gz)
          have HX4 := Lib.hid ((X4.below hb5').le (show 2 + (7 + 2) + 1 ≤ 12 by omega))
          have HBN := Lib.hid (show Blk wz u5'.heap.size TR #[.bool d7, .slice A7 n7 c7, .bool d7', .slice A7' n7' c7'] from (Blk.new_ TR #[.bool d7, .slice A7 n7 c7, .bool d7', .slice A7' n7' c7'] rfl).below gz)
          have hz : W4.heap.size ≤ wz.heap.size := (bt HB5.out HZ.out).size
          have HO6 := Lib.hid (own_below HO5.out HZ.out)
          have HQ6 := Lib.hid ((HQ5.out.below HZ.out).snoc HX4.out)
          clear hst k10 k7 b1 g1 g2 s1 s2 gz sz_ g3 g4 g5 s3 s4 s5 b2 b3 b4 X1 X2 X3 X4 HO5 HQ5 hb5' HX4
          go_wp2_with (at_builtin; refine wp_appE TRS4 TR _ 4 64 rr_info Tryz.underlying76 rfl (by omega) (by omega) rfl _ _ rfl W4.heap.size _ k _ rfl HO6.out ⟨u5'.heap.size, 0, none⟩ 1 1 [.bool d7, .slice A7 n7 c7, .bool d7', .slice A7' n7' c7'] rfl rfl (blk_cells HBN.out) (rE_four _ _ _ _ 0 rfl rfl rfl rfl) (by omega) (by omega) hz ?_; intro v8 w8 hown8 hb8 hgb8)
          have HN1 := HQ6.out.grown hgb8 (own_tag HO6.out (by decide))
          have HN2 : w8.ownsRow W4.heap.size TR 4 v8 (k + 1) (cel rE (e ++ [([.bool d7, .slice A7 n7 c7, .bool d7', .slice A7' n7' c7'], (x2 : Rat) - sq * (x1 : Rat))])) := by
            rw [cel_app, cel_one]
            exact hown8
          have HN3 := (bt HB5.out HZ.out).trans hb8
          clear hown8 hb8 hgb8 HO6 HQ6 HZ HBN HB5
          go_roundw
          case rel => exact ⟨k + 1, _, by go_num, by omega, by rw [List.length_append, HEL.out]; rfl, by rw [List.map_append, HEV.out, HSH.out]; rfl, HN1, HN2, HN3⟩
          case measure => simp [intOf]; omega
        · have hki2 : k = i := by omega
          subst hki2
          have g1 : decide ((k : Int) < (k : Int)) = false := by simp
          obtain ⟨g, o, cap, cs, rfl, rfl, hg, hgb, hcap, hcap2⟩ := own_at HO.out (by omega)
          have HMH : Hid (med (e.map Prod.snd) = medH rs) := by unfold medH; rw [HSQ.out, HEV.out, HL.out]; exact (rfl : _ = _)
          have B7' := Lib.hid (B7.out.below HBW.out)
          have B0' := Lib.hid (B0.out.below HBW.out)
          have HGB := Lib.hid hgb
          have HS' := Lib.hid (HS.out.below HBW.out)
          have hlt0 := B0.out.lt
          have hlt7 := B7.out.lt
          have hw0 := HW4.out.size
          have HBE := Lib.hid (bt HW4.out HBW.out)
          have HMR := Lib.hid (fun (v : Value) (W : World) (h : LineQ (medS rs) (medH rs) v) => (show MedR rs v W from ⟨fun hn => absurd HV.out hn, fun _ => h⟩))
          rw [HSQ.out] at HMR
          clear hki B7 B0 HS hgb
          have HO2 : Hid (wr.ownsRow W4.heap.size TR 4 (.slice (some ⟨g, 0, none⟩) k cap) e.length (cel rE e)) := by rw [HEL.out]; exact HO.out
          have h0g : w.heap.size ≠ g := by omega
          have h7g : t7 ≠ g := by omega
          have h70 : t7 ≠ w.heap.size := fun h => by
            have a1 := B7'.out
            have a2 := B0'.out
            rw [h] at a1
            unfold Blk at a1 a2
            rw [a1] at a2
            injection a2 with a2
            injection a2 with _ a2
            exact absurd a2 (by decide)
          have hmg : MG w.heap.size g cs.size wr wr := MG.start B0'.out rfl HGB.out rfl
          have hst : MG w.heap.size g cs.size wr wr.drew := hmg.drew
          have c7 := fun w' (hh : MG w.heap.size g cs.size wr w') => (hh.blk B7'.out h70 h7g).cells
          have hrul := MG.rules w.heap.size g cs.size wr
          have r1 := hrul.1
          have r2 := hrul.2
          simp only [cellsAre, Nat.zero_add, Nat.reduceAdd, and_true] at c7
          obtain ⟨l1, l2, l3, l4, ee, hline⟩ := LineQ.exM sq (medH rs)
          have HLINE := Lib.hid hline
          have hlen1 : 0 < e.length := by rw [HEL.out]; omega
          have hlen2 : e.length ≤ 1000000 := by rw [HEL.out]; omega
          have HLE := Lib.hid (And.intro hlen1 hlen2)
          have HH0 := Lib.hid h0g
          have HGE := Lib.hid (show w.heap.size ≤ g by omega)
          have HW4S : Hid (W4.heap.size ≤ wr.drew.heap.size) := HBW.out.size
          clear hrul hmg hline h0g h7g h70 hlen1 hlen2 HO HEV HEL hlt0 hlt7 hw0 HR4 HL hg hcap hcap2
          go_upto_region 20 with fail
          go_region_held3 (fun w' => MG w.heap.size g cs.size wr w') (first | assumption | exact MG.trans_ (by assumption) (by assumption) | exact MG.set0 (MG.set0 (MG.set0 (MG.set0 (by assumption) _ _) _ _) _ _) _ _)
            (first | (go_at_call 28; have tk := hmid; refine (vline_any (hmid.wx HS'.out) hx1 (by omega)).mono ?_; rintro ex w2 ⟨v2, rfl, hl2, hb2⟩; have hh2 : MG w.heap.size g cs.size wr w2 := hmid.trans_ hb2; have hv2 := HLINE.out _ hl2; subst hv2) | (go_at_call 38; refine (rmidR_any W4.heap.size _ e 12 _ (own_below HO2.out (Ext.drew wr)) HLE.out.1 (HQW.out.below (Ext.drew wr)) (by omega) HW4S.out HLE.out.2).mono ?_; rintro ex w1' ⟨v1', rfl, hx1, hgK⟩; have hmid : MG w.heap.size g cs.size wr w1' := hst.mid (hgK g 0 k cap cs rfl HGB.out) HH0.out; rw [HMH.out] at hx1))
          go_wp2
          (try simp only [Exit.inBlock, Exit.then])
          refine bodyPost_ret (v := .tuple #[.agg #[.int .i64 l1, .int .i64 l2, .int .i64 l3, .int .i64 l4], .int .i64 ee]) (by simp [results, Tryz.results8, go_sem, r1 _ hh2]) rfl ?_
          have hF := MG.set0 (MG.set0 (MG.set0 (MG.set0 hh2 0 (.int .i64 l1)) 1 (.int .i64 l2)) 2 (.int .i64 l3)) 3 (.int .i64 l4)
          exact ⟨_, rfl, HMR.out _ _ hl2, hF.below HBE.out (Nat.le_refl _) HGE.out⟩
end Go.Proofs.Tb
