/- Contracts of the reference for cases: shows, weight, All, Parts, splits. -/
import Derived.Test.YtcjddfhhofoidaaDoorPc
set_option linter.unusedVariables false
set_option linter.unusedSimpArgs false
namespace Go.Proofs.Tb
open Go.RowKit
attribute [local go_sem] cell_set_same

theorem own_below {base : Nat} {w w' : World} {e : TypeId} {k n : Nat} {v : Value} {xs : List Value} (h : w.ownsRow base e k v n xs) (hb : Below w.heap.size w w') : w'.ownsRow base e k v n xs := by
  refine ⟨h.1, ?_⟩
  rcases h.2 with h | ⟨g, cap, cur, hv, h1, h2, h3⟩
  · exact Or.inl h
  · exact Or.inr ⟨g, cap, cur, hv, h1, (hb.block g (block_lt h2)).trans h2, h3⟩
theorem blk_cells {w : World} {g : Nat} {T : TypeId} {cs : List Value} (h : Blk w g T cs.toArray) : ∀ j u, cs[j]? = some u → w.cell? ((⟨g, 0, none⟩ : Addr).add j) = some u := by
  intro j u hj
  have e : (⟨g, 0, none⟩ : Addr).add j = ⟨g, j, none⟩ := by simp [Addr.add]; exact fun h => h.symm
  rw [e, cell_of_row _ _ j cs.toArray T (0, 0) h]
  simpa using hj
/-- append of one element to a row that the call owns: where the row lies behind it. -/
theorem wp_appE2 {P : Program} {ops : Array Oper} {rest : List Oper} {o : Oper} {a : Act} {Q : Exit → Act → World → Prop} {wr : World} (TS TE : TypeId) (z : Value) (k bytes : Nat)
    (hinf : (P.info? TE).map (fun i => (i.zero, i.size, i.bytes)) = some (some z, k, bytes)) (hund : P.underlying TS = some (.slice TE)) (hzs : z.cells.size = k) (h0 : 0 < k) (hby : bytes ≤ 1000)
    (hgd : o.guard = none) (s x : Operand) (ho : o.op = .call { callee := .builtin .append, args := #[s, x], argTypes := #[TS, TS] }) (base : Nat) (v : Value) (n : Nat) (xs : List Value) (hs : a.eval s = v) (hown : wr.ownsRow base TE k v n xs)
    (ad : Addr) (m c : Nat) (news : List Value) (hx : a.eval x = .slice (some ad) m c) (hl : news.length = m * k) (hc : ∀ j u, news[j]? = some u → wr.cell? (ad.add j) = some u) (h1 : ∀ u, u ∈ news → u.oneCell' = true)
    (hn : n ≤ 1000000000) (hm : m ≤ 1000000000) (hbase : base ≤ wr.heap.size)
    (h : ∀ v' w', w'.ownsRow base TE k v' (n + m) (xs ++ news) → Below base wr w' → wr.grownBy w' v.ownBlock → (v'.ownBlock = v.ownBlock ∨ v'.ownBlock = some wr.heap.size) → wpList P ops Q rest (a.put o.dst v') w') : wpList P ops Q (o :: rest) a wr := by
  obtain ⟨i0, hi, hz0, hz1, hz2⟩ := info_parts hinf
  refine wpList_append_own_at _ hgd s x TS ho base TE i0 z k bytes hund hi hz0 hz1 hz2 hzs h0 v n xs hs hown ad m c news hx hl hc h1 (by unfold maxLen; omega) ?_ hbase ?_
  · have : (n + m) * bytes ≤ 2000000000 * 1000 := Nat.mul_le_mul (by omega) hby
    omega
  · intro v' w' h2 h3 _ h5
    exact h v' w' h2 ((Below.refl _ _).grown h3 hbase (own_geE hown)) h3 h5

abbrev TIN : TypeId := 3
theorem int_info : (Tryd.prog.info? TIN).map (fun i => (i.zero, i.size, i.bytes)) = some (some (.int .i64 0), 1, 8) := by kernel_rfl
/-- The cells of integers. -/
def ic (xs : List Int) : List Value := xs.map (.int .i64)
/-- v owns the integers xs, in a block from base on. -/
def OwI (base : Nat) (w : World) (v : Value) (xs : List Int) : Prop := w.ownsRow base TIN 1 v xs.length (ic xs)
theorem OwI.empty (w : World) : OwI w.heap.size (w.alloc (.cells #[] TIN)) (.slice (some ⟨w.heap.size, 0, none⟩) 0 0) [] := World.ownsRow_lit w #[] 0 (Nat.le_refl _) (by unfold maxLen; omega) rfl
theorem OwI.nil (base : Nat) (w : World) : OwI base w (.slice none 0 0) [] := ⟨rfl, Or.inl ⟨rfl, rfl⟩⟩
theorem OwI.below {base : Nat} {w w' : World} {v : Value} {xs : List Int} (h : OwI base w v xs) (hb : Below w.heap.size w w') : OwI base w' v xs := own_below h hb
theorem OwI.il {base : Nat} {w : World} {v : Value} {xs : List Int} (h : OwI base w v xs) : ∃ A c, v = .slice A xs.length c ∧ Il w A xs.length c xs := by
  obtain ⟨hlen, h2⟩ := h
  rcases h2 with ⟨rfl, hn⟩ | ⟨g, cap, cur, rfl, hb, hh, hn, hm, hs, ht⟩
  · rw [hn]
    exact ⟨none, 0, rfl, ⟨hn, Nat.le_refl _, by omega, fun h => absurd h (by omega)⟩⟩
  · refine ⟨_, _, rfl, ⟨rfl, hn, by simpa [maxLen] using hm, fun h0 => ⟨g, 0, rfl, fun j hj => ?_⟩⟩⟩
    rw [Nat.zero_add, cell_of_row w g j cur TIN (0, 0) hh]
    have h1 : cur.toList[j]? = (ic xs)[j]? := by rw [← ht, List.getElem?_take, if_pos (by omega)]
    have h2 : (ic xs)[j]? = some (.int .i64 (xs.getD j 0)) := by simp [ic, List.getD, hj]
    rw [← h2, ← h1]
    simp
theorem OwI.snoc {base : Nat} {w : World} {v : Value} {xs : List Int} {x : Int} (h : w.ownsRow base TIN 1 v (xs.length + 1) (ic xs ++ [.int .i64 x])) : OwI base w v (xs ++ [x]) := by
  unfold OwI ic at *
  rw [List.length_append, List.map_append]
  exact h
theorem int_one (x : Int) : ∀ u, u ∈ [Value.int .i64 x] → u.oneCell' = true := fun u hu => by
  rw [List.mem_singleton] at hu; subst hu; rfl
/-- Does a test show a fault? -/
def shB (xs : List Int) (f : Int) : Bool := decide (f ∈ xs)
theorem shB_t {xs : List Int} {f : Int} {k : Nat} (hk : k < xs.length) (h : xs.getD k 0 = f) : shB xs f = true := by
  unfold shB
  simp only [decide_eq_true_eq]
  have e : xs.getD k 0 = xs[k] := by simp [List.getD, hk]
  rw [← h, e]
  exact List.getElem_mem hk
theorem shB_f {xs : List Int} {f : Int} (h : ∀ k, k < xs.length → xs.getD k 0 ≠ f) : shB xs f = false := by
  unfold shB
  simp only [decide_eq_false_iff_not]
  intro hm
  obtain ⟨k, hk, he⟩ := List.mem_iff_getElem.1 hm
  exact h k hk (by simp [List.getD, hk, he])
set_option maxHeartbeats 1600000 in
theorem zshows_any (A : Option Addr) (n c : Nat) (xs : List Int) (cost f : Int) (w : World) (h : Il w A n c xs) :
    Calls Tryd.prog 55 #[.agg #[.int .i64 cost, .slice A n c], .int .i64 f] w (Ret (fun v _ => v = .bool (shB xs f)) w) := by
  have hn := h.le
  have hc := h.cap
  have HL := Lib.hid h.len
  have H := Lib.hid h
  clear h
  go_enter Tryd.func55, Tryd.ntmps55
  go_upto_region 1 with fail
  refine wp_world (fun W0 => Blk W0 w.heap.size TTE #[.int .i64 cost, .slice A n c] ∧ Below w.heap.size w W0) (by exact ⟨Blk.new_ _ _ rfl, by go_grown⟩) ?_
  rintro W0 ⟨b0, hb0⟩
  have B0 := Lib.hid b0
  have HB0 := Lib.hid hb0
  clear b0 hb0
  go_wp2_with fail
  go_loopw [5] (fun i wr => ∃ k : Nat, k ≤ n ∧ i = .int .i64 (k : Int) ∧ (∀ j, j < k → xs.getD j 0 ≠ f) ∧ Below W0.heap.size W0 wr) (fun i _ => n - (intOf i).toNat)
  case atStart => exact ⟨0, by omega, rfl, fun j hj => absurd hj (by omega), Below.refl _ _⟩
  case round =>
    obtain ⟨k, hk, rfl, hr, hbw⟩ := hrel
    have HBW := Lib.hid hbw
    have HR := Lib.hid hr
    have HBE := Lib.hid (bt HB0.out hbw)
    have kb := (B0.out.below hbw).cells
    simp only [cellsAre, Nat.zero_add, Nat.reduceAdd, and_true] at kb
    clear hbw hr
    by_cases hkn : k < n
    · have g1 : decide ((k : Int) < (n : Int)) = true := by simp; omega
      have g1' : decide (k < n) = true := by simp; omega
      obtain ⟨b, o, rfl, hcell⟩ := (H.out.below HBE.out).at_ (by omega)
      have ck := hcell k hkn
      obtain ⟨x, hx⟩ : ∃ x, xs.getD k 0 = x := ⟨_, rfl⟩
      rw [hx] at ck
      by_cases hxf : x = f
      · have HT := Lib.hid (shB_t (xs := xs) (f := f) (by rw [HL.out]; exact hkn) (hx.trans hxf))
        subst hxf
        have g2 : (x == x) = true := by simp
        clear hcell hx
        go_wp2
        go_returns
        exact ⟨_, rfl, by rw [HT.out]; rfl, HBE.out⟩
      · have g2 : (x == f) = false := by simpa using hxf
        have hN : ∀ j, j < k + 1 → xs.getD j 0 ≠ f := fun j hj => by
          rcases Nat.lt_or_eq_of_le (Nat.le_of_lt_succ hj) with h | rfl
          · exact HR.out j h
          · rw [hx]; exact hxf
        have HN := Lib.hid hN
        clear hcell hx hN hxf HR
        go_wp2
        go_roundw
        case rel => exact ⟨k + 1, by omega, by go_num, HN.out, HBW.out⟩
        case measure => simp [intOf]; omega
    · have hkn2 : k = n := by omega
      subst hkn2
      have g1 : decide ((k : Int) < (k : Int)) = false := by simp
      have HF := Lib.hid (shB_f (xs := xs) (f := f) (fun j hj => HR.out j (by rw [← HL.out]; exact hj)))
      clear HR
      go_wp2
      go_returns
      exact ⟨_, rfl, by rw [HF.out]; rfl, HBE.out⟩
/-- 0, 1, .., n - 1. -/
def upL (n : Nat) : List Int := (List.range n).map fun (i : Nat) => (i : Int)
theorem upL_succ (n : Nat) : upL (n + 1) = upL n ++ [(n : Int)] := by unfold upL; rw [List.range_succ, List.map_append]; rfl
theorem upL_len (n : Nat) : (upL n).length = n := by simp [upL]
set_option maxHeartbeats 1600000 in
theorem zall_any (A : Option Addr) (n c : Nat) (ws : List Int) (w : World) (h : Il w A n c ws) (hs : n ≤ 1000000) :
    Calls Tryd.prog 22 #[.slice A n c] w (Ret (fun v w' => OwI w.heap.size w' v (upL n)) w) := by
  have hn := h.le
  have hc := h.cap
  clear h
  go_enter Tryd.func22, Tryd.ntmps22
  go_wp2_with fail
  have hb0 : Below w.heap.size w (w.alloc (.cells #[] TIN)) := by go_grown
  have hw0 := OwI.empty w
  go_loopw [3, 4] (fun v i wr => ∃ k : Nat, k ≤ n ∧ i = .int .i64 (k : Int) ∧ OwI w.heap.size wr v (upL k) ∧ Below w.heap.size w wr) (fun _ i _ => n - (intOf i).toNat)
  case atStart => exact ⟨0, by omega, rfl, hw0, hb0⟩
  case round =>
    clear hw0 hb0
    obtain ⟨k, hk, rfl, hown, hbw⟩ := hrel
    have HO := Lib.hid hown
    have HBW := Lib.hid hbw
    clear hown hbw
    have hll := upL_len k
    by_cases hkn : k < n
    · have g1 : decide ((k : Int) < (n : Int)) = true := by simp; omega
      have hz : w.heap.size ≤ wr.heap.size := HBW.out.size
      go_wp2_with (at_builtin; refine wp_appE TIS TIN _ 1 8 int_info Tryd.underlying37 rfl (by omega) (by omega) rfl _ _ rfl w.heap.size _ _ _ rfl (HO.out.alloc _) ⟨wr.heap.size, 0, none⟩ 1 1 [.int .i64 (k : Int)] rfl rfl (cell_new wr [.int .i64 (k : Int)] TIN) (int_one _) (by omega) (by omega) (by simp; omega) ?_; intro v3 w3 hown3 hb3 _)
      have HN : OwI w.heap.size w3 v3 (upL (k + 1)) := by rw [upL_succ]; exact OwI.snoc hown3
      have HN2 := HBW.out.trans (((Below.refl w.heap.size wr).alloc hz _).trans hb3)
      clear hown3 hb3 HO HBW hll
      go_roundw
      case rel => exact ⟨k + 1, by omega, by go_num, HN, HN2⟩
      case measure => simp [intOf]; omega
    · have hkn2 : k = n := by omega
      subst hkn2
      have g1 : decide ((k : Int) < (k : Int)) = false := by simp
      go_wp2
      go_returns
      exact ⟨_, rfl, HO.out, HBW.out⟩
/-- The weight of the first k of a set. -/
def wsm (ws xs : List Int) : Nat → Int
  | 0 => 0
  | k + 1 => wsm ws xs k + ws.getD (xs.getD k 0).toNat 0
theorem wsm_bd {ws xs : List Int} (hw : ∀ j, j < ws.length → 0 ≤ ws.getD j 0 ∧ ws.getD j 0 ≤ 1000) : ∀ k, 0 ≤ wsm ws xs k ∧ wsm ws xs k ≤ 1000 * k := by
  intro k
  induction k with
  | zero => simp [wsm]
  | succ k ih =>
    have h : 0 ≤ ws.getD (xs.getD k 0).toNat 0 ∧ ws.getD (xs.getD k 0).toNat 0 ≤ 1000 := by
      generalize (xs.getD k 0).toNat = q
      by_cases h : q < ws.length
      · exact hw _ h
      · have e : ws.getD q 0 = 0 := by simp [List.getD, Nat.le_of_not_lt h]
        rw [e]; omega
    unfold wsm
    omega
set_option maxHeartbeats 1600000 in
theorem zweight_any (A A' : Option Addr) (n c m d : Nat) (ws xs : List Int) (w : World) (h : Il w A n c ws) (h' : Il w A' m d xs) (hw : ∀ j, j < n → 0 ≤ ws.getD j 0 ∧ ws.getD j 0 ≤ 1000) (hx : ∀ j, j < m → 0 ≤ xs.getD j 0 ∧ xs.getD j 0 < (n : Int)) (hm : m ≤ 1000) :
    Calls Tryd.prog 50 #[.slice A n c, .slice A' m d] w (Ret (fun v _ => v = .int .i64 (wsm ws xs m)) w) := by
  have hn := h.le
  have hc := h.cap
  have hmd := h'.le
  have hd := h'.cap
  have HL := Lib.hid h.len
  have H := Lib.hid h
  have H' := Lib.hid h'
  have HW := Lib.hid hw
  have HX := Lib.hid hx
  clear h h' hw hx
  go_enter Tryd.func50, Tryd.ntmps50
  go_wp2_with fail
  go_loopw [5, 6] (fun s i wr => ∃ k : Nat, k ≤ m ∧ i = .int .i64 (k : Int) ∧ s = .int .i64 (wsm ws xs k) ∧ Below w.heap.size w wr) (fun _ i _ => m - (intOf i).toNat)
  case atStart => exact ⟨0, by omega, rfl, rfl, Below.refl _ _⟩
  case round =>
    obtain ⟨k, hk, rfl, rfl, hbw⟩ := hrel
    have HBW := Lib.hid hbw
    clear hbw
    by_cases hkm : k < m
    · have g1 : decide ((k : Int) < (m : Int)) = true := by simp; omega
      obtain ⟨x1, x2⟩ := HX.out k hkm
      obtain ⟨y, hy⟩ : ∃ y : Nat, xs.getD k 0 = (y : Int) := ⟨(xs.getD k 0).toNat, by omega⟩
      obtain ⟨b, o, rfl, hcell⟩ := (H'.out.below HBW.out).at_ (by omega)
      obtain ⟨b', o', rfl, hcell'⟩ := (H.out.below HBW.out).at_ (by omega)
      have ck := hcell k hkm
      rw [hy] at ck x1 x2
      have ck' := hcell' y (by omega)
      have hb1 := wsm_bd (ws := ws) (xs := xs) (fun j hj => HW.out j (by rw [← HL.out]; exact hj)) k
      have hb2 := wsm_bd (ws := ws) (xs := xs) (fun j hj => HW.out j (by rw [← HL.out]; exact hj)) (k + 1)
      have hs : wsm ws xs (k + 1) = wsm ws xs k + ws.getD y 0 := by show wsm ws xs k + ws.getD (xs.getD k 0).toNat 0 = _; rw [hy]; rfl
      obtain ⟨u, hu⟩ : ∃ u, ws.getD y 0 = u := ⟨_, rfl⟩
      obtain ⟨S, hS⟩ : ∃ u, wsm ws xs k = u := ⟨_, rfl⟩
      rw [hu] at ck' hs
      rw [hS] at hs hb1 ⊢
      rw [hs] at hb2
      have HS := Lib.hid hs
      have wq : IntKind.i64.wrap (S + u) = S + u := IntWalk.i64_in _ (by omega)
      clear hcell hcell' hy hs hu hS
      go_wp2
      go_roundw
      case rel => exact ⟨k + 1, by omega, by go_num, by rw [HS.out], HBW.out⟩
      case measure => simp [intOf]; omega
    · have hkm2 : k = m := by omega
      subst hkm2
      have g1 : decide ((k : Int) < (k : Int)) = false := by simp
      go_wp2
      go_returns
      exact ⟨_, rfl, rfl, HBW.out⟩
/-- What Parts returns: two lists, in blocks of their own. -/
def PrtR (xs set : List Int) (v : Value) (w : World) : Prop := ∃ A n c A' n' c', v = .tuple #[.slice A n c, .slice A' n' c'] ∧ Il w A n c (set.filter fun f => shB xs f) ∧ Il w A' n' c' (set.filter fun f => !shB xs f) ∧
  SL TIN w (.slice A n c) (ic (set.filter fun f => shB xs f)) ∧ SL TIN w (.slice A' n' c') (ic (set.filter fun f => !shB xs f))
theorem filter_snoc (p : Int → Bool) (l : List Int) (k : Nat) (h : k < l.length) : (l.take (k + 1)).filter p = (l.take k).filter p ++ if p (l.getD k 0) then [l.getD k 0] else [] := by
  have e : l.getD k 0 = l[k] := by simp [List.getD, h]
  rw [List.take_succ_eq_append_getElem h, List.filter_append, e]
  congr 1
  cases hp : p l[k] <;> simp [List.filter, hp]
/-- Two rows that the call owns, apart from each other. -/
def Ow2 (base : Nat) (w : World) (v v' : Value) (xs ys : List Int) : Prop := OwI base w v xs ∧ OwI base w v' ys ∧ (∃ g g', v.ownBlock = some g ∧ v'.ownBlock = some g' ∧ g ≠ g' ∧ g < w.heap.size ∧ g' < w.heap.size)
theorem Ow2.swap {base : Nat} {w : World} {v v' : Value} {xs ys : List Int} (h : Ow2 base w v v' xs ys) : Ow2 base w v' v ys xs := by
  obtain ⟨h1, h2, g, g', e1, e2, h3, h4, h5⟩ := h
  exact ⟨h2, h1, g', g, e2, e1, h3.symm, h5, h4⟩
theorem Ow2.below {base : Nat} {w w' : World} {v v' : Value} {xs ys : List Int} (h : Ow2 base w v v' xs ys) (hb : Below w.heap.size w w') : Ow2 base w' v v' xs ys := by
  obtain ⟨h1, h2, g, g', e1, e2, h3, h4, h5⟩ := h
  exact ⟨h1.below hb, h2.below hb, g, g', e1, e2, h3, Nat.lt_of_lt_of_le h4 hb.size, Nat.lt_of_lt_of_le h5 hb.size⟩
/-- One more number in the first of them. -/
theorem Ow2.app {base : Nat} {w w' : World} {v v' u : Value} {xs ys : List Int} {x : Int} (h : Ow2 base w v v' xs ys) (ho : w'.ownsRow base TIN 1 u (xs.length + 1) (ic xs ++ [.int .i64 x])) (hg : w.grownBy w' v.ownBlock)
    (hu : u.ownBlock = v.ownBlock ∨ u.ownBlock = some w.heap.size) : Ow2 base w' u v' (xs ++ [x]) ys := by
  obtain ⟨h1, h2, g, g', e1, e2, h3, h4, h5⟩ := h
  have hlt : ∀ q, u.ownBlock = some q → q < w'.heap.size := fun q hq => by
    rcases ho.2 with ⟨_, hn⟩ | ⟨q', cap, cur, rfl, _, hh, _⟩
    · omega
    · simp [Value.ownBlock] at hq
      subst hq
      exact block_lt hh
  have h2' : OwI base w' v' ys := by
    refine ⟨h2.1, ?_⟩
    rcases h2.2 with h | ⟨q', cap, cur, rfl, hb, hh, h6⟩
    · exact Or.inl h
    · refine Or.inr ⟨q', cap, cur, rfl, hb, ?_, h6⟩
      simp [Value.ownBlock] at e2
      exact (hg.block q' (block_lt hh) (fun e => by rw [e1] at e; injection e with e; omega)).trans hh
  refine ⟨OwI.snoc ho, h2', ?_⟩
  rcases hu with hu | hu
  · exact ⟨g, g', by rw [hu, e1], e2, h3, Nat.lt_of_lt_of_le h4 hg.size, Nat.lt_of_lt_of_le h5 hg.size⟩
  · exact ⟨w.heap.size, g', hu, e2, by omega, hlt _ hu, Nat.lt_of_lt_of_le h5 hg.size⟩
set_option maxHeartbeats 3200000 in
set_option maxRecDepth 100000 in
theorem zparts_any (A A' : Option Addr) (n c m d : Nat) (xs set : List Int) (cost : Int) (w : World) (h : Il w A n c xs) (h' : Il w A' m d set) (hm : m ≤ 1000) :
    Calls Tryd.prog 29 #[.agg #[.int .i64 cost, .slice A n c], .slice A' m d] w (Ret (PrtR xs set) w) := by
  have hmd := h'.le
  have hd := h'.cap
  have HL := Lib.hid h'.len
  have H := Lib.hid h
  have H' := Lib.hid h'
  clear h h'
  go_enter Tryd.func29, Tryd.ntmps29
  go_upto_region 2 with fail
  obtain ⟨W0, hW0⟩ : ∃ W0, W0 = w.alloc (.cells #[.int .i64 cost, .slice A n c] TTE) := ⟨_, rfl⟩
  have b0 : Blk W0 w.heap.size TTE #[.int .i64 cost, .slice A n c] := by rw [hW0]; exact Blk.new_ _ _ rfl
  have hb0 : Below w.heap.size w W0 := by rw [hW0]; go_grown
  have hsz : w.heap.size + 1 = W0.heap.size := by rw [hW0]; simp
  have ho : Ow2 W0.heap.size ((W0.alloc (.cells #[] TIN)).alloc (.cells #[] TIN)) (.slice (some ⟨W0.heap.size, 0, none⟩) 0 0) (.slice (some ⟨W0.heap.size + 1, 0, none⟩) 0 0) [] [] := by
    refine ⟨(OwI.empty W0).below ((Below.refl _ _).alloc (Nat.le_refl _) _), ?_, W0.heap.size, W0.heap.size + 1, rfl, rfl, by omega, by simp; omega, by simp⟩
    exact ⟨rfl, Or.inr ⟨W0.heap.size + 1, 0, #[], rfl, by omega, by have := heap_alloc_new (W0.alloc (.cells #[] TIN)) (.cells #[] TIN); simpa using this, Nat.le_refl _, by unfold maxLen; omega, rfl, rfl⟩⟩
  have hbo : Below W0.heap.size W0 ((W0.alloc (.cells #[] TIN)).alloc (.cells #[] TIN)) := by go_grown
  rw [← hW0, hsz]
  have B0 := Lib.hid b0
  have HB0 := Lib.hid hb0
  have HO0 := Lib.hid (And.intro ho hbo)
  clear hW0 b0 hb0 ho hbo hsz
  go_wp2_with fail
  go_loopw [6, 7, 8] (fun y z i wr => ∃ k : Nat, k ≤ m ∧ i = .int .i64 (k : Int) ∧ Ow2 W0.heap.size wr y z ((set.take k).filter fun f => shB xs f) ((set.take k).filter fun f => !shB xs f) ∧ Below W0.heap.size W0 wr) (fun _ _ i _ => m - (intOf i).toNat)
  case atStart => exact ⟨0, by omega, rfl, HO0.out.1, HO0.out.2⟩
  case round =>
    clear HO0
    obtain ⟨k, hk, rfl, hown, hbw⟩ := hrel
    have HO := Lib.hid hown
    have HBW := Lib.hid hbw
    clear hown hbw
    by_cases hkm : k < m
    · have g1 : decide ((k : Int) < (m : Int)) = true := by simp; omega
      obtain ⟨b, o, rfl, hcell⟩ := (H'.out.below (bt HB0.out HBW.out)).at_ (by omega)
      have ck := hcell k hkm
      obtain ⟨x, hx⟩ : ∃ x, set.getD k 0 = x := ⟨_, rfl⟩
      have f1 := filter_snoc (fun f => shB xs f) set k (by rw [HL.out]; exact hkm)
      have f2 := filter_snoc (fun f => !shB xs f) set k (by rw [HL.out]; exact hkm)
      rw [hx] at ck f1 f2
      have hlen1 : ((set.take k).filter fun f => shB xs f).length ≤ 1000 := Nat.le_trans (List.length_filter_le _ _) (by rw [List.length_take]; omega)
      have hlen2 : ((set.take k).filter fun f => !shB xs f).length ≤ 1000 := Nat.le_trans (List.length_filter_le _ _) (by rw [List.length_take]; omega)
      have kx := fun w' (hh : Ext wr w') => Ext.cell hh ck
      have kb := fun w' (hh : Ext wr w') => ((B0.out.below HBW.out).below hh).cells
      simp only [cellsAre, Nat.zero_add, Nat.reduceAdd, and_true] at kb
      have hst : Ext wr wr.drew := Ext.drew _
      have pk : (k : Int) < (m : Int) := by omega
      clear hcell hx ck
      go_upto_region 5 with fail
      clear g1
      refine wp_region_adv 5 [] [(0, true, some 17, none), (1, true, some 18, none), (2, true, some 19, none), (3, true, some 20, none), (4, true, some 21, none)] (by kernel_rfl) (by kernel_rfl) (by kernel_rfl) (by intro it hit; (repeat (rcases List.mem_cons.1 hit with rfl | hit; (focus (intro o ho ev w; injection ho with ho; subst ho; kernel_rfl)))); cases hit) (fun _ _ _ _ _ => ⟨fun h => h, fun h => h⟩) hst ?_
      repeat (first | (refine wpSeq_pure (v := ?_) rfl ?_ ?_; rotate_left 1; (focus (intro wq_ hSq_; (try dsimp only at hSq_); go_simp; (try with_reducible rfl); done)); (try simp only [Act.put, List.setIfInBounds_toArray, List.set_cons_zero, List.set_cons_succ])) | (refine wpSeq_pureG (v := ?_) rfl rfl ?_ ?_; rotate_left 1; (focus (intro wq_ hSq_; (try dsimp only at hSq_); go_simp; (try with_reducible rfl); done)); (try simp only [Act.put, List.setIfInBounds_toArray, List.set_cons_zero, List.set_cons_succ])) | (refine wpSeq_off rfl rfl ?_; (try simp only [Act.put, List.setIfInBounds_toArray, List.set_cons_zero, List.set_cons_succ])))
      intro wz gz sz_
      (try simp only [endJ, List.drop_succ_cons, List.drop_zero])
      have SZ := Lib.hid (show Ext wr wz from sz_)
      have kz := kx wz sz_
      clear hst kb gz sz_
      go_wp2_with fail
      refine (zshows_any A n c xs cost x wz (H.out.below (bt HB0.out (bt HBW.out SZ.out)))).mono ?_
      rintro e w3 ⟨v3, rfl, hv3, hb3⟩
      have kz3 := kx w3 (bt SZ.out hb3)
      have HO3 := Lib.hid (HO.out.below (bt SZ.out hb3))
      have HB3 := Lib.hid (show Below W0.heap.size W0 w3 from bt HBW.out (bt SZ.out hb3))
      have hz3 : W0.heap.size ≤ w3.heap.size := HB3.out.size
      have hal : Ext w3 (w3.alloc (.cells #[.int .i64 x] TIN)) := (Below.refl _ _).alloc (Nat.le_refl _) _
      have HAL := Lib.hid hal
      clear kx kz hb3 SZ HO HBW hal
      by_cases hsh : shB xs x = true
      · rw [hsh] at hv3
        subst hv3
        rw [if_pos hsh] at f1
        rw [if_neg (by rw [hsh]; simp), List.append_nil] at f2
        have F1 := Lib.hid f1
        have F2 := Lib.hid f2
        clear f1 f2 hsh
        go_wp2_with (at_builtin; refine wp_appE2 TIS TIN _ 1 8 int_info Tryd.underlying37 rfl (by omega) (by omega) rfl _ _ rfl W0.heap.size _ _ _ rfl (HO3.out.below HAL.out).1 ⟨w3.heap.size, 0, none⟩ 1 1 [.int .i64 x] rfl rfl (cell_new w3 [.int .i64 x] TIN) (int_one _) (by omega) (by omega) (by simp; omega) ?_; intro v4 w4 hown4 hb4 hg4 hob4)
        have HN := (HO3.out.below HAL.out).app hown4 hg4 hob4
        rw [← F1.out, ← F2.out] at HN
        have HN2 := HB3.out.trans (((Below.refl W0.heap.size w3).alloc hz3 _).trans hb4)
        clear hown4 hb4 hg4 hob4 HO3 HB3 F1 F2
        go_roundw
        case rel => exact ⟨k + 1, by omega, by go_num, HN, HN2⟩
        case measure => simp [intOf]; omega
      · have hsh' : shB xs x = false := by simpa using hsh
        rw [hsh'] at hv3
        subst hv3
        rw [if_neg hsh, List.append_nil] at f1
        rw [if_pos (by rw [hsh']; rfl)] at f2
        have F1 := Lib.hid f1
        have F2 := Lib.hid f2
        clear f1 f2 hsh hsh'
        go_wp2_with (at_builtin; refine wp_appE2 TIS TIN _ 1 8 int_info Tryd.underlying37 rfl (by omega) (by omega) rfl _ _ rfl W0.heap.size _ _ _ rfl (HO3.out.below HAL.out).2.1 ⟨w3.heap.size, 0, none⟩ 1 1 [.int .i64 x] rfl rfl (cell_new w3 [.int .i64 x] TIN) (int_one _) (by omega) (by omega) (by simp; omega) ?_; intro v4 w4 hown4 hb4 hg4 hob4)
        have HN := ((HO3.out.below HAL.out).swap.app hown4 hg4 hob4).swap
        rw [← F1.out, ← F2.out] at HN
        have HN2 := HB3.out.trans (((Below.refl W0.heap.size w3).alloc hz3 _).trans hb4)
        clear hown4 hb4 hg4 hob4 HO3 HB3 F1 F2
        go_roundw
        case rel => exact ⟨k + 1, by omega, by go_num, HN, HN2⟩
        case measure => simp [intOf]; omega
    · have hkm2 : k = m := by omega
      subst hkm2
      have g1 : decide ((k : Int) < (k : Int)) = false := by simp
      obtain ⟨h1, h2, _⟩ := HO.out
      rw [List.take_of_length_le (by have := HL.out; omega)] at h1 h2
      have sl1 : SL TIN wr _ _ := Sl.of_own h1
      have sl2 : SL TIN wr _ _ := Sl.of_own h2
      obtain ⟨A1, c1, rfl, i1⟩ := h1.il
      obtain ⟨A2, c2, rfl, i2⟩ := h2.il
      have S12 := Lib.hid (And.intro sl1 sl2)
      clear sl1 sl2
      have I1 := Lib.hid i1
      have I2 := Lib.hid i2
      have HBE := Lib.hid (bt HB0.out HBW.out)
      clear h1 h2 i1 i2 HO HBW
      go_wp2
      go_returns
      exact ⟨_, rfl, ⟨_, _, _, _, _, _, rfl, I1.out, I2.out, S12.out.1, S12.out.2⟩, HBE.out⟩
/-- Does a test split a set? -/
def spB (xs set : List Int) : Bool := decide (0 < (set.filter fun f => shB xs f).length) && decide (0 < (set.filter fun f => !shB xs f).length)
set_option maxHeartbeats 1600000 in
theorem zsplits_any (A A' : Option Addr) (n c m d : Nat) (xs set : List Int) (cost : Int) (w : World) (h : Il w A n c xs) (h' : Il w A' m d set) (hm : m ≤ 1000) :
    Calls Tryd.prog 49 #[.agg #[.int .i64 cost, .slice A n c], .slice A' m d] w (Ret (fun v _ => v = .bool (spB xs set)) w) := by
  have H := Lib.hid h
  have H' := Lib.hid h'
  clear h h'
  obtain ⟨p, hp⟩ : ∃ p, spB xs set = p := ⟨_, rfl⟩
  rw [hp]
  go_enter Tryd.func49, Tryd.ntmps49
  go_wp2_with fail
  have hal : Below w.heap.size w (w.alloc (.cells #[.int .i64 cost, .slice A n c] TTE)) := by go_grown
  refine (zparts_any A A' n c m d xs set cost _ (H.out.below hal) (H'.out.below hal) hm).mono ?_
  rintro e w1 ⟨v1, rfl, ⟨A1, n1, c1, A2, n2, c2, rfl, i1, i2, _, _⟩, hb1⟩
  have HBE := Lib.hid (bt hal hb1)
  have hp' : (decide (0 < n1) && decide (0 < n2)) = p := by rw [← hp]; unfold spB; rw [i1.len, i2.len]
  have q1 := i1.le
  have q2 := i1.cap
  have q3 := i2.le
  have q4 := i2.cap
  clear i1 i2 hp hb1 hal
  by_cases g1 : 0 < n1
  · have d1 : decide ((0 : Int) < (n1 : Int)) = true := by simp; omega
    have d1' : decide (0 < n1) = true := by simpa using g1
    rw [d1', Bool.true_and] at hp'
    by_cases g2 : 0 < n2
    · have d2 : decide ((0 : Int) < (n2 : Int)) = true := by simp; omega
      have d2' : decide (0 < n2) = true := by simpa using g2
      rw [d2'] at hp'
      subst hp'
      go_wp2
      go_returns
      exact ⟨_, rfl, rfl, HBE.out⟩
    · have d2 : decide ((0 : Int) < (n2 : Int)) = false := by simp; omega
      have d2' : decide (0 < n2) = false := by simpa using g2
      rw [d2'] at hp'
      subst hp'
      go_wp2
      go_returns
      exact ⟨_, rfl, rfl, HBE.out⟩
  · have d1 : decide ((0 : Int) < (n1 : Int)) = false := by simp; omega
    have d1' : decide (0 < n1) = false := by simpa using g1
    rw [d1', Bool.false_and] at hp'
    subst hp'
    go_wp2
    go_returns
    exact ⟨_, rfl, rfl, HBE.out⟩
/-- Two plans are the same. -/
def brB (xs ys : List Tt) : Bool := decide (xs = ys)
theorem brB_t {xs ys : List Tt} (h : xs = ys) : brB xs ys = true := by unfold brB; simpa using h
theorem brB_f {xs ys : List Tt} (h : xs ≠ ys) : brB xs ys = false := by unfold brB; simpa using h
theorem tts_same {xs ys : List Tt} (hl : xs.length = ys.length) (h : ∀ j, j < xs.length → tC xs j = tC ys j ∧ tS xs j = tS ys j) : xs = ys := by
  apply List.ext_getElem hl
  intro j h1 h2
  obtain ⟨e1, e2⟩ := h j h1
  unfold tC at e1
  unfold tS at e2
  have a1 : xs.getD j (0, []) = xs[j] := by simp [List.getD, h1]
  have a2 : ys.getD j (0, []) = ys[j] := by simp [List.getD, h2]
  rw [a1, a2] at e1 e2
  exact Prod.ext e1 e2
set_option maxHeartbeats 3200000 in
set_option maxRecDepth 100000 in
theorem zbranches_any (A A' : Option Addr) (n c n' c' : Nat) (xs ys : List Tt) (w : World) (h : Ts w A n c xs) (h' : Ts w A' n' c' ys) :
    Calls Tryd.prog 23 #[.slice A n c, .slice A' n' c'] w (Ret (fun v _ => v = .bool (brB xs ys)) w) := by
  have hn := h.le
  have hc := h.cap
  have hn' := h'.le
  have hc' := h'.cap
  have HL := Lib.hid h.len
  have HL' := Lib.hid h'.len
  have H := Lib.hid h
  have H' := Lib.hid h'
  clear h h'
  by_cases hnn : n = n'
  rotate_left
  · have g0 : ((n : Int) != (n' : Int)) = true := by rw [bne_iff_ne]; omega
    have g0' : ((n : Int) == (n' : Int)) = false := by rw [beq_eq_false_iff_ne]; omega
    have HF := Lib.hid (brB_f (xs := xs) (ys := ys) (fun e => hnn (by rw [← HL.out, ← HL'.out, e])))
    clear hnn
    go_enter Tryd.func23, Tryd.ntmps23
    go_wp2
    go_returns
    exact ⟨_, rfl, by rw [HF.out]; rfl, Below.refl _ _⟩
  subst hnn
  have g0 : ((n : Int) != (n : Int)) = false := by simp
  have g0' : ((n : Int) == (n : Int)) = true := by simp
  go_enter Tryd.func23, Tryd.ntmps23
  go_wp2_with fail
  clear g0 g0'
  go_loopw [5] (fun i wr => ∃ k : Nat, k ≤ n ∧ i = .int .i64 (k : Int) ∧ (∀ j, j < k → tC xs j = tC ys j ∧ tS xs j = tS ys j) ∧ Below w.heap.size w wr) (fun i _ => n - (intOf i).toNat)
  case atStart => exact ⟨0, by omega, rfl, fun j hj => absurd hj (by omega), Below.refl _ _⟩
  case round =>
    obtain ⟨k, hk, rfl, hr, hbw⟩ := hrel
    have HBW := Lib.hid hbw
    have HR := Lib.hid hr
    clear hr hbw
    by_cases hkn : k < n
    rotate_left
    · have hkn2 : k = n := by omega
      subst hkn2
      have g1 : decide ((k : Int) < (k : Int)) = false := by simp
      have HT := Lib.hid (brB_t (tts_same (by rw [HL.out, HL'.out]) (fun j hj => HR.out j (by rw [← HL.out]; exact hj))))
      clear HR
      go_wp2
      go_returns
      exact ⟨_, rfl, by rw [HT.out]; rfl, HBW.out⟩
    have g1 : decide ((k : Int) < (n : Int)) = true := by simp; omega
    obtain ⟨b, o, rfl, hcell⟩ := (H.out.below HBW.out).at_ (by omega)
    obtain ⟨b', o', rfl, hcell'⟩ := (H'.out.below HBW.out).at_ (by omega)
    obtain ⟨ck, A1, n1, c1, ck1, i1⟩ := hcell k hkn
    obtain ⟨ck', A2, n2, c2, ck2, i2⟩ := hcell' k hkn
    obtain ⟨x, hx⟩ : ∃ x, tC xs k = x := ⟨_, rfl⟩
    obtain ⟨y, hy⟩ : ∃ x, tC ys k = x := ⟨_, rfl⟩
    rw [hx] at ck
    rw [hy] at ck'
    have ka := fun w' (hh : Ext wr w') => (show (w'.cell? ⟨b, o + k * 2, none⟩ = some (.int .i64 x) ∧ w'.cell? ⟨b, o + k * 2 + 1, none⟩ = some (.slice A1 n1 c1)) ∧ w'.cell? ⟨b', o' + k * 2, none⟩ = some (.int .i64 y) ∧ w'.cell? ⟨b', o' + k * 2 + 1, none⟩ = some (.slice A2 n2 c2) from ⟨⟨Ext.cell hh ck, Ext.cell hh ck1⟩, Ext.cell hh ck', Ext.cell hh ck2⟩)
    have I1 := Lib.hid i1
    have I2 := Lib.hid i2
    have hst : Ext wr wr.drew := Ext.drew _
    have pk : (k : Int) < (n : Int) := by omega
    have HX := Lib.hid (And.intro hx hy)
    clear hcell hcell' ck ck' ck1 ck2 i1 i2 hx hy
    by_cases hxy : x = y
    rotate_left
    · have g2 : (x != y) = true := by rw [bne_iff_ne]; exact hxy
      have g2' : (x == y) = false := by rw [beq_eq_false_iff_ne]; exact hxy
      have HF := Lib.hid (brB_f (xs := xs) (ys := ys) (fun e => hxy (by rw [← HX.out.1, ← HX.out.2, e])))
      clear hxy
      go_upto_region 6 with fail
      clear g1
      refine wp_region_adv 22 [] [(0, true, some 17, none), (1, true, some 18, none), (2, true, some 19, none), (3, true, some 20, none), (4, true, some 21, none), (5, true, some 22, none), (6, true, some 23, none), (7, true, some 24, none), (8, true, some 25, none), (9, true, some 26, none), (10, true, some 27, none), (11, true, some 28, none), (12, true, some 29, some (28, false)), (13, true, some 30, some (28, false)), (14, true, some 31, some (28, false)), (15, true, some 32, some (28, false)), (16, true, some 33, some (28, false)), (17, true, some 34, some (28, false)), (18, true, some 35, some (28, false)), (19, true, some 36, some (28, false)), (20, true, some 37, some (28, false)), (21, true, some 38, some (28, false))] (by kernel_rfl) (by kernel_rfl) (by kernel_rfl) (by intro it hit; (repeat (rcases List.mem_cons.1 hit with rfl | hit; (focus (intro o ho ev w; injection ho with ho; subst ho; kernel_rfl)))); cases hit) (fun _ _ _ _ _ => ⟨fun h => h, fun h => h⟩) hst ?_
      repeat (first | (refine wpSeq_pure (v := ?_) rfl ?_ ?_; rotate_left 1; (focus (intro wq_ hSq_; (try dsimp only at hSq_); go_simp; (try with_reducible rfl); done)); (try simp only [Act.put, List.setIfInBounds_toArray, List.set_cons_zero, List.set_cons_succ])) | (refine wpSeq_pureG (v := ?_) rfl rfl ?_ ?_; rotate_left 1; (focus (intro wq_ hSq_; (try dsimp only at hSq_); go_simp; (try with_reducible rfl); done)); (try simp only [Act.put, List.setIfInBounds_toArray, List.set_cons_zero, List.set_cons_succ])) | (refine wpSeq_off rfl rfl ?_; (try simp only [Act.put, List.setIfInBounds_toArray, List.set_cons_zero, List.set_cons_succ])))
      intro wz gz sz_
      (try simp only [endJ, List.drop_succ_cons, List.drop_zero])
      have SZ := Lib.hid (bt HBW.out sz_)
      clear hst ka gz sz_
      go_wp2
      go_returns
      exact ⟨_, rfl, by rw [HF.out]; rfl, SZ.out⟩
    subst hxy
    have g2 : (x != x) = false := by simp
    have g2' : (x == x) = true := by simp
    go_upto_region 6 with fail
    clear g1
    refine wp_region_adv 22 [] [(0, true, some 17, none), (1, true, some 18, none), (2, true, some 19, none), (3, true, some 20, none), (4, true, some 21, none), (5, true, some 22, none), (6, true, some 23, none), (7, true, some 24, none), (8, true, some 25, none), (9, true, some 26, none), (10, true, some 27, none), (11, true, some 28, none), (12, true, some 29, some (28, false)), (13, true, some 30, some (28, false)), (14, true, some 31, some (28, false)), (15, true, some 32, some (28, false)), (16, true, some 33, some (28, false)), (17, true, some 34, some (28, false)), (18, true, some 35, some (28, false)), (19, true, some 36, some (28, false)), (20, true, some 37, some (28, false)), (21, true, some 38, some (28, false))] (by kernel_rfl) (by kernel_rfl) (by kernel_rfl) (by intro it hit; (repeat (rcases List.mem_cons.1 hit with rfl | hit; (focus (intro o ho ev w; injection ho with ho; subst ho; kernel_rfl)))); cases hit) (fun _ _ _ _ _ => ⟨fun h => h, fun h => h⟩) hst ?_
    repeat (first | (refine wpSeq_pure (v := ?_) rfl ?_ ?_; rotate_left 1; (focus (intro wq_ hSq_; (try dsimp only at hSq_); go_simp; (try with_reducible rfl); done)); (try simp only [Act.put, List.setIfInBounds_toArray, List.set_cons_zero, List.set_cons_succ])) | (refine wpSeq_pureG (v := ?_) rfl rfl ?_ ?_; rotate_left 1; (focus (intro wq_ hSq_; (try dsimp only at hSq_); go_simp; (try with_reducible rfl); done)); (try simp only [Act.put, List.setIfInBounds_toArray, List.set_cons_zero, List.set_cons_succ])) | (refine wpSeq_off rfl rfl ?_; (try simp only [Act.put, List.setIfInBounds_toArray, List.set_cons_zero, List.set_cons_succ])))
    intro wz gz sz_
    (try simp only [endJ, List.drop_succ_cons, List.drop_zero])
    have SZ := Lib.hid (show Ext wr wz from sz_)
    clear hst ka gz sz_
    go_wp2_with fail
    refine (zsame_any A1 A2 n1 c1 n2 c2 (tS xs k) (tS ys k) wz (I1.out.below SZ.out) (I2.out.below SZ.out)).mono ?_
    rintro e w3 ⟨v3, rfl, hv3, hb3⟩
    have HB3 := Lib.hid (bt HBW.out (bt SZ.out hb3))
    clear hb3
    by_cases hss : tS xs k = tS ys k
    · rw [sameB_t hss] at hv3
      subst hv3
      have hN : ∀ j, j < k + 1 → tC xs j = tC ys j ∧ tS xs j = tS ys j := fun j hj => by
        rcases Nat.lt_or_eq_of_le (Nat.le_of_lt_succ hj) with h | rfl
        · exact HR.out j h
        · exact ⟨by rw [HX.out.1, HX.out.2], hss⟩
      have HN := Lib.hid hN
      clear hN hss HR
      go_wp2
      go_roundw
      case rel => exact ⟨k + 1, by omega, by go_num, HN.out, HB3.out⟩
      case measure => simp [intOf]; omega
    · rw [sameB_f hss] at hv3
      subst hv3
      have HF := Lib.hid (brB_f (xs := xs) (ys := ys) (fun e => hss (by rw [e])))
      clear hss
      go_wp2
      go_returns
      exact ⟨_, rfl, by rw [HF.out]; rfl, HB3.out⟩
end Go.Proofs.Tb
