/- Contract of the reference for rates: Witnesses; the law's same. -/
import Derived.Test.YtcbffkkcldnegaaRefW
set_option linter.unusedVariables false
set_option linter.unusedSimpArgs false
namespace Go.Proofs.Tb
open Go.RowKit
attribute [local go_sem] cell_set_same

def sameB (xs ys : List Int) : Bool := decide (xs = ys)
theorem sameB_t {xs ys : List Int} (h : xs = ys) : sameB xs ys = true := by unfold sameB; simpa using h
theorem sameB_f {xs ys : List Int} (h : xs ≠ ys) : sameB xs ys = false := by unfold sameB; simpa using h
theorem Il.rng {w : World} {A : Option Addr} {n c : Nat} {xs : List Int} (h : Il w A n c xs) : n ≤ 9223372036854775807 := Nat.le_trans h.le h.cap
set_option maxHeartbeats 1600000 in
theorem same_any (A B : Option Addr) (n c m d : Nat) (xs ys : List Int) (w : World) (h : Il w A n c xs) (k : Il w B m d ys) :
    Calls Try.prog 36 #[.slice A n c, .slice B m d] w (Ret (fun v _ => v = .bool (sameB xs ys)) w) := by
  have hn := h.le
  have hc := h.cap
  have hm := k.le
  have hd := k.cap
  have H := Lib.hid h
  have K := Lib.hid k
  have HL := Lib.hid h.len
  have KL := Lib.hid k.len
  clear h k
  by_cases hnm : n = m
  rotate_left
  · have g0 : ((n : Int) != (m : Int)) = true := by rw [bne_iff_ne]; omega
    have g0' : ((n : Int) == (m : Int)) = false := by rw [beq_eq_false_iff_ne]; omega
    have HF := Lib.hid (sameB_f (xs := xs) (ys := ys) (fun e => hnm (by rw [← HL.out, ← KL.out, e])))
    clear hnm
    go_enter Try.func36, Try.ntmps36
    go_wp2
    go_returns
    exact ⟨_, rfl, by rw [HF.out]; rfl, Below.refl _ _⟩
  · subst hnm
    have g0 : ((n : Int) != (n : Int)) = false := by simp
    have g0' : ((n : Int) == (n : Int)) = true := by simp
    go_enter Try.func36, Try.ntmps36
    go_wp2
    go_loopw [5] (fun i wr => ∃ k : Nat, k ≤ n ∧ i = .int .i64 k ∧ (∀ j, j < k → xs.getD j 0 = ys.getD j 0) ∧ Below w.heap.size w wr) (fun i _ => n - (intOf i).toNat)
    case atStart => exact ⟨0, Nat.zero_le _, rfl, fun j hj => absurd hj (by omega), Below.refl _ _⟩
    case round =>
      obtain ⟨k, hk, rfl, heq, hbw⟩ := hrel
      have HEQ := Lib.hid heq
      have HBW := Lib.hid hbw
      clear heq hbw
      by_cases hkn : k < n
      · have g1 : decide ((k : Int) < (n : Int)) = true := by simp; omega
        have p1 : (k : Int) < (n : Int) := by omega
        obtain ⟨b1, o1, rfl, hc1⟩ := (H.out.below HBW.out).at_ (by omega)
        obtain ⟨b2, o2, rfl, hc2⟩ := (K.out.below HBW.out).at_ (by omega)
        have c1 := hc1 k hkn
        have c2 := hc2 k hkn
        clear hc1 hc2
        obtain ⟨u, hu⟩ : ∃ u, xs.getD k 0 = u := ⟨_, rfl⟩
        obtain ⟨v, hv⟩ : ∃ u, ys.getD k 0 = u := ⟨_, rfl⟩
        rw [hu] at c1
        rw [hv] at c2
        have HU := Lib.hid hu
        have HVV := Lib.hid hv
        clear hu hv
        have HB2 : Hid (∀ nq, Below w.heap.size w (wr.drewN nq)) := fun nq => below_drewN HBW.out nq
        by_cases huv : u = v
        · subst huv
          have g2 : (u != u) = false := by simp
          have g2' : (u == u) = true := by simp
          go_wp2
          go_quiet (fail)
          go_wp2
          go_roundw
          case rel => exact ⟨k + 1, by omega, by go_num, fun j hj => by rcases Nat.lt_or_eq_of_le (Nat.le_of_lt_succ hj) with h | h; exact HEQ.out j h; rw [h, HU.out, HVV.out], HB2.out _⟩
          case measure => simp [intOf]; omega
        · have g2 : (u != v) = true := by rw [bne_iff_ne]; exact huv
          have g2' : (u == v) = false := by rw [beq_eq_false_iff_ne]; exact huv
          have HF := Lib.hid (sameB_f (xs := xs) (ys := ys) (fun e => huv (by rw [← HU.out, ← HVV.out, e])))
          clear huv
          go_wp2
          go_quiet (fail)
          go_wp2
          go_returns
          exact ⟨_, rfl, by rw [HF.out]; rfl, HB2.out _⟩
      · have g1 : decide ((k : Int) < (n : Int)) = false := by simp; omega
        have : k = n := by omega
        subst this
        have HT := Lib.hid (sameB_t (xs := xs) (ys := ys) (List.ext_getElem (by rw [HL.out, KL.out]) (fun j h1 h2 => by have := HEQ.out j (by have := HL.out; omega); simpa [List.getD, h1, h2] using this)))
        go_wp2
        go_returns
        exact ⟨_, rfl, by rw [HT.out]; rfl, HBW.out⟩

/-- The first three readings at which a line's errors alternate. -/
def FirstAlt (rs : List Rdg) (n : Nat) (x y E : Rat) (ws : List Int) : Prop :=
  (ws = [] ∧ ∀ i j k, i < j → j < k → k < n → ¬ Alt rs x y E i j k) ∨
  ∃ a b c : Nat, a < b ∧ b < c ∧ c < n ∧ ws = [(a : Int), (b : Int), (c : Int)] ∧ Alt rs x y E a b c ∧ ∀ i j k, i < j → j < k → k < n → Bef a b c i j k → ¬ Alt rs x y E i j k
/-- None of those ahead of (i, j, k) alternates. -/
def NoAlt (rs : List Rdg) (n : Nat) (x y E : Rat) (i j k : Nat) : Prop := ∀ i' j' k', i' < j' → j' < k' → k' < n → Bef i j k i' j' k' → ¬ Alt rs x y E i' j' k'
theorem NoAlt.start (rs : List Rdg) (n : Nat) (x y E : Rat) : NoAlt rs n x y E 0 1 2 := fun i' j' k' h1 h2 _ hb => by unfold Bef at hb; omega
theorem NoAlt.weak {rs : List Rdg} {n : Nat} {x y E : Rat} {i j k i2 j2 k2 : Nat} (h : NoAlt rs n x y E i j k) (hw : ∀ i' j' k', i' < j' → j' < k' → k' < n → (Bef i2 j2 k2 i' j' k' ↔ Bef i j k i' j' k')) : NoAlt rs n x y E i2 j2 k2 := fun i' j' k' g1 g2 g3 g4 => h i' j' k' g1 g2 g3 ((hw _ _ _ g1 g2 g3).1 g4)
theorem NoAlt.nextJ {rs : List Rdg} {n : Nat} {x y E : Rat} {i j : Nat} (h : NoAlt rs n x y E i j n) : NoAlt rs n x y E i (j + 1) (j + 2) := h.weak fun i' j' k' h1 h2 h3 => by unfold Bef; omega
theorem NoAlt.nextI {rs : List Rdg} {n : Nat} {x y E : Rat} {i : Nat} (h : NoAlt rs n x y E i n (n + 1)) : NoAlt rs n x y E (i + 1) (i + 2) (i + 3) := h.weak fun i' j' k' h1 h2 h3 => by unfold Bef; omega
theorem NoAlt.skip {rs : List Rdg} {n : Nat} {x y E : Rat} {i j k : Nat} (h : NoAlt rs n x y E i j k) (hno : ¬ Alt rs x y E i j k) : NoAlt rs n x y E i j (k + 1) := fun i' j' k' g1 g2 g3 g4 => by
  by_cases he : Bef i j k i' j' k'
  · exact h i' j' k' g1 g2 g3 he
  · have : i' = i ∧ j' = j ∧ k' = k := by unfold Bef at he g4; omega
    obtain ⟨rfl, rfl, rfl⟩ := this
    exact hno
def ZWR (rs : List Rdg) (v : Value) (w' : World) : Prop := ∃ x y E A n c ws, IsLeast rs.length (tq rs) (yq rs) x y E ∧ v = .slice A n c ∧ Il w' A n c ws ∧ FirstAlt rs rs.length x y E ws
theorem il3 {w : World} {g : Nat} {T : TypeId} {a b c : Int} (h : Blk w g T #[.int .i64 a, .int .i64 b, .int .i64 c]) : Il w (some ⟨g, 0, none⟩) 3 3 [a, b, c] := by
  have k := h.cells
  simp only [cellsAre, Nat.zero_add, Nat.reduceAdd, and_true] at k
  refine ⟨rfl, by omega, by omega, fun _ => ⟨g, 0, rfl, fun j hj => ?_⟩⟩
  have : j = 0 ∨ j = 1 ∨ j = 2 := by omega
  rcases this with rfl | rfl | rfl
  · exact k.1
  · exact k.2.1
  · exact k.2.2

set_option maxHeartbeats 6400000 in
set_option maxRecDepth 100000 in
theorem zwitn_any (A : Option Addr) (n c : Nat) (rs : List Rdg) (w : World) (h : Rd w A n c rs) (hv : Vld rs) :
    Calls Try.prog 37 #[.slice A n c] w (Ret (ZWR rs) w) := by
  have hn := h.le
  have hc := h.cap
  have hn64 : n ≤ 64 := by have := hv.2.1; have := h.len; omega
  have HLN := Lib.hid h.len
  have H := Lib.hid h
  have HV := Lib.hid hv
  clear h hv
  go_enter Try.func37, Try.ntmps37
  go_wp2_with fail
  refine (zleast_any A n c rs w H.out HV.out).mono ?_
  rintro e w1 ⟨v1, rfl, ⟨x, y, E, l, q, hE, rfl, hzl, hzq⟩, hb1⟩
  obtain ⟨o0, O0, a0, i0, o1, O1, a1, i1, o2, O2, a2, i2, o3, O3, a3, i3, rfl, zl1, zl2⟩ := hzl
  have HZL : Hid (ZL w1 (.agg #[.bool o0, .slice O0 a0 i0, .bool o1, .slice O1 a1 i1, .bool o2, .slice O2 a2 i2, .bool o3, .slice O3 a3 i3]) x y 48) := ⟨_, _, _, _, _, _, _, _, _, _, _, _, _, _, _, _, rfl, zl1, zl2⟩
  obtain ⟨d, B, m, e, d', B', m', e', rfl⟩ := hzq.form
  have HZQ := Lib.hid hzq
  have HE := Lib.hid hE
  have HB1 := Lib.hid hb1
  clear zl1 zl2 hzq hE hb1
  go_upto_region 2 with fail
  refine wp_world (fun W => Blk W w1.heap.size TQL #[.bool o0, .slice O0 a0 i0, .bool o1, .slice O1 a1 i1, .bool o2, .slice O2 a2 i2, .bool o3, .slice O3 a3 i3] ∧ Blk W (w1.heap.size + 1) TQ #[.bool d, .slice B m e, .bool d', .slice B' m' e'] ∧ Below w1.heap.size w1 W) (by exact ⟨(Blk.new_ _ _ rfl).alloc _, Blk.new_ _ _ (by simp), by go_grown⟩) ?_
  rintro W2 ⟨e3, e4, hb2⟩
  have E3 := Lib.hid e3
  have E4 := Lib.hid e4
  have HZL := Lib.hid (HZL.out.below hb2)
  have HZQ := Lib.hid (HZQ.out.below hb2)
  have HB2 := Lib.hid (bt HB1.out hb2)
  clear e3 e4 hb2
  go_wp2
  go_loopw [5] (fun i' wr => ∃ i : Nat, i' = .int .i64 i ∧ i ≤ n ∧ NoAlt rs n x y E i (i + 1) (i + 2) ∧ Ext W2 wr) (fun i' _ => n - (intOf i').toNat)
  case atStart => exact ⟨0, rfl, Nat.zero_le _, NoAlt.start _ _ _ _ _, Ext.refl _⟩
  case round =>
    obtain ⟨i, rfl, hi, hna, hx⟩ := hrel
    obtain ⟨wi, rfl⟩ : ∃ wo : World, wo = wr := ⟨_, rfl⟩
    have HN := Lib.hid hna
    have HX := Lib.hid hx
    clear hna hx
    by_cases hin : i < n
    · have g1 : decide ((i : Int) < (n : Int)) = true := by simp; omega
      go_wp2
      go_loopw [6] (fun i' wr => ∃ j : Nat, i' = .int .i64 j ∧ i + 1 ≤ j ∧ j ≤ n ∧ NoAlt rs n x y E i j (j + 1) ∧ Ext W2 wr) (fun i' _ => n - (intOf i').toNat)
      case atStart => exact ⟨i + 1, by go_num, by omega, by omega, HN.out, HX.out⟩
      case round =>
        clear HN HX
        obtain ⟨j, rfl, hij, hj, hna, hx⟩ := hrel
        obtain ⟨wj, rfl⟩ : ∃ wo : World, wo = wr := ⟨_, rfl⟩
        have HN := Lib.hid hna
        have HX := Lib.hid hx
        clear hna hx
        by_cases hjn : j < n
        · have g2 : decide ((j : Int) < (n : Int)) = true := by simp; omega
          go_wp2
          go_loopw [7] (fun i' wr => ∃ k : Nat, i' = .int .i64 k ∧ j + 1 ≤ k ∧ k ≤ n ∧ NoAlt rs n x y E i j k ∧ Ext W2 wr) (fun i' _ => n - (intOf i').toNat)
          case atStart => exact ⟨j + 1, by go_num, by omega, by omega, HN.out, HX.out⟩
          case round =>
            clear HN HX
            obtain ⟨k, rfl, hjk, hk, hna, hx⟩ := hrel
            obtain ⟨wk, rfl⟩ : ∃ wo : World, wo = wr := ⟨_, rfl⟩
            have HN := Lib.hid hna
            have HX := Lib.hid hx
            clear hna hx
            by_cases hkn : k < n
            · have g3 : decide ((k : Int) < (n : Int)) = true := by simp; omega
              have k3 := (cells8 (E3.out.below HX.out)) wk (Ext.refl _)
              have k4 := zcells (E4.out.below HX.out)
              go_wp2_with fail
              obtain ⟨W3, hW3⟩ : ∃ W0, W0 = wk.alloc (.cells #[.int .i64 (i : Int), .int .i64 (j : Int), .int .i64 (k : Int)] 3) := ⟨_, rfl⟩
              have b5 : Blk W3 wk.heap.size 3 #[.int .i64 (i : Int), .int .i64 (j : Int), .int .i64 (k : Int)] := by rw [hW3]; exact Blk.new_ _ _ rfl
              have hb3 : Ext wk W3 := by rw [hW3]; exact Ext.allocR _ _
              rw [← hW3]
              clear hW3 k3 k4
              have HB3 := Lib.hid (show Ext W2 W3 from bt HX.out hb3)
              refine (zalt_any A n c rs _ _ x y E 108 _ 3 i j k W3 (H.out.below (bt HB2.out HB3.out)) (by obtain ⟨_, _, _, _, _, _, _, _, _, _, _, _, _, _, _, _, he, q1, q2⟩ := HZL.out.below HB3.out; exact ⟨_, _, _, _, _, _, _, _, _, _, _, _, _, _, _, _, he, q1.le (by omega), q2.le (by omega)⟩) (HZQ.out.below HB3.out) (by omega) (il3 b5) (by omega) (by omega) hkn hn64).mono ?_
              rintro e w4 ⟨v4, rfl, hv4, hb4⟩
              have HB4 := Lib.hid (show Ext W2 w4 from bt HB3.out hb4)
              clear b5 hb3 hb4
              by_cases ha : Alt rs x y E i j k
              · rw [altB_t ha] at hv4
                subst hv4
                have HF : Hid (FirstAlt rs rs.length x y E [(i : Int), (j : Int), (k : Int)]) := by
                  rw [HLN.out]
                  exact Or.inr ⟨i, j, k, by omega, by omega, hkn, rfl, ha, HN.out⟩
                clear ha
                go_wp2
                go_returns
                refine ⟨_, rfl, ⟨x, y, E, _, 3, 3, _, HE.out, rfl, il3 (Blk.new_ _ _ rfl), HF.out⟩, ?_⟩
                exact bt HB2.out (bt HB4.out (Ext.allocR _ _))
              · rw [altB_f ha] at hv4
                subst hv4
                have HN2 := Lib.hid (HN.out.skip ha)
                clear ha
                go_wp2
                go_roundw
                case rel => exact ⟨k + 1, by go_num, by omega, by omega, HN2.out, HB4.out⟩
                case measure => first | (simp [intOf]; done) | (simp [intOf]; omega)
            · have : k = n := by omega
              subst this
              have g3 : decide ((k : Int) < (k : Int)) = false := by simp
              go_wp2
              go_roundw
              case rel => exact ⟨j + 1, by go_num, by omega, by omega, HN.out.nextJ, HX.out⟩
              case measure => first | (simp [intOf]; done) | (simp [intOf]; omega)
        · have : j = n := by omega
          subst this
          have g2 : decide ((j : Int) < (j : Int)) = false := by simp
          go_wp2
          go_roundw
          case rel => exact ⟨i + 1, by go_num, by omega, HN.out.nextI, HX.out⟩
          case measure => first | (simp [intOf]; done) | (simp [intOf]; omega)
    · have : i = n := by omega
      subst this
      have g1 : decide ((i : Int) < (i : Int)) = false := by simp
      go_wp2
      go_returns
      exact ⟨_, rfl, ⟨x, y, E, none, 0, 0, [], HE.out, rfl, Il.nil _, Or.inl ⟨rfl, fun i' j' k' h1 h2 h3 => HN.out i' j' k' h1 h2 (by rw [← HLN.out]; exact h3) (by unfold Bef; have := HLN.out; omega)⟩⟩, bt HB2.out HX.out⟩
end Go.Proofs.Tb
