/- Contracts of the law for rates: has, around. -/
import Derived.Test.YtcbffkkcldnegaaRefY
set_option linter.unusedVariables false
set_option linter.unusedSimpArgs false
namespace Go.Proofs.Tb
open Go.RowKit
attribute [local go_sem] cell_set_same

def hasN (L : List Nat) (v : Nat) : Bool := L.contains v
theorem hasN_t {L : List Nat} {v : Nat} (h : v ∈ L) : hasN L v = true := by unfold hasN; simpa using h
theorem hasN_f {L : List Nat} {v : Nat} (h : v ∉ L) : hasN L v = false := by unfold hasN; simpa using h
set_option maxHeartbeats 1600000 in
theorem has_any (A : Option Addr) (n c : Nat) (L : List Nat) (v : Nat) (w : World) (h : Sl TN w A n c (L.map I64)) (hv : v ≤ 1000000) (hL : ∀ x, x ∈ L → x ≤ 1000000) :
    Calls Try.prog 43 #[.slice A n c, .int .i64 (v : Int)] w (Ret (fun x _ => x = .bool (hasN L v)) w) := by
  have hn := h.le
  have hc := h.cap
  have hl : L.length = n := by have := h.len; simpa using this
  have H := Lib.hid h
  have HLL := Lib.hid hL
  have HL := Lib.hid hl
  clear h hl hL
  go_enter Try.func43, Try.ntmps43
  go_wp2
  go_loopw [5] (fun i wr => ∃ k : Nat, k ≤ n ∧ i = .int .i64 k ∧ (∀ j, j < k → L.getD j 0 ≠ v) ∧ Below w.heap.size w wr) (fun i _ => n - (intOf i).toNat)
  case atStart => exact ⟨0, Nat.zero_le _, rfl, fun j hj => absurd hj (by omega), Below.refl _ _⟩
  case round =>
    obtain ⟨k, hk, rfl, hno, hbw⟩ := hrel
    have HNO := Lib.hid hno
    have HBW := Lib.hid hbw
    clear hno hbw
    by_cases hkn : k < n
    · have g1 : decide ((k : Int) < (n : Int)) = true := by simp; omega
      have p1 : (k : Int) < (n : Int) := by omega
      obtain ⟨b1, o1, rfl, hc1⟩ := (H.out.below HBW.out).at_int (by omega)
      have c1 := hc1 k hkn
      obtain ⟨u, hu⟩ : ∃ u, L.getD k 0 = u := ⟨_, rfl⟩
      rw [hu] at c1
      have hu6 : u ≤ 1000000 := by
        have : L.getD k 0 ∈ L := by
          have hk' : k < L.length := by rw [HL.out]; exact hkn
          have e : L.getD k 0 = L[k] := by simp [List.getD, hk']
          rw [e]; exact List.getElem_mem hk'
        rw [← hu]; exact HLL.out _ this
      have HU := Lib.hid hu
      clear hc1 hu
      by_cases huv : u = v
      · have g2 : ((u : Int) == (v : Int)) = true := by subst huv; simp
        have HT := Lib.hid (hasN_t (L := L) (v := v) (by
          have hk' : k < L.length := by rw [HL.out]; exact hkn
          have e : L.getD k 0 = L[k] := by simp [List.getD, hk']
          rw [← huv, ← HU.out, e]; exact List.getElem_mem hk'))
        clear huv
        go_wp2
        go_returns
        exact ⟨_, rfl, by rw [HT.out]; rfl, HBW.out⟩
      · have g2 : ((u : Int) == (v : Int)) = false := by rw [beq_eq_false_iff_ne]; omega
        have HUV := Lib.hid huv
        clear huv
        go_wp2
        go_roundw
        case rel => exact ⟨k + 1, by omega, by go_num, fun j hj => by rcases Nat.lt_or_eq_of_le (Nat.le_of_lt_succ hj) with h | h; exact HNO.out j h; rw [h, HU.out]; exact HUV.out, HBW.out⟩
        case measure => simp [intOf]; omega
    · have : k = n := by omega
      subst this
      have g1 : decide ((k : Int) < (k : Int)) = false := by simp
      have HF := Lib.hid (hasN_f (L := L) (v := v) (fun hm => by
        obtain ⟨j, hj, e⟩ := List.getElem_of_mem hm
        refine HNO.out j (by rw [← HL.out]; exact hj) ?_
        simp [List.getD, hj, e]))
      go_wp2
      go_returns
      exact ⟨_, rfl, by rw [HF.out]; rfl, HBW.out⟩

/-- Numbers of readings from the first to the last one, and no reading beyond the lines between them. -/
def Arnd (rs : List Rdg) (sg : Int) (L : List Nat) : Prop :=
  2 ≤ L.length ∧ L.getD 0 0 = 0 ∧ L.getD (L.length - 1) 0 = rs.length - 1 ∧
    ∀ p, p + 1 < L.length → L.getD p 0 < L.getD (p + 1) 0 ∧ L.getD (p + 1) 0 < rs.length ∧ ∀ j, L.getD p 0 < j → j < L.getD (p + 1) 0 → trn (tm rs) (ysg rs sg) (L.getD p 0) j (L.getD (p + 1) 0) ≤ 0
theorem Chn.arnd {rs : List Rdg} {sg : Int} {b : Nat} {l : List Nat} (hv : Vld rs) (h : Chn (tm rs) (ysg rs sg) (b :: l)) (hb : b + 1 = rs.length) : Arnd rs sg (b :: l).reverse := by
  have h2 := hv.1
  have hl0 : l ≠ [] := fun e => by
    subst e
    have : b = 0 := h
    omega
  have hlen : 1 ≤ l.length := by
    cases l with
    | nil => exact absurd rfl hl0
    | cons => simp
  obtain ⟨L, hL⟩ : ∃ L, (b :: l).reverse = L := ⟨_, rfl⟩
  have hLl : L.length = l.length + 1 := by rw [← hL]; simp
  refine ⟨by rw [List.length_reverse, List.length_cons]; omega, ?_, ?_, ?_⟩
  · have hlast := h.last
    rw [List.getLast?_eq_getElem?] at hlast
    have : (b :: l).reverse[0]? = some 0 := by
      rw [List.getElem?_reverse (by simp)]
      exact hlast
    unfold List.getD
    rw [this]; rfl
  · unfold List.getD
    rw [List.length_reverse, List.getElem?_reverse (by simp)]
    simp; omega
  · rw [hL]
    intro p hp
    have hp0 : p < L.length := by omega
    have e1 : L.getD p 0 = L[p] := by simp [List.getD, hp0]
    have e2 : L.getD (p + 1) 0 = L[p + 1] := by simp [List.getD, hp]
    have hd : L = L.take p ++ L[p] :: L[p + 1] :: L.drop (p + 2) := by
      rw [← List.drop_eq_getElem_cons hp, ← List.drop_eq_getElem_cons hp0, List.take_append_drop]
    have hr : b :: l = (L.drop (p + 2)).reverse ++ L[p + 1] :: L[p] :: (L.take p).reverse := by
      have : b :: l = L.reverse := by rw [← hL, List.reverse_reverse]
      rw [this]
      conv => lhs; rw [hd]
      simp
    have hadj := h
    rw [hr] at hadj
    have ha := hadj.adj
    rw [e1, e2]
    refine ⟨ha.1, ?_, ha.2⟩
    have hm : L[p + 1] ∈ b :: l := by
      have h5 : ∀ x, x ∈ L → x ∈ b :: l := fun x hx => by rw [← hL, List.mem_reverse] at hx; exact hx
      exact h5 _ (List.getElem_mem hp)
    rcases List.mem_cons.1 hm with g | g
    · omega
    · have := h.lt _ g; omega

set_option maxHeartbeats 6400000 in
set_option maxRecDepth 100000 in
theorem around_any (A B : Option Addr) (n c m d : Nat) (rs : List Rdg) (L : List Nat) (sg : Int) (w : World) (h : Rd w A n c rs) (hv : Vld rs) (k : Sl TN w B m d (L.map I64)) (hsg : sg = 1 ∨ sg = -1) (ha : Arnd rs sg L) :
    Calls Try.prog 42 #[.slice A n c, .slice B m d, .int .i64 sg] w (Ret (fun v _ => v = .bool true) w) := by
  have hn := h.le
  have hc := h.cap
  have hm := k.le
  have hd := k.cap
  have hn64 : n ≤ 64 := by have := hv.2.1; have := h.len; omega
  have hl : L.length = m := by have := k.len; simpa using this
  have hm2 : 2 ≤ m := by rw [← hl]; exact ha.1
  have H := Lib.hid h
  have K := Lib.hid k
  have HV := Lib.hid hv
  have HL := Lib.hid h.len
  have HLL := Lib.hid hl
  have HSG := Lib.hid hsg
  have HA := Lib.hid ha
  obtain ⟨b1, o1, rfl, hc1⟩ := k.at_int (by omega)
  have HC1 := Lib.hid hc1
  have c0 := hc1 0 (by omega)
  have cl := hc1 (m - 1) (by omega)
  rw [ha.2.1] at c0
  replace c0 : w.cell? ⟨b1, o1, none⟩ = some (.int .i64 0) := c0
  rw [← hl, ha.2.2.1, h.len, hl] at cl
  have hn1 : 1 ≤ n := by have := hv.1; have := h.len; omega
  have q1 : (((n - 1 : Nat) : Int) != (n : Int) - 1) = false := by rw [bne_eq_false_iff_eq]; omega
  have q1' : (((n - 1 : Nat) : Int) == (n : Int) - 1) = true := by rw [beq_iff_eq]; omega
  have q2 : decide ((m : Int) < 2) = false := by simp; omega
  have q3 : ((m : Int) - 1).toNat = m - 1 := by omega
  have q4 : (0 : Int) ≤ (m : Int) - 1 := by omega
  have q5 : (m : Int) - 1 < (m : Int) := by omega
  have q6 : (0 : Int) < (m : Int) := by omega
  have q7 : 0 < m := by omega
  have q8 : ((0 : Nat) : Int) = 0 := rfl
  clear h k hv hl hsg ha hc1
  go_enter Try.func42, Try.ntmps42
  go_wp2
  go_loopw [7] (fun x wr => ∃ p : Nat, x = .int .i64 p ∧ p + 1 ≤ m ∧ Below w.heap.size w wr) (fun x _ => m - (intOf x).toNat)
  case atStart => exact ⟨0, rfl, by omega, Below.refl _ _⟩
  case round =>
    obtain ⟨p, rfl, hp, hbw⟩ := hrel
    obtain ⟨wi, rfl⟩ : ∃ wo : World, wo = wr := ⟨_, rfl⟩
    have HB := Lib.hid hbw
    clear c0 cl q1 q1' q2 q3 q4 q5
    by_cases hpm : p + 1 < m
    · have g1 : decide ((p : Int) + 1 < (m : Int)) = true := by simp; omega
      have e1 := Ext.cell hbw (HC1.out p (by omega))
      have e2 := Ext.cell hbw (HC1.out (p + 1) hpm)
      obtain ⟨hik, hkn, hbe⟩ := HA.out.2.2.2 p (by rw [HLL.out]; exact hpm)
      obtain ⟨i, hi⟩ : ∃ i, L.getD p 0 = i := ⟨_, rfl⟩
      obtain ⟨k, hk⟩ : ∃ i, L.getD (p + 1) 0 = i := ⟨_, rfl⟩
      rw [hi] at e1 hik hbe
      rw [hk] at e2 hik hkn hbe
      rw [HL.out] at hkn
      have HBE := Lib.hid hbe
      have r1 : (p : Int) < (m : Int) := by omega
      have r2 : (p : Int) + 1 < (m : Int) := by omega
      have w1 : IntKind.i64.wrap ((p : Int) + 1) = (p : Int) + 1 := IntWalk.i64_in _ (by omega)
      have w2 : ((p : Int) + 1).toNat = p + 1 := by omega
      have w3 : (0 : Int) ≤ (p : Int) + 1 := by omega
      clear hbw hbe hi hk
      go_wp2
      go_quiet (fail)
      clear w1 w2 w3 e1 e2
      have g2 : decide ((k : Int) ≤ (i : Int)) = false := by simp; omega
      have g3 : decide ((i : Int) < 0) = false := by simp
      have g4 : decide ((n : Int) ≤ (k : Int)) = false := by simp; omega
      have HB2 : Hid (∀ nq, Below w.heap.size w (wi.drewN nq)) := fun nq => below_drewN HB.out nq
      go_wp2
      go_loopw [10] (fun x wr => ∃ j : Nat, x = .int .i64 j ∧ i + 1 ≤ j ∧ j ≤ k ∧ Below w.heap.size w wr) (fun x _ => k - (intOf x).toNat)
      case atStart => exact ⟨i + 1, by go_num, by omega, by omega, HB2.out _⟩
      case round =>
        clear HB2
        obtain ⟨j, rfl, hj1, hj2, hbw⟩ := hrel
        obtain ⟨wj, rfl⟩ : ∃ wo : World, wo = wr := ⟨_, rfl⟩
        have HB3 := Lib.hid hbw
        clear hbw
        by_cases hjk : j < k
        · have g5 : decide ((j : Int) < (k : Int)) = true := by simp; omega
          obtain ⟨t, o, rfl, hcell⟩ := (H.out.below HB3.out).at_ (by omega)
          obtain ⟨a1, a2⟩ := hcell i (by omega)
          obtain ⟨a3, a4⟩ := hcell j (by omega)
          obtain ⟨a5, a6⟩ := hcell k hkn
          have oi := (HV.out.2.2 i (by rw [HL.out]; omega))
          have oj := (HV.out.2.2 j (by rw [HL.out]; omega))
          have oq := (HV.out.2.2 k (by rw [HL.out]; exact hkn))
          obtain ⟨m1, m2⟩ := trn_bd HV.out (i := i) (j := j) (k := k) (by rw [HL.out]; omega) (by rw [HL.out]; omega) (by rw [HL.out]; exact hkn)
          have HT : Hid (trn (tm rs) (ysg rs sg) i j k = sg * (((rs.getD j (0, 0)).1 - (rs.getD i (0, 0)).1) * ((rs.getD k (0, 0)).2 - (rs.getD i (0, 0)).2) - ((rs.getD k (0, 0)).1 - (rs.getD i (0, 0)).1) * ((rs.getD j (0, 0)).2 - (rs.getD i (0, 0)).2))) := trn_raw rs sg i j k
          unfold okAt at oi oj oq
          unfold tm ofs at m1 m2
          clear hcell
          obtain ⟨ti, eti⟩ : ∃ x, (rs.getD i (0, 0)).1 = x := ⟨_, rfl⟩
          obtain ⟨yi, eyi⟩ : ∃ x, (rs.getD i (0, 0)).2 = x := ⟨_, rfl⟩
          obtain ⟨tj, etj⟩ : ∃ x, (rs.getD j (0, 0)).1 = x := ⟨_, rfl⟩
          obtain ⟨yj, eyj⟩ : ∃ x, (rs.getD j (0, 0)).2 = x := ⟨_, rfl⟩
          obtain ⟨tq', etq⟩ : ∃ x, (rs.getD k (0, 0)).1 = x := ⟨_, rfl⟩
          obtain ⟨yq', eyq⟩ : ∃ x, (rs.getD k (0, 0)).2 = x := ⟨_, rfl⟩
          rw [eti, eyi] at oi
          rw [etj, eyj] at oj
          rw [etq, eyq] at oq
          rw [eti, eyi, etj, eyj, etq, eyq] at HT
          rw [eti, eyi, etj, eyq] at m1
          rw [eti, eyi, etq, eyj] at m2
          rw [eti] at a1
          rw [eyi] at a2
          rw [etj] at a3
          rw [eyj] at a4
          rw [etq] at a5
          rw [eyq] at a6
          clear eti eyi etj eyj etq eyq
          obtain ⟨d1, e1⟩ : ∃ x, tj - ti = x := ⟨_, rfl⟩
          obtain ⟨d2, e2⟩ : ∃ x, yq' - yi = x := ⟨_, rfl⟩
          obtain ⟨d3, e3⟩ : ∃ x, tq' - ti = x := ⟨_, rfl⟩
          obtain ⟨d4, e4⟩ : ∃ x, yj - yi = x := ⟨_, rfl⟩
          rw [e1, e2, e3, e4] at HT
          rw [e1, e2] at m1
          rw [e3, e4] at m2
          obtain ⟨f1, e5⟩ : ∃ x, d1 * d2 = x := ⟨_, rfl⟩
          obtain ⟨f2, e6⟩ : ∃ x, d3 * d4 = x := ⟨_, rfl⟩
          rw [e5, e6] at HT
          rw [e5] at m1
          rw [e6] at m2
          obtain ⟨f3, e7⟩ : ∃ x, f1 - f2 = x := ⟨_, rfl⟩
          rw [e7] at HT
          obtain ⟨u, e8⟩ : ∃ x, sg * f3 = x := ⟨_, rfl⟩
          rw [e8] at HT
          have f3b : -8000000000000 ≤ f3 ∧ f3 ≤ 8000000000000 := by omega
          have ub : -8000000000000 ≤ u ∧ u ≤ 8000000000000 := by rcases HSG.out with h | h <;> subst h <;> omega
          have w1 : IntKind.i64.wrap (tj - ti) = d1 := by rw [e1]; exact IntWalk.i64_in _ (by omega)
          have w2 : IntKind.i64.wrap (yq' - yi) = d2 := by rw [e2]; exact IntWalk.i64_in _ (by omega)
          have w3 : IntKind.i64.wrap (tq' - ti) = d3 := by rw [e3]; exact IntWalk.i64_in _ (by omega)
          have w4 : IntKind.i64.wrap (yj - yi) = d4 := by rw [e4]; exact IntWalk.i64_in _ (by omega)
          have w5 : IntKind.i64.wrap (d1 * d2) = f1 := by rw [e5]; exact IntWalk.i64_in _ (by omega)
          have w6 : IntKind.i64.wrap (d3 * d4) = f2 := by rw [e6]; exact IntWalk.i64_in _ (by omega)
          have w7 : IntKind.i64.wrap (f1 - f2) = f3 := by rw [e7]; exact IntWalk.i64_in _ (by omega)
          have HE8 := Lib.hid e8
          have ri : (i : Int) < (n : Int) := by omega
          have rj : (j : Int) < (n : Int) := by omega
          have rq : (k : Int) < (n : Int) := by omega
          have HB4 : Hid (∀ nq, Below w.heap.size w (wj.drewN nq)) := fun nq => below_drewN HB3.out nq
          have hu := HBE.out j (by omega) hjk
          rw [HT.out] at hu
          clear e1 e2 e3 e4 e5 e6 e7 e8 m1 m2 oi oj oq
          go_wp2
          go_quiet (fail)
          clear w1 w2 w3 w4 w5 w6 w7 a1 a2 a3 a4 a5 a6 f3b
          have p1 : -8000000000000 ≤ sg * f3 := by rw [HE8.out]; exact ub.1
          have p2 : sg * f3 ≤ 8000000000000 := by rw [HE8.out]; exact ub.2
          have g6 : decide (0 < sg * f3) = false := by rw [HE8.out]; simpa using hu
          clear ub hu
          go_wp2
          go_roundw
          case rel => exact ⟨j + 1, by go_num, by omega, by omega, HB4.out _⟩
          case measure => first | (simp [intOf]; done) | (simp [intOf]; omega)
        · have : j = k := by omega
          subst this
          have g5 : decide ((j : Int) < (j : Int)) = false := by simp
          go_wp2
          go_roundw
          case rel => exact ⟨p + 1, by go_num, by omega, HB3.out⟩
          case measure => first | (simp [intOf]; done) | (simp [intOf]; omega)
    · have g1 : decide ((p : Int) + 1 < (m : Int)) = false := by simp; omega
      have r2 : (m : Int) ≤ (p : Int) + 1 := by omega
      clear hbw
      go_wp2
      go_returns
      exact ⟨_, rfl, rfl, HB.out⟩
end Go.Proofs.Tb
