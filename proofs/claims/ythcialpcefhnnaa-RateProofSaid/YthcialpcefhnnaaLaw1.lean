/- Readings that a call makes: append, tame. (With what follows it, in one text.) -/
import Derived.Test.YthcialpcefhnnaaRate1
import Derived.Deep.DeepCutAuto
set_option linter.unusedVariables false
set_option linter.unusedSimpArgs false
/- Readings that a call makes: append, tame. -/
namespace Go.Proofs.Tb
open Go.RowKit
attribute [local go_sem] cell_set_same

abbrev TRS : TypeId := 22
theorem rdg_info : (Try.prog.info? TRD).map (fun i => (i.zero, i.size, i.bytes)) = some (some (.agg #[.int .i64 0, .int .i64 0]), 2, 16) := by kernel_rfl
/-- The cells of readings. -/
def rc (cs : List Rdg) : List Value := cs.flatMap fun x => [.int .i64 x.1, .int .i64 x.2]
theorem rc_nil : rc [] = [] := rfl
theorem rc_append (a b : List Rdg) : rc (a ++ b) = rc a ++ rc b := by unfold rc; rw [List.flatMap_append]
theorem rc_length (cs : List Rdg) : (rc cs).length = cs.length * 2 := by
  induction cs with
  | nil => rfl
  | cons c cs ih => simp only [rc, List.flatMap_cons, List.length_append, List.length_cons, List.length_nil] at *; omega
theorem rc_get (cs : List Rdg) (j : Nat) (hj : j < cs.length) : (rc cs)[j * 2]? = some (.int .i64 (cs.getD j (0, 0)).1) ∧ (rc cs)[j * 2 + 1]? = some (.int .i64 (cs.getD j (0, 0)).2) := by
  induction cs generalizing j with
  | nil => simp at hj
  | cons c cs ih =>
    cases j with
    | zero => simp [rc]
    | succ j =>
      have := ih j (by simpa using hj)
      have e1 : (rc (c :: cs))[(j + 1) * 2]? = (rc cs)[j * 2]? := by
        show ([Value.int .i64 c.1, .int .i64 c.2] ++ rc cs)[(j + 1) * 2]? = _
        rw [List.getElem?_append_right (by simp; omega)]
        congr 1
        simp; omega
      have e2 : (rc (c :: cs))[(j + 1) * 2 + 1]? = (rc cs)[j * 2 + 1]? := by
        show ([Value.int .i64 c.1, .int .i64 c.2] ++ rc cs)[(j + 1) * 2 + 1]? = _
        rw [List.getElem?_append_right (by simp; omega)]
        congr 1
        simp; omega
      rw [e1, e2]
      simpa using this
/-- v owns the readings cs, in a block from base on. -/
def OwR (base : Nat) (w : World) (v : Value) (cs : List Rdg) : Prop := w.ownsRow base TRD 2 v cs.length (rc cs)
theorem OwR.empty (base : Nat) (w : World) (h : base ≤ w.heap.size) : OwR base (w.alloc (.cells #[] TRD)) (.slice (some ⟨w.heap.size, 0, none⟩) 0 0) [] :=
  World.ownsRow_lit w #[] 0 h (by unfold maxLen; omega) rfl
theorem OwR.alloc {base : Nat} {w : World} {v : Value} {cs : List Rdg} (h : OwR base w v cs) (o : Obj) : OwR base (w.alloc o) v cs := World.ownsRow.alloc h o
def rngI (x : Int) : Prop := -9223372036854775808 ≤ x ∧ x ≤ 9223372036854775807
theorem OwR.rd {base : Nat} {w : World} {v : Value} {cs : List Rdg} (h : OwR base w v cs) (hr : ∀ x, x ∈ cs → rngI x.1 ∧ rngI x.2) :
    ∃ A c, v = .slice A cs.length c ∧ Rd w A cs.length c cs := by
  obtain ⟨hlen, h2⟩ := h
  rcases h2 with ⟨rfl, he⟩ | ⟨g, cap, cur, rfl, _, hh, hn, hm, hs, ht⟩
  · have : cs.length = 0 := he
    rw [this]
    exact ⟨none, 0, rfl, ⟨this, Nat.le_refl _, by omega, fun h => absurd h (by omega), fun x hx => ⟨(hr x hx).1.1, (hr x hx).1.2, (hr x hx).2.1, (hr x hx).2.2⟩⟩⟩
  · refine ⟨_, _, rfl, ⟨rfl, hn, by simpa [maxLen] using hm, fun h0 => ⟨g, 0, rfl, fun j hj => ?_⟩, fun x hx => ⟨(hr x hx).1.1, (hr x hx).1.2, (hr x hx).2.1, (hr x hx).2.2⟩⟩⟩
    have hg := rc_get cs j hj
    have cell : ∀ i, i < cs.length * 2 → w.cell? ⟨g, 0 + i, none⟩ = (rc cs)[i]? := by
      intro i hi
      rw [Nat.zero_add, cell_of_row w g i cur TRD (0, 0) hh, ← ht, List.getElem?_take, if_pos hi]
      simp
    rw [Nat.add_assoc, cell _ (by omega), cell _ (by omega)]
    exact hg
theorem cell_two_new (w : World) (a b : Value) (t : TypeId) : ∀ j u, [a, b][j]? = some u → (w.alloc (.cells #[a, b] t)).cell? ((⟨w.heap.size, 0, none⟩ : Addr).add j) = some u := by
  intro j u hj
  match j, hj with
  | 0, hj => simp at hj; subst hj; simp [Addr.add]
  | 1, hj => simp at hj; subst hj; simp [Addr.add]
theorem own_geR {base : Nat} {w : World} {e : TypeId} {size n : Nat} {v : Value} {xs : List Value} (h : w.ownsRow base e size v n xs) : ∀ k, v.ownBlock = some k → base ≤ k := by
  intro k hk
  rcases h.2 with ⟨rfl, _⟩ | ⟨g, cap, cur, rfl, hb, _⟩
  · simp [Value.ownBlock] at hk
  · simp [Value.ownBlock] at hk
    omega
/-- append of one reading to readings that the call owns. -/
theorem wp_app1R {ops : Array Oper} {rest : List Oper} {o : Oper} {a : Act} {Q : Exit → Act → World → Prop} {wr : World} (hgd : o.guard = none) (s x : Operand)
    (ho : o.op = .call { callee := .builtin .append, args := #[s, x], argTypes := #[TRS, TRS] }) (base : Nat) (v : Value) (xs : List Rdg) (hs : a.eval s = v) (hown : OwR base wr v xs)
    (u u' : Int) (hx : a.eval x = .slice (some ⟨wr.heap.size, 0, none⟩) 1 1) (hn : xs.length ≤ 1000000000000) (hbase : base ≤ wr.heap.size)
    (h : ∀ v' w', OwR base w' v' (xs ++ [(u, u')]) → Below base wr w' → wpList Try.prog ops Q rest (a.put o.dst v') w') : wpList Try.prog ops Q (o :: rest) a (wr.alloc (.cells #[.int .i64 u, .int .i64 u'] TRD)) := by
  obtain ⟨i0, hi, hz0, hz1, hz2⟩ := info_parts rdg_info
  refine wpList_append_own _ hgd s x TRS ho base TRD i0 (.agg #[.int .i64 0, .int .i64 0]) 2 16 Try.underlying22 hi hz0 hz1 hz2 rfl (by decide) v xs.length (rc xs) hs (hown.alloc _) ⟨wr.heap.size, 0, none⟩ 1 1 [.int .i64 u, .int .i64 u'] hx rfl (cell_two_new _ _ _ _) ?_ ?_ ?_ ?_ ?_
  · intro y hy
    simp only [List.mem_cons, List.not_mem_nil, or_false] at hy
    rcases hy with rfl | rfl <;> rfl
  · unfold maxLen; omega
  · omega
  · simp; omega
  · intro v' w' h1 h2 _
    refine h v' w' ?_ ?_
    · unfold OwR; rw [rc_append, List.length_append]; exact h1
    · exact ((Below.refl _ _).alloc hbase _).grown h2 (by simp; omega) (own_geR hown)
theorem and15 (x : Int) : 0 ≤ bits .and .i64 x 15 ∧ bits .and .i64 x 15 ≤ 15 := by
  have h : (BitVec.ofInt 64 x &&& BitVec.ofInt 64 15).toNat ≤ 15 := by
    rw [BitVec.toNat_and]
    exact Nat.and_le_right
  have e : bits .and .i64 x 15 = IntKind.i64.wrap ((BitVec.ofInt 64 x &&& BitVec.ofInt 64 15).toNat : Int) := rfl
  rw [e, IntWalk.i64_in _ (by omega)]
  omega
theorem i64eB {a b : Int} (h : a = b) : Value.int .i64 a = .int .i64 b := by rw [h]
/-- What holds of reading k of tame readings. -/
def TmAt (rs : List Rdg) (k : Nat) : Prop :=
  (-39 ≤ (rs.getD k (0, 0)).1 ∧ (rs.getD k (0, 0)).1 ≤ 16 * (k + 1) - 40) ∧ (-999 ≤ (rs.getD k (0, 0)).2 ∧ (rs.getD k (0, 0)).2 ≤ 999) ∧ (0 < k → (rs.getD (k - 1) (0, 0)).1 < (rs.getD k (0, 0)).1)
/-- Tame readings, so far; the last one's time is a - 40. -/
def TmL (rs : List Rdg) (a : Nat) : Prop := (∀ k, k < rs.length → TmAt rs k) ∧ a ≤ 16 * rs.length ∧ (rs.length = 0 → a = 0) ∧ (0 < rs.length → (rs.getD (rs.length - 1) (0, 0)).1 = (a : Int) - 40)
theorem getD_snoc (rs : List Rdg) (x : Rdg) (k : Nat) : (rs ++ [x]).getD k (0, 0) = if k < rs.length then rs.getD k (0, 0) else if k = rs.length then x else (0, 0) := by
  by_cases h : k < rs.length
  · rw [if_pos h]; simp [List.getD, List.getElem?_append_left h]
  · rw [if_neg h]
    by_cases h2 : k = rs.length
    · rw [if_pos h2]; subst h2; simp [List.getD]
    · rw [if_neg h2]
      have : (rs ++ [x]).length ≤ k := by simp; omega
      simp [List.getD, List.getElem?_eq_none this]
theorem TmL.snoc {rs : List Rdg} {a : Nat} (h : TmL rs a) (d : Nat) (y : Int) (hd : 1 ≤ d) (hd' : d ≤ 16) (hy : -999 ≤ y) (hy' : y ≤ 999) : TmL (rs ++ [((a : Int) + d - 40, y)]) (a + d) := by
  obtain ⟨h1, h2, h3, h4⟩ := h
  refine ⟨fun k hk => ?_, by simp; omega, by simp, fun _ => ?_⟩
  · simp at hk
    by_cases hlt : k < rs.length
    · have := h1 k hlt
      unfold TmAt at this ⊢
      rw [getD_snoc, if_pos hlt]
      refine ⟨this.1, this.2.1, fun h0 => ?_⟩
      rw [getD_snoc, if_pos (by omega)]
      exact this.2.2 h0
    · have hk' : k = rs.length := by omega
      unfold TmAt
      rw [getD_snoc, if_neg hlt, if_pos hk']
      refine ⟨?_, ⟨hy, hy'⟩, fun h0 => ?_⟩
      · subst hk'; constructor
        · show -39 ≤ (a : Int) + d - 40; omega
        · show (a : Int) + d - 40 ≤ 16 * ((rs.length : Int) + 1) - 40; omega
      · rw [getD_snoc, if_pos (by omega), hk', h4 (by omega)]
        show (a : Int) - 40 < (a : Int) + d - 40; omega
  · rw [List.length_append, List.length_singleton, Nat.add_sub_cancel, getD_snoc, if_neg (by omega), if_pos rfl]
    show (a : Int) + d - 40 = ((a + d : Nat) : Int) - 40; omega
/-- Tame readings: at most most, or two. -/
def Tame (most : Nat) (rs : List Rdg) : Prop := 2 ≤ rs.length ∧ rs.length ≤ max 2 most ∧ ∀ k, k < rs.length → TmAt rs k
theorem Tame.vld {most : Nat} {rs : List Rdg} (h : Tame most rs) (hm : most ≤ 64) : Vld rs := by
  obtain ⟨h1, h2, h3⟩ := h
  refine ⟨h1, by omega, fun k hk => ?_⟩
  have := h3 k hk
  unfold TmAt at this
  unfold okAt
  have hk64 : k < 64 := by omega
  refine ⟨by omega, by omega, by omega, by omega, this.2.2⟩
theorem TmL.rng {rs : List Rdg} {a : Nat} (h : TmL rs a) (hl : rs.length ≤ 64) : ∀ x, x ∈ rs → rngI x.1 ∧ rngI x.2 := by
  intro x hx
  obtain ⟨k, hk, rfl⟩ := List.getElem_of_mem hx
  have := h.1 k hk
  unfold TmAt at this
  have e : rs.getD k (0, 0) = rs[k] := by simp [List.getD, hk]
  rw [e] at this
  unfold rngI
  omega
/-- A value that reads as readings. -/
def RdV (w : World) (v : Value) (rs : List Rdg) : Prop := ∃ A c, v = .slice A rs.length c ∧ Rd w A rs.length c rs
def TameV (most : Nat) (v : Value) (w : World) : Prop := ∃ rs, Tame most rs ∧ RdV w v rs

set_option maxHeartbeats 3200000 in
set_option maxRecDepth 100000 in
theorem tame_any (A : Option Addr) (n c : Nat) (xs : List Rdg) (most : Nat) (w : World) (h : Rd w A n c xs) (hm : most ≤ 64) :
    Calls Try.prog 4 #[.slice A n c, .int .i64 (most : Int)] w (Ret (TameV most) w) := by
  have hn := h.le
  have hc := h.cap
  have H := Lib.hid h
  clear h
  go_enter Try.func4, Try.ntmps4
  go_wp2
  go_loopw [5, 6, 7] (fun v at_ i wr => ∃ (k a : Nat) (cs : List Rdg), k ≤ n ∧ k ≤ most ∧ i = .int .i64 k ∧ at_ = .int .i64 a ∧ cs.length = k ∧ TmL cs a ∧ OwR w.heap.size wr v cs ∧ Below w.heap.size w wr) (fun _ _ i _ => n - (intOf i).toNat)
  case atStart => exact ⟨0, 0, [], by omega, by omega, rfl, rfl, rfl, ⟨fun k hk => absurd hk (by simp), by simp, fun _ => rfl, fun h => absurd h (by simp)⟩, OwR.empty _ _ (Nat.le_refl _), by go_grown⟩
  case round =>
    obtain ⟨k, a, cs, hk, hkm, rfl, rfl, hcl, htm, hown, hbw⟩ := hrel
    have ha : a ≤ 1024 := by have := htm.2.1; omega
    have HCL := Lib.hid hcl
    have HTM := Lib.hid htm
    have HO := Lib.hid hown
    clear hcl htm hown
    by_cases hkn : k < n
    · have g1 : decide ((k : Int) < (n : Int)) = true := by simp; omega
      by_cases hkmo : k < most
      · have g2 : decide ((k : Int) < (most : Int)) = true := by simp; omega
        obtain ⟨t, o, rfl, hcell⟩ := (H.out.below hbw).at_ (by omega)
        obtain ⟨ck1, ck2⟩ := hcell k hkn
        obtain ⟨t1, t2, y1, y2⟩ := H.out.getD_rng k
        obtain ⟨x, hx⟩ : ∃ x, (xs.getD k (0, 0)).1 = x := ⟨_, rfl⟩
        obtain ⟨y, hy⟩ : ∃ y, (xs.getD k (0, 0)).2 = y := ⟨_, rfl⟩
        rw [hx] at ck1 t1 t2
        rw [hy] at ck2 y1 y2
        obtain ⟨b1, b2⟩ := and15 x
        obtain ⟨d, hd⟩ : ∃ d : Nat, bits .and .i64 x 15 = (d : Int) := ⟨(bits .and .i64 x 15).toNat, by omega⟩
        have hd15 : d ≤ 15 := by omega
        have z1 : -999 ≤ y.tmod 1000 := by have := Int.lt_tmod_of_pos y (b := 1000) (by omega); omega
        have z2 : y.tmod 1000 ≤ 999 := by have := Int.tmod_lt_of_pos y (b := 1000) (by omega); omega
        obtain ⟨r, hr⟩ : ∃ r, y.tmod 1000 = r := ⟨_, rfl⟩
        rw [hr] at z1 z2
        clear hcell hx hy b1 b2
        go_wp2_with (at_builtin; refine wp_app1R rfl _ _ rfl w.heap.size _ cs rfl HO.out _ _ rfl (by rw [HCL.out]; omega) hbw.size ?_; intro v' w1 hown1 hb1)
        have e : (a : Int) + (1 + (d : Int)) - 40 = (a : Int) + ((d + 1 : Nat) : Int) - 40 := by omega
        rw [e] at hown1
        go_roundw
        case rel => exact ⟨k + 1, a + (d + 1), _, by omega, by omega, by go_num, i64eB (by omega), by simp [HCL.out], HTM.out.snoc (d + 1) r (by omega) (by omega) z1 z2, hown1, hbw.trans hb1⟩
        case measure => simp [intOf]; omega
      · have hkm2 : k = most := by omega
        have g2 : decide ((k : Int) < (most : Int)) = false := by simp; omega
        go_wp2
        go_loopw [5, 6] (fun v at_ wx => ∃ (a : Nat) (cs : List Rdg), at_ = .int .i64 a ∧ cs.length ≤ max 2 most ∧ TmL cs a ∧ OwR w.heap.size wx v cs ∧ Below w.heap.size w wx) (fun v _ _ => match v with | .slice _ n _ => 2 - n | _ => 0)
        case atStart => exact ⟨a, cs, rfl, by have := HCL.out; omega, HTM.out, HO.out, hbw⟩
        case round =>
          clear HCL HTM HO hbw ha
          obtain ⟨a2, cs2, rfl, hcl2, htm2, hown2, hbw2⟩ := hrel
          have hl64 : cs2.length ≤ 64 := by omega
          have ha2 : a2 ≤ 1024 := by have := htm2.2.1; omega
          obtain ⟨A2, c2, rfl, hrd⟩ := hown2.rd (htm2.rng hl64)
          have HTM2 := Lib.hid htm2
          have HO2 := Lib.hid hown2
          have HR2 := Lib.hid hrd
          have hc2 := hrd.cap
          have hn2 := hrd.le
          obtain ⟨l2, hl2⟩ : ∃ l, cs2.length = l := ⟨_, rfl⟩
          rw [hl2] at hl64 hcl2 hn2 HR2 HO2 ⊢
          have HL2 := Lib.hid hl2
          clear htm2 hown2 hrd hl2
          by_cases hlt : l2 < 2
          · go_wp2_with (at_builtin; refine wp_app1R rfl _ _ rfl w.heap.size _ cs2 rfl HO2.out _ _ rfl (by rw [HL2.out]; omega) hbw2.size ?_; intro v' w1 hown1 hb1)
            have e : (a2 : Int) + 1 - 40 = (a2 : Int) + ((1 : Nat) : Int) - 40 := by omega
            rw [e] at hown1
            have hsn := HTM2.out.snoc 1 (l2 : Int) (by omega) (by omega) (by omega) (by omega)
            have hlen : (cs2 ++ [((a2 : Int) + ((1 : Nat) : Int) - 40, (l2 : Int))]).length = l2 + 1 := by simp [HL2.out]
            obtain ⟨A3, c3, rfl, _⟩ := hown1.rd (hsn.rng (by rw [hlen]; omega))
            go_roundw
            case rel => exact ⟨a2 + 1, _, by go_num, by rw [hlen]; omega, hsn, hown1, hbw2.trans hb1⟩
            case measure => simp only [hlen]; simp; omega
          · go_wp2
            go_returns
            have HT : Tame most cs2 := ⟨by rw [HL2.out]; omega, by rw [HL2.out]; omega, HTM2.out.1⟩
            have HV : RdV _ (.slice A2 l2 c2) cs2 := ⟨A2, c2, by rw [HL2.out], by rw [HL2.out]; exact HR2.out⟩
            exact ⟨_, rfl, ⟨cs2, HT, HV⟩, hbw2⟩
    · have g1 : decide ((k : Int) < (n : Int)) = false := by simp; omega
      go_wp2
      go_loopw [5, 6] (fun v at_ wx => ∃ (a : Nat) (cs : List Rdg), at_ = .int .i64 a ∧ cs.length ≤ max 2 most ∧ TmL cs a ∧ OwR w.heap.size wx v cs ∧ Below w.heap.size w wx) (fun v _ _ => match v with | .slice _ n _ => 2 - n | _ => 0)
      case atStart => exact ⟨a, cs, rfl, by have := HCL.out; omega, HTM.out, HO.out, hbw⟩
      case round =>
        clear HCL HTM HO hbw ha
        obtain ⟨a2, cs2, rfl, hcl2, htm2, hown2, hbw2⟩ := hrel
        have hl64 : cs2.length ≤ 64 := by omega
        have ha2 : a2 ≤ 1024 := by have := htm2.2.1; omega
        obtain ⟨A2, c2, rfl, hrd⟩ := hown2.rd (htm2.rng hl64)
        have HTM2 := Lib.hid htm2
        have HO2 := Lib.hid hown2
        have HR2 := Lib.hid hrd
        have hc2 := hrd.cap
        have hn2 := hrd.le
        obtain ⟨l2, hl2⟩ : ∃ l, cs2.length = l := ⟨_, rfl⟩
        rw [hl2] at hl64 hcl2 hn2 HR2 HO2 ⊢
        have HL2 := Lib.hid hl2
        clear htm2 hown2 hrd hl2
        by_cases hlt : l2 < 2
        · go_wp2_with (at_builtin; refine wp_app1R rfl _ _ rfl w.heap.size _ cs2 rfl HO2.out _ _ rfl (by rw [HL2.out]; omega) hbw2.size ?_; intro v' w1 hown1 hb1)
          have e : (a2 : Int) + 1 - 40 = (a2 : Int) + ((1 : Nat) : Int) - 40 := by omega
          rw [e] at hown1
          have hsn := HTM2.out.snoc 1 (l2 : Int) (by omega) (by omega) (by omega) (by omega)
          have hlen : (cs2 ++ [((a2 : Int) + ((1 : Nat) : Int) - 40, (l2 : Int))]).length = l2 + 1 := by simp [HL2.out]
          obtain ⟨A3, c3, rfl, _⟩ := hown1.rd (hsn.rng (by rw [hlen]; omega))
          go_roundw
          case rel => exact ⟨a2 + 1, _, by go_num, by rw [hlen]; omega, hsn, hown1, hbw2.trans hb1⟩
          case measure => simp only [hlen]; simp; omega
        · go_wp2
          go_returns
          have HT : Tame most cs2 := ⟨by rw [HL2.out]; omega, by rw [HL2.out]; omega, HTM2.out.1⟩
          have HV : RdV _ (.slice A2 l2 c2) cs2 := ⟨A2, c2, by rw [HL2.out], by rw [HL2.out]; exact HR2.out⟩
          exact ⟨_, rfl, ⟨cs2, HT, HV⟩, hbw2⟩
end Go.Proofs.Tb
/- few: a copy of the first readings. -/
namespace Go.Proofs.Tb
open Go.RowKit
attribute [local go_sem] cell_set_same

set_option maxRecDepth 100000 in
theorem rd_slice_hi (A : Option Addr) (n c k : Nat) (w : World) (hk : k ≤ c) : (Instr.sliceAt TRS (.slice A n c) none (some (.int .i64 (k : Int))) none).run Try.prog w = .ok (.slice A k c) w := by
  obtain ⟨i0, hi, hz0, hz1, hz2⟩ := info_parts rdg_info
  have e : ∀ s : Nat, sliced A 0 k c s = .slice A k c := by
    intro s
    unfold sliced
    rw [Nat.zero_mul, Nat.sub_zero, Nat.sub_zero]
    cases A with
    | none => simp
    | some a => simp [Addr.add]
  rw [run_sliceAt_slice _ _ _ _ _ _ Try.underlying22, run_slice_h _ _ _ _ _ Try.underlying22 .i64 (k : Int) (by omega) (by omega)]
  have hi' : Try.prog.info? (Try.prog.elem TRS) = some i0 := hi
  simp [sizeOf, typeInfo, hi', Result.andThen, e]
theorem Rd.take {w : World} {A : Option Addr} {n c : Nat} {xs : List Rdg} (h : Rd w A n c xs) {k : Nat} (hk : k ≤ n) : Rd w A k c (xs.take k) := by
  have hl := h.len
  have hle := h.le
  refine ⟨by simp; omega, by omega, h.cap, fun h0 => ?_, fun x hx => h.rng x (List.mem_of_mem_take hx)⟩
  obtain ⟨b, o, hA, hc⟩ := h.at_ (by omega)
  refine ⟨b, o, hA, fun j hj => ?_⟩
  have e : (xs.take k).getD j (0, 0) = xs.getD j (0, 0) := by simp [List.getD, List.getElem?_take, hj]
  rw [e]
  exact hc j (by omega)
theorem Rd.rngI {w : World} {A : Option Addr} {n c : Nat} {xs : List Rdg} (h : Rd w A n c xs) : ∀ x, x ∈ xs → rngI x.1 ∧ rngI x.2 := fun x hx => by
  have := h.rng x hx
  unfold Go.Proofs.Tb.rngI
  omega
/-- append of readings that lie somewhere to readings that the call owns. -/
theorem wp_appRN {ops : Array Oper} {rest : List Oper} {o : Oper} {a : Act} {Q : Exit → Act → World → Prop} {wr : World} (hgd : o.guard = none) (s x : Operand)
    (ho : o.op = .call { callee := .builtin .append, args := #[s, x], argTypes := #[TRS, TRS] }) (base : Nat) (v : Value) (xs : List Rdg) (hs : a.eval s = v) (hown : OwR base wr v xs)
    (A : Option Addr) (m c : Nat) (ys : List Rdg) (hx : a.eval x = .slice A m c) (hsl : Rd wr A m c ys) (hn : xs.length ≤ 1000000000000) (hm : m ≤ 1000000000000) (hbase : base ≤ wr.heap.size)
    (h : ∀ v' w', OwR base w' v' (xs ++ ys) → Below base wr w' → wpList Try.prog ops Q rest (a.put o.dst v') w') : wpList Try.prog ops Q (o :: rest) a wr := by
  obtain ⟨i0, hi, hz0, hz1, hz2⟩ := info_parts rdg_info
  have hl := hsl.len
  have key : ∀ ad : Addr, A = some ad → (∀ j u, (rc ys)[j]? = some u → wr.cell? (ad.add j) = some u) → wpList Try.prog ops Q (o :: rest) a wr := by
    intro ad hA hc
    subst hA
    refine wpList_append_own _ hgd s x TRS ho base TRD i0 (.agg #[.int .i64 0, .int .i64 0]) 2 16 Try.underlying22 hi hz0 hz1 hz2 rfl (by decide) v xs.length (rc xs) hs hown ad m c (rc ys) hx (by rw [rc_length, hl]) hc ?_ ?_ ?_ hbase ?_
    · intro u hu
      unfold rc at hu
      obtain ⟨y, _, hy⟩ := List.mem_flatMap.1 hu
      simp only [List.mem_cons, List.not_mem_nil, or_false] at hy
      rcases hy with rfl | rfl <;> rfl
    · unfold maxLen; omega
    · omega
    · intro v' w' h1 h2 _
      refine h v' w' ?_ ?_
      · unfold OwR; rw [rc_append, List.length_append, hl]; exact h1
      · exact (Below.refl _ _).grown h2 hbase (own_geR hown)
  by_cases hm0 : 0 < m
  · obtain ⟨b, o', hA, hc⟩ := hsl.at_ hm0
    refine key _ hA (fun j u hj => ?_)
    have hjm : j < m * 2 := by
      rcases Nat.lt_or_ge j (m * 2) with h | h
      · exact h
      · rw [List.getElem?_eq_none (by rw [rc_length]; omega)] at hj; cases hj
    have h3 : (⟨b, o', none⟩ : Addr).add j = ⟨b, o' + j, none⟩ := by simp only [Addr.add]; split <;> simp_all
    rw [h3]
    have hi2 : j / 2 < m := by omega
    have h4 := hc (j / 2) hi2
    have h5 := rc_get ys (j / 2) (by omega)
    rcases Nat.mod_two_eq_zero_or_one j with hp | hp
    · have e : j / 2 * 2 = j := by omega
      rw [e] at h4 h5
      rw [h5.1] at hj
      rw [h4.1, ← hj]
    · have e : j / 2 * 2 + 1 = j := by omega
      have e2 : o' + j / 2 * 2 + 1 = o' + j := by omega
      rw [e] at h5
      rw [e2] at h4
      rw [h5.2] at hj
      rw [h4.2, ← hj]
  · have hm1 : m = 0 := by omega
    subst hm1
    have hy : ys = [] := List.eq_nil_of_length_eq_zero hl
    subst hy
    cases A with
    | some ad => exact key ad rfl (fun j u hj => by simp [rc] at hj)
    | none =>
      refine wpList_plain hgd fun K hK => ?_
      have hrun : (Builtin.append_ #[TRS, TRS] o.type #[v, .slice none 0 c]).run Try.prog wr = .ok v wr := by
        rcases hown.2 with ⟨rfl, _⟩ | ⟨g, cap, cur, rfl, _, _, hnc, _⟩
        · simp [Builtin.append_, run_underlying Try.underlying22, sizeOf, typeInfo, hi, Builtin.lenOf, Builtin.firstCells, *]
        · simp [Builtin.append_, run_underlying Try.underlying22, sizeOf, typeInfo, hi, Builtin.lenOf, Builtin.firstCells, hnc, storeCells]
      unfold Oper.wp
      simp [execOp, ho, resolve, invoke, builtin, hs, hx, hrun, Result.andThen]
      refine hK _ _ (h v wr ?_ (Below.refl _ _))
      rw [List.append_nil]; exact hown
/-- What few keeps. -/
def fewL (xs : List Rdg) (most : Nat) : List Rdg := if xs.length ≤ 64 then xs.take most else xs.take 65
theorem fewL_a {xs : List Rdg} {n most : Nat} (hl : xs.length = n) (h : n ≤ 64) (h2 : n ≤ most) : xs.take n = fewL xs most := by
  unfold fewL; rw [if_pos (by omega), List.take_of_length_le (by omega), List.take_of_length_le (by omega)]
theorem fewL_b {xs : List Rdg} {n most : Nat} (hl : xs.length = n) (h : n ≤ 64) : xs.take most = fewL xs most := by
  unfold fewL; rw [if_pos (by omega)]
theorem fewL_c {xs : List Rdg} {n : Nat} (most : Nat) (hl : xs.length = n) (h : ¬ n ≤ 64) : xs.take 65 = fewL xs most := by
  unfold fewL; rw [if_neg (by omega)]

end Go.Proofs.Tb
