/- few: a copy of the first readings. -/
import Derived.Test.YtcbffkkcldnegaaLawB
set_option linter.unusedVariables false
set_option linter.unusedSimpArgs false
namespace Go.Proofs.Tb
open Go.RowKit
attribute [local go_sem] cell_set_same

set_option maxRecDepth 100000 in
theorem rd_slice_hi (A : Option Addr) (n c k : Nat) (w : World) (hk : k ≤ c) : (Instr.sliceAt TRS (.slice A n c) none (some (.int .i64 (k : Int))) none).run Try.prog w = .ok (.slice A k c) w := by
  obtain ⟨i0, hi, hz0, hz1, hz2⟩ := info_parts rdg_info
  have e : ∀ s : Nat, sliced A 0 k c s = .slice A k c := by
    intro s
    unfold sliced
    rw [Nat.zero_mul, Nat.sub_zero, Nat.sub_zero]
    cases A with
    | none => simp
    | some a => simp [Addr.add]
  rw [run_sliceAt_slice _ _ _ _ _ _ Try.underlying22, run_slice_h _ _ _ _ _ Try.underlying22 .i64 (k : Int) (by omega) (by omega)]
  have hi' : Try.prog.info? (Try.prog.elem TRS) = some i0 := hi
  simp [sizeOf, typeInfo, hi', Result.andThen, e]
theorem Rd.take {w : World} {A : Option Addr} {n c : Nat} {xs : List Rdg} (h : Rd w A n c xs) {k : Nat} (hk : k ≤ n) : Rd w A k c (xs.take k) := by
  have hl := h.len
  have hle := h.le
  refine ⟨by simp; omega, by omega, h.cap, fun h0 => ?_, fun x hx => h.rng x (List.mem_of_mem_take hx)⟩
  obtain ⟨b, o, hA, hc⟩ := h.at_ (by omega)
  refine ⟨b, o, hA, fun j hj => ?_⟩
  have e : (xs.take k).getD j (0, 0) = xs.getD j (0, 0) := by simp [List.getD, List.getElem?_take, hj]
  rw [e]
  exact hc j (by omega)
theorem Rd.rngI {w : World} {A : Option Addr} {n c : Nat} {xs : List Rdg} (h : Rd w A n c xs) : ∀ x, x ∈ xs → rngI x.1 ∧ rngI x.2 := fun x hx => by
  have := h.rng x hx
  unfold Go.Proofs.Tb.rngI
  omega
/-- append of readings that lie somewhere to readings that the call owns. -/
theorem wp_appRN {ops : Array Oper} {rest : List Oper} {o : Oper} {a : Act} {Q : Exit → Act → World → Prop} {wr : World} (hgd : o.guard = none) (s x : Operand)
    (ho : o.op = .call { callee := .builtin .append, args := #[s, x], argTypes := #[TRS, TRS] }) (base : Nat) (v : Value) (xs : List Rdg) (hs : a.eval s = v) (hown : OwR base wr v xs)
    (A : Option Addr) (m c : Nat) (ys : List Rdg) (hx : a.eval x = .slice A m c) (hsl : Rd wr A m c ys) (hn : xs.length ≤ 1000000000000) (hm : m ≤ 1000000000000) (hbase : base ≤ wr.heap.size)
    (h : ∀ v' w', OwR base w' v' (xs ++ ys) → Below base wr w' → wpList Try.prog ops Q rest (a.put o.dst v') w') : wpList Try.prog ops Q (o :: rest) a wr := by
  obtain ⟨i0, hi, hz0, hz1, hz2⟩ := info_parts rdg_info
  have hl := hsl.len
  have key : ∀ ad : Addr, A = some ad → (∀ j u, (rc ys)[j]? = some u → wr.cell? (ad.add j) = some u) → wpList Try.prog ops Q (o :: rest) a wr := by
    intro ad hA hc
    subst hA
    refine wpList_append_own _ hgd s x TRS ho base TRD i0 (.agg #[.int .i64 0, .int .i64 0]) 2 16 Try.underlying22 hi hz0 hz1 hz2 rfl (by decide) v xs.length (rc xs) hs hown ad m c (rc ys) hx (by rw [rc_length, hl]) hc ?_ ?_ ?_ hbase ?_
    · intro u hu
      unfold rc at hu
      obtain ⟨y, _, hy⟩ := List.mem_flatMap.1 hu
      simp only [List.mem_cons, List.not_mem_nil, or_false] at hy
      rcases hy with rfl | rfl <;> rfl
    · unfold maxLen; omega
    · omega
    · intro v' w' h1 h2 _
      refine h v' w' ?_ ?_
      · unfold OwR; rw [rc_append, List.length_append, hl]; exact h1
      · exact (Below.refl _ _).grown h2 hbase (own_geR hown)
  by_cases hm0 : 0 < m
  · obtain ⟨b, o', hA, hc⟩ := hsl.at_ hm0
    refine key _ hA (fun j u hj => ?_)
    have hjm : j < m * 2 := by
      rcases Nat.lt_or_ge j (m * 2) with h | h
      · exact h
      · rw [List.getElem?_eq_none (by rw [rc_length]; omega)] at hj; cases hj
    have h3 : (⟨b, o', none⟩ : Addr).add j = ⟨b, o' + j, none⟩ := by simp only [Addr.add]; split <;> simp_all
    rw [h3]
    have hi2 : j / 2 < m := by omega
    have h4 := hc (j / 2) hi2
    have h5 := rc_get ys (j / 2) (by omega)
    rcases Nat.mod_two_eq_zero_or_one j with hp | hp
    · have e : j / 2 * 2 = j := by omega
      rw [e] at h4 h5
      rw [h5.1] at hj
      rw [h4.1, ← hj]
    · have e : j / 2 * 2 + 1 = j := by omega
      have e2 : o' + j / 2 * 2 + 1 = o' + j := by omega
      rw [e] at h5
      rw [e2] at h4
      rw [h5.2] at hj
      rw [h4.2, ← hj]
  · have hm1 : m = 0 := by omega
    subst hm1
    have hy : ys = [] := List.eq_nil_of_length_eq_zero hl
    subst hy
    cases A with
    | some ad => exact key ad rfl (fun j u hj => by simp [rc] at hj)
    | none =>
      refine wpList_plain hgd fun K hK => ?_
      have hrun : (Builtin.append_ #[TRS, TRS] o.type #[v, .slice none 0 c]).run Try.prog wr = .ok v wr := by
        rcases hown.2 with ⟨rfl, _⟩ | ⟨g, cap, cur, rfl, _, _, hnc, _⟩
        · simp [Builtin.append_, run_underlying Try.underlying22, sizeOf, typeInfo, hi, Builtin.lenOf, Builtin.firstCells, *]
        · simp [Builtin.append_, run_underlying Try.underlying22, sizeOf, typeInfo, hi, Builtin.lenOf, Builtin.firstCells, hnc, storeCells]
      unfold Oper.wp
      simp [execOp, ho, resolve, invoke, builtin, hs, hx, hrun, Result.andThen]
      refine hK _ _ (h v wr ?_ (Below.refl _ _))
      rw [List.append_nil]; exact hown
/-- What few keeps. -/
def fewL (xs : List Rdg) (most : Nat) : List Rdg := if xs.length ≤ 64 then xs.take most else xs.take 65
theorem fewL_a {xs : List Rdg} {n most : Nat} (hl : xs.length = n) (h : n ≤ 64) (h2 : n ≤ most) : xs.take n = fewL xs most := by
  unfold fewL; rw [if_pos (by omega), List.take_of_length_le (by omega), List.take_of_length_le (by omega)]
theorem fewL_b {xs : List Rdg} {n most : Nat} (hl : xs.length = n) (h : n ≤ 64) : xs.take most = fewL xs most := by
  unfold fewL; rw [if_pos (by omega)]
theorem fewL_c {xs : List Rdg} {n : Nat} (most : Nat) (hl : xs.length = n) (h : ¬ n ≤ 64) : xs.take 65 = fewL xs most := by
  unfold fewL; rw [if_neg (by omega)]

set_option maxHeartbeats 1600000 in
theorem few_any (A : Option Addr) (n c : Nat) (xs : List Rdg) (most : Nat) (w : World) (h : Rd w A n c xs) (hm : most ≤ 64) :
    Calls Try.prog 28 #[.slice A n c, .int .i64 (most : Int)] w (Ret (fun v w' => RdV w' v (fewL xs most)) w) := by
  have hn := h.le
  have hc := h.cap
  have HL := Lib.hid h.len
  have H := Lib.hid h
  clear h
  by_cases h1 : n ≤ 64
  · have d1 : decide ((n : Int) ≤ 64) = true := by simp; omega
    by_cases h2 : n ≤ most
    · have e1 : min (n : Int) (most : Int) = (n : Int) := by omega
      have e2 : min (n : Int) 65 = (n : Int) := by omega
      have s1 := rd_slice_hi A n c n
      have hbx : ∀ t, Below w.heap.size w (w.alloc (.cells #[] t)) := fun t => by go_grown
      have HBX := Lib.hid hbx
      clear hbx
      go_enter Try.func28, Try.ntmps28
      go_wp2_with (at_builtin; refine wp_appRN rfl _ _ rfl w.heap.size _ [] rfl (OwR.empty _ _ (Nat.le_refl _)) A n c (xs.take n) rfl ((H.out.below (HBX.out _)).take (by omega)) (by simp) (by omega) (HBX.out TRD).size ?_; intro v' w1 hown1 hb1)
      rw [List.nil_append] at hown1
      obtain ⟨A2, c2, rfl, hrd⟩ := hown1.rd (fun x hx => H.out.rngI x (List.mem_of_mem_take hx))
      go_returns
      exact ⟨_, rfl, by rw [← fewL_a HL.out h1 h2]; exact ⟨A2, c2, rfl, hrd⟩, (HBX.out _).trans hb1⟩
    · have e1 : min (n : Int) (most : Int) = (most : Int) := by omega
      have e2 : min (most : Int) 65 = (most : Int) := by omega
      have s1 := rd_slice_hi A n c most
      have s2 := rd_slice_hi A most c most
      have hbx : ∀ t, Below w.heap.size w (w.alloc (.cells #[] t)) := fun t => by go_grown
      have HBX := Lib.hid hbx
      clear hbx
      go_enter Try.func28, Try.ntmps28
      go_wp2_with (at_builtin; refine wp_appRN rfl _ _ rfl w.heap.size _ [] rfl (OwR.empty _ _ (Nat.le_refl _)) A most c (xs.take most) rfl ((H.out.below (HBX.out _)).take (by omega)) (by simp) (by omega) (HBX.out TRD).size ?_; intro v' w1 hown1 hb1)
      rw [List.nil_append] at hown1
      obtain ⟨A2, c2, rfl, hrd⟩ := hown1.rd (fun x hx => H.out.rngI x (List.mem_of_mem_take hx))
      go_returns
      exact ⟨_, rfl, by rw [← fewL_b HL.out h1]; exact ⟨A2, c2, rfl, hrd⟩, (HBX.out _).trans hb1⟩
  · have d1 : decide ((n : Int) ≤ 64) = false := by simp; omega
    have HF := Lib.hid (fewL_c most HL.out h1)
    by_cases h65 : n = 65
    · have e2 : min (n : Int) 65 = (n : Int) := by omega
      have HE : Hid (xs.take n = fewL xs most) := (h65 ▸ HF.out : xs.take n = fewL xs most)
      have s1 := rd_slice_hi A n c n
      have h66 : ¬ (65 < (n : Int)) := by omega
      have h67 : (n : Int) ≤ 65 := by omega
      clear h65
      have hbx : ∀ t, Below w.heap.size w (w.alloc (.cells #[] t)) := fun t => by go_grown
      have HBX := Lib.hid hbx
      clear hbx
      go_enter Try.func28, Try.ntmps28
      go_wp2_with (at_builtin; refine wp_appRN rfl _ _ rfl w.heap.size _ [] rfl (OwR.empty _ _ (Nat.le_refl _)) A n c (xs.take n) rfl ((H.out.below (HBX.out _)).take (by omega)) (by simp) (by omega) (HBX.out TRD).size ?_; intro v' w1 hown1 hb1)
      rw [List.nil_append] at hown1
      obtain ⟨A2, c2, rfl, hrd⟩ := hown1.rd (fun x hx => H.out.rngI x (List.mem_of_mem_take hx))
      go_returns
      exact ⟨_, rfl, by rw [← HE.out]; exact ⟨A2, c2, rfl, hrd⟩, (HBX.out _).trans hb1⟩
    · have h66 : 65 < (n : Int) := by omega
      have s1 : ∀ w, (Instr.sliceAt TRS (.slice A n c) none (some (.int .i64 65)) none).run Try.prog w = .ok (.slice A 65 c) w := fun w => rd_slice_hi A n c 65 w (by omega)
      have hbx : ∀ t, Below w.heap.size w (w.alloc (.cells #[] t)) := fun t => by go_grown
      have HBX := Lib.hid hbx
      clear hbx
      go_enter Try.func28, Try.ntmps28
      go_wp2_with (at_builtin; refine wp_appRN rfl _ _ rfl w.heap.size _ [] rfl (OwR.empty _ _ (Nat.le_refl _)) A 65 c (xs.take 65) rfl ((H.out.below (HBX.out _)).take (by omega)) (by simp) (by omega) (HBX.out TRD).size ?_; intro v' w1 hown1 hb1)
      rw [List.nil_append] at hown1
      obtain ⟨A2, c2, rfl, hrd⟩ := hown1.rd (fun x hx => H.out.rngI x (List.mem_of_mem_take hx))
      go_returns
      exact ⟨_, rfl, by rw [← HF.out]; exact ⟨A2, c2, rfl, hrd⟩, (HBX.out _).trans hb1⟩
end Go.Proofs.Tb
