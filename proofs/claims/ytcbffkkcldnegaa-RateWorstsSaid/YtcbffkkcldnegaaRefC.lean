/- Contracts of the reference's numbers of any size, third part: a number in memory; lean, Neg, Abs, Sign. -/
import Derived.Test.YtcbffkkcldnegaaRefB
set_option linter.unusedVariables false
set_option linter.unusedSimpArgs false
namespace Go.Proofs.Tb
open Go.RowKit
attribute [local go_sem] cell_set_same

/-- The type of the reference's numbers. -/
abbrev TZ : TypeId := 35
/-- A number's value reads as z. -/
def ZI (w : World) (v : Value) (z : Int) : Prop := ∃ A n c, v = .agg #[.bool (ng z), .slice A n c] ∧ Sl TN w A n c (LZ z.natAbs)
theorem ZI.below {w w' : World} {v : Value} {z : Int} (h : ZI w v z) (hb : Below w.heap.size w w') : ZI w' v z := by
  obtain ⟨A, n, c, hv, h⟩ := h
  exact ⟨A, n, c, hv, h.below hb⟩
theorem Sl.posZ {w : World} {A : Option Addr} {n c m : Nat} (h : Sl TN w A n c (LZ m)) : 0 < n ↔ 0 < m := by
  have hl := h.len
  simp only [LZ, List.length_map] at hl
  have := dl_pos BT m two_BT
  unfold dl at this
  rw [hl] at this
  exact this
/-- How many digits z has. -/
def s10 (z : Int) : Nat := dl BT z.natAbs
theorem Sl.lenZ {w : World} {A : Option Addr} {n c m : Nat} (h : Sl TN w A n c (LZ m)) : n = dl BT m := by
  have hl := h.len
  simp only [LZ, List.length_map] at hl
  exact hl.symm
theorem LZ_val {xs : List Nat} (hx : Dg BT xs) (hl : xs.getLast? ≠ some 0) : xs.map I64 = LZ (val BT xs) := by rw [LZ, digs_val BT two_BT xs hx hl]

theorem Blk.low {w w' : World} {B g : Nat} {t : TypeId} {cs : Array Value} (h : Blk w g t cs) (hb : Below B w w') (hg : g < B) : Blk w' g t cs := (hb.block g hg).trans h
theorem HeldM.mk2 {w : World} {g0 g1 : Nat} {T0 T1 : TypeId} {a0 a1 : Array Value} (c0 : Blk w g0 T0 a0) (c1 : Blk w g1 T1 a1) : HeldM [(g0, a0.size, T0), (g1, a1.size, T1)] w w := by
  refine ⟨rfl, rfl, rfl, Nat.le_refl _, fun _ _ _ => rfl, ?_, ?_⟩
  all_goals
    intro r hr
    simp only [List.mem_cons, List.not_mem_nil, or_false] at hr
    rcases hr with rfl | rfl
    · exact ⟨_, c0, rfl⟩
    · exact ⟨_, c1, rfl⟩
theorem heldM2_ne {T T0 T1 : TypeId} {g0 g1 k0 k1 : Nat} (h0 : T ≠ T0) (h1 : T ≠ T1) : ∀ r, r ∈ [(g0, k0, T0), (g1, k1, T1)] → T ≠ r.2.2 := by
  intro r hr
  simp only [List.mem_cons, List.not_mem_nil, or_false] at hr
  rcases hr with rfl | rfl <;> assumption
theorem heldM2_ge {B : Nat} {T0 T1 : TypeId} {g0 g1 k0 k1 : Nat} (h0 : B ≤ g0) (h1 : B ≤ g1) : ∀ r, r ∈ [(g0, k0, T0), (g1, k1, T1)] → B ≤ r.1 := by
  intro r hr
  simp only [List.mem_cons, List.not_mem_nil, or_false] at hr
  rcases hr with rfl | rfl <;> assumption
theorem m2_0 {T0 T1 : TypeId} {g0 g1 k0 k1 : Nat} : ∃ r, r ∈ [(g0, k0, T0), (g1, k1, T1)] ∧ r.1 = g0 := ⟨_, .head _, rfl⟩
theorem m2_1 {T0 T1 : TypeId} {g0 g1 k0 k1 : Nat} : ∃ r, r ∈ [(g0, k0, T0), (g1, k1, T1)] ∧ r.1 = g1 := ⟨_, .tail _ (.head _), rfl⟩

/-- append of digits that lie somewhere to digits that the call owns. -/
theorem wp_appN {ops : Array Oper} {rest : List Oper} {o : Oper} {a : Act} {Q : Exit → Act → World → Prop} {wr : World} (hgd : o.guard = none) (s x : Operand)
    (ho : o.op = .call { callee := .builtin .append, args := #[s, x], argTypes := #[TS, TS] }) (base : Nat) (v : Value) (xs : List Nat) (hs : a.eval s = v) (hown : Ow base wr v xs)
    (A : Option Addr) (m c : Nat) (ys : List Nat) (hx : a.eval x = .slice A m c) (hsl : Sl TN wr A m c (ys.map I64)) (hn : xs.length ≤ 1000000000000) (hm : m ≤ 1000000000000) (hbase : base ≤ wr.heap.size)
    (h : ∀ v' w', Ow base w' v' (xs ++ ys) → Below base wr w' → wpList Try.prog ops Q rest (a.put o.dst v') w') : wpList Try.prog ops Q (o :: rest) a wr := by
  obtain ⟨i0, hi, hz0, hz1, hz2⟩ := info_parts int_info
  have hl := hsl.len
  rw [List.length_map] at hl
  have key : ∀ ad : Addr, A = some ad → (∀ j u, (ys.map I64)[j]? = some u → wr.cell? (ad.add j) = some u) → wpList Try.prog ops Q (o :: rest) a wr := by
    intro ad hA hc
    subst hA
    refine wpList_append_own _ hgd s x TS ho base TN i0 (.int .i64 0) 1 8 Try.underlying33 hi hz0 hz1 hz2 rfl (by decide) v xs.length (xs.map I64) hs hown ad m c (ys.map I64) hx (by simp [hl]) hc ?_ ?_ ?_ hbase ?_
    · intro u hu; obtain ⟨y, _, rfl⟩ := List.mem_map.1 hu; rfl
    · unfold maxLen; omega
    · omega
    · intro v' w' h1 h2 _
      refine h v' w' ?_ ?_
      · unfold Ow; rw [List.map_append, List.length_append, hl]; exact h1
      · exact (Below.refl _ _).grown h2 hbase (own_ge hown)
  by_cases hm0 : 0 < m
  · obtain ⟨b, o', hA, _, hc⟩ := hsl.at_ hm0
    refine key _ hA (fun j u hj => ?_)
    have hjm : j < m := by
      rcases Nat.lt_or_ge j m with h | h
      · exact h
      · rw [List.getElem?_eq_none (by simp; omega)] at hj; cases hj
    have := hc j hjm
    rw [List.getD_eq_getElem?_getD, hj] at this
    have h2 : wr.cell? ⟨b, o' + j, none⟩ = some u := this
    have h3 : (⟨b, o', none⟩ : Addr).add j = ⟨b, o' + j, none⟩ := by simp only [Addr.add]; split <;> simp_all
    rw [h3]; exact h2
  · have hm1 : m = 0 := by omega
    subst hm1
    have hy : ys = [] := List.eq_nil_of_length_eq_zero hl
    subst hy
    cases A with
    | some ad => exact key ad rfl (fun j u hj => by simp at hj)
    | none =>
      refine wpList_plain hgd fun K hK => ?_
      have hrun : (Builtin.append_ #[TS, TS] o.type #[v, .slice none 0 c]).run Try.prog wr = .ok v wr := by
        rcases hown.2 with ⟨rfl, _⟩ | ⟨g, cap, cur, rfl, _, _, hnc, _⟩
        · simp [Builtin.append_, run_underlying Try.underlying33, sizeOf, typeInfo, hi, Builtin.lenOf, Builtin.firstCells, *]
        · simp [Builtin.append_, run_underlying Try.underlying33, sizeOf, typeInfo, hi, Builtin.lenOf, Builtin.firstCells, hnc, storeCells]
      unfold Oper.wp
      simp [execOp, ho, resolve, invoke, builtin, hs, hx, hrun, Result.andThen]
      refine hK _ _ (h v wr ?_ (Below.refl _ _))
      rw [List.append_nil]; exact hown

set_option maxRecDepth 100000 in
/-- A slice cut to nothing, whatever it is. -/
theorem slice_zero (A : Option Addr) (n c : Nat) (w : World) : (Instr.sliceAt TS (.slice A n c) none (some (.int .i64 0)) none).run Try.prog w = .ok (.slice A 0 c) w := by
  obtain ⟨i0, hi, hz0, hz1, hz2⟩ := info_parts int_info
  have e : ∀ s : Nat, sliced A 0 0 c s = .slice A 0 c := by
    intro s
    unfold sliced
    rw [Nat.zero_mul, Nat.sub_zero, Nat.sub_zero]
    cases A with
    | none => simp
    | some a => simp [Addr.add]
  rw [run_sliceAt_slice _ _ _ _ _ _ Try.underlying33, run_slice_h _ _ _ _ _ Try.underlying33 .i64 0 (by omega) (by omega)]
  have hi' : Try.prog.info? (Try.prog.elem TS) = some i0 := hi
  simp [sizeOf, typeInfo, hi', Result.andThen, e]

set_option maxHeartbeats 1600000 in
set_option maxRecDepth 100000 in
theorem zlean_fr (b : Bool) (A : Option Addr) (n c : Nat) (xs : List Nat) (z : Int) (w : World) (h : Sl TN w A n c (xs.map I64)) (hx : Dg BT xs) (hm : val BT xs = z.natAbs) (hz : b = ng z ∨ z = 0) (hbig : n ≤ 1000000000000) :
    Calls Try.prog 104 #[.agg #[.bool b, .slice A n c]] w (Ret (fun v w' => ∃ A n c, v = .agg #[.bool (ng z), .slice A n c] ∧ Sl TN w' A n c (LZ z.natAbs) ∧ ∀ a, A = some a → w.heap.size ≤ a.block) w) := by
  have hn := h.le
  have hc := h.cap
  have hl := h.len
  rw [List.length_map] at hl
  have HL := Lib.hid hl
  have HH := Lib.hid h
  have HX := Lib.hid hx
  have HM := Lib.hid hm
  have HZ := Lib.hid hz
  clear h hx hl hm hz
  go_enter Try.func104, Try.ntmps104
  go_wp2
  refine wp_world (fun W0 => Blk W0 w.heap.size TZ #[.bool b, .slice A n c] ∧ Blk W0 (w.heap.size + 1) TZ #[.bool false, .slice none 0 0] ∧ Below w.heap.size w W0 ∧ w.heap.size + 1 + 1 ≤ W0.heap.size) (by exact ⟨(Blk.new_ _ _ rfl).alloc _, Blk.new_ _ _ (by simp), by go_grown, by simp⟩) ?_
  rintro W0 ⟨b0, b1, hbw, hsz⟩
  have k0 := b0.cells
  simp only [cellsAre, Nat.zero_add, Nat.reduceAdd, and_true] at k0
  have lt0 : w.heap.size < W0.heap.size := by omega
  have q0 := fun (o1 : Obj) => (World.cell?_alloc_lt W0 o1 ⟨w.heap.size, 0, none⟩ lt0).trans k0.1
  have q1 := fun (o1 : Obj) => (World.cell?_alloc_lt W0 o1 ⟨w.heap.size, 1, none⟩ lt0).trans k0.2
  have HH0 := Lib.hid (HH.out.below hbw)
  have B0 := Lib.hid b0
  have B1 := Lib.hid b1
  clear b0 b1
  go_loop [3] (fun x => ∃ m : Nat, m ≤ n ∧ val BT (xs.take m) = val BT xs ∧ x = .int .i64 m) (fun x => (intOf x).toNat)
  case atStart => exact ⟨n, Nat.le_refl _, by rw [← HL.out, List.take_length], rfl⟩
  case round =>
    obtain ⟨m, hm, hv, rfl⟩ := hrel
    have HV := Lib.hid hv
    clear hv
    by_cases hm0 : 0 < m
    · obtain ⟨bb, o, rfl, hcell⟩ := HH0.out.at_int (by omega)
      have hcl := hcell (m - 1) (by omega)
      clear hcell
      obtain ⟨d, hd⟩ : ∃ d, xs.getD (m - 1) 0 = d := ⟨_, rfl⟩
      rw [hd] at hcl
      have HD := Lib.hid hd
      clear hd
      have g1 : decide ((0 : Int) < (m : Int)) = true := by simp; omega
      have g2 : (0 : Int) ≤ (m : Int) - 1 := by omega
      have g3 : (m : Int) - 1 < (n : Int) := by omega
      by_cases hd0 : d = 0
      · subst hd0
        go_wp2
        go_round
        case rel => exact ⟨m - 1, by omega, by rw [← val_take_drop0 _ _ _ hm0 (by rw [HL.out]; exact hm) HD.out]; exact HV.out, by go_num⟩
        case measure => simp [intOf]; omega
      · have hdb : ((d : Int) == 0) = false := by simp; omega
        have HSL := Lib.hid (show Sl TN W0 (some ⟨bb, o, none⟩) m c ((xs.take m).map I64) by rw [List.map_take]; exact HH0.out.take hm)
        have HDG := Lib.hid (show (xs.take m).map I64 = LZ z.natAbs by rw [LZ_val (HX.out.take m) (last_take xs m d hm0 (by rw [HL.out]; exact hm) HD.out hd0), HV.out, HM.out])
        have HZ0 : Hid (b = ng z) := by
          rcases HZ.out with h | h
          · exact h
          · have h1 := HDG.out
            rw [h] at h1
            have h2 := congrArg List.length h1
            simp only [List.length_map] at h2
            have h3 : (LZ (Int.natAbs 0)).length = 0 := rfl
            rw [h3, List.length_take, HL.out] at h2
            omega
        cases b
        · go_wp2_with (at_builtin; refine wp_appN rfl _ _ rfl (w.heap.size + 1 + 1) _ [] rfl (Ow.empty _ _ hsz) _ _ _ (xs.take m) rfl (HSL.out.below (Below.alloc (Below.refl _ _) (Nat.le_refl _) _)) (by simp) (by omega) (by simp; omega) ?_; intro v' w1 hown1 hb1; obtain ⟨A1, n1, c1, rfl, hsl1⟩ := hown1.sl; have C0 := Lib.hid ((B0.out.alloc _).low hb1 (by omega)); have C1 := Lib.hid ((B1.out.alloc _).low hb1 (by omega)); have HB1 := Lib.hid hb1; have HS1 := Lib.hid hsl1; have HGE := Lib.hid (own_ge hown1); have kk0 := C0.out.cells; have kk1 := C1.out.cells; have ff0 := C0.out.free; have ff1 := C1.out.free; simp only [cellsAre, Nat.zero_add, Nat.reduceAdd, and_true] at kk0 kk1; clear hb1 hsl1 hown1 k0 q0 q1)
          (try simp only [Exit.inBlock, Exit.then])
          refine bodyPost_ret (v := .agg #[.bool false, .slice A1 n1 c1]) (by simp [results, Try.results104, go_sem, kk0, kk1]) rfl ?_
          have hF := (((((HeldM.mk2 C0.out C1.out).set_ m2_0 1 (.slice A1 n1 c1)).set_ m2_0 0 (.bool false)).set_ m2_1 0 (.bool false)).set_ m2_1 1 (.slice A1 n1 c1))
          exact ⟨_, rfl, ⟨A1, n1, c1, by rw [← HZ0.out], by rw [← HDG.out]; exact HS1.out.heldM hF (heldM2_ne (by decide) (by decide)), fun a ha => by have := HGE.out a.block (by rw [ha]; rfl); omega⟩, hF.below (hbw.trans (((Below.refl _ _).alloc (by omega) _).trans (HB1.out.mono (by omega)))) (heldM2_ge (by omega) (by omega))⟩
        · go_wp2_with (at_builtin; refine wp_appN rfl _ _ rfl (w.heap.size + 1 + 1) _ [] rfl (Ow.empty _ _ hsz) _ _ _ (xs.take m) rfl (HSL.out.below (Below.alloc (Below.refl _ _) (Nat.le_refl _) _)) (by simp) (by omega) (by simp; omega) ?_; intro v' w1 hown1 hb1; obtain ⟨A1, n1, c1, rfl, hsl1⟩ := hown1.sl; have C0 := Lib.hid ((B0.out.alloc _).low hb1 (by omega)); have C1 := Lib.hid ((B1.out.alloc _).low hb1 (by omega)); have HB1 := Lib.hid hb1; have HS1 := Lib.hid hsl1; have HGE := Lib.hid (own_ge hown1); have kk0 := C0.out.cells; have kk1 := C1.out.cells; have ff0 := C0.out.free; have ff1 := C1.out.free; simp only [cellsAre, Nat.zero_add, Nat.reduceAdd, and_true] at kk0 kk1; clear hb1 hsl1 hown1 k0 q0 q1)
          (try simp only [Exit.inBlock, Exit.then])
          refine bodyPost_ret (v := .agg #[.bool true, .slice A1 n1 c1]) (by simp [results, Try.results104, go_sem, kk0, kk1]) rfl ?_
          have hF := (((((HeldM.mk2 C0.out C1.out).set_ m2_0 1 (.slice A1 n1 c1)).set_ m2_0 0 (.bool true)).set_ m2_1 0 (.bool true)).set_ m2_1 1 (.slice A1 n1 c1))
          exact ⟨_, rfl, ⟨A1, n1, c1, by rw [← HZ0.out], by rw [← HDG.out]; exact HS1.out.heldM hF (heldM2_ne (by decide) (by decide)), fun a ha => by have := HGE.out a.block (by rw [ha]; rfl); omega⟩, hF.below (hbw.trans (((Below.refl _ _).alloc (by omega) _).trans (HB1.out.mono (by omega)))) (heldM2_ge (by omega) (by omega))⟩
    · have : m = 0 := by omega
      subst this
      have g1 : decide ((0 : Int) < ((0 : Nat) : Int)) = false := rfl
      have g2 := slice_zero A n c
      have HSL := Lib.hid (show Sl TN W0 A 0 c ((xs.take 0).map I64) from HH0.out.take (Nat.zero_le _))
      have HM0 : Hid (z = 0) := by
        have h1 := HV.out
        rw [HM.out] at h1
        simp [val] at h1
        show z = 0
        omega
      cases b
      · go_wp2_with (at_builtin; refine wp_appN rfl _ _ rfl (w.heap.size + 1 + 1) _ [] rfl (Ow.empty _ _ hsz) _ _ _ (xs.take 0) rfl (HSL.out.below (Below.alloc (Below.refl _ _) (Nat.le_refl _) _)) (by simp) (by omega) (by simp; omega) ?_; intro v' w1 hown1 hb1; obtain ⟨A1, n1, c1, rfl, hsl1⟩ := hown1.sl; have C0 := Lib.hid ((B0.out.alloc _).low hb1 (by omega)); have C1 := Lib.hid ((B1.out.alloc _).low hb1 (by omega)); have HB1 := Lib.hid hb1; have HS1 := Lib.hid hsl1; have HGE := Lib.hid (own_ge hown1); have kk0 := C0.out.cells; have kk1 := C1.out.cells; have ff0 := C0.out.free; have ff1 := C1.out.free; simp only [cellsAre, Nat.zero_add, Nat.reduceAdd, and_true] at kk0 kk1; clear hb1 hsl1 hown1 k0 q0 q1)
        (try simp only [Exit.inBlock, Exit.then])
        refine bodyPost_ret (v := .agg #[.bool false, .slice A1 n1 c1]) (by simp [results, Try.results104, go_sem, kk0, kk1]) rfl ?_
        have hF := (((((HeldM.mk2 C0.out C1.out).set_ m2_0 1 (.slice A1 n1 c1)).set_ m2_0 0 (.bool false)).set_ m2_1 0 (.bool false)).set_ m2_1 1 (.slice A1 n1 c1))
        exact ⟨_, rfl, ⟨A1, n1, c1, by rw [HM0.out]; rfl, by rw [HM0.out]; exact HS1.out.heldM hF (heldM2_ne (by decide) (by decide)), fun a ha => by have := HGE.out a.block (by rw [ha]; rfl); omega⟩, hF.below (hbw.trans (((Below.refl _ _).alloc (by omega) _).trans (HB1.out.mono (by omega)))) (heldM2_ge (by omega) (by omega))⟩
      · go_wp2_with (at_builtin; refine wp_appN rfl _ _ rfl (w.heap.size + 1 + 1) _ [] rfl (Ow.empty _ _ hsz) _ _ _ (xs.take 0) rfl (HSL.out.below (Below.alloc (Below.refl _ _) (Nat.le_refl _) _)) (by simp) (by omega) (by simp; omega) ?_; intro v' w1 hown1 hb1; obtain ⟨A1, n1, c1, rfl, hsl1⟩ := hown1.sl; have C0 := Lib.hid ((B0.out.alloc _).low hb1 (by omega)); have C1 := Lib.hid ((B1.out.alloc _).low hb1 (by omega)); have HB1 := Lib.hid hb1; have HS1 := Lib.hid hsl1; have HGE := Lib.hid (own_ge hown1); have kk0 := C0.out.cells; have kk1 := C1.out.cells; have ff0 := C0.out.free; have ff1 := C1.out.free; simp only [cellsAre, Nat.zero_add, Nat.reduceAdd, and_true] at kk0 kk1; clear hb1 hsl1 hown1 k0 q0 q1)
        (try simp only [Exit.inBlock, Exit.then])
        refine bodyPost_ret (v := .agg #[.bool false, .slice A1 n1 c1]) (by simp [results, Try.results104, go_sem, kk0, kk1]) rfl ?_
        have hF := (((((HeldM.mk2 C0.out C1.out).set_ m2_0 1 (.slice A1 n1 c1)).set_ m2_0 0 (.bool false)).set_ m2_1 0 (.bool false)).set_ m2_1 1 (.slice A1 n1 c1))
        exact ⟨_, rfl, ⟨A1, n1, c1, by rw [HM0.out]; rfl, by rw [HM0.out]; exact HS1.out.heldM hF (heldM2_ne (by decide) (by decide)), fun a ha => by have := HGE.out a.block (by rw [ha]; rfl); omega⟩, hF.below (hbw.trans (((Below.refl _ _).alloc (by omega) _).trans (HB1.out.mono (by omega)))) (heldM2_ge (by omega) (by omega))⟩
theorem zlean_any (b : Bool) (A : Option Addr) (n c : Nat) (xs : List Nat) (z : Int) (w : World) (h : Sl TN w A n c (xs.map I64)) (hx : Dg BT xs) (hm : val BT xs = z.natAbs) (hz : b = ng z ∨ z = 0) (hbig : n ≤ 1000000000000) :
    Calls Try.prog 104 #[.agg #[.bool b, .slice A n c]] w (Ret (fun v w' => ZI w' v z) w) :=
  (zlean_fr b A n c xs z w h hx hm hz hbig).mono fun _ _ h => h.imp fun _ _ ⟨A, n, c, hv, hs, _⟩ => ⟨A, n, c, hv, hs⟩
end Go.Proofs.Tb
