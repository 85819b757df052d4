/- Contract of Restart. -/
import Derived.Test.YtfljnfdeboibhaaRqu
set_option linter.unusedVariables false
set_option linter.unusedSimpArgs false
namespace Go.Proofs.Tb
open Go.Maps Go.RowKit Go.Sort Go.Shelf Go.Lib
attribute [local go_sem] cell_set_same neqMapL

theorem rkeysY_any (b : Nat) (w : World) : Calls Try.prog 74 #[.map (some b)] w (Ret (fun v w' => v = .func (.func 97) #[] #[.pointer (some ⟨w.heap.size, 0, none⟩)] ∧ Blk w' w.heap.size TLM #[.map (some b)] ∧ Ext w w') w) := by
  have h : CallsIn Fence.wide 5 Try.prog 74 #[.map (some b)] w fun e w' => e = .returned (.func (.func 97) #[] #[.pointer (some ⟨w.heap.size, 0, none⟩)]) ∧ w' = w.alloc (.cells #[.map (some b)] TLM) := AnyZI.keys_in keysY_lay Fence.wide 5 trivial rfl (some b) w
  refine ((callsIn_wide (n := 5)).1 h).mono ?_
  rintro e w' ⟨rfl, rfl⟩
  exact ⟨_, rfl, ⟨rfl, Blk.new_ _ _ rfl, Ext.allocR _ _⟩, Ext.allocR _ _⟩
theorem keys_perm {w : World} {m n : Nat} {D : DataW Value} (hm : w.ownsMap Try.prog TIN RH m n D) {L : List Nat} (hL : L.Pairwise (· < ·)) (hmem : ∀ x : Int, (∃ k ∈ L, x = ((k : Nat) : Int)) ↔ Maps.has D (.int .i64 x) = true) : (L.map fun (k : Nat) => (k : Int)).Perm (intKeys D) := by
  obtain ⟨es, hD, hpw, _⟩ := hm.entries lawL
  obtain ⟨es', hD', hko⟩ := hm.keysOf
  obtain rfl : es = es' := by rw [hD] at hD'; simpa using hD'
  subst hD
  refine perm_intKeys hpw (fun p hp => by obtain ⟨v, hv⟩ := hko p hp; obtain ⟨x, _, hx, _⟩ := Maps.keyOf_i64 Try.underlying3 hv; exact ⟨x, hx⟩) ?_ fun x => ?_
  · exact List.pairwise_map.2 (hL.imp fun h e => by omega)
  · rw [← hmem x, List.mem_map]
    constructor
    · rintro ⟨k, hk, e⟩; exact ⟨k, hk, e.symm⟩
    · rintro ⟨k, hk, e⟩; exact ⟨k, hk, e.symm⟩
set_option maxHeartbeats 1600000 in
set_option maxRecDepth 100000 in
theorem rsortedY_any (Bm m n : Nat) (D : DataW Value) (L : List Nat) (w : World) (hb : Blk w Bm TLM #[.map (some m)]) (hm : w.ownsMap Try.prog TIN RH m n D) (hL : L.Pairwise (· < ·)) (hmem : ∀ x : Int, (∃ k ∈ L, x = ((k : Nat) : Int)) ↔ Maps.has D (.int .i64 x) = true) (hl : L.length ≤ 1000000) :
    Calls Try.prog 73 #[.func (.func 97) #[] #[.pointer (some ⟨Bm, 0, none⟩)]] w (Ret (fun v w' => w'.ownsRow w.heap.size TIN 1 v L.length (ri L)) w) := by
  have hc := hb.cells
  simp only [cellsAre, Nat.zero_add, Nat.reduceAdd, and_true] at hc
  have hp := keys_perm hm hL hmem
  have hsz : Maps.size D = L.length := by
    obtain ⟨es, hD, _⟩ := hm.entries lawL
    have := hp.length_eq
    rw [hD] at this ⊢
    rw [Maps.size_eq]
    unfold intKeys at this
    simp only [List.length_map] at this
    exact this.symm
  have hseq : SeqGives Fence.wide 2 Try.prog 97 #[.pointer (some ⟨Bm, 0, none⟩)] encZ (fun ss => ss.Perm (intKeys D)) (Maps.size D) w :=
    AnyZI.keys_gives keysY1_lay Fence.wide _ trivial rfl (by omega) Bm m n _ w hb.lt hc hm
  have cS := AnyZI.sorted_in sortedI_lay Fence.wide 5 trivial trivial trivial trivial rfl (by omega) (sortsI _) (enters_of Try.func96 (by kernel_rfl) rfl) 97 #[.pointer (some ⟨Bm, 0, none⟩)] trivial (enters_of Try.func97 (by kernel_rfl) rfl) _ _ (by rw [hsz]; unfold maxLen; omega) (by rw [hsz]; omega) _ hseq
  change CallsIn _ _ Try.prog 73 _ _ _ at cS
  refine ((callsIn_wide (n := 5)).1 cS).mono ?_
  rintro e w' ⟨v, ss, rfl, hS, hrow, _, hbw⟩
  have hss := rise_srt hL (hS.trans hp.symm)
  have hll : ss.length = L.length := by have := (hS.trans hp.symm).length_eq; simpa using this
  rw [hss, hll] at hrow
  refine ⟨v, rfl, ?_, hbw⟩
  have e : (L.map fun (k : Nat) => (k : Int)).map encZ = ri L := by unfold ri; rw [List.map_map]; rfl
  rw [e] at hrow
  exact hrow
variable {w : World} {d : Nat} {g : Dkg} {cur : List (List Nat)} {bl : List (List (List Nat))} {down : Bool} {left : Nat}
/-- The loose blocks, rising. -/
def looB (g : Dkg) (n : Nat) : List Nat := (List.range n).filter fun k => g.lo k
theorem looB_up (g : Dkg) (n : Nat) : (looB g n).Pairwise (· < ·) := List.pairwise_lt_range.filter _
theorem looB_mem {g : Dkg} {n k : Nat} : k ∈ looB g n ↔ k < n ∧ g.lo k = true := by
  unfold looB
  rw [List.mem_filter, List.mem_range]
theorem looB_le (g : Dkg) (n : Nat) : (looB g n).length ≤ n := by
  have := List.length_filter_le (fun k => g.lo k) (List.range n)
  rw [List.length_range] at this
  exact this
theorem DI.loose (h : DI w d g cur bl down left) (x : Int) : (∃ k ∈ looB g cur.length, x = ((k : Nat) : Int)) ↔ Maps.has g.D (.int .i64 x) = true := by
  constructor
  · rintro ⟨k, hk, rfl⟩
    obtain ⟨h1, h2⟩ := looB_mem.1 hk
    exact (h.yes k h1 h2).1
  · intro hx
    obtain ⟨k, hk, e⟩ := h.keys _ hx
    refine ⟨k, looB_mem.2 ⟨hk, ?_⟩, by injection e⟩
    cases hlo : g.lo k with
    | true => rfl
    | false =>
      have := h.no k hk hlo
      rw [← e, hx] at this
      cases this
theorem DI.reset {w' : World} (h : DI w d g cur bl down left) (hc : Chg (fun b _ => b = d) w w') {m : Nat} (hm : w'.ownsMap Try.prog TIN RH m 0 (.map [])) (hd : Blk w' d TDK #[g.v, .map (some m), .bool false, .int .i64 0]) :
    DI w' d { g with m := m, D := .map [], lo := fun _ => false } cur (cur.map fun l => [l]) false 0 := by
  have h2 : ∀ b cs, w.heap[b]? = some (.cells cs TU8 (0, 0)) → b ≠ d := fun b cs hb e => by
    have := h.dk
    unfold Blk at this
    rw [← e, hb] at this
    injection this with this
    injection this with _ e
    revert e
    decide
  have hs : ∀ {v : Value} {bs : List Nat}, SeesB w v bs → SeesB w' v bs := fun {v bs} hv => by
    rcases hv with hv | ⟨hv, hvl⟩
    · exact Or.inl hv
    · exact Or.inr ⟨own_keep hv fun b cs _ _ hb => (hc.same b _ hb (h2 b cs hb)).trans hb.symm, hvl⟩
  refine ⟨hd, by omega, hc.own h.row fun b cs hb e => h.d_row h.row (by rw [← e]; exact hb), List.length_map _, h.few, hm, fun k hk => hs (h.sees k hk), fun l hl => absurd hl (by simp [Maps.has]), fun k hk hlo => rfl, fun k hk hlo => absurd hlo Bool.false_ne_true, fun k hk => ?_, fun k hk hlo => absurd hlo Bool.false_ne_true⟩
  rw [List.getD_eq_getElem?_getD, List.getElem?_map, List.getElem?_eq_getElem hk]
  simp
/-- What Restart picks of a loose block. -/
def pickB (bl : List (List (List Nat))) (ks : List Nat) (i k : Nat) : List Nat := (bl.getD k []).getD (if i < ks.length then ks.getD i 0 % (bl.getD k []).length else 0) z64
/-- The disk after a restart. -/
structure RsC (bl : List (List (List Nat))) (ks L : List Nat) (cur0 : List (List Nat)) (j : Nat) (cur : List (List Nat)) : Prop where
  ln : cur.length = cur0.length
  lo : ∀ i, i < j → (hi : i < L.length) → cur.getD L[i] z64 = pickB bl ks i L[i]
  no : ∀ k, k ∉ L.take j → cur.getD k z64 = cur0.getD k z64
theorem RsC.zero (bl : List (List (List Nat))) (ks L : List Nat) (cur0 : List (List Nat)) : RsC bl ks L cur0 0 cur0 := ⟨rfl, fun i hi => by omega, fun _ _ => rfl⟩
theorem RsC.succ {bl : List (List (List Nat))} {ks L : List Nat} {cur0 cur : List (List Nat)} {j : Nat} (h : RsC bl ks L cur0 j cur) (hL : L.Pairwise (· < ·)) (hj : j < L.length) (hk : L[j] < cur0.length) : RsC bl ks L cur0 (j + 1) (cur.set L[j] (pickB bl ks j L[j])) := by
  refine ⟨by rw [List.length_set]; exact h.ln, fun i hi hil => ?_, fun k hkn => ?_⟩
  · by_cases e : i = j
    · subst e
      rw [set_getD_eq _ _ (by rw [h.ln]; exact hk)]
    · have hne : L[i] ≠ L[j] := by
        have := List.pairwise_iff_getElem.1 hL i j hil hj (by omega)
        omega
      rw [set_getD_ne _ _ hne]
      exact h.lo i (by omega) hil
  · rw [List.take_succ_eq_append_getElem hj, List.mem_append, not_or, List.mem_singleton] at hkn
    rw [set_getD_ne _ _ hkn.2]
    exact h.no k hkn.1
theorem pickB_mem {bl : List (List (List Nat))} {k : Nat} (h : bl.getD k [] ≠ []) (ks : List Nat) (i : Nat) : pickB bl ks i k ∈ bl.getD k [] := by
  unfold pickB
  obtain ⟨q, hq⟩ : ∃ q, (if i < ks.length then ks.getD i 0 % (bl.getD k []).length else 0) = q := ⟨_, rfl⟩
  have hp : 0 < (bl.getD k []).length := List.length_pos_iff.2 h
  have hql : q < (bl.getD k []).length := by
    rw [← hq]
    split
    · exact Nat.mod_lt _ hp
    · exact hp
  rw [hq, List.getD_eq_getElem?_getD (l := bl.getD k []), List.getElem?_eq_getElem hql]
  exact List.getElem_mem hql
theorem SeesB.form {w : World} {v : Value} {bs : List Nat} (h : SeesB w v bs) : ∃ A n c, v = .slice A n c := by
  rcases h with ⟨rfl, _⟩ | ⟨h, _⟩
  · exact ⟨_, _, _, rfl⟩
  · obtain ⟨A, c, e, _⟩ := own_rv h
    exact ⟨_, _, _, e⟩
theorem lasts_one : ∀ cur : List (List Nat), (cur.map fun l => [l]).map (fun l => l.getLastD z64) = cur
  | [] => rfl
  | l :: cur => by
    rw [List.map_cons, List.map_cons, lasts_one cur]
    rfl
def XGb (gb : Nat) (b : Nat) (o : Obj) : Prop := b = gb ∧ ∃ cs, o = .cells cs TBY (0, 0)
theorem XGb.no {gb : Nat} {T : TypeId} (hT : T ≠ TBY) (b : Nat) (cs : Array Value) : ¬ XGb gb b (.cells cs T (0, 0)) := fun ⟨_, cs', e⟩ => by
  injection e with _ e
  exact hT e
/-- Where Restart's loop stands. -/
structure RsW (w W : World) (d gb : Nat) (g : Dkg) (bl : List (List (List Nat))) (down : Bool) (left : Nat) (ks L : List Nat) (cur0 : List (List Nat)) (j : Nat) (vs' : List Value) (cur' : List (List Nat)) : Prop where
  di : DI W d { g with vs := vs' } cur' bl down left
  rs : RsC bl ks L cur0 j cur'
  ch : Chg (XGb gb) w W
set_option maxHeartbeats 6400000 in
set_option maxRecDepth 100000 in
theorem rrestart_di {F : Nat → Prop} (h : DI w d g cur bl down left) (hfp : ∀ b, g.fp d cur.length b → F b) (hF : ∀ b, w.heap.size ≤ b → F b) (hn : cur ≠ []) (A : Option Addr) (nk ck : Nat) (ks : List Nat) (hr : ∀ W, Chg (MF F) w W → Rv W 1 A nk ck (bc ks)) (hks : ∀ b ∈ ks, b < 256) (hfew : ∀ k, (bl.getD k []).length ≤ 1000000) :
    Calls Try.prog 39 #[.pointer (some ⟨d, 0, none⟩), .slice A nk ck] w fun e w' => (∃ v, e = .returned v) ∧ ∃ cur', RsC bl ks (looB g cur.length) cur (looB g cur.length).length cur' ∧ DW F w' d (cur'.map fun l => [l]) false 0 ∧ Chg (MF F) w w' := by
  obtain ⟨gb, cap, hv, hc1, hc2, hb⟩ := h.form hn
  have hle := (hr w (Chg.refl _ _)).le
  have hcp := (hr w (Chg.refl _ _)).cap
  have hkl : ks.length = nk := by have := (hr w (Chg.refl _ _)).len; rw [bc_len, Nat.mul_one] at this; exact this
  have hfw := h.few
  have HD := Lib.hid h
  have HB := Lib.hid hb
  have HV := Lib.hid hv
  have HR := Lib.hid hr
  have HKS := Lib.hid hks
  have HF := Lib.hid (And.intro hfp hF)
  have HFW := Lib.hid hfew
  have HN := Lib.hid hn
  have kd := hb.cells
  simp only [cellsAre, Nat.zero_add, Nat.reduceAdd, and_true] at kd
  obtain ⟨n, hnn⟩ : ∃ n, cur.length = n := ⟨_, rfl⟩
  have HNN := Lib.hid hnn
  obtain ⟨L, hL⟩ : ∃ L, looB g cur.length = L := ⟨_, rfl⟩
  have HL := Lib.hid hL
  have hLn : L.length ≤ n := by rw [← hL, ← hnn]; exact looB_le g cur.length
  rw [hL]
  rw [hnn] at kd hfw hc1
  clear h hb hv hr hks hfp hF hfew hn hnn hL
  have hmm := @run_makeMap Try.prog
  go_enter Try.func39, Try.ntmps39
  go_wp2_with fail
  refine (rmade_any d g.m _ down left w HB.out).mono ?_
  rintro e w1 ⟨v1, rfl, rfl, b1⟩
  have k1 := (HB.out.below b1).cells
  simp only [cellsAre, Nat.zero_add, Nat.reduceAdd, and_true] at k1
  have X1 := Lib.hid (show Ext w w1 from b1)
  clear b1 kd
  go_wp2_with fail
  refine (rkeysY_any g.m w1).mono ?_
  rintro e w2 ⟨v2, rfl, ⟨rfl, hb2, _⟩, b2⟩
  have X2 := Lib.hid (bt X1.out b2)
  have HB2 := Lib.hid hb2
  have k2 := (HB.out.below (bt X1.out b2)).cells
  simp only [cellsAre, Nat.zero_add, Nat.reduceAdd, and_true] at k2
  clear hb2 b2 k1
  go_wp2_with fail
  refine (rsortedY_any w1.heap.size g.m _ g.D L w2 HB2.out (HD.out.ext X2.out).mp (by rw [← HL.out]; exact looB_up g _) (by rw [← HL.out]; exact HD.out.loose) (by omega)).mono ?_
  rintro e w3 ⟨v3, rfl, ho3, b3⟩
  obtain ⟨A3, c3, rfl, r3⟩ := own_rv ho3
  have X3 := Lib.hid (bt X2.out b3)
  have R3 := Lib.hid r3
  have O3 := Lib.hid ho3
  have hl3 := r3.le
  have hl3' := r3.cap
  obtain ⟨m, hm⟩ : ∃ m, L.length = m := ⟨_, rfl⟩
  have HM := Lib.hid hm
  rw [hm] at R3 hl3 hLn O3 ⊢
  clear b3 r3 ho3 k2 HB2 hm
  have hw3 : RsW w w3 d gb g bl down left ks L cur 0 g.vs cur := ⟨HD.out.ext X3.out, RsC.zero _ _ _ _, Chg.ext X3.out⟩
  have HW3 := Lib.hid hw3
  clear hw3
  go_wp2_with fail
  go_loopw [17] (fun i wr => ∃ (j : Nat) (vs' : List Value) (cur' : List (List Nat)), j ≤ m ∧ i = .int .i64 (j : Int) ∧ RsW w wr d gb g bl down left ks L cur j vs' cur' ∧ Chg (XGb gb) w3 wr) (fun i _ => m - (intOf i).toNat)
  case atStart => exact ⟨0, _, _, by omega, rfl, HW3.out, Chg.refl _ _⟩
  case round =>
    clear HW3
    obtain ⟨j, vs', cur', hj, rfl, hw, hc3⟩ := hrel
    have HW := Lib.hid (And.intro hw hc3)
    clear hw hc3
    by_cases hjm : j < m
    · have pj : (j : Int) < (m : Int) := by omega
      have hjl : j < L.length := by rw [HM.out]; exact hjm
      obtain ⟨k, hk⟩ : ∃ k, L[j] = k := ⟨_, rfl⟩
      have hkm : k ∈ looB g cur.length := by rw [HL.out, ← hk]; exact List.getElem_mem hjl
      obtain ⟨hkn, hlo⟩ := looB_mem.1 hkm
      rw [HNN.out] at hkn
      have hdi := HW.out.1.di
      have hln := HW.out.1.rs.ln
      rw [HNN.out] at hln
      have hkc : k < cur'.length := by omega
      have hlk := fun W (hW : Ext wr W) => (hdi.ext hW).look hkc
      rw [if_pos hlo] at hlk
      obtain ⟨y1, y2, y3, y4⟩ := hdi.yes k hkc hlo
      obtain ⟨Ak, ck2, hLv, hrk⟩ := own_rv y3
      obtain ⟨nb, hnb⟩ : ∃ nb, (bl.getD k []).length = nb := ⟨_, rfl⟩
      have hnb1 : 1 ≤ nb := by rw [← hnb]; exact List.length_pos_iff.2 (hdi.ne k hkc)
      have hnb2 : nb ≤ 1000000 := by rw [← hnb]; exact HFW.out k
      rw [hnb] at hLv hrk y4
      have hLv : g.Lv k = .slice Ak nb ck2 := hLv
      rw [show ({ g with vs := vs' } : Dkg).Lv k = .slice Ak nb ck2 from hLv] at hlk
      have hlk : ∀ W, Ext wr W → (Instr.lookup TLM (.map (some g.m)) (.int .i64 (k : Int)) false).run Try.prog W = .ok (.slice Ak nb ck2) W := hlk
      have HLK := Lib.hid hlk
      have kd := hdi.dk.cells
      rw [show ({ g with vs := vs' } : Dkg).v = .slice (some ⟨gb, 0, none⟩) cur.length cap from HV.out, HNN.out] at kd
      simp only [cellsAre, Nat.zero_add, Nat.reduceAdd, and_true] at kd
      have hO3 : wr.ownsRow w2.heap.size TIN 1 (.slice A3 m c3) m (ri L) := by
        have := O3.out
        exact HW.out.2.own this fun b cs _ => XGb.no (by decide) _ _
      obtain ⟨b3, o3, rfl, hc3⟩ := (own_rvv hO3).at_ (by omega)
      have k3 := hc3 j (.int .i64 (k : Int)) (by
        unfold ri
        rw [List.getElem?_map, List.getElem?_eq_getElem hjl, hk]
        rfl)
      have HLV := Lib.hid hLv
      have HKK := Lib.hid (show ∃ h : j < L.length, L[j] = k from ⟨hjl, hk⟩)
      have HY := Lib.hid (And.intro hkc (And.intro hlo (And.intro hnb (And.intro y4 hrk))))
      have hle2 := hrk.le
      have hcp2 := hrk.cap
      clear hlk hk hkm hlo hdi hln y1 y2 y3 y4 hLv hrk hO3 hc3 hnb hjl
      by_cases hjk : j < nk
      · have pjk : (j : Int) < (nk : Int) := by omega
        obtain ⟨bk, ok, rfl, hck⟩ := (HR.out wr (HW.out.1.ch.mono fun b o hX => by
          obtain ⟨rfl, cs, rfl⟩ := hX
          exact ⟨HF.out.1 _ (Or.inr (Or.inr (Or.inl (by rw [HV.out]; rfl)))), Or.inr (Or.inl rfl)⟩)).at_ (by omega)
        have hjks : j < ks.length := by omega
        obtain ⟨y, hy⟩ : ∃ y, ks.getD j 0 = y := ⟨_, rfl⟩
        have hy256 : y < 256 := HKS.out y (by rw [← hy, List.getD_eq_getElem?_getD, List.getElem?_eq_getElem hjks]; exact List.getElem_mem hjks)
        have kk := hck j (.int .u8 (y : Int)) (by unfold bc; rw [List.getElem?_map, List.getElem?_eq_getElem hjks, ← hy]; simp [List.getD, hjks])
        have wy : IntKind.i64.wrap (y : Int) = (y : Int) := IntWalk.i64_in _ (by omega)
        have HYY := Lib.hid hy
        clear hck hy
        have wm : IntKind.i64.wrap ((y % nb : Nat) : Int) = ((y % nb : Nat) : Int) := IntWalk.i64_in _ (by have := Nat.mod_lt y hnb1; omega)
        go_upto_region 6 with fail
        have kkW := fun W (hh : Ext wr W) => ext_cell hh kk
        have kd1 := fun W (hh : Ext wr W) => ext_cell hh kd.1
        have kd2 := fun W (hh : Ext wr W) => ext_cell hh kd.2.1
        have hlW := HLK.out
        have hst : Ext wr wr.drew := Ext.drew _
        refine wp_region_brn (S := (Ext wr)) (by kernel_rfl) (by kernel_rfl) (fun _ _ _ _ _ => ⟨fun h => h, fun h => h⟩) ?_
        intro hsel_ hQ_
        obtain ⟨wd, hwd⟩ : ∃ wd, wr.drew = wd := ⟨_, rfl⟩
        rw [hwd] at hst ⊢
        have HST := Lib.hid hst
        clear hwd
        have q0 : ¬ nb = 0 := by omega
        obtain ⟨q, hq⟩ : ∃ q, y % nb = q := ⟨_, rfl⟩
        have hqn : q < nb := by rw [← hq]; exact Nat.mod_lt _ hnb1
        have ht1 : (y : Int) % (nb : Int) = (q : Int) := by rw [← hq]; rfl
        have ht0 : (y : Int).tmod (nb : Int) = (q : Int) := by rw [Int.tmod_eq_emod_of_nonneg (by omega)]; exact ht1
        have HQ := Lib.hid hq
        clear hq wm
        refine wpB_chunk (f := 0) (L' := #[true, true, true, true, true, true, true, true, true, true, true, true, true, true]) hsel_ hQ_ [(0, true, some 26, none), (1, true, some 27, none), (2, true, some 28, none), (3, true, some 29, none), (4, true, some 30, none), (5, true, some 31, none), (6, true, some 32, none), (7, true, some 33, none), (8, true, some 34, none), (9, true, some 35, none), (10, true, some 36, none), (11, true, some 37, none), (12, true, some 38, none), (13, false, some 6, none)] _ _ _ (by kernel_rfl) hst ?_
        repeat (first | (refine wpSeqB_pure (v := ?_) rfl ?_ ?_; rotate_left 1; (focus (intro wq_ hSq_; (try dsimp only at hSq_); go_simp; (try with_reducible rfl); done)); (try simp only [Act.put, List.setIfInBounds_toArray, List.set_cons_zero, List.set_cons_succ])) | (refine wpSeqB_pureG (v := ?_) rfl rfl ?_ ?_; rotate_left 1; (focus (intro wq_ hSq_; (try dsimp only at hSq_); go_simp; (try with_reducible rfl); done)); (try simp only [Act.put, List.setIfInBounds_toArray, List.set_cons_zero, List.set_cons_succ])) | (refine wpSeqB_off rfl rfl ?_; (try simp only [Act.put, List.setIfInBounds_toArray, List.set_cons_zero, List.set_cons_succ])) | (refine wpSeqB_offU rfl ?_; (try simp only [Act.put, List.setIfInBounds_toArray, List.set_cons_zero, List.set_cons_succ])))
        first | refine wpSeqB_call rfl (fun K hK => ?_) | refine wpSeqB_callG rfl rfl (fun K hK => ?_)
        go_simp
        refine hK.out _ _ hst ?_
        clear hK K
        (try simp only [List.getElem_toArray, List.getElem_cons_succ, List.getElem_cons_zero, Act.put, List.setIfInBounds_toArray, List.set_cons_zero, List.set_cons_succ])
        repeat (first | (refine wpSeqB_pure (v := ?_) rfl ?_ ?_; rotate_left 1; (focus (intro wq_ hSq_; (try dsimp only at hSq_); go_simp; (try with_reducible rfl); done)); (try simp only [Act.put, List.setIfInBounds_toArray, List.set_cons_zero, List.set_cons_succ])) | (refine wpSeqB_pureG (v := ?_) rfl rfl ?_ ?_; rotate_left 1; (focus (intro wq_ hSq_; (try dsimp only at hSq_); go_simp; (try with_reducible rfl); done)); (try simp only [Act.put, List.setIfInBounds_toArray, List.set_cons_zero, List.set_cons_succ])) | (refine wpSeqB_off rfl rfl ?_; (try simp only [Act.put, List.setIfInBounds_toArray, List.set_cons_zero, List.set_cons_succ])) | (refine wpSeqB_offU rfl ?_; (try simp only [Act.put, List.setIfInBounds_toArray, List.set_cons_zero, List.set_cons_succ])))
        intro s_
        refine wpB_end (by kernel_rfl) ?_
        clear s_ hsel_ hQ_ kkW kd1 kd2 hlW ht0 ht1
        have HPK := Lib.hid (show pickB bl ks j k = (bl.getD k []).getD q z64 by unfold pickB; rw [if_pos hjks, HYY.out, HY.out.2.2.1, HQ.out])
        (try go_upto_region 7 with fail)
        obtain ⟨y1, y2, y3, y4⟩ := HW.out.1.di.yes k HY.out.1 HY.out.2.1
        obtain ⟨bu, ou, hAk, hcu⟩ := HY.out.2.2.2.2.at_ (by omega)
        subst hAk
        obtain ⟨xv, hxv⟩ : ∃ xv, (g.us k).getD q nlB = xv := ⟨_, rfl⟩
        have hus : (g.us k).length = (bl.getD k []).length * 1 := y3.1
        rw [HY.out.2.2.1, Nat.mul_one] at hus
        have kx0 : wr.cell? ⟨bu, (ou + q), none⟩ = some xv := hcu q xv (by rw [← hxv, List.getD_eq_getElem?_getD]; show (g.us k)[q]? = _; rw [List.getElem?_eq_getElem (by rw [hus]; exact hqn)]; rfl)
        have hsx : SeesB wr ((g.us k).getD q nlB) ((bl.getD k []).getD q z64) := HY.out.2.2.2.1 q hqn
        rw [hxv] at hsx
        obtain ⟨Ax, nx, cx, rfl⟩ := hsx.form
        have hs7 : Ext wr (wd).drew := bt HST.out (Ext.drew _)
        refine wp_region_brn (S := (fun W => W.cell? ⟨d, 0, none⟩ = some (.slice (some ⟨gb, 0, none⟩) n cap) ∧ W.cell? ⟨d, 1, none⟩ = some (.map (some g.m)) ∧ (Instr.lookup TLM (.map (some g.m)) (.int .i64 (k : Int)) false).run Try.prog W = .ok (.slice (some ⟨bu, ou, none⟩) nb ck2) W ∧ W.cell? ⟨bu, (ou + q), none⟩ = some (.slice Ax nx cx))) (by kernel_rfl) (by kernel_rfl) (fun _ _ _ _ _ => ⟨fun h => h, fun h => h⟩) ?_
        intro hsel_ hQ_
        obtain ⟨w7, hw7⟩ : ∃ w7, (wd).drew = w7 := ⟨_, rfl⟩
        rw [hw7] at hs7 ⊢
        have s0 : w7.cell? ⟨d, 0, none⟩ = some (.slice (some ⟨gb, 0, none⟩) n cap) ∧ w7.cell? ⟨d, 1, none⟩ = some (.map (some g.m)) ∧ (Instr.lookup TLM (.map (some g.m)) (.int .i64 (k : Int)) false).run Try.prog w7 = .ok (.slice (some ⟨bu, ou, none⟩) nb ck2) w7 ∧ w7.cell? ⟨bu, (ou + q), none⟩ = some (.slice Ax nx cx) := ⟨ext_cell hs7 kd.1, ext_cell hs7 kd.2.1, HLK.out w7 hs7, ext_cell hs7 kx0⟩
        have hdi := HW.out.1.di.ext hs7
        have hvg : ({ g with vs := vs' } : Dkg).v = .slice (some ⟨gb, 0, none⟩) cur'.length cap := by have := HV.out; rw [HNN.out] at this; rw [show cur'.length = n by have := HW.out.1.rs.ln; rw [HNN.out] at this; exact this]; exact this
        have hset := hdi.seton hvg HY.out.1 (hsx.ext hs7)
        have hap : gb ≠ bu := fun e => (hdi.apart k HY.out.1 HY.out.2.1 bu (by rw [show ({ g with vs := vs' } : Dkg).Lv k = _ from HLV.out]; rfl)).1 (by rw [hvg, e]; rfl)
        obtain ⟨cs7, hcs7⟩ := own_lt' hdi.row (b := gb) (by rw [hvg]; rfl)
        have hB7 : Blk w7 gb TBY cs7 := hcs7
        have f7 := hB7.free k
        have kg7 := hdi.at_ hvg HY.out.1
        have hcb : Chg (XGb gb) w7 (w7.setCell ⟨gb, k, none⟩ (.slice Ax nx cx)) := Chg.setB hB7 ⟨rfl, _, rfl⟩ _ _
        have hdn : ∀ W, ¬ XGb gb d (.cells W TDK (0, 0)) := fun cs => XGb.no (by decide) _ _
        have s9 : (w7.setCell ⟨gb, k, none⟩ (.slice Ax nx cx)).cell? ⟨d, 0, none⟩ = some (.slice (some ⟨gb, 0, none⟩) n cap) ∧ (w7.setCell ⟨gb, k, none⟩ (.slice Ax nx cx)).cell? ⟨d, 1, none⟩ = some (.map (some g.m)) ∧ (Instr.lookup TLM (.map (some g.m)) (.int .i64 (k : Int)) false).run Try.prog (w7.setCell ⟨gb, k, none⟩ (.slice Ax nx cx)) = .ok (.slice (some ⟨bu, ou, none⟩) nb ck2) (w7.setCell ⟨gb, k, none⟩ (.slice Ax nx cx)) ∧ (w7.setCell ⟨gb, k, none⟩ (.slice Ax nx cx)).cell? ⟨bu, (ou + q), none⟩ = some (.slice Ax nx cx) := by
          have hgd : gb ≠ d := fun e => by
            have := hdi.dk
            unfold Blk at this
            rw [← e, hcs7] at this
            injection this with this
            injection this with _ e
            revert e
            decide
          refine ⟨hcb.cell s0.1 fun o hX => hgd hX.1.symm, hcb.cell s0.2.1 fun o hX => hgd hX.1.symm, ?_, hcb.cell s0.2.2.2 fun o hX => hap hX.1.symm⟩
          have h9 := hset.look (k := k) (by rw [List.length_set]; exact HY.out.1)
          rw [if_pos HY.out.2.1] at h9
          have hgl : g.Lv k = .slice (some ⟨bu, ou, none⟩) nb ck2 := HLV.out
          have h9 : (Instr.lookup TLM (.map (some g.m)) (.int .i64 (k : Int)) false).run Try.prog (w7.setCell ⟨gb, k, none⟩ (.slice Ax nx cx)) = .ok (g.Lv k) (w7.setCell ⟨gb, k, none⟩ (.slice Ax nx cx)) := h9
          rw [hgl] at h9
          exact h9
        have HRL := Lib.hid (show RsW w (w7.setCell ⟨gb, k, none⟩ (.slice Ax nx cx)) d gb g bl down left ks L cur (j + 1) (vs'.set k (.slice Ax nx cx)) (cur'.set k ((bl.getD k []).getD q z64)) ∧ Chg (XGb gb) w3 (w7.setCell ⟨gb, k, none⟩ (.slice Ax nx cx)) from ⟨⟨hset, by
          obtain ⟨hjl, hLk⟩ := HKK.out
          have h9 := HW.out.1.rs.succ (by rw [← HL.out]; exact looB_up g _) hjl (by rw [hLk]; have := HY.out.1; rw [HW.out.1.rs.ln] at this; exact this)
          rw [hLk, HPK.out] at h9
          exact h9, (HW.out.1.ch.trans (Chg.ext hs7)).trans hcb⟩, (HW.out.2.trans (Chg.ext hs7)).trans hcb⟩)
        have hcap : k < cap := by omega
        have hkn' : (k : Int) < (n : Int) := by omega
        have hqn' : ((q : Nat) : Int) < (nb : Int) := by omega
        clear hdi hset hvg hcs7 hB7 hcb hdn hap y1 y2 y3 y4 hus hcu hsx hxv hw7 kx0 hlk hLv HLK kd k3
        refine wpB_chunk (f := 0) (L' := #[true, true, true, true, true, true, true, true, true, true, true, true, true, true, true, true]) hsel_ hQ_ [(0, true, some 39, none), (1, true, some 40, none), (2, true, some 41, none), (3, true, some 42, none), (4, true, some 43, none), (5, true, some 44, none), (6, true, some 45, none), (7, true, some 46, none), (8, true, some 47, none), (9, true, some 48, none), (10, true, some 49, none), (11, true, some 50, none), (12, true, some 51, none), (13, true, some 52, none), (14, true, some 53, none), (15, false, none, none)] _ _ _ (by kernel_rfl) s0 ?_
        repeat (first | (refine wpSeqB_pure (v := ?_) rfl ?_ ?_; rotate_left 1; (focus (intro wq_ hSq_; (try dsimp only at hSq_); go_simp; (try with_reducible rfl); done)); (try simp only [Act.put, List.setIfInBounds_toArray, List.set_cons_zero, List.set_cons_succ])) | (refine wpSeqB_pureG (v := ?_) rfl rfl ?_ ?_; rotate_left 1; (focus (intro wq_ hSq_; (try dsimp only at hSq_); go_simp; (try with_reducible rfl); done)); (try simp only [Act.put, List.setIfInBounds_toArray, List.set_cons_zero, List.set_cons_succ])) | (refine wpSeqB_off rfl rfl ?_; (try simp only [Act.put, List.setIfInBounds_toArray, List.set_cons_zero, List.set_cons_succ])) | (refine wpSeqB_offU rfl ?_; (try simp only [Act.put, List.setIfInBounds_toArray, List.set_cons_zero, List.set_cons_succ])))
        first | refine wpSeqB_call rfl (fun K hK => ?_) | refine wpSeqB_callG rfl rfl (fun K hK => ?_)
        go_simp
        refine hK.out _ _ s9 ?_
        clear hK K
        (try simp only [List.getElem_toArray, List.getElem_cons_succ, List.getElem_cons_zero, Act.put, List.setIfInBounds_toArray, List.set_cons_zero, List.set_cons_succ])
        intro s_
        refine wpB_end (by kernel_rfl) ?_
        clear s_
        go_wp2
        go_roundw
        case rel => exact ⟨j + 1, _, _, by omega, by go_num, HRL.out⟩
        case measure => simp [intOf]; omega
      · have pjk : ¬ (j : Int) < (nk : Int) := by omega
        have hqn : 0 < nb := hnb1
        have HPK := Lib.hid (show pickB bl ks j k = (bl.getD k []).getD 0 z64 by unfold pickB; rw [if_neg (by omega)])
        go_upto_region 7 with fail
        (try go_upto_region 7 with fail)
        obtain ⟨y1, y2, y3, y4⟩ := HW.out.1.di.yes k HY.out.1 HY.out.2.1
        obtain ⟨bu, ou, hAk, hcu⟩ := HY.out.2.2.2.2.at_ (by omega)
        subst hAk
        obtain ⟨xv, hxv⟩ : ∃ xv, (g.us k).getD 0 nlB = xv := ⟨_, rfl⟩
        have hus : (g.us k).length = (bl.getD k []).length * 1 := y3.1
        rw [HY.out.2.2.1, Nat.mul_one] at hus
        have kx0 : wr.cell? ⟨bu, ou, none⟩ = some xv := hcu 0 xv (by rw [← hxv, List.getD_eq_getElem?_getD]; show (g.us k)[0]? = _; rw [List.getElem?_eq_getElem (by rw [hus]; exact hqn)]; rfl)
        have hsx : SeesB wr ((g.us k).getD 0 nlB) ((bl.getD k []).getD 0 z64) := HY.out.2.2.2.1 0 hqn
        rw [hxv] at hsx
        obtain ⟨Ax, nx, cx, rfl⟩ := hsx.form
        have hs7 : Ext wr (wr).drew := bt (Ext.refl wr) (Ext.drew _)
        refine wp_region_brn (S := (fun W => W.cell? ⟨d, 0, none⟩ = some (.slice (some ⟨gb, 0, none⟩) n cap) ∧ W.cell? ⟨d, 1, none⟩ = some (.map (some g.m)) ∧ (Instr.lookup TLM (.map (some g.m)) (.int .i64 (k : Int)) false).run Try.prog W = .ok (.slice (some ⟨bu, ou, none⟩) nb ck2) W ∧ W.cell? ⟨bu, ou, none⟩ = some (.slice Ax nx cx))) (by kernel_rfl) (by kernel_rfl) (fun _ _ _ _ _ => ⟨fun h => h, fun h => h⟩) ?_
        intro hsel_ hQ_
        obtain ⟨w7, hw7⟩ : ∃ w7, (wr).drew = w7 := ⟨_, rfl⟩
        rw [hw7] at hs7 ⊢
        have s0 : w7.cell? ⟨d, 0, none⟩ = some (.slice (some ⟨gb, 0, none⟩) n cap) ∧ w7.cell? ⟨d, 1, none⟩ = some (.map (some g.m)) ∧ (Instr.lookup TLM (.map (some g.m)) (.int .i64 (k : Int)) false).run Try.prog w7 = .ok (.slice (some ⟨bu, ou, none⟩) nb ck2) w7 ∧ w7.cell? ⟨bu, ou, none⟩ = some (.slice Ax nx cx) := ⟨ext_cell hs7 kd.1, ext_cell hs7 kd.2.1, HLK.out w7 hs7, ext_cell hs7 kx0⟩
        have hdi := HW.out.1.di.ext hs7
        have hvg : ({ g with vs := vs' } : Dkg).v = .slice (some ⟨gb, 0, none⟩) cur'.length cap := by have := HV.out; rw [HNN.out] at this; rw [show cur'.length = n by have := HW.out.1.rs.ln; rw [HNN.out] at this; exact this]; exact this
        have hset := hdi.seton hvg HY.out.1 (hsx.ext hs7)
        have hap : gb ≠ bu := fun e => (hdi.apart k HY.out.1 HY.out.2.1 bu (by rw [show ({ g with vs := vs' } : Dkg).Lv k = _ from HLV.out]; rfl)).1 (by rw [hvg, e]; rfl)
        obtain ⟨cs7, hcs7⟩ := own_lt' hdi.row (b := gb) (by rw [hvg]; rfl)
        have hB7 : Blk w7 gb TBY cs7 := hcs7
        have f7 := hB7.free k
        have kg7 := hdi.at_ hvg HY.out.1
        have hcb : Chg (XGb gb) w7 (w7.setCell ⟨gb, k, none⟩ (.slice Ax nx cx)) := Chg.setB hB7 ⟨rfl, _, rfl⟩ _ _
        have hdn : ∀ W, ¬ XGb gb d (.cells W TDK (0, 0)) := fun cs => XGb.no (by decide) _ _
        have s9 : (w7.setCell ⟨gb, k, none⟩ (.slice Ax nx cx)).cell? ⟨d, 0, none⟩ = some (.slice (some ⟨gb, 0, none⟩) n cap) ∧ (w7.setCell ⟨gb, k, none⟩ (.slice Ax nx cx)).cell? ⟨d, 1, none⟩ = some (.map (some g.m)) ∧ (Instr.lookup TLM (.map (some g.m)) (.int .i64 (k : Int)) false).run Try.prog (w7.setCell ⟨gb, k, none⟩ (.slice Ax nx cx)) = .ok (.slice (some ⟨bu, ou, none⟩) nb ck2) (w7.setCell ⟨gb, k, none⟩ (.slice Ax nx cx)) ∧ (w7.setCell ⟨gb, k, none⟩ (.slice Ax nx cx)).cell? ⟨bu, ou, none⟩ = some (.slice Ax nx cx) := by
          have hgd : gb ≠ d := fun e => by
            have := hdi.dk
            unfold Blk at this
            rw [← e, hcs7] at this
            injection this with this
            injection this with _ e
            revert e
            decide
          refine ⟨hcb.cell s0.1 fun o hX => hgd hX.1.symm, hcb.cell s0.2.1 fun o hX => hgd hX.1.symm, ?_, hcb.cell s0.2.2.2 fun o hX => hap hX.1.symm⟩
          have h9 := hset.look (k := k) (by rw [List.length_set]; exact HY.out.1)
          rw [if_pos HY.out.2.1] at h9
          have hgl : g.Lv k = .slice (some ⟨bu, ou, none⟩) nb ck2 := HLV.out
          have h9 : (Instr.lookup TLM (.map (some g.m)) (.int .i64 (k : Int)) false).run Try.prog (w7.setCell ⟨gb, k, none⟩ (.slice Ax nx cx)) = .ok (g.Lv k) (w7.setCell ⟨gb, k, none⟩ (.slice Ax nx cx)) := h9
          rw [hgl] at h9
          exact h9
        have HRL := Lib.hid (show RsW w (w7.setCell ⟨gb, k, none⟩ (.slice Ax nx cx)) d gb g bl down left ks L cur (j + 1) (vs'.set k (.slice Ax nx cx)) (cur'.set k ((bl.getD k []).getD 0 z64)) ∧ Chg (XGb gb) w3 (w7.setCell ⟨gb, k, none⟩ (.slice Ax nx cx)) from ⟨⟨hset, by
          obtain ⟨hjl, hLk⟩ := HKK.out
          have h9 := HW.out.1.rs.succ (by rw [← HL.out]; exact looB_up g _) hjl (by rw [hLk]; have := HY.out.1; rw [HW.out.1.rs.ln] at this; exact this)
          rw [hLk, HPK.out] at h9
          exact h9, (HW.out.1.ch.trans (Chg.ext hs7)).trans hcb⟩, (HW.out.2.trans (Chg.ext hs7)).trans hcb⟩)
        have hcap : k < cap := by omega
        have hkn' : (k : Int) < (n : Int) := by omega
        have hqn' : ((0 : Nat) : Int) < (nb : Int) := by omega
        clear hdi hset hvg hcs7 hB7 hcb hdn hap y1 y2 y3 y4 hus hcu hsx hxv hw7 kx0 hlk hLv HLK kd k3
        refine wpB_chunk (f := 0) (L' := #[true, true, true, true, true, true, true, true, true, true, true, true, true, true, true, true]) hsel_ hQ_ [(0, true, some 39, none), (1, true, some 40, none), (2, true, some 41, none), (3, true, some 42, none), (4, true, some 43, none), (5, true, some 44, none), (6, true, some 45, none), (7, true, some 46, none), (8, true, some 47, none), (9, true, some 48, none), (10, true, some 49, none), (11, true, some 50, none), (12, true, some 51, none), (13, true, some 52, none), (14, true, some 53, none), (15, false, none, none)] _ _ _ (by kernel_rfl) s0 ?_
        repeat (first | (refine wpSeqB_pure (v := ?_) rfl ?_ ?_; rotate_left 1; (focus (intro wq_ hSq_; (try dsimp only at hSq_); go_simp; (try with_reducible rfl); done)); (try simp only [Act.put, List.setIfInBounds_toArray, List.set_cons_zero, List.set_cons_succ])) | (refine wpSeqB_pureG (v := ?_) rfl rfl ?_ ?_; rotate_left 1; (focus (intro wq_ hSq_; (try dsimp only at hSq_); go_simp; (try with_reducible rfl); done)); (try simp only [Act.put, List.setIfInBounds_toArray, List.set_cons_zero, List.set_cons_succ])) | (refine wpSeqB_off rfl rfl ?_; (try simp only [Act.put, List.setIfInBounds_toArray, List.set_cons_zero, List.set_cons_succ])) | (refine wpSeqB_offU rfl ?_; (try simp only [Act.put, List.setIfInBounds_toArray, List.set_cons_zero, List.set_cons_succ])))
        first | refine wpSeqB_call rfl (fun K hK => ?_) | refine wpSeqB_callG rfl rfl (fun K hK => ?_)
        go_simp
        refine hK.out _ _ s9 ?_
        clear hK K
        (try simp only [List.getElem_toArray, List.getElem_cons_succ, List.getElem_cons_zero, Act.put, List.setIfInBounds_toArray, List.set_cons_zero, List.set_cons_succ])
        intro s_
        refine wpB_end (by kernel_rfl) ?_
        clear s_
        go_wp2
        go_roundw
        case rel => exact ⟨j + 1, _, _, by omega, by go_num, HRL.out⟩
        case measure => simp [intOf]; omega
    · obtain rfl : j = m := by omega
      have hdi := HW.out.1.di
      have hrs := HW.out.1.rs
      have hch := HW.out.1.ch
      have xA : Ext wr (wr.alloc (.map #[] 0)) := Ext.allocR _ _
      have hdA := hdi.ext xA
      have hmA := World.ownsMap_made (H := Value) wr Try.prog TIN RH
      have bA : Blk (wr.alloc (.map #[] 0)) d TDK #[g.v, .map (some g.m), .bool down, .int .i64 (left : Int)] := hdA.dk
      rw [HV.out, HNN.out] at bA
      have b9 : Blk ((((wr.alloc (.map #[] 0)).setCell ⟨d, 1, none⟩ (.map (some wr.heap.size))).setCell ⟨d, 2, none⟩ (.bool false)).setCell ⟨d, 3, none⟩ (.int .i64 0)) d TDK #[.slice (some ⟨gb, 0, none⟩) n cap, .map (some wr.heap.size), .bool false, .int .i64 0] := ((bA.set_ 1 _).set_ 2 _).set_ 3 _
      have c9 : Chg (fun b _ => b = d) (wr.alloc (.map #[] 0)) ((((wr.alloc (.map #[] 0)).setCell ⟨d, 1, none⟩ (.map (some wr.heap.size))).setCell ⟨d, 2, none⟩ (.bool false)).setCell ⟨d, 3, none⟩ (.int .i64 0)) := ((Chg.setB bA rfl _ _).trans (Chg.setB (bA.set_ 1 _) rfl _ _)).trans (Chg.setB ((bA.set_ 1 _).set_ 2 _) rfl _ _)
      have cF : Chg (MF F) (wr.alloc (.map #[] 0)) ((((wr.alloc (.map #[] 0)).setCell ⟨d, 1, none⟩ (.map (some wr.heap.size))).setCell ⟨d, 2, none⟩ (.bool false)).setCell ⟨d, 3, none⟩ (.int .i64 0)) := by
        have hFd : ∀ cs, MF F d (.cells cs TDK (0, 0)) := fun cs => ⟨HF.out.1 d (Or.inl rfl), Or.inl rfl⟩
        exact ((Chg.setB bA (hFd _) _ _).trans (Chg.setB (bA.set_ 1 _) (hFd _) _ _)).trans (Chg.setB ((bA.set_ 1 _).set_ 2 _) (hFd _) _ _)
      have hm9 := map_chg hmA c9 fun o e => by
        have e : wr.heap.size = d := e
        have := hdi.dk.lt
        omega
      have hd9 := hdA.reset c9 hm9 (by rw [show ({ g with vs := vs' } : Dkg).v = .slice (some ⟨gb, 0, none⟩) cur.length cap from HV.out, HNN.out]; exact b9)
      have hR := Lib.hid (show ∃ cur', RsC bl ks L cur j cur' ∧ DW F ((((wr.alloc (.map #[] 0)).setCell ⟨d, 1, none⟩ (.map (some wr.heap.size))).setCell ⟨d, 2, none⟩ (.bool false)).setCell ⟨d, 3, none⟩ (.int .i64 0)) d (cur'.map fun l => [l]) false 0 ∧ Chg (MF F) w ((((wr.alloc (.map #[] 0)).setCell ⟨d, 1, none⟩ (.map (some wr.heap.size))).setCell ⟨d, 2, none⟩ (.bool false)).setCell ⟨d, 3, none⟩ (.int .i64 0)) from
        ⟨cur', hrs, ⟨_, by rw [lasts_one]; exact hd9, fun k hk => by
          rw [List.getD_eq_getElem?_getD, List.getElem?_map, List.getElem?_eq_getElem (by rw [List.length_map] at hk; exact hk)]
          simp, fun b hb => by
          rcases hb with hb | hb | hb | ⟨k, _, hk, _⟩
          · rw [hb]; exact HF.out.1 d (Or.inl rfl)
          · have hb : b = wr.heap.size := hb
            rw [hb]
            exact HF.out.2 _ hch.size
          · exact HF.out.1 b (Or.inr (Or.inr (Or.inl hb)))
          · cases hk⟩, (hch.mono fun b o hX => by
          obtain ⟨rfl, cs, rfl⟩ := hX
          exact ⟨HF.out.1 _ (Or.inr (Or.inr (Or.inl (by rw [HV.out]; rfl)))), Or.inr (Or.inl rfl)⟩).trans ((Chg.ext xA).trans cF)⟩)
      have kA := bA.cells
      have fA := bA.free
      simp only [cellsAre, Nat.zero_add, Nat.reduceAdd, and_true] at kA
      clear hdi hrs hch xA hdA hmA bA b9 c9 cF hm9 hd9 HW
      go_wp2
      go_returns
      exact ⟨⟨_, rfl⟩, by rw [HM.out]; exact hR.out⟩
theorem last_mem {l : List (List Nat)} (h : l ≠ []) : l.getLastD z64 ∈ l := by
  cases l with
  | nil => exact absurd rfl h
  | cons a l =>
    rw [List.getLastD_cons]
    cases l with
    | nil => exact List.mem_cons_self
    | cons b l =>
      refine List.mem_cons_of_mem _ ?_
      rw [List.getLastD_cons, ← List.getLast_eq_getLastD (by simp)]
      exact List.getLast_mem _
/-- Restart gives each loose block one of its contents. -/
theorem rrestart_ok {F : Nat → Prop} (hw : DW F w d bl down left) (hF : ∀ b, w.heap.size ≤ b → F b) (hn : 1 ≤ bl.length) (A : Option Addr) (nk ck : Nat) (ks : List Nat) (hr : ∀ W, Chg (MF F) w W → Rv W 1 A nk ck (bc ks)) (hks : ∀ b ∈ ks, b < 256) (hfew : ∀ k, (bl.getD k []).length ≤ 1000000) :
    Calls Try.prog 39 #[.pointer (some ⟨d, 0, none⟩), .slice A nk ck] w fun e w' => (∃ v, e = .returned v) ∧ ∃ cur, Rst bl cur ∧ DW F w' d (cur.map fun l => [l]) false 0 ∧ Chg (MF F) w w' := by
  obtain ⟨g, h, hlo, hfp⟩ := hw
  have hl : (bl.map fun l => l.getLastD z64).length = bl.length := List.length_map _
  refine (rrestart_di h (by rw [hl]; exact hfp) hF (fun e => (by rw [e] at hl; have h0 : 0 = bl.length := hl; omega)) A nk ck ks hr hks hfew).mono ?_
  rintro e w' ⟨h1, cur, hrs, h2, h3⟩
  refine ⟨h1, cur, ⟨hrs.ln.trans hl, fun k hk => ?_⟩, h2, h3⟩
  have hne := h.ne k (by rw [hl]; exact hk)
  rw [hl] at hrs
  by_cases hk2 : k ∈ looB g bl.length
  · obtain ⟨i, hi, rfl⟩ := List.getElem_of_mem hk2
    rw [hrs.lo i hi hi]
    exact pickB_mem hne ks i
  · rw [hrs.no k (by rw [List.take_length]; exact hk2), ← lasts_at bl hk]
    exact last_mem hne
end Go.Proofs.Tb
