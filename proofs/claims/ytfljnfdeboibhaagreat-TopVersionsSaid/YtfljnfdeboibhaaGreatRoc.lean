/- Contracts of the scanner: number and text; of open at a good block. -/
import Derived.Test.YtfljnfdeboibhaaGreatTwf
set_option linter.unusedVariables false
set_option linter.unusedSimpArgs false
namespace Go.Proofs.Tb
open Go.Maps Go.RowKit Go.Lib
attribute [local go_sem] cell_set_same neqMapL

theorem i64_orS (x y : Nat) (hx : x < 4611686018427387904) (hy : y < 4611686018427387904) : bits .or .i64 (x : Int) (y : Int) = ((x ||| y : Nat) : Int) := by
  have e : bits .or .i64 (x : Int) (y : Int) = IntKind.i64.wrap ((BitVec.ofInt 64 (x : Int) ||| BitVec.ofInt 64 (y : Int)).toNat : Int) := rfl
  have h : (BitVec.ofInt 64 (x : Int) ||| BitVec.ofInt 64 (y : Int)).toNat = x ||| y := by
    rw [BitVec.ofInt_natCast, BitVec.ofInt_natCast, BitVec.toNat_or, BitVec.toNat_ofNat, BitVec.toNat_ofNat, Nat.mod_eq_of_lt (by omega), Nat.mod_eq_of_lt (by omega)]
  have hlt : x ||| y < 2 ^ 62 := Nat.or_lt_two_pow (by omega) (by omega)
  rw [e, h, IntWalk.i64_in _ (by omega)]
theorem or_256 (x y : Nat) (hy : y < 256) : x * 256 ||| y = x * 256 + y := by
  have h := Nat.two_pow_add_eq_or_of_lt (i := 8) (b := y) hy x
  rw [show 2 ^ 8 * x = x * 256 by omega] at h
  exact h.symm
theorem cell_same {w w' : World} {p : Addr} (h : w'.heap[p.block]? = w.heap[p.block]?) : w'.cell? p = w.cell? p := by
  unfold World.cell?
  rw [h]
theorem cell_obj {w : World} {p : Addr} {v : Value} (h : w.cell? p = some v) : ∃ o, w.heap[p.block]? = some o := by
  have := World.block_lt_of_cell? w _ h
  exact ⟨_, Array.getElem?_eq_getElem this⟩
theorem Chg.cell {X : Nat → Obj → Prop} {w w' : World} {p : Addr} {v : Value} (hc : Chg X w w') (h : w.cell? p = some v) (hX : ∀ o, ¬ X p.block o) : w'.cell? p = some v := by
  obtain ⟨o, ho⟩ := cell_obj h
  rw [cell_same ((hc.same _ o ho (hX o)).trans ho.symm)]
  exact h
theorem Rv.chg {X : Nat → Obj → Prop} {w w' : World} {k : Nat} {A : Option Addr} {n c : Nat} {vs : List Value} (h : Rv w k A n c vs) (hc : Chg X w w') (hX : ∀ b o, A = some ⟨b, o, none⟩ → ∀ ob, ¬ X b ob) : Rv w' k A n c vs :=
  ⟨h.len, h.le, h.cap, fun hn => by
    obtain ⟨b, o, e, hj⟩ := h.at_ hn
    exact ⟨b, o, e, fun j u hu => hc.cell (hj j u hu) (hX b o e)⟩⟩
theorem bc_drop (bs : List Nat) (k : Nat) : bc (bs.drop k) = (bc bs).drop k := by unfold bc; rw [List.map_drop]
theorem Rv.drop {w : World} {b o n c : Nat} {bs : List Nat} (h : Rv w 1 (some ⟨b, o, none⟩) n c (bc bs)) {k : Nat} (hk : k ≤ n) : Rv w 1 (some ⟨b, o + k, none⟩) (n - k) (c - k) (bc (bs.drop k)) := by
  have hl : bs.length = n := by have := h.len; rw [bc_len, Nat.mul_one] at this; exact this
  have h1 := h.le
  have h2 := h.cap
  refine ⟨by rw [bc_len, List.length_drop]; omega, by omega, by omega, fun hn => ?_⟩
  obtain ⟨b', o', e, hj⟩ := h.at_ (by omega)
  injection e with e
  injection e with e1 e2
  subst e1 e2
  refine ⟨b, o + k, rfl, fun j u hu => ?_⟩
  rw [bc_drop, List.getElem?_drop] at hu
  have := hj (k + j) u hu
  rw [show o + k + j = o + (k + j) by omega]
  exact this
theorem rdB_mono (bs : List Nat) : ∀ {j k : Nat}, j ≤ k → rdB (bs.take j) ≤ rdB (bs.take k) := by
  have step : ∀ k, rdB (bs.take k) ≤ rdB (bs.take (k + 1)) := fun k => by
    by_cases hk : k < bs.length
    · rw [List.take_succ_eq_append_getElem hk, rdB_snoc]; omega
    · rw [List.take_of_length_le (by omega), List.take_of_length_le (by omega)]; exact Nat.le_refl _
  intro j k h
  induction h with
  | refl => exact Nat.le_refl _
  | step _ ih => exact Nat.le_trans ih (step _)
theorem rdB_succ (bs : List Nat) {k : Nat} (hk : k < bs.length) : rdB (bs.take (k + 1)) = rdB (bs.take k) * 256 + bs.getD k 0 := by
  rw [List.take_succ_eq_append_getElem hk, rdB_snoc, List.getD_eq_getElem?_getD, List.getElem?_eq_getElem hk]
  rfl
/-- A scanner in memory, and what it has still to read. -/
def ScW (w : World) (sp : Nat) (bs : List Nat) : Prop := ∃ A c, Blk w sp TSC #[.slice A bs.length c] ∧ Rv w 1 A bs.length c (bc bs) ∧ ∀ b o, A = some ⟨b, o, none⟩ → b < sp
theorem ScW.ext {w w' : World} {sp : Nat} {bs : List Nat} (h : ScW w sp bs) (hx : Ext w w') : ScW w' sp bs := by
  obtain ⟨A, c, h1, h2, h3⟩ := h
  exact ⟨A, c, h1.below hx, h2.below hx, h3⟩
theorem ScW.chg {X : Nat → Obj → Prop} {w w' : World} {sp : Nat} {bs : List Nat} (h : ScW w sp bs) (hc : Chg X w w') (hX : ∀ b o, b ≤ sp → ¬ X b o) : ScW w' sp bs := by
  obtain ⟨A, c, h1, h2, h3⟩ := h
  exact ⟨A, c, hc.blk h1 (hX _ _ (Nat.le_refl _)), h2.chg hc fun b o e ob => hX b ob (Nat.le_of_lt (h3 b o e)), h3⟩
/-- The scanner reads on. -/
theorem ScW.put {w : World} {sp n c b o : Nat} {bs : List Nat} (k1 : Blk w sp TSC #[.slice (some ⟨b, o, none⟩) n c]) (r1 : Rv w 1 (some ⟨b, o, none⟩) n c (bc bs)) (hb : b < sp) {k : Nat} (hk : k ≤ n) {A' : Option Addr} {c' : Nat} (h : (A' = some ⟨b, o + k, none⟩ ∧ c' = c - k) ∨ (n = k ∧ ∃ o', A' = some ⟨b, o', none⟩ ∧ c' ≤ 9223372036854775807)) :
    ScW (w.setCell ⟨sp, 0, none⟩ (.slice A' (n - k) c')) sp (bs.drop k) ∧ Chg (fun b _ => b = sp) w (w.setCell ⟨sp, 0, none⟩ (.slice A' (n - k) c')) := by
  have hl : bs.length = n := by have := r1.len; rw [bc_len, Nat.mul_one] at this; exact this
  have hc : Chg (fun b _ => b = sp) w (w.setCell ⟨sp, 0, none⟩ (.slice A' (n - k) c')) := Chg.setB k1 rfl _ _
  have hd : (bs.drop k).length = n - k := by rw [List.length_drop, hl]
  refine ⟨⟨A', c', ?_, ?_, fun b' o' e => ?_⟩, hc⟩
  · rw [hd]; exact k1.set_ 0 _
  · rw [hd]
    rcases h with ⟨rfl, rfl⟩ | ⟨rfl, o', rfl, hc'⟩
    · exact (r1.drop hk).chg hc fun b' o' e ob e2 => by injection e with e; injection e with e1; omega
    · rw [Nat.sub_self]
      exact ⟨by rw [bc_len, hd]; omega, by omega, hc', fun hn => absurd hn (by omega)⟩
  · rcases h with ⟨rfl, rfl⟩ | ⟨rfl, o'', rfl, _⟩
    · injection e with e; injection e with e1; omega
    · injection e with e; injection e with e1; omega
/-- What a scanner's call leaves. -/
structure ScP (w w' : World) (sp : Nat) (bs : List Nat) : Prop where
  sc : ScW w' sp bs
  ch : Chg (fun b _ => b = sp) w w'
set_option maxHeartbeats 3200000 in
set_option maxRecDepth 100000 in
theorem rscan_num (sp size : Nat) (bs : List Nat) (w : World) (h : ScW w sp bs) (h1 : 1 ≤ size) (hs : size ≤ bs.length) (hl : bs.length ≤ 1000) (hb : ∀ b ∈ bs, b < 256) (hn : rdB (bs.take size) < 4611686018427387904) :
    Calls Tryz.prog 86 #[.pointer (some ⟨sp, 0, none⟩), .int .i64 (size : Int)] w fun e w' => e = .returned (.int .i64 (rdB (bs.take size) : Int)) ∧ ScP w w' sp (bs.drop size) := by
  obtain ⟨A, c, k1, r1, hA⟩ := h
  have hle := r1.le
  have hcp := r1.cap
  obtain ⟨b, o, rfl, hc⟩ := r1.at_ (by omega)
  have hbs := hA b o rfl
  obtain ⟨n, hn0⟩ : ∃ n, bs.length = n := ⟨_, rfl⟩
  rw [hn0] at k1 r1 hle hs hl
  have kc := k1.cells
  have kf := k1.free 0
  simp only [cellsAre, Nat.zero_add, Nat.reduceAdd, and_true] at kc
  have HL := Lib.hid hn0
  have HB := Lib.hid hb
  have HC := Lib.hid hc
  have HK := Lib.hid (And.intro k1 r1)
  have q1 : size ≤ c := by omega
  have q2 : ¬ (size : Int) < 0 := by omega
  have q3 : (size : Int) ≤ (c : Int) := by omega
  have q4 : (size : Int) ≤ (n : Int) := by omega
  have HM := Lib.hid (fun k (hk : k < size) => Nat.lt_of_le_of_lt (rdB_mono bs (show k + 1 ≤ size from hk)) hn)
  obtain ⟨R, hR⟩ : ∃ R : Nat, rdB (bs.take size) = R := ⟨_, rfl⟩
  have HR := Lib.hid hR
  rw [hR]
  clear k1 r1 hA hc hb hn hn0 hR
  go_enter Tryz.func86, Tryz.ntmps86
  go_wp2
  go_loopw [5, 15] (fun s i wr => ∃ k : Nat, k ≤ size ∧ i = .int .i64 (k : Int) ∧ s = .int .i64 (rdB (bs.take k) : Int) ∧ Ext w wr) (fun _ i _ => size - (intOf i).toNat)
  case atStart => exact ⟨0, by omega, rfl, rfl, Ext.refl _⟩
  case round =>
    obtain ⟨k, hk, rfl, rfl, hx⟩ := hrel
    have HX := Lib.hid hx
    by_cases hkn : k < size
    · have pk : (k : Int) < (size : Int) := by omega
      have hkl : k < bs.length := by have := HL.out; omega
      obtain ⟨y, hy⟩ : ∃ y, bs.getD k 0 = y := ⟨_, rfl⟩
      have ck := ext_cell hx (HC.out k (.int .u8 (y : Int)) (by unfold bc; rw [List.getElem?_map, List.getElem?_eq_getElem hkl, ← hy]; simp [List.getD, hkl]))
      have hyl : y < 256 := HB.out y (by rw [← hy, List.getD_eq_getElem?_getD, List.getElem?_eq_getElem hkl]; exact List.getElem_mem hkl)
      have hlt := HM.out k hkn
      have HN := Lib.hid (rdB_succ bs hkl)
      rw [HN.out] at hlt
      rw [hy] at HN hlt
      obtain ⟨x, hxx⟩ : ∃ x, rdB (bs.take k) = x := ⟨_, rfl⟩
      rw [hxx] at HN hlt ⊢
      have wx : IntKind.i64.wrap ((x : Int) * 256) = ((x * 256 : Nat) : Int) := by rw [IntWalk.i64_in _ (by omega)]; omega
      have wo := i64_orS (x * 256) y (by omega) (by omega)
      rw [or_256 x y hyl] at wo
      have wy : IntKind.i64.wrap (y : Int) = (y : Int) := IntWalk.i64_in _ (by omega)
      obtain ⟨q, hq⟩ : ∃ q, x * 256 = q := ⟨_, rfl⟩
      rw [hq] at wx wo HN
      obtain ⟨q5, hq5⟩ : ∃ q5, q + y = q5 := ⟨_, rfl⟩
      rw [hq5] at wo HN
      clear hx hxx hq hq5 hy hlt hkl
      go_wp2
      go_roundw
      case rel => exact ⟨k + 1, by omega, by go_num, by rw [HN.out], HX.out⟩
      case measure => simp [intOf]; omega
    · obtain rfl : k = size := by omega
      have k2 := kc
      have HK2 := Lib.hid (And.intro (HK.out.1.below hx) (HK.out.2.below hx))
      have c2 := ext_cell hx kc
      have f2 := HK2.out.1.free 0
      rw [HR.out]
      clear hx kc kf k2
      by_cases hsc : k = c
      · obtain rfl : n = k := by omega
        subst hsc
        have HP := Lib.hid (ScW.put HK2.out.1 HK2.out.2 hbs (Nat.le_refl n) (A' := some ⟨b, o, none⟩) (c' := 0) (Or.inr ⟨rfl, o, rfl, by omega⟩))
        rw [Nat.sub_self] at HP
        go_wp2
        go_returns
        exact ⟨rfl, HP.out.1, (Chg.ext HX.out).trans HP.out.2⟩
      · have q5 : k < c := by omega
        have q6 : ¬ (k : Int) = (c : Int) := by omega
        have HP := Lib.hid (ScW.put HK2.out.1 HK2.out.2 hbs hs (A' := some ⟨b, o + k, none⟩) (c' := c - k) (Or.inl ⟨rfl, rfl⟩))
        go_wp2
        go_returns
        exact ⟨rfl, HP.out.1, (Chg.ext HX.out).trans HP.out.2⟩
/-- Bytes as a string. -/
theorem strOf_B (s : Str) : strOfNums ((strB s).map fun (b : Nat) => (b : Int)) = s := by
  apply str_ext
  rw [ByteArray.toList_eq, ByteArray.toList_eq]
  show (List.map (fun n : Int => UInt8.ofNat n.toNat) (List.map (fun (b : Nat) => (b : Int)) (strB s))).toArray.toList = _
  unfold strB
  rw [List.map_map, List.map_map, ByteArray.toList_eq]
  conv => rhs; rw [← List.map_id s.data.toList]
  apply List.map_congr_left
  intro u _
  show UInt8.ofNat (((u.toNat : Nat) : Int).toNat) = u
  rw [Int.toNat_natCast]
  exact UInt8.ofNat_toNat
set_option maxHeartbeats 3200000 in
set_option maxRecDepth 100000 in
theorem rscan_text (sp most : Nat) (s : Str) (rest : List Nat) (w : World) (h : ScW w sp (txB s most ++ rest)) (hs : s.size ≤ most) (hm1 : 1 ≤ most) (hm : most ≤ 100) (hl : rest.length ≤ 100) (hb : ∀ b ∈ rest, b < 256) :
    Calls Tryz.prog 109 #[.pointer (some ⟨sp, 0, none⟩), .int .i64 (most : Int)] w fun e w' => e = .returned (.tuple #[.string s, .bool true]) ∧ ScP w w' sp rest := by
  have ht : (txB s most).length = most + 1 := txB_len hs
  have hbs : ∀ b ∈ txB s most ++ rest, b < 256 := fun b hb' => by
    rcases List.mem_append.1 hb' with hb' | hb'
    · exact txB_lt s most b hb'
    · exact hb b hb'
  obtain ⟨n0, hn0⟩ : ∃ n0, s.size = n0 := ⟨_, rfl⟩
  have e1 : rdB ((txB s most ++ rest).take 1) = n0 := by
    unfold txB
    rw [List.append_assoc, List.append_assoc, List.take_append_of_le_length (by rw [beB_len]; exact Nat.le_refl _), List.take_of_length_le (by rw [beB_len]; exact Nat.le_refl _), rdB_be _ 1 (by omega), hn0]
  have e2 : (txB s most ++ rest).drop 1 = (strB s ++ List.replicate (most - n0) 0) ++ rest := by
    unfold txB
    rw [List.append_assoc, List.append_assoc, List.drop_append_of_le_length (by rw [beB_len]; exact Nat.le_refl _), List.drop_of_length_le (by rw [beB_len]; exact Nat.le_refl _), hn0, List.nil_append, List.append_assoc]
  have HC := Lib.hid (rscan_num sp 1 (txB s most ++ rest) w h (by omega) (by rw [List.length_append, ht]; omega) (by rw [List.length_append, ht]; omega) hbs (by rw [e1]; omega))
  rw [e1, e2] at HC
  have hl2 : (strB s ++ List.replicate (most - n0) 0).length = most := by rw [List.length_append, strB_len, List.length_replicate, hn0]; omega
  have HL2 := Lib.hid hl2
  have HN0 := Lib.hid hn0
  rw [hn0] at hs
  obtain ⟨q, hq⟩ : ∃ q, rest.length = q := ⟨_, rfl⟩
  have HQ := Lib.hid hq
  rw [hq] at hl
  clear h ht hbs e1 e2 hb hl2 hn0 hq
  go_enter Tryz.func109, Tryz.ntmps109
  go_wp2_with fail
  refine HC.out.mono ?_
  rintro e w1 ⟨rfl, hp1⟩
  obtain ⟨A, c, k1, r1, hA⟩ := hp1.sc
  have hll : ((strB s ++ List.replicate (most - n0) 0) ++ rest).length = most + q := by rw [List.length_append, HL2.out, HQ.out]
  rw [hll] at k1 r1
  have hle := r1.le
  have hcp := r1.cap
  obtain ⟨b, o, rfl, hc⟩ := r1.at_ (by omega)
  have hbs := hA b o rfl
  have kc := k1.cells
  have kf := k1.free 0
  simp only [cellsAre, Nat.zero_add, Nat.reduceAdd, and_true] at kc
  have HK := Lib.hid (And.intro k1 r1)
  have HCH := Lib.hid hp1.ch
  have hcv : ∀ i, i < n0 → w1.cell? ⟨b, o + i, none⟩ = some (.int .u8 (((strB s).map fun (b : Nat) => (b : Int)).getD i 0)) := fun i hi => by
    have hi' : i < (strB s).length := by rw [strB_len, HN0.out]; exact hi
    refine hc i _ ?_
    unfold bc
    rw [List.getElem?_map, List.append_assoc, List.getElem?_append_left hi', List.getElem?_eq_getElem hi', List.getD_eq_getElem?_getD, List.getElem?_map, List.getElem?_eq_getElem hi']
    rfl
  have HV := Lib.hid hcv
  have q1 : most ≤ c := by omega
  have q2 : ¬ (most : Int) < 0 := by omega
  have q3 : (most : Int) ≤ (c : Int) := by omega
  have q4 : (most : Int) ≤ ((most + q : Nat) : Int) := by omega
  have q5 : ¬ (most : Int) < (n0 : Int) := by omega
  have q6 : n0 ≤ c := by omega
  have q7 : (n0 : Int) ≤ (c : Int) := by omega
  clear k1 r1 hA hc hp1 hll hcv
  obtain ⟨m2, hm2⟩ : ∃ m2, most + q = m2 := ⟨_, rfl⟩
  rw [hm2] at kc hle q4 HK
  by_cases hsc : most = c
  · subst hsc
    obtain rfl : m2 = most := by omega
    have HP := Lib.hid (ScW.put HK.out.1 HK.out.2 hbs (Nat.le_refl m2) (A' := some ⟨b, o, none⟩) (c' := 0) (Or.inr ⟨rfl, o, rfl, by omega⟩))
    rw [Nat.sub_self] at HP
    have hst : ∀ i, i < n0 → (w1.setCell ⟨sp, 0, none⟩ (.slice (some ⟨b, o, none⟩) 0 0)).cell? ⟨b, o + i, none⟩ = some (.int .u8 (((strB s).map fun (b : Nat) => (b : Int)).getD i 0)) := fun i hi => HP.out.2.cell (HV.out i hi) (fun ob e => by have e : b = sp := e; omega)
    have hcn := run_convert_bytes_arg (P := Tryz.prog) (w1.setCell ⟨sp, 0, none⟩ (.slice (some ⟨b, o, none⟩) 0 0)) TBY TU8 Tryz.underlying45 Tryz.underlying5 b o n0 m2 ((strB s).map fun (b : Nat) => (b : Int)) (by rw [List.length_map, strB_len, HN0.out]) hst 9 Tryz.underlying9
    rw [strOf_B] at hcn
    clear hst
    go_wp2
    go_returns
    exact ⟨rfl, by have h9 := HP.out.1; rw [List.drop_left' HL2.out] at h9; exact h9, HCH.out.trans HP.out.2⟩
  · have q8 : most < c := by omega
    have q9 : ¬ (most : Int) = (c : Int) := by omega
    have HP := Lib.hid (ScW.put HK.out.1 HK.out.2 hbs (show most ≤ m2 by omega) (A' := some ⟨b, o + most, none⟩) (c' := c - most) (Or.inl ⟨rfl, rfl⟩))
    have hst : ∀ i, i < n0 → (w1.setCell ⟨sp, 0, none⟩ (.slice (some ⟨b, o + most, none⟩) (m2 - most) (c - most))).cell? ⟨b, o + i, none⟩ = some (.int .u8 (((strB s).map fun (b : Nat) => (b : Int)).getD i 0)) := fun i hi => HP.out.2.cell (HV.out i hi) (fun ob e => by have e : b = sp := e; omega)
    have hcn := run_convert_bytes_arg (P := Tryz.prog) (w1.setCell ⟨sp, 0, none⟩ (.slice (some ⟨b, o + most, none⟩) (m2 - most) (c - most))) TBY TU8 Tryz.underlying45 Tryz.underlying5 b o n0 c ((strB s).map fun (b : Nat) => (b : Int)) (by rw [List.length_map, strB_len, HN0.out]) hst 9 Tryz.underlying9
    rw [strOf_B] at hcn
    clear hst
    go_wp2
    go_returns
    exact ⟨rfl, by have h9 := HP.out.1; rw [List.drop_left' HL2.out] at h9; exact h9, HCH.out.trans HP.out.2⟩
section
variable {P : Program} {ops : Array Oper} {Q : Exit → Act → World → Prop} {md : Region.Mode} {S : World → Prop}
/-- Two operations may come up, the second one of them guarded. -/
theorem wpB_twoOn {K : Act → World → Prop} {f : Nat} {listed : Array Bool} {a : Act} {w : World} {oi oj : Oper} (i j : Nat) {t : Tmp} {b : Bool} (hr : decide (Region.ready md ops listed = [i, j]) = true) (hi : ops[i]? = some oi) (hj : ops[j]? = some oj) (gi : oi.guard = none) (gj : grdOk ops oj (some (t, b)) = true) (hgv : a.tmps[t]? = some (.bool b))
    (h1 : ∀ K' : Act → World → Prop, Shut (∀ a' w', S w' → wpB P md ops Q S K f (listed.setIfInBounds i true) a' w' → K' a' w') → Oper.wp P oi a w K' Q)
    (h2 : ∀ K' : Act → World → Prop, Shut (∀ a' w', S w' → wpB P md ops Q S K f (listed.setIfInBounds j true) a' w' → K' a' w') → Oper.wp P oj a w K' Q) :
    wpB P md ops Q S K (f + 1) listed a w := by
  have hr' : Region.ready md ops listed = [i, j] := by simpa using hr
  refine ⟨fun h0 => (not_ready_all h0 (md := md) (i := i) (by rw [hr']; simp)).elim, fun k hk => ?_⟩
  rw [hr'] at hk
  rcases List.mem_cons.1 hk with rfl | hk
  · exact wpOp_on hi (wanted_none gi _) fun K' hK => h1 K' fun a' w' hs h => hK a' w' ⟨hs, h⟩
  · obtain rfl : k = j := by simpa using hk
    exact wpOp_on hj (wanted_on gj hgv) fun K' hK => h2 K' fun a' w' hs h => hK a' w' ⟨hs, h⟩
end
theorem chg_ext {w w1 w2 : World} {s : Nat} (h : Ext w w1) (hc : Chg (fun b _ => b = s) w1 w2) (hs : w.heap.size ≤ s) : Ext w w2 :=
  Below.trans h (hc.below (fun b o e => by subst e; exact hs) (Ext.size h))
set_option maxHeartbeats 6400000 in
set_option maxRecDepth 100000 in
theorem ropen_ok (A : Option Addr) (c : Nat) (l : List Nat) (tag : Nat) (w : World) (h : Rv w 1 A 64 c (bc (blkB l))) (hl : l.length ≤ 60) (h0 : l[0]? = some tag) (hb : ∀ b ∈ l, b < 256) :
    Calls Tryz.prog 85 #[.slice A 64 c, .int .u8 (tag : Int)] w (Ret (fun z w' => ∃ p, z = .tuple #[.pointer (some ⟨p, 0, none⟩), .bool true] ∧ ScW w' p ((endB l).drop 1) ∧ w.heap.size ≤ p) w) := by
  have hle := h.le
  have hcp := h.cap
  obtain ⟨b, o, rfl, hc⟩ := h.at_ (by omega)
  have hel := endB_len hl
  have he0 : (endB l)[0]? = some tag := by
    unfold endB
    rw [List.getElem?_append_left (by have := (List.getElem?_eq_some_iff.1 h0).1; exact this)]
    exact h0
  have k0 := hc 0 (.int .u8 (tag : Int)) (by
    unfold bc blkB
    rw [List.getElem?_map, List.getElem?_append_left (by omega), he0]
    rfl)
  rw [Nat.add_zero] at k0
  have hbw : b < w.heap.size := World.block_lt_of_cell? w _ k0
  have kk := fun w' (hh : Ext w w') => ext_cell hh k0
  have heb : ∀ x ∈ endB l, x < 256 := fun x hx => by
    unfold endB at hx
    rcases List.mem_append.1 hx with hx | hx
    · exact hb x hx
    · rw [List.mem_replicate] at hx; omega
  have r60 : Rv w 1 (some ⟨b, o, none⟩) 60 c (bc (endB l)) := by
    have := h.take (m := 60) (by omega)
    unfold bc blkB at this
    rw [Nat.mul_one, ← List.map_take, List.take_append_of_le_length (by omega), List.take_of_length_le (by omega)] at this
    exact this
  have r4 : Rv w 1 (some ⟨b, o + 60, none⟩) 4 (c - 60) (bc (beB (sumB (endB l)) 4)) := by
    have := h.drop (k := 60) (by omega)
    unfold blkB at this
    rw [List.drop_left' hel] at this
    exact this
  have hS := sumB_lt (endB l)
  obtain ⟨S, hSS⟩ : ∃ S, sumB (endB l) = S := ⟨_, rfl⟩
  rw [hSS] at r4 hS
  have HNUM := Lib.hid (fun σ y (hy : ScW y σ (beB S 4)) => rscan_num σ 4 (beB S 4) y hy (by omega) (by rw [beB_len]; exact Nat.le_refl _) (by rw [beB_len]; omega) (beB_lt S 4) (by rw [List.take_of_length_le (by rw [beB_len]; exact Nat.le_refl _), rdB_be S 4 (by omega)]; omega))
  have HV := Lib.hid (show rdB ((beB S 4).take 4) = S by rw [List.take_of_length_le (by rw [beB_len]; exact Nat.le_refl _), rdB_be S 4 (by omega)])
  have HSUM := Lib.hid (fun y (hy : Ext w y) => rsum_any (some ⟨b, o, none⟩) 60 c (endB l) y (r60.below hy) (by omega) heb)
  rw [hSS] at HSUM
  have HEND := Lib.hid (fun y p (hy : Ext w y) (hp : Blk y p TSC #[.slice (some ⟨b, o + 1, none⟩) 59 (c - 1)]) (hpw : w.heap.size ≤ p) => (show ScW y p ((endB l).drop 1) from by
    have e : ((endB l).drop 1).length = 59 := by rw [List.length_drop, hel]
    exact ⟨some ⟨b, o + 1, none⟩, c - 1, by rw [e]; exact hp, by rw [e]; exact (r60.below hy).drop (k := 1) (by omega), fun b' o' e => by injection e with e; injection e with e1; omega⟩))
  have q1 : ¬ c = 1 := by omega
  have q2 : 60 ≤ c := by omega
  have q3 : 1 < c := by omega
  have q4 : (60 : Int) ≤ (c : Int) := by omega
  have q5 : 60 < c := by omega
  have q6 : ¬ c = 60 := by omega
  have R4 := Lib.hid r4
  obtain ⟨σ, hσ⟩ : ∃ σ, w.heap.size = σ := ⟨_, rfl⟩
  clear h hc k0 h0 hb r60 r4 heb he0 hSS hl hel
  go_enter Tryz.func85, Tryz.ntmps85
  go_upto_region 2 with fail

  refine wp_world (fun W => Ext w W ∧ ScW W σ (beB S 4)) ⟨Ext.allocR _ _, ⟨some ⟨b, o + 60, none⟩, c - 60, ?_, ?_, ?_⟩⟩ ?_
  · rw [beB_len]; exact Blk.new_ _ _ hσ
  · rw [beB_len]; exact R4.out.below (Ext.allocR _ _)
  · intro b' o' e
    injection e with e
    injection e with e1
    omega
  rintro W1 ⟨hx1, hs1⟩
  have hst : Ext w W1.drew := bt hx1 (Ext.drew _)
  have hsc : ScW W1.drew σ (beB S 4) := hs1.ext (Ext.drew _)
  have HSC := Lib.hid hsc
  clear hs1 hx1 hsc
  refine wp_region_brn (S := (Ext w)) (by kernel_rfl) (by kernel_rfl) (fun _ _ _ _ _ => ⟨fun h => h, fun h => h⟩) ?_
  intro hsel_ hQ_
  obtain ⟨y0, hy0⟩ : ∃ y0, W1.drew = y0 := ⟨_, rfl⟩
  rw [hy0] at hst HSC ⊢
  refine wpB_chunk (f := 7) (L' := #[true, true, true, false, true, true, true, true, true, true, true, false, true, true, false, false, false, false, false]) hsel_ hQ_ [(0, true, some 11, none), (1, true, some 12, none), (2, true, some 13, none), (4, true, some 15, none), (5, true, some 16, none), (6, true, some 17, none), (7, true, some 18, none), (8, true, some 19, none), (9, true, some 20, none), (10, true, some 21, some (20, true)), (12, true, some 23, some (20, true)), (13, true, some 24, some (20, true))] _ _ _ (by kernel_rfl) hst ?_
  repeat (first | (refine wpSeqB_pure (v := ?_) rfl ?_ ?_; rotate_left 1; (focus (intro wq_ hSq_; (try dsimp only at hSq_); go_simp; (try with_reducible rfl); done)); (try simp only [Act.put, List.setIfInBounds_toArray, List.set_cons_zero, List.set_cons_succ])) | (refine wpSeqB_pureG (v := ?_) rfl rfl ?_ ?_; rotate_left 1; (focus (intro wq_ hSq_; (try dsimp only at hSq_); go_simp; (try with_reducible rfl); done)); (try simp only [Act.put, List.setIfInBounds_toArray, List.set_cons_zero, List.set_cons_succ])) | (refine wpSeqB_off rfl rfl ?_; (try simp only [Act.put, List.setIfInBounds_toArray, List.set_cons_zero, List.set_cons_succ])) | (refine wpSeqB_offU rfl ?_; (try simp only [Act.put, List.setIfInBounds_toArray, List.set_cons_zero, List.set_cons_succ])))
  intro s0
  clear s0 hy0
  refine wpB_twoOn 3 11 (t := 20) (b := true) (by kernel_rfl) rfl rfl rfl (by kernel_rfl) rfl ?_ ?_
  · intro K hK
    go_simp
    have s1 : Ext w (y0.alloc (.cells #[.slice (some ⟨b, o + 1, none⟩) 59 (c - 1)] TSC)) := bt hst (Ext.allocR _ _)
    have hp1 : Blk (y0.alloc (.cells #[.slice (some ⟨b, o + 1, none⟩) 59 (c - 1)] TSC)) y0.heap.size TSC #[.slice (some ⟨b, o + 1, none⟩) 59 (c - 1)] := Blk.new_ _ _ rfl
    have hsc1 := HSC.out.ext (Ext.allocR y0 (.cells #[.slice (some ⟨b, o + 1, none⟩) 59 (c - 1)] TSC))
    have hpw : σ < y0.heap.size := by obtain ⟨_, _, hk, _⟩ := HSC.out; exact hk.lt
    obtain ⟨p, hp⟩ : ∃ p, y0.heap.size = p := ⟨_, rfl⟩
    rw [hp] at hp1 hpw ⊢
    have H1 := Lib.hid (And.intro hp1 hsc1)
    refine hK.out _ _ s1 ?_
    clear hK K hp1 hsc1
    (try simp only [List.getElem_toArray, List.getElem_cons_succ, List.getElem_cons_zero, Act.put, List.setIfInBounds_toArray, List.set_cons_zero, List.set_cons_succ])
    refine wpB_chunk (f := 0) (L' := #[true, true, true, true, true, true, true, true, true, true, true, true, true, true, true, true, true, true, true]) hsel_ hQ_ [(11, false, some 22, some (20, true)), (14, false, some 25, some (20, true)), (15, true, some 26, some (20, true)), (16, true, some 27, none), (17, false, some 4, none), (18, false, some 5, none)] _ _ _ (by kernel_rfl) s1 ?_
    repeat (first | (refine wpSeqB_pure (v := ?_) rfl ?_ ?_; rotate_left 1; (focus (intro wq_ hSq_; (try dsimp only at hSq_); go_simp; (try with_reducible rfl); done)); (try simp only [Act.put, List.setIfInBounds_toArray, List.set_cons_zero, List.set_cons_succ])) | (refine wpSeqB_pureG (v := ?_) rfl rfl ?_ ?_; rotate_left 1; (focus (intro wq_ hSq_; (try dsimp only at hSq_); go_simp; (try with_reducible rfl); done)); (try simp only [Act.put, List.setIfInBounds_toArray, List.set_cons_zero, List.set_cons_succ])) | (refine wpSeqB_off rfl rfl ?_; (try simp only [Act.put, List.setIfInBounds_toArray, List.set_cons_zero, List.set_cons_succ])) | (refine wpSeqB_offU rfl ?_; (try simp only [Act.put, List.setIfInBounds_toArray, List.set_cons_zero, List.set_cons_succ])))
    first | refine wpSeqB_call rfl (fun K hK => ?_) | refine wpSeqB_callG rfl rfl (fun K hK => ?_)
    go_simp
    refine (HNUM.out σ _ H1.out.2).mono ?_
    rw [HV.out]
    rintro e y2 ⟨rfl, h2⟩
    have s2 := chg_ext s1 h2.ch (by omega)
    have P2 := Lib.hid (h2.ch.blk H1.out.1 (fun e => by have e : p = σ := e; omega))
    clear h2
    go_wp2_with fail
    refine hK.out _ _ s2 ?_
    clear hK K
    (try simp only [List.getElem_toArray, List.getElem_cons_succ, List.getElem_cons_zero, Act.put, List.setIfInBounds_toArray, List.set_cons_zero, List.set_cons_succ])
    repeat (first | (refine wpSeqB_pure (v := ?_) rfl ?_ ?_; rotate_left 1; (focus (intro wq_ hSq_; (try dsimp only at hSq_); go_simp; (try with_reducible rfl); done)); (try simp only [Act.put, List.setIfInBounds_toArray, List.set_cons_zero, List.set_cons_succ])) | (refine wpSeqB_pureG (v := ?_) rfl rfl ?_ ?_; rotate_left 1; (focus (intro wq_ hSq_; (try dsimp only at hSq_); go_simp; (try with_reducible rfl); done)); (try simp only [Act.put, List.setIfInBounds_toArray, List.set_cons_zero, List.set_cons_succ])) | (refine wpSeqB_off rfl rfl ?_; (try simp only [Act.put, List.setIfInBounds_toArray, List.set_cons_zero, List.set_cons_succ])) | (refine wpSeqB_offU rfl ?_; (try simp only [Act.put, List.setIfInBounds_toArray, List.set_cons_zero, List.set_cons_succ])))
    first | refine wpSeqB_call rfl (fun K hK => ?_) | refine wpSeqB_callG rfl rfl (fun K hK => ?_)
    go_simp
    refine (HSUM.out y2 s2).mono ?_
    rintro e y3 ⟨z3, rfl, rfl, b3⟩
    have s3 := bt s2 b3
    have P3 := Lib.hid (P2.out.below b3)
    clear b3
    go_wp2_with fail
    refine hK.out _ _ s3 ?_
    clear hK K
    (try simp only [List.getElem_toArray, List.getElem_cons_succ, List.getElem_cons_zero, Act.put, List.setIfInBounds_toArray, List.set_cons_zero, List.set_cons_succ])
    repeat (first | (refine wpSeqB_pure (v := ?_) rfl ?_ ?_; rotate_left 1; (focus (intro wq_ hSq_; (try dsimp only at hSq_); go_simp; (try with_reducible rfl); done)); (try simp only [Act.put, List.setIfInBounds_toArray, List.set_cons_zero, List.set_cons_succ])) | (refine wpSeqB_pureG (v := ?_) rfl rfl ?_ ?_; rotate_left 1; (focus (intro wq_ hSq_; (try dsimp only at hSq_); go_simp; (try with_reducible rfl); done)); (try simp only [Act.put, List.setIfInBounds_toArray, List.set_cons_zero, List.set_cons_succ])) | (refine wpSeqB_off rfl rfl ?_; (try simp only [Act.put, List.setIfInBounds_toArray, List.set_cons_zero, List.set_cons_succ])) | (refine wpSeqB_offU rfl ?_; (try simp only [Act.put, List.setIfInBounds_toArray, List.set_cons_zero, List.set_cons_succ])))
    first | refine wpSeqB_call rfl (fun K hK => ?_) | refine wpSeqB_callG rfl rfl (fun K hK => ?_)
    go_simp
    refine hK.out _ _ s3 ?_
    clear hK K
    (try simp only [List.getElem_toArray, List.getElem_cons_succ, List.getElem_cons_zero, Act.put, List.setIfInBounds_toArray, List.set_cons_zero, List.set_cons_succ])
    repeat (first | (refine wpSeqB_pure (v := ?_) rfl ?_ ?_; rotate_left 1; (focus (intro wq_ hSq_; (try dsimp only at hSq_); go_simp; (try with_reducible rfl); done)); (try simp only [Act.put, List.setIfInBounds_toArray, List.set_cons_zero, List.set_cons_succ])) | (refine wpSeqB_pureG (v := ?_) rfl rfl ?_ ?_; rotate_left 1; (focus (intro wq_ hSq_; (try dsimp only at hSq_); go_simp; (try with_reducible rfl); done)); (try simp only [Act.put, List.setIfInBounds_toArray, List.set_cons_zero, List.set_cons_succ])) | (refine wpSeqB_off rfl rfl ?_; (try simp only [Act.put, List.setIfInBounds_toArray, List.set_cons_zero, List.set_cons_succ])) | (refine wpSeqB_offU rfl ?_; (try simp only [Act.put, List.setIfInBounds_toArray, List.set_cons_zero, List.set_cons_succ])))
    first | refine wpSeqB_call rfl (fun K hK => ?_) | refine wpSeqB_callG rfl rfl (fun K hK => ?_)
    go_simp
    refine hK.out _ _ s3 ?_
    clear hK K
    (try simp only [List.getElem_toArray, List.getElem_cons_succ, List.getElem_cons_zero, Act.put, List.setIfInBounds_toArray, List.set_cons_zero, List.set_cons_succ])
    repeat (first | (refine wpSeqB_pure (v := ?_) rfl ?_ ?_; rotate_left 1; (focus (intro wq_ hSq_; (try dsimp only at hSq_); go_simp; (try with_reducible rfl); done)); (try simp only [Act.put, List.setIfInBounds_toArray, List.set_cons_zero, List.set_cons_succ])) | (refine wpSeqB_pureG (v := ?_) rfl rfl ?_ ?_; rotate_left 1; (focus (intro wq_ hSq_; (try dsimp only at hSq_); go_simp; (try with_reducible rfl); done)); (try simp only [Act.put, List.setIfInBounds_toArray, List.set_cons_zero, List.set_cons_succ])) | (refine wpSeqB_off rfl rfl ?_; (try simp only [Act.put, List.setIfInBounds_toArray, List.set_cons_zero, List.set_cons_succ])) | (refine wpSeqB_offU rfl ?_; (try simp only [Act.put, List.setIfInBounds_toArray, List.set_cons_zero, List.set_cons_succ])))
    intro s_
    refine wpB_end (by kernel_rfl) ?_
    clear s_
    go_wp2_with fail
    go_returns
    exact ⟨_, rfl, ⟨p, rfl, HEND.out _ p s3 P3.out (by omega), by omega⟩, s3⟩
  · intro K hK
    go_simp
    refine (HNUM.out σ _ HSC.out).mono ?_
    rw [HV.out]
    rintro e y1 ⟨rfl, h1⟩
    have s1 := chg_ext hst h1.ch (by omega)
    clear h1
    go_wp2_with fail
    refine hK.out _ _ s1 ?_
    clear hK K
    (try simp only [List.getElem_toArray, List.getElem_cons_succ, List.getElem_cons_zero, Act.put, List.setIfInBounds_toArray, List.set_cons_zero, List.set_cons_succ])
    have hpw : w.heap.size ≤ y1.heap.size := Ext.size s1
    refine wpB_twoOn 3 14 (t := 20) (b := true) (by kernel_rfl) rfl rfl rfl (by kernel_rfl) rfl ?_ ?_
    · intro K hK
      go_simp
      have s2 : Ext w (y1.alloc (.cells #[.slice (some ⟨b, o + 1, none⟩) 59 (c - 1)] TSC)) := bt s1 (Ext.allocR _ _)
      have hp2 : Blk (y1.alloc (.cells #[.slice (some ⟨b, o + 1, none⟩) 59 (c - 1)] TSC)) y1.heap.size TSC #[.slice (some ⟨b, o + 1, none⟩) 59 (c - 1)] := Blk.new_ _ _ rfl
      obtain ⟨p, hp⟩ : ∃ p, y1.heap.size = p := ⟨_, rfl⟩
      rw [hp] at hp2 hpw ⊢
      have P2 := Lib.hid hp2
      refine hK.out _ _ s2 ?_
      clear hK K hp2
      (try simp only [List.getElem_toArray, List.getElem_cons_succ, List.getElem_cons_zero, Act.put, List.setIfInBounds_toArray, List.set_cons_zero, List.set_cons_succ])
      refine wpB_chunk (f := 0) (L' := #[true, true, true, true, true, true, true, true, true, true, true, true, true, true, true, true, true, true, true]) hsel_ hQ_ [(14, false, some 25, some (20, true)), (15, true, some 26, some (20, true)), (16, true, some 27, none), (17, false, some 4, none), (18, false, some 5, none)] _ _ _ (by kernel_rfl) s2 ?_
      repeat (first | (refine wpSeqB_pure (v := ?_) rfl ?_ ?_; rotate_left 1; (focus (intro wq_ hSq_; (try dsimp only at hSq_); go_simp; (try with_reducible rfl); done)); (try simp only [Act.put, List.setIfInBounds_toArray, List.set_cons_zero, List.set_cons_succ])) | (refine wpSeqB_pureG (v := ?_) rfl rfl ?_ ?_; rotate_left 1; (focus (intro wq_ hSq_; (try dsimp only at hSq_); go_simp; (try with_reducible rfl); done)); (try simp only [Act.put, List.setIfInBounds_toArray, List.set_cons_zero, List.set_cons_succ])) | (refine wpSeqB_off rfl rfl ?_; (try simp only [Act.put, List.setIfInBounds_toArray, List.set_cons_zero, List.set_cons_succ])) | (refine wpSeqB_offU rfl ?_; (try simp only [Act.put, List.setIfInBounds_toArray, List.set_cons_zero, List.set_cons_succ])))
      first | refine wpSeqB_call rfl (fun K hK => ?_) | refine wpSeqB_callG rfl rfl (fun K hK => ?_)
      go_simp
      refine (HSUM.out _ s2).mono ?_
      rintro e y3 ⟨z3, rfl, rfl, b3⟩
      have s3 := bt s2 b3
      have P3 := Lib.hid (P2.out.below b3)
      clear b3
      go_wp2_with fail
      refine hK.out _ _ s3 ?_
      clear hK K
      (try simp only [List.getElem_toArray, List.getElem_cons_succ, List.getElem_cons_zero, Act.put, List.setIfInBounds_toArray, List.set_cons_zero, List.set_cons_succ])
      repeat (first | (refine wpSeqB_pure (v := ?_) rfl ?_ ?_; rotate_left 1; (focus (intro wq_ hSq_; (try dsimp only at hSq_); go_simp; (try with_reducible rfl); done)); (try simp only [Act.put, List.setIfInBounds_toArray, List.set_cons_zero, List.set_cons_succ])) | (refine wpSeqB_pureG (v := ?_) rfl rfl ?_ ?_; rotate_left 1; (focus (intro wq_ hSq_; (try dsimp only at hSq_); go_simp; (try with_reducible rfl); done)); (try simp only [Act.put, List.setIfInBounds_toArray, List.set_cons_zero, List.set_cons_succ])) | (refine wpSeqB_off rfl rfl ?_; (try simp only [Act.put, List.setIfInBounds_toArray, List.set_cons_zero, List.set_cons_succ])) | (refine wpSeqB_offU rfl ?_; (try simp only [Act.put, List.setIfInBounds_toArray, List.set_cons_zero, List.set_cons_succ])))
      first | refine wpSeqB_call rfl (fun K hK => ?_) | refine wpSeqB_callG rfl rfl (fun K hK => ?_)
      go_simp
      refine hK.out _ _ s3 ?_
      clear hK K
      (try simp only [List.getElem_toArray, List.getElem_cons_succ, List.getElem_cons_zero, Act.put, List.setIfInBounds_toArray, List.set_cons_zero, List.set_cons_succ])
      repeat (first | (refine wpSeqB_pure (v := ?_) rfl ?_ ?_; rotate_left 1; (focus (intro wq_ hSq_; (try dsimp only at hSq_); go_simp; (try with_reducible rfl); done)); (try simp only [Act.put, List.setIfInBounds_toArray, List.set_cons_zero, List.set_cons_succ])) | (refine wpSeqB_pureG (v := ?_) rfl rfl ?_ ?_; rotate_left 1; (focus (intro wq_ hSq_; (try dsimp only at hSq_); go_simp; (try with_reducible rfl); done)); (try simp only [Act.put, List.setIfInBounds_toArray, List.set_cons_zero, List.set_cons_succ])) | (refine wpSeqB_off rfl rfl ?_; (try simp only [Act.put, List.setIfInBounds_toArray, List.set_cons_zero, List.set_cons_succ])) | (refine wpSeqB_offU rfl ?_; (try simp only [Act.put, List.setIfInBounds_toArray, List.set_cons_zero, List.set_cons_succ])))
      first | refine wpSeqB_call rfl (fun K hK => ?_) | refine wpSeqB_callG rfl rfl (fun K hK => ?_)
      go_simp
      refine hK.out _ _ s3 ?_
      clear hK K
      (try simp only [List.getElem_toArray, List.getElem_cons_succ, List.getElem_cons_zero, Act.put, List.setIfInBounds_toArray, List.set_cons_zero, List.set_cons_succ])
      repeat (first | (refine wpSeqB_pure (v := ?_) rfl ?_ ?_; rotate_left 1; (focus (intro wq_ hSq_; (try dsimp only at hSq_); go_simp; (try with_reducible rfl); done)); (try simp only [Act.put, List.setIfInBounds_toArray, List.set_cons_zero, List.set_cons_succ])) | (refine wpSeqB_pureG (v := ?_) rfl rfl ?_ ?_; rotate_left 1; (focus (intro wq_ hSq_; (try dsimp only at hSq_); go_simp; (try with_reducible rfl); done)); (try simp only [Act.put, List.setIfInBounds_toArray, List.set_cons_zero, List.set_cons_succ])) | (refine wpSeqB_off rfl rfl ?_; (try simp only [Act.put, List.setIfInBounds_toArray, List.set_cons_zero, List.set_cons_succ])) | (refine wpSeqB_offU rfl ?_; (try simp only [Act.put, List.setIfInBounds_toArray, List.set_cons_zero, List.set_cons_succ])))
      intro s_
      refine wpB_end (by kernel_rfl) ?_
      clear s_
      go_wp2_with fail
      go_returns
      exact ⟨_, rfl, ⟨p, rfl, HEND.out _ p s3 P3.out (by omega), by omega⟩, s3⟩
    · intro K hK
      go_simp
      refine (HSUM.out _ s1).mono ?_
      rintro e y2 ⟨z3, rfl, rfl, b3⟩
      have s2 := bt s1 b3
      clear b3
      go_wp2_with fail
      refine hK.out _ _ s2 ?_
      clear hK K hpw
      (try simp only [List.getElem_toArray, List.getElem_cons_succ, List.getElem_cons_zero, Act.put, List.setIfInBounds_toArray, List.set_cons_zero, List.set_cons_succ])
      have hpw : w.heap.size ≤ y2.heap.size := Ext.size s2
      refine wpB_chunk (f := 0) (L' := #[true, true, true, true, true, true, true, true, true, true, true, true, true, true, true, true, true, true, true]) hsel_ hQ_ [(15, true, some 26, some (20, true)), (16, true, some 27, none), (3, false, some 14, none), (17, false, some 4, none), (18, false, some 5, none)] _ _ _ (by kernel_rfl) s2 ?_
      repeat (first | (refine wpSeqB_pure (v := ?_) rfl ?_ ?_; rotate_left 1; (focus (intro wq_ hSq_; (try dsimp only at hSq_); go_simp; (try with_reducible rfl); done)); (try simp only [Act.put, List.setIfInBounds_toArray, List.set_cons_zero, List.set_cons_succ])) | (refine wpSeqB_pureG (v := ?_) rfl rfl ?_ ?_; rotate_left 1; (focus (intro wq_ hSq_; (try dsimp only at hSq_); go_simp; (try with_reducible rfl); done)); (try simp only [Act.put, List.setIfInBounds_toArray, List.set_cons_zero, List.set_cons_succ])) | (refine wpSeqB_off rfl rfl ?_; (try simp only [Act.put, List.setIfInBounds_toArray, List.set_cons_zero, List.set_cons_succ])) | (refine wpSeqB_offU rfl ?_; (try simp only [Act.put, List.setIfInBounds_toArray, List.set_cons_zero, List.set_cons_succ])))
      first | refine wpSeqB_call rfl (fun K hK => ?_) | refine wpSeqB_callG rfl rfl (fun K hK => ?_)
      go_simp
      have s3 : Ext w (y2.alloc (.cells #[.slice (some ⟨b, o + 1, none⟩) 59 (c - 1)] TSC)) := bt s2 (Ext.allocR _ _)
      have hp3 : Blk (y2.alloc (.cells #[.slice (some ⟨b, o + 1, none⟩) 59 (c - 1)] TSC)) y2.heap.size TSC #[.slice (some ⟨b, o + 1, none⟩) 59 (c - 1)] := Blk.new_ _ _ rfl
      obtain ⟨p, hp⟩ : ∃ p, y2.heap.size = p := ⟨_, rfl⟩
      rw [hp] at hp3 hpw ⊢
      have P3 := Lib.hid hp3
      clear hp3
      refine hK.out _ _ s3 ?_
      clear hK K
      (try simp only [List.getElem_toArray, List.getElem_cons_succ, List.getElem_cons_zero, Act.put, List.setIfInBounds_toArray, List.set_cons_zero, List.set_cons_succ])
      repeat (first | (refine wpSeqB_pure (v := ?_) rfl ?_ ?_; rotate_left 1; (focus (intro wq_ hSq_; (try dsimp only at hSq_); go_simp; (try with_reducible rfl); done)); (try simp only [Act.put, List.setIfInBounds_toArray, List.set_cons_zero, List.set_cons_succ])) | (refine wpSeqB_pureG (v := ?_) rfl rfl ?_ ?_; rotate_left 1; (focus (intro wq_ hSq_; (try dsimp only at hSq_); go_simp; (try with_reducible rfl); done)); (try simp only [Act.put, List.setIfInBounds_toArray, List.set_cons_zero, List.set_cons_succ])) | (refine wpSeqB_off rfl rfl ?_; (try simp only [Act.put, List.setIfInBounds_toArray, List.set_cons_zero, List.set_cons_succ])) | (refine wpSeqB_offU rfl ?_; (try simp only [Act.put, List.setIfInBounds_toArray, List.set_cons_zero, List.set_cons_succ])))
      first | refine wpSeqB_call rfl (fun K hK => ?_) | refine wpSeqB_callG rfl rfl (fun K hK => ?_)
      go_simp
      refine hK.out _ _ s3 ?_
      clear hK K
      (try simp only [List.getElem_toArray, List.getElem_cons_succ, List.getElem_cons_zero, Act.put, List.setIfInBounds_toArray, List.set_cons_zero, List.set_cons_succ])
      repeat (first | (refine wpSeqB_pure (v := ?_) rfl ?_ ?_; rotate_left 1; (focus (intro wq_ hSq_; (try dsimp only at hSq_); go_simp; (try with_reducible rfl); done)); (try simp only [Act.put, List.setIfInBounds_toArray, List.set_cons_zero, List.set_cons_succ])) | (refine wpSeqB_pureG (v := ?_) rfl rfl ?_ ?_; rotate_left 1; (focus (intro wq_ hSq_; (try dsimp only at hSq_); go_simp; (try with_reducible rfl); done)); (try simp only [Act.put, List.setIfInBounds_toArray, List.set_cons_zero, List.set_cons_succ])) | (refine wpSeqB_off rfl rfl ?_; (try simp only [Act.put, List.setIfInBounds_toArray, List.set_cons_zero, List.set_cons_succ])) | (refine wpSeqB_offU rfl ?_; (try simp only [Act.put, List.setIfInBounds_toArray, List.set_cons_zero, List.set_cons_succ])))
      first | refine wpSeqB_call rfl (fun K hK => ?_) | refine wpSeqB_callG rfl rfl (fun K hK => ?_)
      go_simp
      refine hK.out _ _ s3 ?_
      clear hK K
      (try simp only [List.getElem_toArray, List.getElem_cons_succ, List.getElem_cons_zero, Act.put, List.setIfInBounds_toArray, List.set_cons_zero, List.set_cons_succ])
      repeat (first | (refine wpSeqB_pure (v := ?_) rfl ?_ ?_; rotate_left 1; (focus (intro wq_ hSq_; (try dsimp only at hSq_); go_simp; (try with_reducible rfl); done)); (try simp only [Act.put, List.setIfInBounds_toArray, List.set_cons_zero, List.set_cons_succ])) | (refine wpSeqB_pureG (v := ?_) rfl rfl ?_ ?_; rotate_left 1; (focus (intro wq_ hSq_; (try dsimp only at hSq_); go_simp; (try with_reducible rfl); done)); (try simp only [Act.put, List.setIfInBounds_toArray, List.set_cons_zero, List.set_cons_succ])) | (refine wpSeqB_off rfl rfl ?_; (try simp only [Act.put, List.setIfInBounds_toArray, List.set_cons_zero, List.set_cons_succ])) | (refine wpSeqB_offU rfl ?_; (try simp only [Act.put, List.setIfInBounds_toArray, List.set_cons_zero, List.set_cons_succ])))
      intro s_
      refine wpB_end (by kernel_rfl) ?_
      clear s_
      go_wp2_with fail
      go_returns
      exact ⟨_, rfl, ⟨p, rfl, HEND.out _ p s3 P3.out (by omega), by omega⟩, s3⟩
end Go.Proofs.Tb
