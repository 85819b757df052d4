/- Contracts of probe.apart and probe.Apart. -/
import Derived.Test.YtcjddfhhofoidaaDoorNeb
import Derived.Test.YtcjddfhhofoidaaDoorGb
import Derived.Maps.OwnSet
import Derived.Test.YtcjddfhhofoidaaDoorGd
import Derived.Deep.CutBlock
set_option linter.unusedVariables false
set_option linter.unusedSimpArgs false
namespace Go.Proofs.Tb
open Go.Maps Go.RowKit
attribute [local go_sem] cell_set_same

/-- The tests that show a fault, as a set. -/
def pnK (ts : List Tt) (f : Int) : Nat → Nat
  | 0 => 0
  | k + 1 => if shB (tS ts k) f = true then pnK ts f k ||| 2 ^ k else pnK ts f k
theorem pnK_t {ts : List Tt} {f : Int} {k : Nat} (h : shB (tS ts k) f = true) : pnK ts f (k + 1) = pnK ts f k ||| 2 ^ k := by rw [pnK, if_pos h]
theorem pnK_f {ts : List Tt} {f : Int} {k : Nat} (h : shB (tS ts k) f = false) : pnK ts f (k + 1) = pnK ts f k := by rw [pnK, if_neg (by rw [h]; exact Bool.false_ne_true)]
theorem pnK_bit (ts : List Tt) (f : Int) (i : Nat) : ∀ k, (pnK ts f k).testBit i = (decide (i < k) && shB (tS ts i) f)
  | 0 => by simp [pnK]
  | k + 1 => by
    by_cases h : shB (tS ts k) f = true
    · rw [pnK_t h, Nat.testBit_or, pnK_bit ts f i k, Nat.testBit_two_pow]
      by_cases hk : i = k
      · subst hk; simp [h]
      · by_cases hl : i < k
        · have : i < k + 1 := by omega
          simp [hl, this, Ne.symm hk]
        · have : ¬ i < k + 1 := by omega
          simp [hl, this, Ne.symm hk]
    · have h' : shB (tS ts k) f = false := by simpa using h
      rw [pnK_f h', pnK_bit ts f i k]
      by_cases hk : i = k
      · subst hk; simp [h']
      · by_cases hl : i < k
        · have : i < k + 1 := by omega
          simp [hl, this]
        · have : ¬ i < k + 1 := by omega
          simp [hl, this]
theorem pnK_lt (ts : List Tt) (f : Int) (k : Nat) : pnK ts f k < 2 ^ k := Nat.lt_pow_two_of_testBit _ fun i hi => by
  rw [pnK_bit, decide_eq_false (by omega)]
  rfl
theorem pnK_eq {ts : List Tt} {a b : Int} : pnK ts a ts.length = pnK ts b ts.length ↔ tdB ts (upL ts.length) a b = false := by
  have h1 : tdB ts (upL ts.length) a b = false ↔ ∀ i, i < ts.length → shB (tS ts i) a = shB (tS ts i) b := by
    rw [← Bool.not_eq_true, tdB_all, byK_ne]
    constructor
    · intro h i hi
      cases ha : shB (tS ts i) a <;> cases hb : shB (tS ts i) b <;> try rfl
      · exact absurd ⟨i, hi, by unfold difB; rw [ha, hb]; rfl⟩ h
      · exact absurd ⟨i, hi, by unfold difB; rw [ha, hb]; rfl⟩ h
    · rintro h ⟨i, hi, hd⟩
      unfold difB at hd
      rw [h i hi] at hd
      simp at hd
  rw [h1]
  constructor
  · intro h i hi
    have h2 := pnK_bit ts a i ts.length
    rw [h, pnK_bit, decide_eq_true hi] at h2
    simpa using h2.symm
  · intro h
    refine Nat.eq_of_testBit_eq fun i => ?_
    rw [pnK_bit, pnK_bit]
    by_cases hi : i < ts.length
    · rw [h i hi]
    · rw [decide_eq_false hi]; rfl
abbrev tdT (ts : List Tt) : Int → Int → Bool := tdB ts (upL ts.length)
theorem atK_congr {td : Int → Int → Bool} {o o' : List (List Int)} {f : Int} : ∀ {m : Nat}, (∀ j, j < m → (o.getD j []).getD 0 0 = (o'.getD j []).getD 0 0) → atK td o f m = atK td o' f m
  | 0, _ => rfl
  | m + 1, h => by
    unfold atK
    rw [h m (by omega), atK_congr fun j hj => h j (by omega)]
/-- The map holds, for the pattern of a fault, the fault's class, if there is one. -/
def MpI (ts : List Tt) (D : DataW Unit) (k : Nat) : Prop := ∀ f : Nat,
  (atK (tdT ts) (apC (tdT ts) k) (f : Int) (apC (tdT ts) k).length < 0 → Maps.has D (.int .i64 (pnK ts (f : Int) ts.length : Nat)) = false) ∧
  (0 ≤ atK (tdT ts) (apC (tdT ts) k) (f : Int) (apC (tdT ts) k).length → Maps.has D (.int .i64 (pnK ts (f : Int) ts.length : Nat)) = true ∧
    D.atKey (.int .i64 (pnK ts (f : Int) ts.length : Nat)) (.lit (.int .i64 0)) = .lit (.int .i64 (atK (tdT ts) (apC (tdT ts) k) (f : Int) (apC (tdT ts) k).length)))
theorem MpI.zero (ts : List Tt) : MpI ts (.map []) 0 := fun f => ⟨fun _ => rfl, fun h => by
  exfalso
  have : atK (tdT ts) (apC (tdT ts) 0) (f : Int) (apC (tdT ts) 0).length = -1 := rfl
  omega⟩
theorem clsA (ts : List Tt) (k : Nat) : ClsR (pat ts) k (apC (tdT ts) k) := ClsR.all (fun a b => tdB_pat ts a b) k
theorem MpI.old {ts : List Tt} {D : DataW Unit} {k a : Nat} (h : MpI ts D k) (ha : atK (tdT ts) (apC (tdT ts) k) (k : Int) (apC (tdT ts) k).length = (a : Int)) : MpI ts D (k + 1) := by
  have e : apC (tdT ts) (k + 1) = (apC (tdT ts) k).set a ((apC (tdT ts) k).getD a [] ++ [(k : Int)]) := stepC_set ha
  have hal : a < (apC (tdT ts) k).length := by
    have := atK_bd (tdT ts) (apC (tdT ts) k) (k : Int) (apC (tdT ts) k).length
    omega
  have hne : (apC (tdT ts) k).getD a [] ≠ [] := by
    rw [show (apC (tdT ts) k).getD a [] = (apC (tdT ts) k)[a] by simp [List.getD, hal]]
    exact (clsA ts k).ne (List.getElem_mem hal)
  have hc : ∀ f : Int, atK (tdT ts) (apC (tdT ts) (k + 1)) f (apC (tdT ts) (k + 1)).length = atK (tdT ts) (apC (tdT ts) k) f (apC (tdT ts) k).length := fun f => by
    rw [e, List.length_set]
    refine atK_congr fun j hj => ?_
    rw [getD_set' _ _ _ hal]
    by_cases hja : j = a
    · subst hja
      rw [if_pos rfl]
      cases hl : (apC (tdT ts) k).getD j [] with
      | nil => exact absurd hl hne
      | cons x l => rfl
    · rw [if_neg hja]
  intro f
  rw [hc]
  exact h f
theorem MpI.new {ts : List Tt} {D : DataW Unit} {k : Nat} (h : MpI ts D k) (hD : IsMap D) (ha : atK (tdT ts) (apC (tdT ts) k) (k : Int) (apC (tdT ts) k).length < 0) :
    MpI ts (D.put (.int .i64 (pnK ts (k : Int) ts.length : Nat)) (.lit (.int .i64 ((apC (tdT ts) k).length : Nat)))) (k + 1) := by
  have e : apC (tdT ts) (k + 1) = apC (tdT ts) k ++ [[(k : Int)]] := stepC_add ha
  have hc : ∀ f : Int, atK (tdT ts) (apC (tdT ts) (k + 1)) f (apC (tdT ts) (k + 1)).length = if tdT ts (k : Int) f = true then atK (tdT ts) (apC (tdT ts) k) f (apC (tdT ts) k).length else ((apC (tdT ts) k).length : Int) := fun f => by
    rw [e, List.length_append]
    show (if tdT ts (((apC (tdT ts) k ++ [[(k : Int)]]).getD (apC (tdT ts) k).length []).getD 0 0) f = true then _ else _) = _
    rw [getD_snoc, if_pos rfl]
    show (if tdT ts (k : Int) f = true then _ else _) = _
    rw [atK_congr (o := apC (tdT ts) k ++ [[(k : Int)]]) (o' := apC (tdT ts) k) (fun j hj => by rw [getD_snoc, if_neg (by omega)])]
  intro f
  rw [hc]
  by_cases hp : pnK ts (k : Int) ts.length = pnK ts (f : Int) ts.length
  · have ht := pnK_eq.1 hp
    have hk : WideAt.IsKeyLit (.int .i64 (pnK ts (k : Int) ts.length : Nat)) := trivial
    rw [if_neg (by show ¬ tdB ts (upL ts.length) (k : Int) (f : Int) = true; rw [ht]; exact Bool.false_ne_true), ← hp]
    exact ⟨fun h1 => by omega, fun _ => ⟨has_put_same hD hk _, atKey_put_same hD hk _ _⟩⟩
  · have ht : tdT ts (k : Int) (f : Int) = true := by
      cases h1 : tdB ts (upL ts.length) (k : Int) (f : Int) with
      | true => exact h1
      | false => exact absurd (pnK_eq.2 h1) hp
    have hne : Lit.int .i64 (pnK ts (f : Int) ts.length : Nat) ≠ .int .i64 (pnK ts (k : Int) ts.length : Nat) := fun h1 => by
      injection h1 with _ h1
      exact hp (by omega)
    rw [if_pos ht, has_put_other hne, atKey_put_other hne]
    exact h f
theorem OwR2.keptM {base b1 M : Nat} {w w' : World} {v : Value} {vs : List Value} {xss : List (List Int)} (h : OwR2 base b1 w v vs xss) (hg : w.grownBy w' (some M)) (h1 : M < base) (h2 : M < b1) : OwR2 base b1 w' v vs xss := by
  refine ⟨h.1.kept hg ?_, h.2.1, fun j => (h.2.2.1 j).kept hg ?_, h.2.2.2⟩
  · cases hv : v.ownBlock with
    | none => exact Or.inl rfl
    | some g =>
      refine Or.inr fun e => ?_
      injection e with e
      have := (h.1.lt g hv).1
      omega
  · cases hv : (vs.getD j nlS).ownBlock with
    | none => exact Or.inl rfl
    | some g =>
      refine Or.inr fun e => ?_
      injection e with e
      have := ((h.2.2.1 j).lt g hv).1
      omega
abbrev TMP : TypeId := 130
theorem lawI : Keyed Tryd.prog TIN := int_keyed Tryd.underlying3
theorem zeroI (w : World) : (zeroValue TIN).run Tryd.prog w = .ok (.int .i64 0) w := by kernel_rfl
theorem Gs.one {w : World} {A : Option Addr} {n c : Nat} {xss : List (List Int)} (h : Gs w A n c xss) {j : Nat} (hj : j < n) : ∃ b o A' n' c', A = some ⟨b, o, none⟩ ∧ w.cell? ⟨b, o + j, none⟩ = some (.slice A' n' c') ∧ Il w A' n' c' (xss.getD j []) := by
  obtain ⟨b, o, e, hc⟩ := h.at_ (by omega)
  obtain ⟨A', n', c', h1, h2⟩ := hc j hj
  exact ⟨b, o, A', n', c', e, h1, h2⟩
theorem set_last (l : List (List Int)) (x : Int) : (l ++ [[]]).set l.length ((l ++ [[]]).getD l.length [] ++ [x]) = l ++ [[x]] := by
  rw [getD_snoc, if_pos rfl, List.set_append_right _ _ (Nat.le_refl _)]
  simp
set_option maxHeartbeats 6400000 in
set_option maxRecDepth 100000 in
theorem rapart_any (A' : Option Addr) (n m d : Nat) (ts : List Tt) (w : World) (h' : Ts w A' m d ts) (hn : n ≤ 1000) (hm : m ≤ 16) :
    Calls Tryd.prog 58 #[.int .i64 (n : Int), .slice A' m d] w (Ret (fun v w' => ∃ b b1, OwS b b1 w' v (clsT n ts)) w) := by
  have l2 := h'.le
  have l2' := h'.cap
  have HL' := Lib.hid h'.len
  have H' := Lib.hid h'
  clear h'
  have hmm := @run_makeMap Tryd.prog
  go_enter Tryd.func58, Tryd.ntmps58
  go_wp2_with fail
  obtain ⟨M, hM⟩ : ∃ M, w.heap.size = M := ⟨_, rfl⟩
  have hs0 : OwS (M + 1) (M + 1) (w.alloc (.map #[] 0)) (.slice none 0 0) (apC (tdT ts) 0) := OwS.nil _ _ _
  have hm0 : (w.alloc (.map #[] 0)).ownsMap Tryd.prog TIN (plainElem (H := Unit) Tryd.prog TIN) M 0 (.map []) := by rw [← hM]; exact World.ownsMap_made _ _ _ _
  have hb0 : Below M w (w.alloc (.map #[] 0)) := by rw [← hM]; exact (Below.refl _ _).alloc (Nat.le_refl _) _
  rw [hM]
  have H0 := Lib.hid (And.intro hs0 (And.intro hm0 (And.intro (MpI.zero ts) (And.intro hb0 (show M + 1 ≤ (w.alloc (.map #[] 0)).heap.size by simp; omega)))))
  have HM := Lib.hid hM
  clear hs0 hm0 hb0 hM hmm
  go_loopw [5, 15] (fun v i wr => ∃ (k : Nat) (D : DataW Unit), k ≤ n ∧ i = .int .i64 (k : Int) ∧ OwS (M + 1) (M + 1) wr v (apC (tdT ts) k) ∧ wr.ownsMap Tryd.prog TIN (plainElem Tryd.prog TIN) M k D ∧ MpI ts D k ∧ Below M w wr ∧ M + 1 ≤ wr.heap.size) (fun _ i _ => n - (intOf i).toNat)
  case atStart => exact ⟨0, _, by omega, rfl, H0.out⟩
  case round =>
    clear H0
    obtain ⟨k, D, hk, rfl, hown, hmp, hmi, hbw, hsz⟩ := hrel
    obtain ⟨A5, c5, rfl, gs5⟩ := hown.gs
    obtain ⟨p, hp⟩ : ∃ p, (apC (tdT ts) k).length = p := ⟨_, rfl⟩
    have hpk : p ≤ k := by rw [← hp]; exact apC_len _ k
    rw [hp] at gs5 hown ⊢
    have HP := Lib.hid hp
    have HS := Lib.hid hown
    have HMP := Lib.hid hmp
    have HMI := Lib.hid hmi
    have HB := Lib.hid hbw
    have HSZ := Lib.hid hsz
    have g5 := gs5.le
    have g5' := gs5.cap
    clear hown hmp hmi hbw gs5 hsz hp
    by_cases hkn : k < n
    · have pk : (k : Int) < (n : Int) := by omega
      obtain ⟨W5, hW5⟩ : ∃ W, W = wr := ⟨_, rfl⟩
      subst hW5
      go_wp2_with fail
      go_loopw [8, 20] (fun y i wr => ∃ j : Nat, j ≤ m ∧ i = .int .i64 (j : Int) ∧ y = .int .i64 (pnK ts (k : Int) j : Nat) ∧ Ext W5 wr) (fun _ i _ => m - (intOf i).toNat)
      case atStart => exact ⟨0, by omega, rfl, rfl, Ext.refl _⟩
      case round =>
        obtain ⟨j, hj, rfl, rfl, hx⟩ := hrel
        have HX := Lib.hid hx
        by_cases hjm : j < m
        · have pj : (j : Int) < (m : Int) := by omega
          obtain ⟨bT, oT, rfl, hcell⟩ := (H'.out.below (bt (by rw [HM.out]; exact HB.out) hx)).at_ (by omega)
          obtain ⟨ck1, A6, n6, c6, ck2, il6⟩ := hcell j hjm
          obtain ⟨x, hxx⟩ : ∃ x, tC ts j = x := ⟨_, rfl⟩
          rw [hxx] at ck1
          have HIL := Lib.hid il6
          have hlt := pnK_lt ts (k : Int) j
          have hpw : (2 : Nat) ^ j ≤ 65536 := Nat.pow_le_pow_right (n := 2) (by omega) (show j ≤ 16 by omega)
          obtain ⟨q, hq⟩ : ∃ q, (2 : Nat) ^ j = q := ⟨_, rfl⟩
          rw [hq] at hpw hlt
          have wp := wrap_pow j q hq (Nat.lt_of_le_of_lt hpw (by decide))
          have HS1 := Lib.hid (show shB (tS ts j) (k : Int) = true → pnK ts (k : Int) (j + 1) = pnK ts (k : Int) j ||| q from fun e => by rw [← hq]; exact pnK_t e)
          have HS2 := Lib.hid (show shB (tS ts j) (k : Int) = false → pnK ts (k : Int) (j + 1) = pnK ts (k : Int) j from pnK_f)
          obtain ⟨S, hS⟩ : ∃ S, pnK ts (k : Int) j = S := ⟨_, rfl⟩
          rw [hS] at hlt HS1 HS2 ⊢
          have wq := i64_or S q (Nat.lt_trans (Nat.lt_of_lt_of_le hlt hpw) (by decide)) (Nat.lt_of_le_of_lt hpw (by decide))
          clear hcell hxx il6 hS hq hlt
          go_upto_region 10 with fail
          have b9 : Blk (wr.alloc (.cells #[.int .i64 x, .slice A6 n6 c6] TTE)) wr.heap.size TTE #[.int .i64 x, .slice A6 n6 c6] := Blk.new_ _ _ rfl
          have x9 : Ext wr (wr.alloc (.cells #[.int .i64 x, .slice A6 n6 c6] TTE)) := Ext.allocR _ _
          refine wp_world (fun W1 => Blk W1 wr.heap.size TTE #[.int .i64 x, .slice A6 n6 c6] ∧ Ext wr W1) ⟨b9, x9⟩ ?_
          clear b9 x9 ck1 ck2 hx
          rintro W1 ⟨b9, x9⟩
          obtain ⟨p9, hp9⟩ : ∃ p, wr.heap.size = p := ⟨_, rfl⟩
          rw [hp9] at b9 ⊢
          have c9 := b9.cells
          simp only [cellsAre, Nat.zero_add, Nat.reduceAdd, and_true] at c9
          have HX9 := Lib.hid (bt HX.out x9)
          have HW9 := Lib.hid x9
          clear b9 x9 hp9
          go_wp2_with fail
          refine (lcontains_any A6 n6 c6 (tS ts j) (k : Int) W1 (HIL.out.below HW9.out)).mono ?_
          rintro e y2 ⟨z2, rfl, rfl, b2⟩
          have HZ := Lib.hid (bt HX9.out b2)
          clear b2 c9
          cases hsh : shB (tS ts j) (k : Int) with
          | true =>
            have HSS := Lib.hid (HS1.out hsh)
            clear hsh
            go_wp2
            go_roundw
            case rel => exact ⟨j + 1, by omega, by go_num, by rw [HSS.out, ← wq], HZ.out⟩
            case measure => simp [intOf]; omega
          | false =>
            have HSS := Lib.hid (HS2.out hsh)
            clear hsh
            go_wp2
            go_roundw
            case rel => exact ⟨j + 1, by omega, by go_num, by rw [HSS.out], HZ.out⟩
            case measure => simp [intOf]; omega
        · obtain rfl : j = m := by omega
          have hpm : (2 : Nat) ^ j ≤ 65536 := Nat.pow_le_pow_right (n := 2) (by omega) hm
          have hlt := pnK_lt ts (k : Int) j
          have hmk := HMI.out k
          rw [HL'.out] at hmk
          obtain ⟨P, hP⟩ : ∃ P, pnK ts (k : Int) j = P := ⟨_, rfl⟩
          rw [hP] at hmk hlt ⊢
          have hkey : keyOf Tryd.prog TIN (.int .i64 (P : Int)) = some (.int .i64 (P : Int)) := keyOf_int_mk Tryd.underlying3 (WalkArith.wf_i64 (by omega))
          have hmp : wr.ownsMap Tryd.prog TIN (plainElem Tryd.prog TIN) M k D := HMP.out.kept (row := none) ⟨hx.os, hx.tape, hx.output, hx.size, fun i hi _ => hx.block i hi⟩ (by simp)
          obtain ⟨vs, hvs⟩ := HS.out
          have HV := Lib.hid (hvs.below hx)
          have HVL := Lib.hid (show vs.length = p from hvs.2.1.trans HP.out)
          have HB6 := Lib.hid (show Below M w wr from HB.out.trans (Below.mono hx (by have := HSZ.out; omega)))
          have HS6 := Lib.hid (show M + 1 ≤ wr.heap.size from Nat.le_trans HSZ.out hx.size)
          obtain ⟨a, ha⟩ : ∃ a, atK (tdT ts) (apC (tdT ts) k) (k : Int) (apC (tdT ts) k).length = a := ⟨_, rfl⟩
          have hab := atK_bd (tdT ts) (apC (tdT ts) k) (k : Int) (apC (tdT ts) k).length
          rw [ha] at hmk hab
          have HA := Lib.hid ha
          have HMK := Lib.hid hmk
          have HHP := Lib.hid (show P = pnK ts (k : Int) ts.length by rw [HL'.out, hP])
          have HMPW := Lib.hid hmp
          clear hx hvs hmk ha hP hpm hlt
          go_upto_region 14 with (at_lookup; refine wpList_lookup_own_ok_int _ rfl _ _ TMP rfl TIN TIN .i64 lawI Tryd.underlying130 Tryd.underlying3 (zeroI _) M k _ rfl HMPW.out _ _ rfl hkey ?_; intro c hat hwc)
          obtain ⟨hb, hhb⟩ : ∃ hb, Maps.has D (.int .i64 (P : Int)) = hb := ⟨_, rfl⟩
          rw [hhb]
          have HHB := Lib.hid hhb
          clear hhb
          go_upto_if 41 with fail
          go_cut [5, 11] (fun v5 v11 wx => ∃ (a' : Nat) (xss : List (List Int)) (D' : DataW Unit) (vs' : List Value), v11 = .int .i64 (a' : Int) ∧ a' < xss.length ∧ xss.length ≤ k + 1 ∧ (xss.getD a' []).length ≤ k ∧ xss.set a' (xss.getD a' [] ++ [(k : Int)]) = apC (tdT ts) (k + 1) ∧ OwR2 (M + 1) (M + 1) wx v5 vs' xss ∧ wx.ownsMap Tryd.prog TIN (plainElem Tryd.prog TIN) M (k + 1) D' ∧ MpI ts D' (k + 1) ∧ Below M w wx ∧ M + 1 ≤ wx.heap.size)
          case first =>
            by_cases ha0 : a < 0
            · obtain rfl : hb = false := by rw [← HHB.out]; exact HMK.out.1 ha0
              have hd0 := HMI.out.new HMPW.out.isMap (by rw [HA.out]; exact ha0)
              rw [← HHP.out, HP.out] at hd0
              have HD0 := Lib.hid hd0
              clear hat hd0
              go_wp2_with (first
                | (at_mapUpdate; (refine wpList_mapUpdate_own _ rfl _ _ _ TMP rfl TIN TIN lawI Tryd.underlying130 _ M k _ rfl HMPW.out (by unfold maxLen; omega) _ _ _ rfl rfl hkey _ [] (plainElem_int Tryd.underlying3 (WalkArith.wf_i64 (n := (p : Int)) (by omega))) ?_); intro w1 hown1 hgrow1; go_loud (have r1 := (HV.out.keptM hgrow1 (by omega) (by omega)).below (Ext.allocR w1 (.cells #[.slice none 0 0] TIS)); have hown2 := hown1.alloc (.cells #[.slice none 0 0] TIS); have e1 : Below M w (w1.alloc (.cells #[.slice none 0 0] TIS)) := (HB6.out.grown hgrow1 (by have h1 := HS6.out; omega) (fun j hj => by cases hj; exact Nat.le_refl _)).alloc (by have h1 := HS6.out; have h2 := hgrow1.size; omega) _; have e2 : M + 1 ≤ (w1.alloc (.cells #[.slice none 0 0] TIS)).heap.size := (by have h1 := HS6.out; have h2 := hgrow1.size; simp; omega); have R1 := Lib.hid (And.intro r1 (And.intro hown2 (And.intro e1 e2))); have hrow := r1.1; rw [HVL.out] at hrow; have RW := Lib.hid hrow; have B2 := Lib.hid (cell_new w1 [.slice none 0 0] TIS); clear r1 hown2 e1 e2 hrow hown1 hgrow1))
                | (at_builtin; refine wp_appE TSS TIS _ 1 24 is_info Tryd.underlying45 rfl (by omega) (by omega) rfl _ _ rfl (M + 1) _ p vs rfl RW.out ⟨w1.heap.size, 0, none⟩ 1 1 [.slice none 0 0] rfl rfl B2.out (slc_one _ _ _) (by omega) (by omega) R1.out.2.2.2 ?_; intro v3 w3 ho3 hb3 hg3; rw [← HVL.out] at ho3; have r3 := R1.out.1.snoc (OwI.nil _ _) (fun j g e => by simp [Value.ownBlock] at e) ho3 hg3; have o3 := R1.out.2.1.kept hg3 (fun e => by have := R1.out.1.1.lt M e.symm; omega); have R3 := Lib.hid (And.intro r3 (And.intro o3 (And.intro (R1.out.2.2.1.trans (hb3.mono (by omega))) (Nat.le_trans R1.out.2.2.2 hg3.size)))); clear r3 o3 ho3 hb3 hg3))
              go_meet
              refine ⟨p, apC (tdT ts) k ++ [[]], _, _, rfl, by rw [List.length_append, HP.out]; simp, by rw [List.length_append, HP.out]; simp; omega, ?_, ?_, R3.out.1, R3.out.2.1, HD0.out, R3.out.2.2.1, R3.out.2.2.2⟩
              · rw [← HP.out, getD_snoc, if_pos rfl]; simp
              · rw [← HP.out, set_last]
                exact (stepC_add (by rw [HA.out]; exact ha0)).symm
            · obtain ⟨a', rfl⟩ : ∃ a' : Nat, a = (a' : Int) := ⟨a.toNat, by omega⟩
              obtain ⟨hhas, hat2⟩ := HMK.out.2 (by omega)
              rw [hat2] at hat
              injection hat with hat
              injection hat with _ hat
              subst hat
              have hal : a' < (apC (tdT ts) k).length := by omega
              obtain rfl : hb = true := by rw [← HHB.out]; exact hhas
              have HN := Lib.hid (show (apC (tdT ts) k).set a' ((apC (tdT ts) k).getD a' [] ++ [(k : Int)]) = apC (tdT ts) (k + 1) from (stepC_set HA.out).symm)
              have HMO := Lib.hid (HMI.out.old HA.out)
              go_wp2_with fail
              go_meet
              exact ⟨a', apC (tdT ts) k, D, vs, rfl, hal, by rw [HP.out]; omega, by
                rw [show (apC (tdT ts) k).getD a' [] = (apC (tdT ts) k)[a'] by simp [List.getD, hal]]
                exact (clsA ts k).clen (List.getElem_mem hal), HN.out, HV.out, HMPW.out.mono (by omega), HMO.out, HB6.out, HS6.out⟩
          case rest =>
            obtain ⟨a', xss, D', vs', rfl, hal, hxl, hxk, hset, hr2, hmp2, hmi2, hbw2, hsz2⟩ := hcut
            clear hat hwc hkey hmp HMPW HV HMK HA
            obtain ⟨A7, c7, hv7, gs7⟩ := OwS.gs ⟨vs', hr2⟩
            subst hv7
            obtain ⟨q, hq⟩ : ∃ q, xss.length = q := ⟨_, rfl⟩
            have hvl : vs'.length = q := hr2.2.1.trans hq
            obtain ⟨q5, rfl⟩ := hr2.addr (by omega)
            have ck5 := hr2.cell hal
            obtain ⟨A8, c8, hv8, il8⟩ := (hr2.2.2.1 a').il
            obtain ⟨zs, hzs⟩ : ∃ zs, xss.getD a' [] = zs := ⟨_, rfl⟩
            obtain ⟨n8, hn8⟩ : ∃ n8, zs.length = n8 := ⟨_, rfl⟩
            rw [hzs, hn8] at hv8
            rw [hzs] at hset hxk
            rw [hn8] at hxk
            rw [hq] at hr2 gs7 hal hxl ⊢
            have g7 := gs7.le
            have g7' := gs7.cap
            have paq : (a' : Int) < (q : Int) := by omega
            have x1 : Ext wc (wc.alloc (.cells #[.int .i64 (k : Int)] TIN)) := Ext.allocR _ _
            have r1 := hr2.below x1
            have hrow := r1.2.2.1 a'
            rw [hv8, hzs] at hrow
            unfold OwI at hrow
            rw [hn8] at hrow
            rw [hv8] at ck5
            have ck6 := Ext.cell x1 ck5
            have R1 := Lib.hid (And.intro r1 (And.intro hv8 (And.intro (hmp2.alloc (.cells #[.int .i64 (k : Int)] TIN)) (And.intro hal (And.intro hn8 (hbw2.alloc (by omega) (.cells #[.int .i64 (k : Int)] TIN)))))))
            have RW := Lib.hid hrow
            have HSET := Lib.hid hset
            have HMI2 := Lib.hid hmi2
            have HZS := Lib.hid hzs
            have HSZ2 := Lib.hid hsz2
            have HVL2 := Lib.hid hvl
            have HQ := Lib.hid hq
            clear x1 r1 hrow il8 hzs hv8 hn8 hr2 hmp2 hbw2 hset hmi2 gs7 hsz2 hvl hq
            go_wp2_with (at_builtin; refine wp_appE2 TIS TIN _ 1 8 int_info Tryd.underlying37 rfl (by omega) (by omega) rfl _ _ rfl (M + 1) _ n8 _ rfl RW.out ⟨wc.heap.size, 0, none⟩ 1 1 [.int .i64 (k : Int)] rfl rfl (cell_new wc [.int .i64 (k : Int)] TIN) (int_one _) (by omega) (by omega) (by have := HSZ2.out; simp; omega) ?_; intro v3 w3 ho3 hb3 hg3' hd3'; have hg3 : (wc.alloc (.cells #[.int .i64 (k : Int)] TIN)).grownBy w3 (Value.slice A8 n8 c8).ownBlock := hg3'; have hd3 : v3.ownBlock = (Value.slice A8 n8 c8).ownBlock ∨ v3.ownBlock = some (wc.alloc (.cells #[.int .i64 (k : Int)] TIN)).heap.size := hd3'; clear hg3' hd3'; obtain ⟨r1, hv8, i1, hjl, hn8, e1⟩ := R1.out; rw [← hn8] at ho3; have u3 := OwI.snoc ho3; obtain ⟨A9, c9, rfl, _⟩ := u3.il; rw [← hv8] at hg3 hd3; have ro := r1.outer hg3; have cc3 := row_cell ro (show a' < vs'.length by rw [HVL2.out]; exact hjl); have ff3 := row_free ro a'; have R3 := Lib.hid (And.intro u3 (And.intro hg3 (And.intro hd3 hb3))); clear r1 hv8 i1 hjl hn8 e1 ho3 u3 hg3 hd3 hb3 ro)
            obtain ⟨r1, hv8, i1, hjl, hn8, e1⟩ := R1.out
            obtain ⟨u3, hg3, hd3, hb3⟩ := R3.out
            have ro := r1.outer hg3
            obtain ⟨hq5, cur5, hbk5⟩ := own_blk ro
            have HN := Lib.hid (show OwS (M + 1) (M + 1) (w3.setCell ⟨q5, a', none⟩ (.slice A9 (zs.length + 1) c9)) (.slice (some ⟨q5, 0, none⟩) q c7) (apC (tdT ts) (k + 1)) from ⟨_, by rw [← HSET.out]; simp only [List.length_append, List.length_cons, List.length_nil, Nat.zero_add] at u3 hd3; exact r1.put (by rw [HQ.out]; exact hjl) u3 hg3 hd3⟩)
            have i3 := i1.kept hg3 (fun e => by have := own_geE (r1.2.2.1 a') M e.symm; omega)
            have HNM := Lib.hid (i3.setCell (a := ⟨q5, a', none⟩) (by show M ≠ q5; omega) (.slice A9 (zs.length + 1) c9))
            have HNS := Lib.hid (show M + 1 ≤ (w3.setCell ⟨q5, a', none⟩ (.slice A9 (zs.length + 1) c9)).heap.size from Nat.le_trans HSZ2.out (by have h1 := hb3.size; simp at h1 ⊢; omega))
            have HNB := Lib.hid (Below.setCell (e1.trans (hb3.mono (by omega))) (show M ≤ q5 by omega) (p := ⟨q5, a', none⟩) (.slice A9 (zs.length + 1) c9))
            clear r1 hv8 i1 hjl hn8 e1 u3 hg3 hd3 hb3 ro hq5 hbk5 i3 R1 R3 RW
            go_roundw
            case rel => exact ⟨k + 1, D', by omega, by go_num, HN.out, HNM.out, HMI2.out, HNB.out, HNS.out⟩
            case measure => simp [intOf]; omega
    · obtain rfl : k = n := by omega
      have HE := Lib.hid (show OwS (M + 1) (M + 1) wr (.slice A5 p c5) (clsT k ts) from HS.out)
      go_wp2
      go_returns
      exact ⟨_, rfl, ⟨_, _, HE.out⟩, by rw [HM.out]; exact HB.out⟩
end Go.Proofs.Tb
