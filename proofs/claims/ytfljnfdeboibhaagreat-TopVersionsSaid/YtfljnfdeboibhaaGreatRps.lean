/- The pieces of TopVersions: contracts of equal, puts; a restart. -/
import Derived.Test.YtfljnfdeboibhaaGreatRpr
set_option linter.unusedVariables false
set_option linter.unusedSimpArgs false
namespace Go.Proofs.Tb
open Go.Maps Go.RowKit Go.Lib
attribute [local go_sem] cell_set_same neqMapL

/-- The newest version. -/
abbrev lastV (Vs : List (List Pr)) : List Pr := Vs.getD (Vs.length - 1) []
theorem st_newest2 {F : Nat → Prop} {w : World} {s d keep n left : Nat} {Vs : List (List Pr)} (h : STl F w s d keep n Vs left) :
    Calls Tryz.prog 46 #[.pointer (some ⟨s, 0, none⟩)] w (Ret (fun v _ => v = .int .i64 ((Vs.length - 1 : Nat) : Int)) w) := by
  obtain ⟨vs, B, h1, h2⟩ := h.srE
  obtain ⟨t0, hf⟩ := h2.vsn.first
  exact rnewest_any h1 hf
theorem st_range_last {F : Nat → Prop} {w : World} {s d keep n left : Nat} {Vs : List (List Pr)} (h : STl F w s d keep n Vs left) (hV : Vs.length ≤ 100000) (hz : ∀ l ∈ Vs, l.length ≤ 1000) {v : Nat} (hv : v < Vs.length) (hk : Vs.length - 1 - v ≤ keep) :
    Calls Tryz.prog 31 #[.pointer (some ⟨s, 0, none⟩), .int .i64 (v : Int), .string ⟨#[]⟩, .string ⟨#[]⟩, .int .i64 1000] w (Ret (fun z w' => ∃ A c, z = .tuple #[.slice A (Vs.getD v []).length c, .int .i64 0] ∧ OwP w.heap.size w' (.slice A (Vs.getD v []).length c) (Vs.getD v [])) w) := by
  have m1 : (Vs.getD v []).length ≤ 1000 := by rw [List.getD_eq_getElem?_getD, List.getElem?_eq_getElem hv]; exact hz _ (List.getElem_mem hv)
  refine (st_range_any h hV hv hk (fun x hx => by have := hz x hx; omega) ⟨#[]⟩ ⟨#[]⟩ 1000 (by omega) (by decide)).mono ?_
  rintro e w' ⟨z, rfl, ⟨z', rfl, ho⟩, b⟩
  rw [rngP_all m1] at ho
  obtain ⟨A, c, rfl, _⟩ := ho.rv
  exact ⟨_, rfl, ⟨A, c, rfl, ho⟩, b⟩
set_option maxHeartbeats 3200000 in
set_option maxRecDepth 100000 in
theorem tequal_any {F G : Nat → Prop} {w : World} {p q d e kp kq n m lp lq : Nat} {Vs Ws : List (List Pr)} (hp : STl F w p d kp n Vs lp) (hq : STl G w q e kq m Ws lq) (hV : Vs.length ≤ 100000) (hW : Ws.length ≤ 100000) (hz : ∀ l ∈ Vs, l.length ≤ 1000) (hy : ∀ l ∈ Ws, l.length ≤ 1000) (he : lastV Vs = lastV Ws) :
    Calls Tryz.prog 56 #[.pointer (some ⟨p, 0, none⟩), .pointer (some ⟨q, 0, none⟩)] w (Ret (fun z _ => z = .bool true) w) := by
  have hVp := hp.posE
  have hWp := hq.posE
  have HP := Lib.hid hp
  have HQ := Lib.hid hq
  have HZ := Lib.hid (And.intro hz hy)
  obtain ⟨N, hN⟩ : ∃ N, Vs.length - 1 = N := ⟨_, rfl⟩
  obtain ⟨M, hM⟩ : ∃ M, Ws.length - 1 = M := ⟨_, rfl⟩
  unfold lastV at he
  rw [hN, hM] at he
  have HE := Lib.hid he
  have HN := Lib.hid (And.intro hN hM)
  obtain ⟨L, hL⟩ : ∃ L, Vs.getD N [] = L := ⟨_, rfl⟩
  have HL := Lib.hid (show Vs.getD N [] = L ∧ Ws.getD M [] = L from ⟨hL, he.symm.trans hL⟩)
  have hLl : L.length ≤ 1000 := by
    rw [← hL, List.getD_eq_getElem?_getD, List.getElem?_eq_getElem (by omega)]
    exact hz _ (List.getElem_mem _)
  clear hp hq hz hy he hN hM hL
  go_enter Tryz.func56, Tryz.ntmps56
  go_wp2_with fail
  refine (st_newest2 HP.out).mono ?_
  rintro e' w1 ⟨v1, rfl, rfl, b1⟩
  rw [HN.out.1]
  have X1 := Lib.hid (show Ext w w1 from b1)
  clear b1
  go_wp2_with fail
  refine (st_range_last (HP.out.ext X1.out) hV HZ.out.1 (v := N) (by have := HN.out; omega) (by have := HN.out; omega)).mono ?_
  rintro e' w2 ⟨v2, rfl, ⟨A2, c2, rfl, o2⟩, b2⟩
  rw [HL.out.1] at o2 ⊢
  have X2 := Lib.hid (bt X1.out b2)
  have R2 := Lib.hid (own_rvv o2)
  clear b2 o2 X1
  go_wp2_with fail
  refine (st_newest2 (HQ.out.ext X2.out)).mono ?_
  rintro e' w3 ⟨v3, rfl, rfl, b3⟩
  rw [HN.out.2]
  have X3 := Lib.hid (bt X2.out b3)
  have R3 := Lib.hid (R2.out.below b3)
  clear b3 X2 R2
  go_wp2_with fail
  refine (st_range_last (HQ.out.ext X3.out) hW HZ.out.2 (v := M) (by have := HN.out; omega) (by have := HN.out; omega)).mono ?_
  rintro e' w4 ⟨v4, rfl, ⟨A4, c4, rfl, o4⟩, b4⟩
  rw [HL.out.2] at o4 ⊢
  have X4 := Lib.hid (bt X3.out b4)
  have R4 := Lib.hid (And.intro (R3.out.below b4) (own_rvv o4))
  clear b4 o4 X3 R3
  go_wp2_with fail
  refine (tpairs_any A2 A4 _ c2 _ c4 L w4 R4.out.1 R4.out.2 (by omega)).mono ?_
  rintro e' w5 ⟨v5, rfl, rfl, b5⟩
  have X5 := Lib.hid (bt X4.out b5)
  clear b5
  go_wp2
  go_returns
  exact ⟨_, rfl, rfl, X5.out⟩
/-- Behind a crash: the disk that is started again holds the versions, or one more. -/
theorem std_restart {F : Nat → Prop} {w : World} {s d keep n : Nat} {Vs : List (List Pr)} {L : List Pr} (h : STd F w s d keep n Vs L) (hF : ∀ b, w.heap.size ≤ b → F b) (hn : 2 ≤ n) (A : Option Addr) (nk ck : Nat) (ks : List Nat) (hkr : ∀ W, Chg (MF F) w W → Rv W 1 A nk ck (bc ks)) (hks : ∀ b ∈ ks, b < 256) :
    Calls Tryz.prog 48 #[.pointer (some ⟨d, 0, none⟩), .slice A nk ck] w fun e w' => (∃ v, e = .returned v) ∧ ∃ Vs', (Vs' = Vs ∨ Vs' = Vs ++ [L]) ∧ DkS F w' d keep n Vs' ∧ Chg (MF F) w w' := by
  obtain ⟨vs, B, bl, lf, hsi, hvs, hbl, hfew, hrst⟩ := h
  refine (rrestart_ok hsi.dk hF (by omega) A nk ck ks hkr hks (fun k => Nat.le_trans (hfew k) (by omega))).mono ?_
  rintro e w' ⟨hv, cur, hrs, hd1, hc1⟩
  have hlen : (cur.map fun l => [l]).length = n := by rw [List.length_map]; exact hrs.1.trans hbl
  have hf2 : ∀ k, ((cur.map fun l => [l]).getD k []).length ≤ 1 := fun k => by
    rw [List.getD_eq_getElem?_getD, List.getElem?_map]
    cases cur[k]? <;> simp
  have hsd : ∀ Ws, Sdd cur keep Ws → Sdd (lastsB (cur.map fun l => [l])) keep Ws := fun Ws h => by
    show Sdd (List.map (fun l => l.getLastD z64) (cur.map fun l => [l])) keep Ws
    rw [lasts_one]; exact h
  refine ⟨hv, ?_⟩
  rcases hrst cur hrs with h | h
  · exact ⟨Vs, .inl rfl, ⟨_, hd1, hsd _ h, hf2, hlen⟩, hc1⟩
  · exact ⟨Vs ++ [L], .inr rfl, ⟨_, hd1, hsd _ h, hf2, hlen⟩, hc1⟩
theorem fit_gen {Vs : List (List Pr)} {L : List Pr} {keep m n : Nat} (hV : ∀ l ∈ Vs, l.length ≤ m) (hL : L.length ≤ m) (hm : (keep + 2) * (4 * (m + 24)) ≤ n) : fitB Vs keep L (n : Int) = true := by
  have h1 : ∀ l ∈ (Vs ++ [L]).drop (Vs.length - 1 - keep), l.length ≤ m := fun l hl => by
    rcases List.mem_append.1 (List.mem_of_mem_drop hl) with h | h
    · exact hV l h
    · rw [List.mem_singleton.1 h]; exact hL
  have h2 := fitN_le _ h1
  have h3 : ((Vs ++ [L]).drop (Vs.length - 1 - keep)).length ≤ keep + 2 := by
    rw [List.length_drop, List.length_append, List.length_singleton]; omega
  have h4 : ((Vs ++ [L]).drop (Vs.length - 1 - keep)).length * (4 * (m + 24)) ≤ (keep + 2) * (4 * (m + 24)) := Nat.mul_le_mul_right _ h3
  unfold fitB
  rw [decide_eq_true_iff]
  omega
theorem rv_drop {w : World} {k n c b o : Nat} {vs : List Value} (h : Rv w k (some ⟨b, o, none⟩) n c vs) {j : Nat} (hj : j ≤ n) : Rv w k (some ⟨b, o + j * k, none⟩) (n - j) (c - j) (vs.drop (j * k)) := by
  have hle := h.le
  refine ⟨by rw [List.length_drop, h.len, Nat.sub_mul], by omega, by have := h.cap; omega, fun h0 => ⟨b, o + j * k, rfl, fun i u hi => ?_⟩⟩
  obtain ⟨b', o', e, hc⟩ := h.at_ (by omega)
  injection e with e
  injection e with e1 e2
  subst e1 e2
  rw [List.getElem?_drop] at hi
  have := hc _ u hi
  rwa [← Nat.add_assoc] at this
theorem ccs_drop (cs : List Cg) (n : Nat) : (ccs cs).drop (n * 3) = ccs (cs.drop n) := by
  induction n generalizing cs with
  | zero => simp
  | succ n ih =>
    cases cs with
    | nil => simp [ccs]
    | cons c cs =>
      have e : ccs (c :: cs) = [Value.string c.k, .string c.v, .bool c.gone] ++ ccs cs := rfl
      rw [e, Nat.add_mul, Nat.one_mul, List.drop_succ_cons, ← ih cs, List.drop_append, List.drop_eq_nil_of_le (by simp)]
      simp [Nat.add_sub_cancel]
theorem aft_app (L : List Pr) (a b : List Cg) : aft L (a ++ b) = aft (aft L a) b := by
  unfold aft; rw [List.foldl_append]
theorem batB_of {cs : List Cg} (h : ∀ c ∈ cs, chgB c = true) (h1 : 1 ≤ cs.length) (h2 : cs.length ≤ 16) : batB cs = true := by
  unfold batB
  rw [List.all_eq_true.2 h, decide_eq_true h1, decide_eq_true h2]
  rfl
/-- Where puts stands. -/
structure PuS (F : Nat → Prop) (w W : World) (s d n : Nat) (Vs : List (List Pr)) (L : List Pr) (l : List Cg) (j m : Nat) (Vs' : List (List Pr)) : Prop where
  st : STl F W s d 0 n Vs' 0
  ln : Vs'.length ≤ Vs.length + j
  ls : lastV Vs' = aft L (l.take j)
  le : ∀ x ∈ Vs', x.length ≤ m
  ch : Chg (MF F) w W
set_option maxHeartbeats 6400000 in
set_option maxRecDepth 100000 in
theorem tputs_any {F : Nat → Prop} {w : World} {s d n m : Nat} {Vs : List (List Pr)} (h : STl F w s d 0 n Vs 0) (hF : ∀ b, w.heap.size ≤ b → F b) (hn : 2 ≤ n) (hV : Vs.length ≤ 500) {L : List Pr} (hL : lastV Vs = L) (A : Option Addr) (nl c : Nat) (l : List Cg) (hr : ∀ W, Chg (MF F) w W → Rv W 3 A nl c (ccs l)) (hl : nl ≤ 200) (hc : ∀ x ∈ l, chgB x = true)
    (hm : ∀ x ∈ Vs, x.length ≤ m) (hm2 : L.length + nl ≤ m) (hmn : (0 + 2) * (4 * (m + 24)) ≤ n) (hm3 : m ≤ 1000) :
    Calls Tryz.prog 55 #[.pointer (some ⟨s, 0, none⟩), .slice A nl c] w fun e w' => e = .returned (.bool true) ∧ ∃ Vs', PuS F w w' s d n Vs L l nl m Vs' := by
  have hr0 := hr w (Chg.ext (Ext.refl w))
  have hll : l.length = nl := by have := hr0.len; rw [ccs_len] at this; omega
  have hle := hr0.le
  have hcp := hr0.cap
  have H0 := Lib.hid (show PuS F w w s d n Vs L l 0 m Vs from ⟨h, by omega, by rw [hL]; rfl, hm, Chg.ext (Ext.refl w)⟩)
  have HR := Lib.hid hr
  have HF := Lib.hid hF
  have HC := Lib.hid hc
  have HLL := Lib.hid hll
  have HAT := Lib.hid hr0.at_
  have HM := Lib.hid (And.intro hm2 hmn)
  clear h hF hL hr hc hm hm2 hmn hr0 hll
  go_enter Tryz.func55, Tryz.ntmps55
  go_wp2_with fail
  go_loopw [1] (fun v wr => ∃ (j : Nat) (A' : Option Addr) (c' : Nat) (Vs' : List (List Pr)), j ≤ nl ∧ v = .slice A' (nl - j) c' ∧ (j < nl → (∃ b o, A = some ⟨b, o, none⟩ ∧ A' = some ⟨b, o + j * 3, none⟩) ∧ c' = c - j) ∧ PuS F w wr s d n Vs L l j m Vs') (fun v _ => match v with | .slice _ k _ => k | _ => 0)
  case atStart =>
    refine ⟨0, A, c, Vs, by omega, rfl, fun h0 => ⟨?_, rfl⟩, H0.out⟩
    obtain ⟨b, o, e, _⟩ := HAT.out h0
    exact ⟨b, o, e, by rw [e, Nat.zero_mul, Nat.add_zero]⟩
  case round =>
    clear H0
    obtain ⟨j, A', c', Vs', hj, rfl, hA, hp⟩ := hrel
    have HP := Lib.hid hp
    clear hp
    obtain ⟨r, hrj⟩ : ∃ r, nl - j = r := ⟨_, rfl⟩
    rw [hrj]
    by_cases hjn : j < nl
    · obtain ⟨⟨b, o, rfl, rfl⟩, rfl⟩ := hA hjn
      obtain ⟨mm, hmm⟩ : ∃ mm, min r 16 = mm := ⟨_, rfl⟩
      obtain ⟨ce, hce⟩ : ∃ ce, c - j = ce := ⟨_, rfl⟩
      rw [hce]
      have hr0 : 0 < r := by omega
      have pr : (0 : Int) < (r : Int) := by omega
      have pmm : min (r : Int) 16 = (mm : Int) := by omega
      have hm1 : 1 ≤ mm := by omega
      have hm16 : mm ≤ 16 := by omega
      have hmr : mm ≤ r := by omega
      have hrc : r ≤ ce := by omega
      have hmc : mm ≤ ce := by omega
      clear hA
      go_wp2_with fail
      have hrv : Rv wr 3 (some ⟨b, o + j * 3, none⟩) mm ce (ccs ((l.drop j).take mm)) := by
        have h1 := (rv_drop (HR.out wr HP.out.ch) hj).take (m := mm) (by omega)
        rw [ccs_drop, ccs_take, hce] at h1
        exact h1
      have hch : ((l.drop j).take mm).length = mm := by rw [List.length_take, List.length_drop, HLL.out]; omega
      have hbt : batB ((l.drop j).take mm) = true := batB_of (fun x hx => HC.out x (List.mem_of_mem_drop (List.mem_of_mem_take hx))) (by omega) (by omega)
      have haf : aft (aft L (l.take j)) ((l.drop j).take mm) = aft L (l.take (j + mm)) := by rw [← aft_app, List.take_add]
      have hal : (aft L (l.take (j + mm))).length ≤ m := by
        have h1 := aft_len (l.take (j + mm)) L
        have h2 : (l.take (j + mm)).length ≤ nl := by rw [List.length_take, HLL.out]; omega
        have h3 := HM.out.1
        omega
      have hvp := HP.out.st.posE
      refine (st_commit_z HP.out.st (fun b hb => HF.out b (Nat.le_trans HP.out.ch.size hb)) hn (by omega) (by have := HP.out.ln; omega) HP.out.ls (by
        have h1 := aft_len (l.take j) L
        have h2 : (l.take j).length ≤ nl := by rw [List.length_take, HLL.out]; omega
        have h3 := HM.out.1
        omega) _ mm ce _ hrv hbt (by rw [haf]; exact fit_gen HP.out.le hal HM.out.2)).mono ?_
      rintro e' w5 ha
      rcases ha with ⟨lf', rfl, hlf, hs5, hc5⟩ | ⟨h0, _⟩
      · obtain rfl : lf' = 0 := hlf rfl
        unfold ansV
        rw [haf] at hs5
        have HP5 := Lib.hid (show PuS F w w5 s d n Vs L l (j + mm) m (Vs' ++ [aft L (l.take (j + mm))]) from
          ⟨hs5, by rw [List.length_append, List.length_singleton]; have := HP.out.ln; omega, by
            unfold lastV
            rw [List.length_append, List.length_singleton, Nat.add_sub_cancel]
            simp [List.getD], fun x hx => by
            rcases List.mem_append.1 hx with hx | hx
            · exact HP.out.le x hx
            · rw [List.mem_singleton.1 hx]; exact hal, HP.out.ch.trans hc5⟩)
        have HJ := Lib.hid (And.intro hrj (And.intro hce hjn))
        clear hs5 hc5 hlf hrv hch hbt haf hal hrj hce HP
        by_cases hcap : mm = ce
        · have hrm : r - mm = 0 := by omega
          have pcap : (mm : Int) = (ce : Int) := by omega
          go_wp2_with fail
          have hj1 := HJ.out
          exact ⟨⟨j + mm, _, 0, _, by omega, by rw [show nl - (j + mm) = 0 by omega], fun h => absurd h (by omega), HP5.out⟩, hr0⟩
        · have pcap : ¬ (mm : Int) = (ce : Int) := by omega
          go_wp2_with fail
          have hj1 := HJ.out
          exact ⟨⟨j + mm, _, _, _, by omega, by rw [show nl - (j + mm) = r - mm by omega], fun h => ⟨⟨b, o, rfl, by rw [show o + j * 3 + mm * 3 = o + (j + mm) * 3 by omega]⟩, by omega⟩, HP5.out⟩, by show r - mm < r; omega⟩
      · exact absurd rfl h0
    · obtain rfl : j = nl := by omega
      obtain rfl : r = 0 := by omega
      clear hA
      go_wp2_with fail
      (try simp only [Exit.inBlock, Exit.then])
      refine bodyPost_ret (v := (.bool true)) (by simp [results, Tryz.results55, go_sem, *]) rfl ?_
      exact ⟨rfl, _, HP.out⟩
end Go.Proofs.Tb
