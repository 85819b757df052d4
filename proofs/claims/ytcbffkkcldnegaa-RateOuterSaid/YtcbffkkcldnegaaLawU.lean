/- RateOuter, the walk: no reading lies beyond the sides of the hulls, and Least of the corners alone is Least of all. -/
import Derived.Test.YtcbffkkcldnegaaRateO
import Derived.Test.YtcbffkkcldnegaaHul2
import Derived.Test.YtcbffkkcldnegaaLaw2
import Derived.Test.YtcbffkkcldnegaaRef3
set_option linter.unusedVariables false
set_option linter.unusedSimpArgs false
namespace Go.Proofs.Tb
open Go.RowKit
attribute [local go_sem] cell_set_same

/-- Is a number in one of two lists? -/
def pk (L1 L2 : List Nat) (i : Nat) : Bool := hasN L1 i || hasN L2 i
theorem pk_1 {L1 L2 : List Nat} {i : Nat} (h : hasN L1 i = true) : pk L1 L2 i = true := by unfold pk; rw [h]; rfl
theorem pk_2 {L1 L2 : List Nat} {i : Nat} (h : hasN L2 i = true) : pk L1 L2 i = true := by unfold pk; rw [h]; cases hasN L1 i <;> rfl
theorem pk_f {L1 L2 : List Nat} {i : Nat} (h1 : hasN L1 i = false) (h2 : hasN L2 i = false) : ¬ pk L1 L2 i = true := by unfold pk; rw [h1, h2]; decide
theorem hasN_mem {L : List Nat} {v : Nat} : hasN L v = true ↔ v ∈ L := by unfold hasN; simp
/-- What is known of the corners from one side. -/
def CorL (rs : List Rdg) (sg : Int) (L : List Nat) : Prop := Arnd rs sg L ∧ SideL (tm rs) (ysg rs sg) rs.length L ∧ (∀ x, x ∈ L → x < rs.length) ∧ 0 ∈ L ∧ rs.length - 1 ∈ L
theorem CorR.l {rs : List Rdg} {sg : Int} {v : Value} {w : World} (hv : Vld rs) (h : CorR rs sg v w) : ∃ L, CorL rs sg L ∧ ∃ A n c, v = .slice A n c ∧ Sl TN w A n c (L.map I64) := by
  obtain ⟨b, l, h1, h2, A, n, c, h3, h4⟩ := h
  refine ⟨(b :: l).reverse, ⟨h1.arnd hv h2, h1.sideL h2, fun x hx => ?_, List.mem_reverse.2 h1.zero, List.mem_reverse.2 (by rw [← h2]; simp)⟩, A, n, c, h3, h4⟩
  rcases List.mem_cons.1 (List.mem_reverse.1 hx) with g | g
  · omega
  · have := h1.lt x g; omega
theorem pickR_rng {rs : List Rdg} (hr : ∀ x, x ∈ rs → rngI x.1 ∧ rngI x.2) (p : Nat → Bool) : ∀ x, x ∈ pickR rs p rs.length → rngI x.1 ∧ rngI x.2 := fun x hx => by
  obtain ⟨i, hi, rfl⟩ := List.mem_map.1 hx
  have hl := (mem_pickI.1 hi).1
  have e : rs.getD i (0, 0) = rs[i] := by simp [List.getD, hl]
  rw [e]; exact hr _ (List.getElem_mem hl)
theorem ysg1 (rs : List Rdg) : ysg rs 1 = ofs rs := by funext i; unfold ysg; omega
theorem ysg2 (rs : List Rdg) : ysg rs (-1) = fun i => -ofs rs i := by funext i; unfold ysg; omega
/-- Least of the corners is Least of all. -/
theorem outer_same {rs : List Rdg} {L1 L2 : List Nat} {s h E : Rat} {v : Value} {w : World} (hv : Vld rs) (hs : SmallR rs) (h1 : CorL rs 1 L1) (h2 : CorL rs (-1) L2) (hi : IsLeast rs.length (tq rs) (yq rs) s h E)
    (hl : LeastR (pickR rs (pk L1 L2) rs.length) v w) : v = .tuple #[.agg #[.int .i64 s.num, .int .i64 (s.den : Int), .int .i64 h.num, .int .i64 (h.den : Int)], .agg #[.int .i64 E.num, .int .i64 (E.den : Int)], .int .i64 0] := by
  have hv2 : Vld (pickR rs (pk L1 L2) rs.length) := hv.pick (pk_1 (hasN_t h1.2.2.2.1)) (pk_1 (hasN_t h1.2.2.2.2))
  obtain ⟨s', h', E', hi', f1, f2, f3, hv'⟩ := hl.ok hv2 (hs.pick _)
  have s1 := h1.2.1
  have s2 := h2.2.1
  rw [ysg1] at s1
  rw [ysg2] at s2
  have hi2 := hi'.pick hv s1 s2 (fun j hj => ⟨h1.2.2.1 j hj, pk_1 (hasN_t hj)⟩) (fun j hj => ⟨h2.2.2.1 j hj, pk_2 (hasN_t hj)⟩)
  obtain ⟨rfl, rfl, rfl⟩ := hi.uniq hv.tq_mono hv.1 hi2
  exact hv'

theorem OwR.below6 {base : Nat} {w w' : World} {v : Value} {cs : List Rdg} (h : OwR base w v cs) (hb : Below w.heap.size w w') : OwR base w' v cs := by
  obtain ⟨hl, h2⟩ := h
  refine ⟨hl, ?_⟩
  rcases h2 with h2 | ⟨g, cap, cur, he, hg, hh, hn, hm, hs, ht⟩
  · exact Or.inl h2
  · exact Or.inr ⟨g, cap, cur, he, hg, (hb.block g (block_lt hh)).trans hh, hn, hm, hs, ht⟩
set_option maxHeartbeats 6400000 in
set_option maxRecDepth 100000 in
theorem outer_any (A : Option Addr) (n c : Nat) (xs : List Rdg) (w : World) (h : Rd w A n c xs) :
    Calls Try.prog 9 #[.slice A n c] w (Ret (fun v _ => v = .bool true) w) := by
  have H := Lib.hid h
  clear h
  go_enter Try.func9, Try.ntmps9
  go_wp2_with fail
  refine (tame_any A n c xs 40 w H.out (by omega)).mono ?_
  rintro e w1 ⟨v1, rfl, ⟨rs, htm, A1, c1, rfl, hrd⟩, hb1⟩
  have HV := Lib.hid (htm.vld (by omega))
  have HSM := Lib.hid (htm.small (by omega))
  obtain ⟨m, hm⟩ : ∃ m, rs.length = m := ⟨_, rfl⟩
  have hm64 : m ≤ 64 := by have := htm.2.1; omega
  have hc1 := hrd.cap
  have hm1 := hrd.le
  have HRNG := Lib.hid (hrd.rngI)
  have HR1 := Lib.hid hrd
  rw [hm] at HR1 hm1 ⊢
  have HM := Lib.hid hm
  have HB1 := Lib.hid hb1
  clear htm hrd hb1 hm
  go_wp2_with fail
  refine (rhull_any A1 m c1 rs _ HR1.out).mono ?_
  rintro e w2 ⟨v2, rfl, h2, hb2⟩
  obtain ⟨p1, p2, hp1, hp2, hv2⟩ := h2.2 HV.out
  obtain ⟨L1, hc1', A2, n2, c2, rfl, hs2⟩ := hp1.l HV.out
  obtain ⟨L2, hc2', A3, n3, c3, rfl, hs3⟩ := hp2.l HV.out
  subst hv2
  have HC1 := Lib.hid hc1'
  have HC2 := Lib.hid hc2'
  have HS2 := Lib.hid hs2
  have HS3 := Lib.hid hs3
  have HB2 := Lib.hid hb2
  clear h2 hp1 hp2 hc1' hc2' hs2 hs3 hb2
  go_wp2_with fail
  refine (around_any A1 A2 m c1 n2 c2 rs L1 1 w2 (HR1.out.below HB2.out) HV.out HS2.out (Or.inl rfl) HC1.out.1).mono ?_
  rintro e w3 ⟨v3, rfl, hv3, hb3⟩
  subst hv3
  have HB3 := Lib.hid (show Ext w2 w3 from hb3)
  clear hb3
  go_wp2_with fail
  refine (around_any A1 A3 m c1 n3 c3 rs L2 (-1) w3 (HR1.out.below (bt HB2.out HB3.out)) HV.out (HS3.out.below HB3.out) (Or.inr rfl) HC2.out.1).mono ?_
  rintro e w4 ⟨v4, rfl, hv4, hb4⟩
  subst hv4
  have HB4 := Lib.hid (show Ext w2 w4 from bt HB3.out hb4)
  clear hb4
  go_wp2_with fail
  refine (lives_any _).mono ?_
  rintro e w5 ⟨v5, rfl, hv5, hb5⟩
  subst hv5
  have HS2 := Lib.hid (HS2.out.below (bt HB4.out hb5))
  have HS3 := Lib.hid (HS3.out.below (bt HB4.out hb5))
  have HR5 := Lib.hid (HR1.out.below (bt HB2.out (bt HB4.out hb5)))
  have HB5 := Lib.hid (bt HB1.out (bt HB2.out (bt HB4.out hb5)))
  have n2c := HS2.out.cap
  have n2d := HS2.out.le
  have n3c := HS3.out.cap
  have n3d := HS3.out.le
  clear hb5 HB1 HB2 HB3 HB4 HR1
  go_wp2
  go_loopw [7, 8] (fun v x wr => ∃ (k : Nat) (cs : List Rdg), x = .int .i64 k ∧ k ≤ m ∧ cs = pickR rs (pk L1 L2) k ∧ cs.length ≤ k ∧ OwR w5.heap.size wr v cs ∧ Below w5.heap.size w5 wr) (fun _ x _ => m - (intOf x).toNat)
  case atStart => exact ⟨0, [], rfl, Nat.zero_le _, rfl, Nat.le_refl _, OwR.empty _ _ (Nat.le_refl _), by go_grown⟩
  case round =>
    obtain ⟨k, cs, rfl, hk, hcs, hlen, hown, hbw⟩ := hrel
    obtain ⟨wi, rfl⟩ : ∃ wo : World, wo = wr := ⟨_, rfl⟩
    have HCS := Lib.hid hcs
    have HO := Lib.hid hown
    have HB := Lib.hid hbw
    clear hcs hown hbw
    by_cases hkm : k < m
    · have g1 : decide ((k : Int) < (m : Int)) = true := by simp; omega
      have rk : (k : Int) < (m : Int) := by omega
      have HP := Lib.hid (pickR_succ rs (pk L1 L2) k)
      go_wp2_with fail
      refine (has_any A2 n2 c2 L1 k wi (HS2.out.below HB.out) (by omega) (fun x hx => by have := HC1.out.2.2.1 x hx; have := HM.out; omega)).mono ?_
      rintro e w6 ⟨v6, rfl, hv6, hb6⟩
      by_cases h1 : hasN L1 k = true
      · rw [h1] at hv6
        subst hv6
        have HPK := Lib.hid (pk_1 (L2 := L2) h1)
        have HO6 := Lib.hid (HO.out.below6 hb6)
        have HB6 := Lib.hid (bt HB.out hb6)
        clear h1 hb6
        obtain ⟨t, o, rfl, hcell⟩ := (HR5.out.below HB6.out).at_ (by omega)
        obtain ⟨a1, a2⟩ := hcell k hkm
        clear hcell
        obtain ⟨tk, etk⟩ : ∃ x, (rs.getD k (0, 0)).1 = x := ⟨_, rfl⟩
        obtain ⟨yk, eyk⟩ : ∃ x, (rs.getD k (0, 0)).2 = x := ⟨_, rfl⟩
        have HE : Hid (pickR rs (pk L1 L2) (k + 1) = cs ++ [(tk, yk)]) := by show _ = _; rw [HP.out, if_pos HPK.out, HCS.out, ← etk, ← eyk]
        rw [etk] at a1
        rw [eyk] at a2
        clear etk eyk
        go_wp2_with (at_builtin; refine wp_app1R rfl _ _ rfl w5.heap.size _ cs rfl HO6.out _ _ rfl (by omega) HB6.out.size ?_; intro v' w9 hown9 hb9)
        go_roundw
        case rel => exact ⟨k + 1, cs ++ [(tk, yk)], by go_num, by omega, HE.out.symm, by simp; omega, hown9, HB6.out.trans hb9⟩
        case measure => first | (simp [intOf]; done) | (simp [intOf]; omega)
      · have h1' : hasN L1 k = false := by simpa using h1
        rw [h1'] at hv6
        subst hv6
        have HF1 := Lib.hid h1'
        have HB6' := Lib.hid (show Ext wi w6 from hb6)
        clear h1 h1' hb6
        go_wp2_with fail
        refine (has_any A3 n3 c3 L2 k w6 (HS3.out.below (bt HB.out HB6'.out)) (by omega) (fun x hx => by have := HC2.out.2.2.1 x hx; have := HM.out; omega)).mono ?_
        rintro e w7 ⟨v7, rfl, hv7, hb7⟩
        have HB6 := Lib.hid (bt HB.out (bt HB6'.out hb7))
        have HO6 := Lib.hid (HO.out.below6 (bt HB6'.out hb7))
        clear hb7
        by_cases h2 : hasN L2 k = true
        · rw [h2] at hv7
          subst hv7
          have HPK := Lib.hid (pk_2 (L1 := L1) h2)
          clear h2
          obtain ⟨t, o, rfl, hcell⟩ := (HR5.out.below HB6.out).at_ (by omega)
          obtain ⟨a1, a2⟩ := hcell k hkm
          clear hcell
          obtain ⟨tk, etk⟩ : ∃ x, (rs.getD k (0, 0)).1 = x := ⟨_, rfl⟩
          obtain ⟨yk, eyk⟩ : ∃ x, (rs.getD k (0, 0)).2 = x := ⟨_, rfl⟩
          have HE : Hid (pickR rs (pk L1 L2) (k + 1) = cs ++ [(tk, yk)]) := by show _ = _; rw [HP.out, if_pos HPK.out, HCS.out, ← etk, ← eyk]
          rw [etk] at a1
          rw [eyk] at a2
          clear etk eyk
          go_wp2_with (at_builtin; refine wp_app1R rfl _ _ rfl w5.heap.size _ cs rfl HO6.out _ _ rfl (by omega) HB6.out.size ?_; intro v' w9 hown9 hb9)
          go_roundw
          case rel => exact ⟨k + 1, cs ++ [(tk, yk)], by go_num, by omega, HE.out.symm, by simp; omega, hown9, HB6.out.trans hb9⟩
          case measure => first | (simp [intOf]; done) | (simp [intOf]; omega)
        · have h2' : hasN L2 k = false := by simpa using h2
          rw [h2'] at hv7
          subst hv7
          have HPK := Lib.hid (pk_f HF1.out h2')
          clear h2 h2'
          go_wp2
          go_roundw
          case rel => exact ⟨k + 1, cs, by go_num, by omega, by rw [HP.out, if_neg HPK.out]; exact HCS.out, by omega, HO6.out, HB6.out⟩
          case measure => first | (simp [intOf]; done) | (simp [intOf]; omega)
    · have : k = m := by omega
      subst this
      have g1 : decide ((k : Int) < (k : Int)) = false := by simp
      have HCS2 : Hid (cs = pickR rs (pk L1 L2) rs.length) := by show _ = _; rw [HM.out]; exact HCS.out
      obtain ⟨A6, c6, rfl, hrd6⟩ := HO.out.rd (by rw [HCS2.out]; exact pickR_rng HRNG.out _)
      obtain ⟨m6, hm6⟩ : ∃ m6, cs.length = m6 := ⟨_, rfl⟩
      rw [hm6] at hrd6 ⊢
      have HR6 := Lib.hid hrd6
      clear hrd6 hm6
      go_wp2_with fail
      refine (rleast_any A1 k c1 rs wi (HR5.out.below HB.out)).mono ?_
      rintro e w8 ⟨v8, rfl, h8, hb8⟩
      obtain ⟨s, h, E, hi, f1, f2, f3, hv8⟩ := h8.ok HV.out HSM.out
      subst hv8
      have HI := Lib.hid hi
      have HAT : Hid (∀ v w', LeastR (pickR rs (pk L1 L2) rs.length) v w' → v = .tuple #[.agg #[.int .i64 s.num, .int .i64 (s.den : Int), .int .i64 h.num, .int .i64 (h.den : Int)], .agg #[.int .i64 E.num, .int .i64 (E.den : Int)], .int .i64 0]) := fun v w' hl => outer_same HV.out HSM.out HC1.out HC2.out HI.out hl
      obtain ⟨sn, hsn⟩ : ∃ x, s.num = x := ⟨_, rfl⟩
      obtain ⟨sd, hsd⟩ : ∃ x : Int, (s.den : Int) = x := ⟨_, rfl⟩
      obtain ⟨hn', hhn⟩ : ∃ x, h.num = x := ⟨_, rfl⟩
      obtain ⟨hd', hhd⟩ : ∃ x : Int, (h.den : Int) = x := ⟨_, rfl⟩
      obtain ⟨en, hen⟩ : ∃ x, E.num = x := ⟨_, rfl⟩
      obtain ⟨ed, hed⟩ : ∃ x : Int, (E.den : Int) = x := ⟨_, rfl⟩
      rw [hsn, hsd, hhn, hhd, hen, hed] at HAT ⊢
      have HB8 := Lib.hid (show Ext w5 w8 from bt HB.out hb8)
      have HR8 := Lib.hid (HR6.out.below hb8)
      clear h8 hi hb8 hsn hsd hhn hhd hen hed f1 f2 f3
      go_wp2_with fail
      obtain ⟨W9, hW9⟩ : ∃ W0, W0 = (w8.alloc (.cells #[.int .i64 sn, .int .i64 sd, .int .i64 hn', .int .i64 hd'] TAL)).alloc (.cells #[.int .i64 en, .int .i64 ed] TF) := ⟨_, rfl⟩
      have b1 : Blk W9 w8.heap.size TAL #[.int .i64 sn, .int .i64 sd, .int .i64 hn', .int .i64 hd'] := by rw [hW9]; exact (Blk.new_ _ _ rfl).alloc _
      have b2 : Blk W9 (w8.heap.size + 1) TF #[.int .i64 en, .int .i64 ed] := by rw [hW9]; exact Blk.new_ _ _ (by simp)
      have hb9 : Below w8.heap.size w8 W9 := by rw [hW9]; go_grown
      rw [← hW9]
      clear hW9
      refine (rleast_any A6 m6 c6 cs W9 (HR8.out.below hb9)).mono ?_
      rintro e w10 ⟨v10, rfl, h10, hb10⟩
      rw [HCS2.out] at h10
      have hv10 := HAT.out _ _ h10
      subst hv10
      have B1 := Lib.hid (b1.below hb10)
      have B2 := Lib.hid (b2.below hb10)
      have HB10 := Lib.hid (show Ext w5 w10 from bt HB8.out (bt hb9 hb10))
      clear b1 b2 hb9 hb10 h10
      go_upto_region 13 with fail
      refine wp_world (fun W => Blk W w10.heap.size TAL #[.int .i64 sn, .int .i64 sd, .int .i64 hn', .int .i64 hd'] ∧ Blk W (w10.heap.size + 1) TF #[.int .i64 en, .int .i64 ed] ∧ Below w10.heap.size w10 W) (by exact ⟨(Blk.new_ _ _ rfl).alloc _, Blk.new_ _ _ (by simp), by go_grown⟩) ?_
      rintro W11 ⟨b3, b4, hb11⟩
      have k1 := zcells (B1.out.below hb11)
      have k2 := (B2.out.below hb11).cells
      have k3 := zcells b3
      have k4 := b4.cells
      simp only [cellsAre, Nat.zero_add, Nat.reduceAdd, and_true] at k2 k4
      have HB11 := Lib.hid (bt HB5.out (bt HB10.out hb11))
      clear b3 b4 hb11
      go_wp2
      go_returns
      exact ⟨_, rfl, rfl, HB11.out⟩
end Go.Proofs.Tb
