/- greatest: the three readings whose bend is the greatest. -/
import Derived.Test.YtcbffkkcldnegaaRateC
set_option linter.unusedVariables false
set_option linter.unusedSimpArgs false
namespace Go.Proofs.Tb
open Go.RowKit
attribute [local go_sem] cell_set_same
abbrev T3 : TypeId := 100

/-- The times and offsets of reading i; the bend of three readings. -/
def tm (rs : List Rdg) (i : Nat) : Int := (rs.getD i (0, 0)).1
def ofs (rs : List Rdg) (i : Nat) : Int := (rs.getD i (0, 0)).2
def bo (rs : List Rdg) (i j k : Nat) : Int := (ofs rs j - ofs rs i) * (tm rs k - tm rs i) - (ofs rs k - ofs rs i) * (tm rs j - tm rs i)
def br (rs : List Rdg) (i k : Nat) : Int := tm rs k - tm rs i
/-- (i', j', k') is ahead of (i, j, k). -/
def Bef (i j k i' j' k' : Nat) : Prop := i' < i ∨ (i' = i ∧ (j' < j ∨ (j' = j ∧ k' < k)))
/-- What holds of the best one of those ahead of (i, j, k). -/
def GInv (rs : List Rdg) (n i j k a b c : Nat) (off run : Int) : Prop :=
  (off = 0 ∧ run = 1 ∧ a = 0 ∧ b = 0 ∧ c = 0 ∧ ∀ i' j' k', i' < j' → j' < k' → k' < n → Bef i j k i' j' k' → bo rs i' j' k' = 0) ∨
  (a < b ∧ b < c ∧ c < n ∧ off = bo rs a b c ∧ run = br rs a c ∧ off ≠ 0 ∧ Bef i j k a b c ∧
    ∀ i' j' k', i' < j' → j' < k' → k' < n → Bef i j k i' j' k' →
      (bo rs i' j' k').natAbs * run.natAbs ≤ off.natAbs * (br rs i' k').natAbs ∧
      (Bef a b c i' j' k' → (bo rs i' j' k').natAbs * run.natAbs < off.natAbs * (br rs i' k').natAbs))

theorem Vld.mono_tm {rs : List Rdg} (h : Vld rs) {i k : Nat} (hik : i < k) (hk : k < rs.length) : tm rs i < tm rs k := by
  induction k with
  | zero => omega
  | succ k ih =>
    have h1 := (h.2.2 (k + 1) hk).2.2.2.2 (by omega)
    rw [Nat.add_sub_cancel] at h1
    rcases Nat.lt_or_eq_of_le (Nat.le_of_lt_succ hik) with h2 | h2
    · exact Int.lt_trans (ih h2 (by omega)) h1
    · subst h2; exact h1
theorem Vld.br_pos {rs : List Rdg} (h : Vld rs) {i k : Nat} (hik : i < k) (hk : k < rs.length) : 0 < (br rs i k).natAbs := by
  have := h.mono_tm hik hk
  unfold br; omega
/-- u/r ≤ o/s < x/t: then u/r < x/t. -/
theorem frac_lt (u r o s x t : Nat) (hs : 0 < s) (hr : 0 < r) (h1 : u * s ≤ o * r) (h2 : o * t < x * s) : u * t < x * r := by
  have h3 : u * s * t ≤ o * r * t := Nat.mul_le_mul_right t h1
  have h4 : o * t * r < x * s * r := Nat.mul_lt_mul_of_pos_right h2 hr
  have e1 : u * s * t = s * (u * t) := by rw [Nat.mul_comm u s, Nat.mul_assoc]
  have e2 : o * r * t = o * t * r := by rw [Nat.mul_assoc, Nat.mul_comm r t, Nat.mul_assoc]
  have e3 : x * s * r = s * (x * r) := by rw [Nat.mul_comm x s, Nat.mul_assoc]
  rw [e1, e2] at h3
  rw [e3] at h4
  exact Nat.lt_of_mul_lt_mul_left (Nat.lt_of_le_of_lt h3 h4)
section
variable {rs : List Rdg} {n i j k a b c : Nat} {off run : Int}
theorem GInv.start : GInv rs n 0 1 2 0 0 0 0 1 := Or.inl ⟨rfl, rfl, rfl, rfl, rfl, fun i' j' k' h1 h2 _ hb => by unfold Bef at hb; omega⟩
theorem GInv.weak {i2 j2 k2 : Nat} (h : GInv rs n i j k a b c off run) (hw : ∀ i' j' k', i' < j' → j' < k' → k' < n → (Bef i2 j2 k2 i' j' k' ↔ Bef i j k i' j' k')) : GInv rs n i2 j2 k2 a b c off run := by
  rcases h with ⟨h1, h2, h3, h4, h5, h6⟩ | ⟨h1, h2, h3, h4, h5, h6, h7, h8⟩
  · exact Or.inl ⟨h1, h2, h3, h4, h5, fun i' j' k' g1 g2 g3 g4 => h6 i' j' k' g1 g2 g3 ((hw _ _ _ g1 g2 g3).1 g4)⟩
  · exact Or.inr ⟨h1, h2, h3, h4, h5, h6, (hw _ _ _ h1 h2 h3).2 h7, fun i' j' k' g1 g2 g3 g4 => h8 i' j' k' g1 g2 g3 ((hw _ _ _ g1 g2 g3).1 g4)⟩
theorem GInv.nextJ (h : GInv rs n i j n a b c off run) : GInv rs n i (j + 1) (j + 2) a b c off run := h.weak fun i' j' k' h1 h2 h3 => by unfold Bef; omega
theorem GInv.nextI (h : GInv rs n i n (n + 1) a b c off run) : GInv rs n (i + 1) (i + 2) (i + 3) a b c off run := h.weak fun i' j' k' h1 h2 h3 => by unfold Bef; omega
theorem GInv.take (hv : Vld rs) (hn : rs.length = n) (h : GInv rs n i j k a b c off run) (h1 : i < j) (h2 : j < k) (h3 : k < n)
    (hb : off.natAbs * (br rs i k).natAbs < (bo rs i j k).natAbs * run.natAbs) : GInv rs n i j (k + 1) i j k (bo rs i j k) (br rs i k) := by
  subst hn
  have hne : bo rs i j k ≠ 0 := by intro h0; rw [h0] at hb; simp at hb
  have key : ∀ i' j' k', i' < j' → j' < k' → k' < rs.length → Bef i j k i' j' k' → (bo rs i' j' k').natAbs * (br rs i k).natAbs < (bo rs i j k).natAbs * (br rs i' k').natAbs := by
    intro i' j' k' g1 g2 g3 g4
    have p1 := hv.br_pos (show i' < k' by omega) g3
    rcases h with ⟨e1, e2, _, _, _, e6⟩ | ⟨e1, e2, e3, e4, e5, e6, e7, e8⟩
    · rw [e6 i' j' k' g1 g2 g3 g4, Int.natAbs_zero, Nat.zero_mul]
      exact Nat.mul_pos (by omega) p1
    · have p2 := hv.br_pos (show a < c by omega) e3
      rw [← e5] at p2
      exact frac_lt _ _ _ _ _ _ p2 p1 (e8 i' j' k' g1 g2 g3 g4).1 hb
  refine Or.inr ⟨h1, h2, h3, rfl, rfl, hne, by unfold Bef; omega, fun i' j' k' g1 g2 g3 g4 => ?_⟩
  by_cases he : Bef i j k i' j' k'
  · have := key i' j' k' g1 g2 g3 he
    exact ⟨Nat.le_of_lt this, fun _ => this⟩
  · have : i' = i ∧ j' = j ∧ k' = k := by unfold Bef at he g4; omega
    obtain ⟨rfl, rfl, rfl⟩ := this
    exact ⟨Nat.le_refl _, fun h => absurd h he⟩
theorem GInv.skip (h : GInv rs n i j k a b c off run) (hb : ¬ off.natAbs * (br rs i k).natAbs < (bo rs i j k).natAbs * run.natAbs) : GInv rs n i j (k + 1) a b c off run := by
  have hle := Nat.le_of_not_lt hb
  rcases h with ⟨e1, e2, e3, e4, e5, e6⟩ | ⟨e1, e2, e3, e4, e5, e6, e7, e8⟩
  · refine Or.inl ⟨e1, e2, e3, e4, e5, fun i' j' k' g1 g2 g3 g4 => ?_⟩
    by_cases he : Bef i j k i' j' k'
    · exact e6 i' j' k' g1 g2 g3 he
    · have : i' = i ∧ j' = j ∧ k' = k := by unfold Bef at he g4; omega
      obtain ⟨rfl, rfl, rfl⟩ := this
      subst e1 e2
      simp at hle
      omega
  · refine Or.inr ⟨e1, e2, e3, e4, e5, e6, by unfold Bef at *; omega, fun i' j' k' g1 g2 g3 g4 => ?_⟩
    by_cases he : Bef i j k i' j' k'
    · exact e8 i' j' k' g1 g2 g3 he
    · have : i' = i ∧ j' = j ∧ k' = k := by unfold Bef at he g4; omega
      obtain ⟨rfl, rfl, rfl⟩ := this
      exact ⟨hle, fun h => by unfold Bef at h e7; omega⟩
end
theorem cmpI_pos (x y : Int) : (0 < cmpI x y) ↔ y < x := by
  unfold cmpI
  split
  · constructor <;> omega
  · split <;> constructor <;> omega

theorem Ext.below {a w w' : World} (h : Ext a w) (hb : Below w.heap.size w w') : Ext a w' := bt h hb
theorem Ext.alloc {a w : World} (h : Ext a w) (o : Obj) : Ext a (w.alloc o) := Below.alloc h h.size o
theorem Ext.drew_ {a w : World} (h : Ext a w) : Ext a w.drew := below_drewN h 1
theorem Ext.set_ {a w : World} {p : Addr} (h : Ext a w) (hp : a.heap.size ≤ p.block) (v : Value) : Ext a (w.setCell p v) := Below.setCell h hp v
theorem Ext.cell {a w : World} (h : Ext a w) {p : Addr} {v : Value} (hv : a.cell? p = some v) : w.cell? p = some v := (Below.cell h (World.block_lt_of_cell? a _ hv)).trans hv

theorem Vld.bo_bd {rs : List Rdg} (h : Vld rs) {i j k : Nat} (hi : i < rs.length) (hj : j < rs.length) (hk : k < rs.length) : -8000000000000 ≤ bo rs i j k ∧ bo rs i j k ≤ 8000000000000 := by
  obtain ⟨a1, a2, a3, a4, _⟩ := h.2.2 i hi
  obtain ⟨b1, b2, b3, b4, _⟩ := h.2.2 j hj
  obtain ⟨c1, c2, c3, c4, _⟩ := h.2.2 k hk
  have m1 := mul_bd (ofs rs j - ofs rs i) (tm rs k - tm rs i) (by unfold ofs; omega) (by unfold ofs; omega) (by unfold tm; omega) (by unfold tm; omega)
  have m2 := mul_bd (ofs rs k - ofs rs i) (tm rs j - tm rs i) (by unfold ofs; omega) (by unfold ofs; omega) (by unfold tm; omega) (by unfold tm; omega)
  unfold bo
  omega
theorem Vld.br_bd {rs : List Rdg} (h : Vld rs) {i k : Nat} (hi : i < k) (hk : k < rs.length) : 0 < br rs i k ∧ br rs i k ≤ 2000000 := by
  obtain ⟨a1, a2, a3, a4, _⟩ := h.2.2 i (by omega)
  obtain ⟨c1, c2, c3, c4, _⟩ := h.2.2 k hk
  have := h.mono_tm hi hk
  unfold br tm at *
  omega
theorem GInv.bd {rs : List Rdg} {n i j k a b c : Nat} {off run : Int} (hv : Vld rs) (hn : rs.length = n) (h : GInv rs n i j k a b c off run) : (-8000000000000 ≤ off ∧ off ≤ 8000000000000) ∧ (0 < run ∧ run ≤ 2000000) := by
  rcases h with ⟨e1, e2, _⟩ | ⟨e1, e2, e3, e4, e5, _⟩
  · subst e1 e2; omega
  · subst e4 e5 hn; exact ⟨hv.bo_bd (by omega) (by omega) e3, hv.br_bd (by omega) e3⟩

/-- What greatest's run has in memory. -/
structure GS (w wr : World) (a b c : Nat) (off run : Int) : Prop where
  b0 : Blk wr w.heap.size T3 #[.int .i64 0, .int .i64 0, .int .i64 0]
  b1 : Blk wr (w.heap.size + 1) TBD #[.int .i64 0, .int .i64 0]
  b2 : Blk wr (w.heap.size + 1 + 1) T3 #[.int .i64 a, .int .i64 b, .int .i64 c]
  b3 : Blk wr (w.heap.size + 1 + 1 + 1) TBD #[.int .i64 off, .int .i64 run]
  bw : Below w.heap.size w wr
theorem GS.below {w wr wr' : World} {a b c : Nat} {off run : Int} (h : GS w wr a b c off run) (hb : Below wr.heap.size wr wr') : GS w wr' a b c off run :=
  ⟨h.b0.below hb, h.b1.below hb, h.b2.below hb, h.b3.below hb, bt h.bw hb⟩
theorem GS.put {w wr : World} {a b c : Nat} {off run : Int} (h : GS w wr a b c off run) (i j k : Nat) (x y : Int) :
    GS w (((((wr.setCell ⟨w.heap.size + 1 + 1, 0, none⟩ (.int .i64 i)).setCell ⟨w.heap.size + 1 + 1, 1, none⟩ (.int .i64 j)).setCell ⟨w.heap.size + 1 + 1, 2, none⟩ (.int .i64 k)).setCell ⟨w.heap.size + 1 + 1 + 1, 0, none⟩ (.int .i64 x)).setCell ⟨w.heap.size + 1 + 1 + 1, 1, none⟩ (.int .i64 y)).drew i j k x y := by
  refine ⟨?_, ?_, ?_, ?_, ?_⟩
  · exact Blk.drew (((((h.b0.far (by simp; omega) _).far (by simp; omega) _).far (by simp; omega) _).far (by simp; omega) _).far (by simp; omega) _)
  · exact Blk.drew (((((h.b1.far (by simp) _).far (by simp) _).far (by simp) _).far (by simp) _).far (by simp) _)
  · have s1 := ((h.b2.set_ 0 (.int .i64 i)).set_ 1 (.int .i64 j)).set_ 2 (.int .i64 k)
    have e : (((#[Value.int .i64 a, .int .i64 b, .int .i64 c].setIfInBounds 0 (.int .i64 i)).setIfInBounds 1 (.int .i64 j)).setIfInBounds 2 (.int .i64 k)) = #[.int .i64 i, .int .i64 j, .int .i64 k] := by simp
    rw [e] at s1
    exact Blk.drew ((s1.far (by simp) _).far (by simp) _)
  · have s1 := ((((h.b3.far (p := ⟨w.heap.size + 1 + 1, 0, none⟩) (by simp) (.int .i64 i)).far (p := ⟨w.heap.size + 1 + 1, 1, none⟩) (by simp) (.int .i64 j)).far (p := ⟨w.heap.size + 1 + 1, 2, none⟩) (by simp) (.int .i64 k)).set_ 0 (.int .i64 x)).set_ 1 (.int .i64 y)
    have e : ((#[Value.int .i64 off, .int .i64 run].setIfInBounds 0 (.int .i64 x)).setIfInBounds 1 (.int .i64 y)) = #[.int .i64 x, .int .i64 y] := by simp
    rw [e] at s1
    exact Blk.drew s1
  · exact (((((h.bw.setCell (by simp; omega) _).setCell (by simp; omega) _).setCell (by simp; omega) _).setCell (by simp; omega) _).setCell (by simp; omega) _).drew
/-- What greatest returns. -/
def Gr (rs : List Rdg) (a b c : Nat) (off run : Int) : Prop := GInv rs rs.length rs.length (rs.length + 1) (rs.length + 2) a b c off run
def GrV (rs : List Rdg) (v : Value) (_ : World) : Prop := ∃ (a b c : Nat) (off run : Int), v = .tuple #[.agg #[.int .i64 a, .int .i64 b, .int .i64 c], .agg #[.int .i64 off, .int .i64 run]] ∧ Gr rs a b c off run

set_option maxHeartbeats 3200000 in
theorem rgreatest_any (A : Option Addr) (n c : Nat) (rs : List Rdg) (w : World) (h : Rd w A n c rs) (hv : Vld rs) :
    Calls Try.prog 72 #[.slice A n c] w (Ret (GrV rs) w) := by
  have hn := h.le
  have hc := h.cap
  have hnn : n ≤ 4611686018427387904 := by have := hv.2.1; have := h.len; omega
  have hl := h.len
  have H := Lib.hid h
  have HV := Lib.hid hv
  have HL := Lib.hid hl
  clear h hv hl
  go_enter Try.func72, Try.ntmps72
  go_wp2
  go_loopw [13] (fun x wr => ∃ (i a b c : Nat) (off run : Int), x = .int .i64 i ∧ i ≤ n ∧ GInv rs n i (i + 1) (i + 2) a b c off run ∧ GS w wr a b c off run) (fun x _ => n - (intOf x).toNat)
  case atStart => exact ⟨0, 0, 0, 0, 0, 1, rfl, Nat.zero_le _, GInv.start, ⟨(((Blk.new_ _ _ rfl).alloc _).alloc _).alloc _, ((Blk.new_ _ _ (by simp)).alloc _).alloc _, (Blk.new_ _ _ (by simp)).alloc _, Blk.new_ _ _ (by simp), by go_grown⟩⟩
  case round =>
    obtain ⟨i, a, b, c', off, run, rfl, hi, hg, hs⟩ := hrel
    obtain ⟨wi, rfl⟩ : ∃ wo : World, wo = wr := ⟨_, rfl⟩
    have HG := Lib.hid hg
    have HS := Lib.hid hs
    clear hg hs
    by_cases hin : i < n
    · go_wp2
      go_loopw [7] (fun x wr => ∃ (j a b c : Nat) (off run : Int), x = .int .i64 j ∧ i + 1 ≤ j ∧ j ≤ n ∧ GInv rs n i j (j + 1) a b c off run ∧ GS w wr a b c off run) (fun x _ => n - (intOf x).toNat)
      case atStart => exact ⟨i + 1, a, b, c', off, run, by go_num, by omega, by omega, HG.out, HS.out⟩
      case round =>
        clear HG HS
        obtain ⟨j, a, b, c', off, run, rfl, hij, hj, hg, hs⟩ := hrel
        obtain ⟨wj, rfl⟩ : ∃ wo : World, wo = wr := ⟨_, rfl⟩
        have HG := Lib.hid hg
        have HS := Lib.hid hs
        clear hg hs
        by_cases hjn : j < n
        · go_wp2
          go_loopw [8] (fun x wr => ∃ (k a b c : Nat) (off run : Int), x = .int .i64 k ∧ j + 1 ≤ k ∧ k ≤ n ∧ GInv rs n i j k a b c off run ∧ GS w wr a b c off run) (fun x _ => n - (intOf x).toNat)
          case atStart => exact ⟨j + 1, a, b, c', off, run, by go_num, by omega, by omega, HG.out, HS.out⟩
          case round =>
            clear HG HS
            obtain ⟨k, a, b, c', off, run, rfl, hjk, hk, hg, hs⟩ := hrel
            obtain ⟨wk, rfl⟩ : ∃ wo : World, wo = wr := ⟨_, rfl⟩
            have HG := Lib.hid hg
            have HS := Lib.hid hs
            clear hg hs
            by_cases hkn : k < n
            · obtain ⟨t, o, rfl, hcell⟩ := (H.out.below HS.out.bw).at_ (by omega)
              obtain ⟨ci1, ci2⟩ := hcell i hin
              obtain ⟨cj1, cj2⟩ := hcell j hjn
              obtain ⟨ck1, ck2⟩ := hcell k hkn
              clear hcell
              have oi := (HV.out.2.2 i (by rw [HL.out]; exact hin))
              have oj := (HV.out.2.2 j (by rw [HL.out]; exact hjn))
              have ok := (HV.out.2.2 k (by rw [HL.out]; exact hkn))
              unfold okAt at oi oj ok
              obtain ⟨ti, eti⟩ : ∃ x, (rs.getD i (0, 0)).1 = x := ⟨_, rfl⟩
              obtain ⟨yi, eyi⟩ : ∃ x, (rs.getD i (0, 0)).2 = x := ⟨_, rfl⟩
              obtain ⟨tj, etj⟩ : ∃ x, (rs.getD j (0, 0)).1 = x := ⟨_, rfl⟩
              obtain ⟨yj, eyj⟩ : ∃ x, (rs.getD j (0, 0)).2 = x := ⟨_, rfl⟩
              obtain ⟨tk, etk⟩ : ∃ x, (rs.getD k (0, 0)).1 = x := ⟨_, rfl⟩
              obtain ⟨yk, eyk⟩ : ∃ x, (rs.getD k (0, 0)).2 = x := ⟨_, rfl⟩
              rw [eti, eyi] at oi
              rw [etj, eyj] at oj
              rw [etk, eyk] at ok
              rw [eti] at ci1
              rw [eyi] at ci2
              rw [etj] at cj1
              rw [eyj] at cj2
              rw [etk] at ck1
              rw [eyk] at ck2
              have HR : Hid (bo rs i j k = (yj - yi) * (tk - ti) - (yk - yi) * (tj - ti) ∧ br rs i k = tk - ti) := by
                show _ ∧ _
                unfold bo br tm ofs
                rw [eti, eyi, etj, eyj, etk, eyk]
                exact ⟨rfl, rfl⟩
              have OI := Lib.hid (show -1000000 ≤ ti ∧ ti ≤ 1000000 ∧ -1000000 ≤ yi ∧ yi ≤ 1000000 from ⟨oi.1, oi.2.1, oi.2.2.1, oi.2.2.2.1⟩)
              have OJ := Lib.hid (show -1000000 ≤ tj ∧ tj ≤ 1000000 ∧ -1000000 ≤ yj ∧ yj ≤ 1000000 from ⟨oj.1, oj.2.1, oj.2.2.1, oj.2.2.2.1⟩)
              have OK := Lib.hid (show -1000000 ≤ tk ∧ tk ≤ 1000000 ∧ -1000000 ≤ yk ∧ yk ≤ 1000000 from ⟨ok.1, ok.2.1, ok.2.2.1, ok.2.2.2.1⟩)
              clear eti eyi etj eyj etk eyk oi oj ok
              have xb := HV.out.bo_bd (i := i) (j := j) (k := k) (by rw [HL.out]; exact hin) (by rw [HL.out]; exact hjn) (by rw [HL.out]; exact hkn)
              have yb := HV.out.br_bd (i := i) (k := k) (by omega) (by rw [HL.out]; exact hkn)
              rw [HR.out.1] at xb
              rw [HR.out.2] at yb
              have XB := Lib.hid xb
              have YB := Lib.hid (show 0 ≤ tk - ti ∧ tk - ti ≤ 2000000 by omega)
              clear xb yb
              go_wp2
              have hst : Ext wk wk.drew := Ext.drew wk
              have c7 := fun w' (hh : Ext wk w') => (HS.out.b3.below hh).cells
              simp only [cellsAre, Nat.zero_add, Nat.reduceAdd, and_true] at c7
              obtain ⟨bd1, bd2⟩ := HG.out.bd HV.out HL.out
              have BD1 := Lib.hid bd1
              have BD2 := Lib.hid (show 0 ≤ run ∧ run ≤ 2000000 by omega)
              clear bd1 bd2
              have c1 := fun w' (hh : Ext wk w') => hh.cell ci1
              have c2 := fun w' (hh : Ext wk w') => hh.cell ci2
              have c3 := fun w' (hh : Ext wk w') => hh.cell cj1
              have c4 := fun w' (hh : Ext wk w') => hh.cell cj2
              have c5 := fun w' (hh : Ext wk w') => hh.cell ck1
              have c6 := fun w' (hh : Ext wk w') => hh.cell ck2
              clear ci1 ci2 cj1 cj2 ck1 ck2
              go_region_held3 (fun w' => Ext wk w') (first | assumption | exact Ext.below (by assumption) (by assumption) | exact Ext.alloc (by assumption) _ | exact Ext.set_ (Ext.set_ (by assumption) (Nat.le_refl _) _) (Nat.le_refl _) _)
                ((go_at_call 109; refine (rbent_any _ _ _ _ _ _ _ OI.out OJ.out OK.out).mono ?_; rintro e w1 ⟨v1, rfl, rfl, hb1⟩; have hh1 : Ext wk w1 := Ext.below (by assumption) hb1; first | (have nb : Blk w1 wk.heap.size TBD #[.int .i64 0, .int .i64 0] := Blk.below (Blk.drew (Blk.new_ TBD #[.int .i64 0, .int .i64 0] rfl)) hb1; have nc := nb.cells; have nf := nb.free; simp only [cellsAre, Nat.zero_add, Nat.reduceAdd, and_true] at nc; have tok := hb1) | skip))
              · have HX : Hid (Blk _ (w1.heap.size) TBD #[.int .i64 ((yj - yi) * (tk - ti) - (yk - yi) * (tj - ti)), .int .i64 (tk - ti)]) := Blk.new_ _ _ rfl
                have hlt := HX.out.lt
                go_wp2_with (go_at_call 110; refine (rcompare_any _ _ _ _ _ XB.out YB.out BD1.out BD2.out).mono ?_; rintro e w2 ⟨v2, rfl, rfl, hb2⟩)
                · rename_i hpos
                  have E2 : Ext wk w2 := Ext.below (by assumption) hb2
                  have HS2 := Lib.hid (HS.out.below E2)
                  have hpos := (cmpI_pos _ _).1 hpos
                  have HG2 := Lib.hid (HG.out.take HV.out HL.out (by omega) (by omega) hkn (by rw [HR.out.1, HR.out.2]; exact_mod_cast hpos))
                  have kX := (HX.out.below hb2).cells
                  have k2 := HS2.out.b2.cells
                  have k3 := HS2.out.b3.cells
                  have f2 := HS2.out.b2.free
                  have f3 := HS2.out.b3.free
                  simp only [cellsAre, Nat.zero_add, Nat.reduceAdd, and_true] at kX k2 k3
                  have lt3 := HS.out.b3.lt
                  have ltw : wk.heap.size ≤ (w1.heap.size) := by have := Below.size hh1; omega
                  have n1 : w.heap.size + 1 + 1 ≠ (w1.heap.size) := by omega
                  have n2 : (w1.heap.size) ≠ w.heap.size + 1 + 1 := by omega
                  have n3 : w.heap.size + 1 + 1 + 1 ≠ (w1.heap.size) := by omega
                  have n4 : (w1.heap.size) ≠ w.heap.size + 1 + 1 + 1 := by omega
                  clear lt3 ltw
                  clear hpos E2 hb2 hb1 hh1 c1 c2 c3 c4 c5 c6 c7 hst HX hlt HG HS
                  go_region
                  go_wp2
                  go_roundw
                  case rel => exact ⟨k + 1, i, j, k, (yj - yi) * (tk - ti) - (yk - yi) * (tj - ti), tk - ti, by go_num, by omega, by omega, by rw [← HR.out.1, ← HR.out.2]; exact HG2.out, HS2.out.put i j k _ _⟩
                  case measure => first | (simp [intOf]; done) | (simp [intOf]; omega)
                · rename_i hpos
                  have E2 : Ext wk w2 := Ext.below (by assumption) hb2
                  go_roundw
                  case rel => exact ⟨k + 1, a, b, c', off, run, by go_num, by omega, by omega, HG.out.skip (by rw [HR.out.1, HR.out.2]; intro h; have h2 := (cmpI_pos _ _).2 (Int.ofNat_lt.2 h); simp only [Int.natCast_mul] at h2; exact absurd h2 (Int.not_lt.2 hpos)), HS.out.below E2⟩
                  case measure => first | (simp [intOf]; done) | (simp [intOf]; omega)
              · have HX : Hid (Blk _ (wk.heap.size) TBD #[.int .i64 ((yj - yi) * (tk - ti) - (yk - yi) * (tj - ti)), .int .i64 (tk - ti)]) := (nb.set_ 0 _).set_ 1 _
                have hlt := HX.out.lt
                go_wp2_with (go_at_call 110; refine (rcompare_any _ _ _ _ _ XB.out YB.out BD1.out BD2.out).mono ?_; rintro e w2 ⟨v2, rfl, rfl, hb2⟩)
                · rename_i hpos
                  have E2 : Ext wk w2 := Ext.below (by assumption) hb2
                  have HS2 := Lib.hid (HS.out.below E2)
                  have hpos := (cmpI_pos _ _).1 hpos
                  have HG2 := Lib.hid (HG.out.take HV.out HL.out (by omega) (by omega) hkn (by rw [HR.out.1, HR.out.2]; exact_mod_cast hpos))
                  have kX := (HX.out.below hb2).cells
                  have k2 := HS2.out.b2.cells
                  have k3 := HS2.out.b3.cells
                  have f2 := HS2.out.b2.free
                  have f3 := HS2.out.b3.free
                  simp only [cellsAre, Nat.zero_add, Nat.reduceAdd, and_true] at kX k2 k3
                  have lt3 := HS.out.b3.lt
                  have ltw : wk.heap.size ≤ (wk.heap.size) := by have := Below.size hh1; omega
                  have n1 : w.heap.size + 1 + 1 ≠ (wk.heap.size) := by omega
                  have n2 : (wk.heap.size) ≠ w.heap.size + 1 + 1 := by omega
                  have n3 : w.heap.size + 1 + 1 + 1 ≠ (wk.heap.size) := by omega
                  have n4 : (wk.heap.size) ≠ w.heap.size + 1 + 1 + 1 := by omega
                  clear lt3 ltw
                  clear hpos E2 hb2 hb1 hh1 c1 c2 c3 c4 c5 c6 c7 hst HX hlt HG HS
                  go_region
                  go_wp2
                  go_roundw
                  case rel => exact ⟨k + 1, i, j, k, (yj - yi) * (tk - ti) - (yk - yi) * (tj - ti), tk - ti, by go_num, by omega, by omega, by rw [← HR.out.1, ← HR.out.2]; exact HG2.out, HS2.out.put i j k _ _⟩
                  case measure => first | (simp [intOf]; done) | (simp [intOf]; omega)
                · rename_i hpos
                  have E2 : Ext wk w2 := Ext.below (by assumption) hb2
                  go_roundw
                  case rel => exact ⟨k + 1, a, b, c', off, run, by go_num, by omega, by omega, HG.out.skip (by rw [HR.out.1, HR.out.2]; intro h; have h2 := (cmpI_pos _ _).2 (Int.ofNat_lt.2 h); simp only [Int.natCast_mul] at h2; exact absurd h2 (Int.not_lt.2 hpos)), HS.out.below E2⟩
                  case measure => first | (simp [intOf]; done) | (simp [intOf]; omega)
            · have : k = n := by omega
              subst this
              go_wp2
              go_roundw
              case rel => exact ⟨j + 1, a, b, c', off, run, by go_num, by omega, by omega, HG.out.nextJ, HS.out⟩
              case measure => first | (simp [intOf]; done) | (simp [intOf]; omega)
        · have : j = n := by omega
          subst this
          go_wp2
          go_roundw
          case rel => exact ⟨i + 1, a, b, c', off, run, by go_num, by omega, HG.out.nextI, HS.out⟩
          case measure => first | (simp [intOf]; done) | (simp [intOf]; omega)
    · have : i = n := by omega
      subst this
      have k2 := HS.out.b2.cells
      have k3 := HS.out.b3.cells
      have k0 := HS.out.b0.cells
      have k1 := HS.out.b1.cells
      have f0 := HS.out.b0.free
      have f1 := HS.out.b1.free
      simp only [cellsAre, Nat.zero_add, Nat.reduceAdd, and_true] at k0 k1 k2 k3
      have hbf := fun (n : Nat) x0 x1 x2 y0 y1 => (((((HS.out.bw.setCell (p := ⟨w.heap.size, 0, none⟩) (Nat.le_refl _) x0).setCell (p := ⟨w.heap.size, 1, none⟩) (Nat.le_refl _) x1).setCell (p := ⟨w.heap.size, 2, none⟩) (Nat.le_refl _) x2).setCell (p := ⟨w.heap.size + 1, 0, none⟩) (by simp) y0).setCell (p := ⟨w.heap.size + 1, 1, none⟩) (by simp) y1).drew
      have HB := Lib.hid hbf
      clear hbf
      go_wp2
      go_region
      go_wp2
      (try simp only [Exit.inBlock, Exit.then])
      refine bodyPost_ret (v := .tuple #[.agg #[.int .i64 a, .int .i64 b, .int .i64 c'], .agg #[.int .i64 off, .int .i64 run]]) (by simp [results, Try.results72, go_sem, k0, k1]) rfl ?_
      exact ⟨_, rfl, ⟨a, b, c', off, run, rfl, by unfold Gr; rw [HL.out]; exact HG.out⟩, HB.out 0 _ _ _ _ _⟩
end Go.Proofs.Tb
