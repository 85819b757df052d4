/- What a store answers to any question, said once for all arguments. -/
import Derived.Test.YtfljnfdeboibhaaGreatRpe
import Derived.Test.YtfljnfdeboibhaaGreatRpn
set_option linter.unusedVariables false
set_option linter.unusedSimpArgs false
namespace Go.Proofs.Tb
open Go.Maps Go.RowKit Go.Lib Go.Shelf
attribute [local go_sem] cell_set_same neqMapL

theorem and7r (y : Int) : ∃ b : Nat, b ≤ 7 ∧ bits .and .i64 y 7 = (b : Int) := by
  have e : bits .and .i64 y 7 = IntKind.i64.wrap ((BitVec.ofInt 64 y &&& BitVec.ofInt 64 7).toNat : Int) := rfl
  have h : (BitVec.ofInt 64 y &&& BitVec.ofInt 64 7).toNat ≤ 7 := by
    rw [BitVec.toNat_and]
    exact Nat.and_le_right
  refine ⟨_, h, ?_⟩
  rw [e, IntWalk.i64_in _ (by omega)]
theorem OpX.extr {w w' : World} {A : Option Addr} {n c : Nat} (h : OpX w A n c) (x : Ext w w') : OpX w' A n c :=
  ⟨h.le, h.cap, fun j hj => by
    obtain ⟨b, o, e, A', n', c', cs, h1, h2, h3⟩ := h.at_ j hj
    exact ⟨b, o, e, A', n', c', cs, ext_cell x h1, h2.below x, h3⟩⟩
def eGet (e : Int) (kb : Bool) : Int := if e = 1 ∨ kb = false then 1 else e
def eRng (e most : Int) : Int := if most < 0 then 1 else e
def oGet (g : Int) (l : List Pr) (k : Str) : Option Str := if g = 0 then fndP l k else none
def lRng (g : Int) (l : List Pr) (low high : Str) (most : Nat) : List Pr := if g = 0 then rngP l low high most else []
def lDif (g : Int) (a b : List Pr) : List Cg := if g = 0 then mrg a b else []
def lAll (e : Int) (l : List Pr) : List Pr := if e = 0 then l else []
section
variable {F : Nat → Prop} {w : World} {s d keep n left : Nat} {Vs : List (List Pr)}
/-- The pairs of a version's number, if it is one. -/
def prV (Vs : List (List Pr)) (v : Int) : List Pr := Vs.getD v.toNat []
theorem prV_nat (Vs : List (List Pr)) (a : Nat) : prV Vs (a : Int) = Vs.getD a [] := rfl
theorem eGet_ne {e : Int} {kb : Bool} (he : e = 0 ∨ e = 1 ∨ e = 10) (h : eGet e kb ≠ 0) : e ≠ 0 ∨ kb = false := by
  unfold eGet at h
  rcases he with rfl | rfl | rfl
  · cases kb
    · exact .inr rfl
    · simp at h
  · exact .inl (by decide)
  · exact .inl (by decide)
theorem st_get_all (h : STl F w s d keep n Vs left) (hV : Vs.length ≤ 100000) (v e : Int) (he : verS Vs keep v = e) (k : Str) (hks : k.size ≤ 1000000000) {kb : Bool} (hk : keyB k = kb) :
    Calls Tryz.prog 37 #[.pointer (some ⟨s, 0, none⟩), .int .i64 v, .string k] w (Ret (fun z _ => z = ansG (oGet (eGet e kb) (prV Vs v) k) (eGet e kb)) w) := by
  have ce : e = 0 ∨ e = 1 ∨ e = 10 := by rw [← he]; exact verS_cases v
  by_cases h0 : eGet e kb = 0
  · rw [h0]
    have hne : e = 0 ∧ kb = true := by
      unfold eGet at h0
      split at h0
      · cases h0
      · rename_i hn
        refine ⟨h0, ?_⟩
        cases kb with
        | true => rfl
        | false => exact absurd (Or.inr rfl) hn
    obtain ⟨rfl, rfl⟩ := hne
    obtain ⟨a, rfl, ha, hka⟩ := verS_zero h.posE he
    obtain ⟨vs, B, g1, g2⟩ := h.srE
    obtain ⟨t, hi, ht, hp, hs⟩ := g2.kept ha hka
    have := rget_ok g1 g2.vsn (by omega) hi (v := (a : Int)) (by omega) ht (by rw [hp]; exact hs) k hk hks
    rw [hp] at this
    exact this
  · have e1 : oGet (eGet e kb) (prV Vs v) k = none := if_neg h0
    rw [e1]
    have := st_get_bad h hV v k hks hk (by rw [he]; exact eGet_ne ce h0)
    rw [he] at this
    have e2 : (if e = 1 ∨ kb = false then 1 else 10) = eGet e kb := by
      unfold eGet at h0 ⊢
      by_cases hc : e = 1 ∨ kb = false
      · rw [if_pos hc, if_pos hc]
      · rw [if_neg hc] at h0 ⊢
        rw [if_neg hc]
        rcases ce with rfl | rfl | rfl
        · exact absurd rfl h0
        · exact absurd (Or.inl rfl) hc
        · rfl
    rw [e2] at this
    exact this
theorem st_range_all (h : STl F w s d keep n Vs left) (hV : Vs.length ≤ 100000) (hz : ∀ l ∈ Vs, l.length ≤ 100000) (v e : Int) (he : verS Vs keep v = e) (low high : Str) (most : Int) (hm : most ≤ 9223372036854775807) (hh : high.size ≤ 1000000000) :
    Calls Tryz.prog 31 #[.pointer (some ⟨s, 0, none⟩), .int .i64 v, .string low, .string high, .int .i64 most] w (Ret (fun z w' => ∃ z', z = ansR z' (eRng e most) ∧ OwP w.heap.size w' z' (lRng (eRng e most) (prV Vs v) low high most.toNat)) w) := by
  by_cases h0 : most < 0
  · have e1 : eRng e most = 1 := if_pos h0
    rw [e1]
    refine (st_range_neg h hV v low high most h0).mono ?_
    rintro e' w' ⟨z, rfl, rfl, b⟩
    exact ⟨_, rfl, ⟨_, rfl, World.ownsRow_nil _ _ _ _⟩, b⟩
  · obtain ⟨m, rfl⟩ := Int.eq_ofNat_of_zero_le (show 0 ≤ most by omega)
    have e1 : eRng e (m : Int) = e := if_neg h0
    rw [e1]
    by_cases hne : e = 0
    · subst hne
      obtain ⟨a, rfl, ha, hka⟩ := verS_zero h.posE he
      exact st_range_any h hV ha hka hz low high m (by omega) hh
    · have e2 : lRng e (prV Vs v) low high (m : Int).toNat = [] := if_neg hne
      rw [e2]
      have := st_range_err h hV v (by rw [he]; exact hne) low high m
      rw [he] at this
      refine this.mono ?_
      rintro e' w' ⟨z, rfl, rfl, b⟩
      exact ⟨_, rfl, ⟨_, rfl, World.ownsRow_nil _ _ _ _⟩, b⟩
theorem st_diff_all (h : STl F w s d keep n Vs left) (hV : Vs.length ≤ 100000) (hz : ∀ l ∈ Vs, l.length ≤ 100000) (a b e f : Int) (he : verS Vs keep a = e) (hf : verS Vs keep b = f) :
    Calls Tryz.prog 35 #[.pointer (some ⟨s, 0, none⟩), .int .i64 a, .int .i64 b] w (Ret (fun z w' => ∃ z', z = ansR z' (difE e f) ∧ OwC w.heap.size w' z' (lDif (difE e f) (prV Vs a) (prV Vs b))) w) := by
  have ce : e = 0 ∨ e = 1 ∨ e = 10 := by rw [← he]; exact verS_cases a
  have cf : f = 0 ∨ f = 1 ∨ f = 10 := by rw [← hf]; exact verS_cases b
  by_cases hne : e = 0 ∧ f = 0
  · obtain ⟨rfl, rfl⟩ := hne
    obtain ⟨x, rfl, hx, hkx⟩ := verS_zero h.posE he
    obtain ⟨y, rfl, hy, hky⟩ := verS_zero h.posE hf
    obtain ⟨vs, B, _, h2⟩ := h.srE
    obtain ⟨_, _, _, _, s1⟩ := h2.kept hx hkx
    obtain ⟨_, _, _, _, s2⟩ := h2.kept hy hky
    refine (st_diff_ok h hV hx hy hkx hky hz).mono ?_
    rintro e' w' ⟨z, rfl, ⟨z', l, rfl, hd, ho⟩, b⟩
    obtain rfl := hd.eq (mrg_dif _ _ _ (Nat.le_refl _) s1 s2)
    exact ⟨_, rfl, ⟨_, rfl, ho⟩, b⟩
  · have hd0 : difE e f ≠ 0 := by
      unfold difE
      rcases ce with rfl | rfl | rfl <;> rcases cf with rfl | rfl | rfl <;> first | exact absurd ⟨rfl, rfl⟩ hne | decide
    have e2 : lDif (difE e f) (prV Vs a) (prV Vs b) = [] := if_neg hd0
    rw [e2]
    have := st_diff_err h hV a b (by rw [he, hf]; omega)
    rw [he, hf] at this
    refine this.mono ?_
    rintro e' w' ⟨z, rfl, rfl, b⟩
    exact ⟨_, rfl, ⟨_, rfl, World.ownsRow_nil _ _ _ _⟩, b⟩
theorem st_all_all (h : STl F w s d keep n Vs left) (hV : Vs.length ≤ 100000) (v e : Int) (he : verS Vs keep v = e) :
    Calls Tryz.prog 43 #[.pointer (some ⟨s, 0, none⟩), .int .i64 v] w (Ret (fun z w' => ∃ B t b1 b2, z = .func (.func FPW) #[] #[.pointer (some ⟨b1, 0, none⟩), .pointer (some ⟨b2, 0, none⟩)] ∧ TrW w' B (Pos B) t ∧ t.er.prs = lAll e (prV Vs v) ∧ Srtd t.er.prs ∧ w.heap.size ≤ b1 ∧ w.heap.size ≤ b2 ∧ Blk w' b1 TNP #[.pointer t.ad] ∧ Blk w' b2 TST #[.string ⟨#[]⟩]) w) := by
  obtain ⟨vs, B, g1, g2⟩ := h.srE
  refine (rall_any g1 g2.vsn (by omega) v).mono ?_
  rintro e' w' ⟨z, rfl, ⟨p, b1, b2, rfl, hp, l1, l2, h1, h2⟩, b⟩
  refine ⟨_, rfl, ?_, b⟩
  have hve : verB (Vs.length - 1) vs.length v = e := by rw [← he]; unfold verS; rw [g2.len]
  by_cases h0 : e = 0
  · subst h0
    obtain ⟨i, hi, hvi, rfl⟩ := hp.2 hve
    obtain ⟨a, rfl, ha, hka⟩ := verS_zero h.posE he
    obtain ⟨t, hj, ht, hpr, hs⟩ := g2.kept ha hka
    have hij : i = Vs.length - 1 - a := by
      have := g2.len
      omega
    subst hij
    refine ⟨B, t, b1, b2, rfl, ?_, hpr, by rw [hpr]; exact hs, l1, l2, by rw [← ht]; exact h1, h2⟩
    rw [← ht]
    exact (g1.tr _ (List.getElem_mem hi)).below b
  · have hpn := hp.1 (by rw [hve]; exact h0)
    subst hpn
    exact ⟨B, .nil, b1, b2, rfl, trivial, by unfold lAll; rw [if_neg h0]; rfl, List.Pairwise.nil, l1, l2, h1, h2⟩
end
end Go.Proofs.Tb
