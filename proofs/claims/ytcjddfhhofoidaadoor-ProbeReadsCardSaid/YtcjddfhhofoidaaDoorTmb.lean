/- Rows of a case that are written cell by cell: what ProbeTimes has in memory. -/
import Derived.Test.YtcjddfhhofoidaaDoorTma
import Derived.OneCell
set_option linter.unusedVariables false
set_option linter.unusedSimpArgs false
namespace Go.Proofs.Tb
open Go.RowKit

theorem ic_set (xs : List Int) (k : Nat) (x : Int) : (ic xs).set k (.int .i64 x) = ic (xs.set k x) := by unfold ic; rw [List.map_set]
theorem cel_set (d : List (Int × Value)) : ∀ (k : Nat) (x : Int) (u : Value) (x0 : Int), d[k]? = some (x0, u) → (cel prE d).set (k * 2) (.int .i64 x) = cel prE (d.set k (x, u)) := by
  induction d with
  | nil => intro k x u x0 h; simp at h
  | cons y d ih =>
    intro k x u x0 h
    have e : ∀ (z : Int × Value) (l : List (Int × Value)), cel prE (z :: l) = .int .i64 z.1 :: z.2 :: cel prE l := fun _ _ => rfl
    cases k with
    | zero =>
      simp at h
      subst h
      rw [List.set_cons_zero, e, e]
      rfl
    | succ k =>
      rw [List.getElem?_cons_succ] at h
      rw [List.set_cons_succ, e, e, ← ih k x u x0 h, show (k + 1) * 2 = k * 2 + 1 + 1 by omega, List.set_cons_succ, List.set_cons_succ]
theorem PrW.set {w : World} : ∀ {d : List (Int × Value)} {bs : List Tt}, PrW w d bs → ∀ (k : Nat) (x x0 : Int) (u : Value), d[k]? = some (x0, u) → PrW w (d.set k (x, u)) (bs.set k (x, tS bs k))
  | [], [], _, k, _, _, _, h => by simp at h
  | y :: d, b :: bs, hp, 0, x, x0, u, h => by
    simp at h
    subst h
    exact ⟨⟨rfl, hp.1.2⟩, hp.2⟩
  | y :: d, b :: bs, hp, k + 1, x, x0, u, h => ⟨hp.1, PrW.set hp.2 k x x0 u (by simpa using h)⟩
theorem OwT.set {T : TypeId} {base : Nat} {w : World} {q n c : Nat} {xs : List Int} (h : OwT T base w (.slice (some ⟨q, 0, none⟩) n c) xs) (k : Nat) (x : Int) :
    OwT T base (w.setCell ⟨q, k, none⟩ (.int .i64 x)) (.slice (some ⟨q, 0, none⟩) n c) (xs.set k x) := by
  obtain ⟨h1, h2⟩ := h
  refine ⟨by simp [ic], ?_⟩
  rcases h2 with ⟨e, _⟩ | ⟨g, cap, cur, e, hb, hh, hn, hm, hs, ht⟩
  · cases e
  · injection e with e1 e2 e3
    injection e1 with e1
    injection e1 with e1
    subst e1 e2 e3
    have hbk : Blk w q T cur := hh
    refine Or.inr ⟨q, c, cur.setIfInBounds k (.int .i64 x), by rw [List.length_set], hb, hbk.set_ k _, by rw [List.length_set]; exact hn, hm, by rw [Array.size_setIfInBounds]; exact hs, ?_⟩
    rw [List.length_set, Array.toList_setIfInBounds, List.take_set, ht, ic_set]
theorem OwP.set {T : TypeId} (hT : TIN ≠ T) {base : Nat} {w : World} {q n c : Nat} {bs : List Tt} (h : OwP T base w (.slice (some ⟨q, 0, none⟩) n c) bs) (k : Nat) (hk : k < bs.length) (x : Int) :
    OwP T base (w.setCell ⟨q, k * 2, none⟩ (.int .i64 x)) (.slice (some ⟨q, 0, none⟩) n c) (bs.set k (x, tS bs k)) := by
  obtain ⟨d, ⟨h1, h2⟩, hp⟩ := h
  have hkd : k < d.length := by rw [hp.len]; exact hk
  have hd : d[k]? = some ((d[k]).1, (d[k]).2) := List.getElem?_eq_getElem hkd
  rcases h2 with ⟨e, _⟩ | ⟨g, cap, cur, e, hb, hh, hn, hm, hs, ht⟩
  · cases e
  · injection e with e1 e2 e3
    injection e1 with e1
    injection e1 with e1
    subst e1 e2 e3
    have hbk : Blk w q T cur := hh
    refine ⟨d.set k (x, (d[k]).2), ⟨?_, Or.inr ⟨q, c, cur.setIfInBounds (k * 2) (.int .i64 x), by rw [List.length_set], hb, hbk.set_ (k * 2) _, by rw [List.length_set]; exact hn, hm, by rw [Array.size_setIfInBounds]; exact hs, ?_⟩⟩, ?_⟩
    · rw [← cel_set d k x _ _ hd, List.length_set, List.length_set]; exact h1
    · rw [List.length_set, Array.toList_setIfInBounds, List.take_set, ht, cel_set d k x _ _ hd]
    · exact (hp.set k x _ _ hd).imp fun _ _ hs => hs.held (hbk.heldS.set_ (k * 2) _) hT
theorem OwT.other {T : TypeId} {base q j : Nat} {w : World} {v : Value} {xs : List Int} (h : OwT T base w v xs) (ha : v.ownBlock ≠ some q) (u : Value) : OwT T base (w.setCell ⟨q, j, none⟩ u) v xs := ownsRow_setCell_other h ha u
theorem OwP.other {T T' : TypeId} {base q j : Nat} {w : World} {v : Value} {bs : List Tt} (h : OwP T base w v bs) (ha : v.ownBlock ≠ some q) {cur : Array Value} (hq : Blk w q T' cur) (hT : TIN ≠ T') (u : Value) : OwP T base (w.setCell ⟨q, j, none⟩ u) v bs := by
  obtain ⟨d, h1, h2⟩ := h
  exact ⟨d, ownsRow_setCell_other h1 ha u, h2.imp fun _ _ hs => hs.held (hq.heldS.set_ j u) hT⟩
theorem own_addr {T : TypeId} {base k n : Nat} {w : World} {A : Option Addr} {n' c : Nat} {xs : List Value} (h : w.ownsRow base T k (.slice A n' c) n xs) (h0 : 0 < n) : ∃ q, A = some ⟨q, 0, none⟩ := by
  rcases h.2 with ⟨_, e⟩ | ⟨g, cap, cur, e, _⟩
  · omega
  · injection e with e1; exact ⟨g, e1⟩
theorem own_blk {T : TypeId} {base k n : Nat} {w : World} {q n' c : Nat} {xs : List Value} (h : w.ownsRow base T k (.slice (some ⟨q, 0, none⟩) n' c) n xs) : base ≤ q ∧ ∃ cur, Blk w q T cur := by
  rcases h.2 with ⟨e, _⟩ | ⟨g, cap, cur, e, hb, hh, _⟩
  · cases e
  · injection e with e1
    injection e1 with e1
    injection e1 with e1
    subst e1
    exact ⟨hb, cur, hh⟩
theorem blk_ne {w : World} {g q : Nat} {T T' : TypeId} {cs cur : Array Value} (h : Blk w g T cs) (h' : Blk w q T' cur) (hT : T ≠ T') : g ≠ q := by
  rintro rfl
  unfold Blk at h h'
  rw [h] at h'
  injection h' with h'
  injection h' with _ e _
  exact hT e
theorem own_ne {T T' : TypeId} {base k n q : Nat} {w : World} {v : Value} {xs : List Value} {cur : Array Value} (h : w.ownsRow base T k v n xs) (hq : Blk w q T' cur) (hT : T ≠ T') : v.ownBlock ≠ some q := by
  rcases h.2 with ⟨e, _⟩ | ⟨g, cap, cur', e, hb, hh, _⟩
  · rw [e]; intro h; cases h
  · rw [e]
    intro h
    have e1 : g = q := by simpa [Value.ownBlock] using h
    exact blk_ne (show Blk w g T cur' from hh) hq hT e1
theorem own_lt {T : TypeId} {base k n q : Nat} {w : World} {v : Value} {xs : List Value} (h : w.ownsRow base T k v n xs) (hq : q < base) : v.ownBlock ≠ some q := by
  rcases h.2 with ⟨e, _⟩ | ⟨g, cap, cur', e, hb, hh, _⟩
  · rw [e]; intro h; cases h
  · rw [e]
    intro h
    have e1 : g = q := by simpa [Value.ownBlock] using h
    omega
theorem own_size {T : TypeId} {base k n q : Nat} {w : World} {v : Value} {xs : List Value} (h : w.ownsRow base T k v n xs) (hq : v.ownBlock = some q) : q < w.heap.size := by
  rcases h.2 with ⟨e, _⟩ | ⟨g, cap, cur', e, hb, hh, _⟩
  · rw [e] at hq; cases hq
  · rw [e] at hq
    have e1 : g = q := by simpa [Value.ownBlock] using hq
    subst e1
    exact Blk.lt (show Blk w g T cur' from hh)
/-- What ProbeTimes has in memory. -/
structure TimR (w : World) (b3 b5 g g6 g7 : Nat) (A1 A2 A3 A4 A5 A6 : Option Addr) (n m c1 c2 c3 c4 c5 c6 : Nat) (wf wf' : List Int) (tf tf' : List Tt) (W : World) : Prop where
  bc : Blk W g TCA #[.slice A1 n c1, .slice A2 m c2]
  bk : Blk W g6 TCA #[.slice A3 n c3, .slice A4 m c4]
  bw : Blk W g7 TCA #[.slice A5 n c5, .slice A6 m c6]
  f3 : OwT TFA b3 W (.slice A3 n c3) wf
  t4 : OwP TTE b3 W (.slice A4 m c4) tf'
  f5 : OwT TFA b5 W (.slice A5 n c5) wf'
  t6 : OwP TTE b5 W (.slice A6 m c6) tf
  d3 : ∀ q, (Value.slice A3 n c3).ownBlock = some q → q < b5
  d4 : ∀ q, (Value.slice A4 m c4).ownBlock = some q → q < b5
  h35 : b3 ≤ b5
  lo : w.heap.size ≤ b3
  bl : Below w.heap.size w W
section
variable {w W : World} {b3 b5 g g6 g7 : Nat} {A1 A2 A3 A4 A5 A6 : Option Addr} {n m c1 c2 c3 c4 c5 c6 : Nat} {wf wf' : List Int} {tf tf' : List Tt}
theorem TimR.setT {q : Nat} (h : TimR w b3 b5 g g6 g7 A1 A2 A3 (some ⟨q, 0, none⟩) A5 A6 n m c1 c2 c3 c4 c5 c6 wf wf' tf tf' W) (k : Nat) (hk : k < tf'.length) (x : Int) :
    TimR w b3 b5 g g6 g7 A1 A2 A3 (some ⟨q, 0, none⟩) A5 A6 n m c1 c2 c3 c4 c5 c6 wf wf' tf (tf'.set k (x, tS tf' k)) (W.setCell ⟨q, k * 2, none⟩ (.int .i64 x)) := by
  obtain ⟨d, h4, _⟩ := h.t4
  obtain ⟨hb, cur, hq⟩ := own_blk h4
  have hlt := h.d4 q rfl
  exact ⟨h.bc.far (blk_ne h.bc hq (by decide)) _, h.bk.far (blk_ne h.bk hq (by decide)) _, h.bw.far (blk_ne h.bw hq (by decide)) _, h.f3.other (own_ne h.f3 hq (by decide)) _, h.t4.set (by decide) k hk x, h.f5.other (own_ne h.f5 hq (by decide)) _,
    (by obtain ⟨d6, h6, _⟩ := h.t6; exact h.t6.other (own_lt h6 hlt) hq (by decide) _), h.d3, h.d4, h.h35, h.lo, h.bl.setCell (Nat.le_trans h.lo hb) _⟩
theorem TimR.setF {q : Nat} (h : TimR w b3 b5 g g6 g7 A1 A2 A3 A4 (some ⟨q, 0, none⟩) A6 n m c1 c2 c3 c4 c5 c6 wf wf' tf tf' W) (k : Nat) (x : Int) :
    TimR w b3 b5 g g6 g7 A1 A2 A3 A4 (some ⟨q, 0, none⟩) A6 n m c1 c2 c3 c4 c5 c6 wf (wf'.set k x) tf tf' (W.setCell ⟨q, k, none⟩ (.int .i64 x)) := by
  obtain ⟨hb, cur, hq⟩ := own_blk h.f5
  have h35 := h.h35
  exact ⟨h.bc.far (blk_ne h.bc hq (by decide)) _, h.bk.far (blk_ne h.bk hq (by decide)) _, h.bw.far (blk_ne h.bw hq (by decide)) _, h.f3.other (fun e => by have := h.d3 q e; omega) _,
    (by obtain ⟨d4, h4, _⟩ := h.t4; exact h.t4.other (own_ne h4 hq (by decide)) hq (by decide) _), h.f5.set k x, (by obtain ⟨d6, h6, _⟩ := h.t6; exact h.t6.other (own_ne h6 hq (by decide)) hq (by decide) _), h.d3, h.d4, h.h35, h.lo, h.bl.setCell (by have := h.lo; show w.heap.size ≤ q; omega) _⟩
theorem TimR.below {W' : World} (h : TimR w b3 b5 g g6 g7 A1 A2 A3 A4 A5 A6 n m c1 c2 c3 c4 c5 c6 wf wf' tf tf' W) (hb : Below W.heap.size W W') : TimR w b3 b5 g g6 g7 A1 A2 A3 A4 A5 A6 n m c1 c2 c3 c4 c5 c6 wf wf' tf tf' W' :=
  ⟨h.bc.below hb, h.bk.below hb, h.bw.below hb, h.f3.below hb, h.t4.below hb, h.f5.below hb, h.t6.below hb, h.d3, h.d4, h.h35, h.lo, h.bl.trans (hb.mono h.bl.size)⟩
end
theorem OwT.il_ {T : TypeId} {base : Nat} {w : World} {A : Option Addr} {n c : Nat} {xs : List Int} (h : OwT T base w (.slice A n c) xs) : Il w A n c xs := by
  obtain ⟨A', n', c', e, hi⟩ := h.il
  injection e with e1 e2 e3
  subst e1 e2 e3
  exact hi
theorem OwP.ts_ {T : TypeId} {base : Nat} {w : World} {A : Option Addr} {n c : Nat} {bs : List Tt} (h : OwP T base w (.slice A n c) bs) : Ts w A n c bs := by
  obtain ⟨A', c', e, hi⟩ := h.slp
  injection e with e1 e2 e3
  subst e1 e2 e3
  exact hi.ts
/-- The first k costs (weights) multiplied. -/
def ScT (b k : Nat) (ts l : List Tt) : Prop := l.length = ts.length ∧ ∀ j, tC l j = (if j < k then tC ts j * (b : Int) else tC ts j) ∧ tS l j = tS ts j
def ScF (b k : Nat) (ws l : List Int) : Prop := l.length = ws.length ∧ ∀ j, l.getD j 0 = if j < k then ws.getD j 0 * (b : Int) else ws.getD j 0
theorem ScT.zero (b : Nat) (ts : List Tt) : ScT b 0 ts ts := ⟨rfl, fun j => ⟨by rw [if_neg (by omega)], rfl⟩⟩
theorem ScF.zero (b : Nat) (ws : List Int) : ScF b 0 ws ws := ⟨rfl, fun j => by rw [if_neg (by omega)]⟩
theorem getD_set {α : Type} (l : List α) (k : Nat) (x d : α) (hk : k < l.length) (j : Nat) : (l.set k x).getD j d = if k = j then x else l.getD j d := by
  simp only [List.getD, List.getElem?_set]
  split
  · subst_vars; simp [hk]
  · rfl
theorem ScT.next {b k : Nat} {ts l : List Tt} (h : ScT b k ts l) (hk : k < ts.length) : ScT b (k + 1) ts (l.set k (tC ts k * (b : Int), tS l k)) := by
  refine ⟨by rw [List.length_set]; exact h.1, fun j => ?_⟩
  have e := getD_set l k (tC ts k * (b : Int), tS l k) (0, []) (by rw [h.1]; exact hk) j
  have h2 := h.2 j
  unfold tC tS at h2 ⊢
  unfold tC tS at e
  rw [e]
  by_cases hj : k = j
  · subst hj
    rw [if_pos rfl, if_pos (by omega)]
    exact ⟨rfl, h2.2⟩
  · rw [if_neg hj]
    refine ⟨h2.1.trans ?_, h2.2⟩
    by_cases h3 : j < k
    · rw [if_pos h3, if_pos (by omega)]
    · rw [if_neg h3, if_neg (by omega)]
theorem ScF.next {b k : Nat} {ws l : List Int} (h : ScF b k ws l) (hk : k < ws.length) : ScF b (k + 1) ws (l.set k (ws.getD k 0 * (b : Int))) := by
  refine ⟨by rw [List.length_set]; exact h.1, fun j => ?_⟩
  rw [getD_set l k _ 0 (by rw [h.1]; exact hk) j]
  by_cases hj : k = j
  · subst hj
    rw [if_pos rfl, if_pos (by omega)]
  · rw [if_neg hj, h.2 j]
    by_cases h3 : j < k
    · rw [if_pos h3, if_pos (by omega)]
    · rw [if_neg h3, if_neg (by omega)]
theorem ScT.end_ {b k : Nat} {ts l : List Tt} (h : ScT b k ts l) (hk : ts.length ≤ k) : l = scT b ts := by
  refine List.ext_getElem (by rw [scT_len, h.1]) fun j h1 h2 => ?_
  have h3 := h.2 j
  have h4 := scT_get b ts j
  rw [if_pos (by rw [h.1] at h1; omega), ← h4.1, ← h4.2] at h3
  unfold tC tS at h3
  simp only [List.getD, List.getElem?_eq_getElem h1, List.getElem?_eq_getElem h2, Option.getD_some] at h3
  exact Prod.ext h3.1 h3.2
theorem ScF.end_ {b k : Nat} {ws l : List Int} (h : ScF b k ws l) (hk : ws.length ≤ k) : l = scF b ws := by
  refine List.ext_getElem (by rw [scF_len, h.1]) fun j h1 h2 => ?_
  have h3 := h.2 j
  rw [if_pos (by rw [h.1] at h1; omega), ← scF_get b ws j] at h3
  simp only [List.getD, List.getElem?_eq_getElem h1, List.getElem?_eq_getElem h2, Option.getD_some] at h3
  exact h3
end Go.Proofs.Tb
