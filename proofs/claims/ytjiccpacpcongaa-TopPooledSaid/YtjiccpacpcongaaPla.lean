/- Polynomials and linear equations modulo q; elimination; reading a word with errors. Plain. -/
import Derived.Test.YtjiccpacpcongaaProg
set_option linter.unusedVariables false
set_option linter.unusedSimpArgs false
namespace Go.Proofs.Tb
/-! Polynomials over the numbers modulo q: functions with a bound. -/
/-- The value of f 0 + f 1 x + .. + f (n-1) x^(n-1). -/
def evn (f : Nat → Int) : Nat → Int → Int
  | 0, _ => 0
  | n + 1, x => f 0 + x * evn (fun k => f (k + 1)) n x
theorem evn_add (f g : Nat → Int) (x : Int) : ∀ n, evn (fun k => f k + g k) n x = evn f n x + evn g n x := by
  intro n
  induction n generalizing f g with
  | zero => rfl
  | succ n ih =>
    show f 0 + g 0 + x * evn (fun k => f (k + 1) + g (k + 1)) n x = (f 0 + x * evn (fun k => f (k + 1)) n x) + (g 0 + x * evn (fun k => g (k + 1)) n x)
    rw [ih]
    grind
theorem evn_mul (c : Int) (f : Nat → Int) (x : Int) : ∀ n, evn (fun k => c * f k) n x = c * evn f n x := by
  intro n
  induction n generalizing f with
  | zero => show (0 : Int) = c * 0; omega
  | succ n ih =>
    show c * f 0 + x * evn (fun k => c * f (k + 1)) n x = c * (f 0 + x * evn (fun k => f (k + 1)) n x)
    rw [ih]
    grind
theorem evn_zero (f : Nat → Int) (x : Int) : ∀ n, (∀ k, k < n → f k = 0) → evn f n x = 0 := by
  intro n
  induction n generalizing f with
  | zero => intro _; rfl
  | succ n ih =>
    intro h
    show f 0 + x * evn (fun k => f (k + 1)) n x = 0
    rw [ih _ fun k hk => h (k + 1) (by omega), h 0 (by omega)]
    omega
theorem evn_congr {f g : Nat → Int} (x : Int) : ∀ n, (∀ k, k < n → f k = g k) → evn f n x = evn g n x := by
  intro n
  induction n generalizing f g with
  | zero => intro _; rfl
  | succ n ih =>
    intro h
    show f 0 + x * evn (fun k => f (k + 1)) n x = g 0 + x * evn (fun k => g (k + 1)) n x
    rw [ih fun k hk => h (k + 1) (by omega), h 0 (by omega)]
/-- One more power. -/
theorem evn_snoc (f : Nat → Int) (x : Int) : ∀ n, evn f (n + 1) x = evn f n x + f n * x ^ n := by
  intro n
  induction n generalizing f with
  | zero => show f 0 + x * 0 = 0 + f 0 * x ^ 0; simp
  | succ n ih =>
    show f 0 + x * evn (fun k => f (k + 1)) (n + 1) x = (f 0 + x * evn (fun k => f (k + 1)) n x) + f (n + 1) * x ^ (n + 1)
    rw [ih, Int.pow_succ]
    grind
/-- What is left of f behind k, at a. -/
def sdf (f : Nat → Int) (n : Nat) (a : Int) (k : Nat) : Int := evn (fun j => f (k + 1 + j)) (n - k) a
theorem evn_sd (f : Nat → Int) (x a : Int) : ∀ n, evn f (n + 1) x - evn f (n + 1) a = (x - a) * evn (sdf f n a) n x := by
  intro n
  induction n generalizing f with
  | zero => show (f 0 + x * 0) - (f 0 + a * 0) = (x - a) * 0; simp
  | succ n ih =>
    show (f 0 + x * evn (fun k => f (k + 1)) (n + 1) x) - (f 0 + a * evn (fun k => f (k + 1)) (n + 1) a) = (x - a) * (sdf f (n + 1) a 0 + x * evn (fun k => sdf f (n + 1) a (k + 1)) n x)
    have h := ih (fun k => f (k + 1))
    have e0 : sdf f (n + 1) a 0 = evn (fun k => f (k + 1)) (n + 1) a := by
      unfold sdf
      exact evn_congr a _ fun k _ => by rw [Nat.zero_add, Nat.add_comm]
    have e1 : evn (fun k => sdf f (n + 1) a (k + 1)) n x = evn (sdf (fun k => f (k + 1)) n a) n x := evn_congr x _ fun k _ => by
      unfold sdf
      rw [show n + 1 - (k + 1) = n - k by omega]
      exact evn_congr a _ fun j _ => congrArg f (by omega)
    rw [e0, e1]
    generalize evn (sdf (fun k => f (k + 1)) n a) n x = S at *
    generalize evn (fun k => f (k + 1)) (n + 1) x = X at *
    generalize evn (fun k => f (k + 1)) (n + 1) a = A at *
    have : X = A + (x - a) * S := by omega
    subst this
    grind
theorem sd_zero {q : Int} (f : Nat → Int) (a : Int) : ∀ n, (∀ k, k < n → q ∣ sdf f n a k) → q ∣ evn f (n + 1) a → ∀ k, k < n + 1 → q ∣ f k := by
  intro n
  induction n generalizing f with
  | zero =>
    intro _ h k hk
    obtain rfl : k = 0 := by omega
    have : f 0 + a * 0 = f 0 := by simp
    rw [← this]
    exact h
  | succ n ih =>
    intro h1 h2 k hk
    have e0 : sdf f (n + 1) a 0 = evn (fun k => f (k + 1)) (n + 1) a := by
      unfold sdf
      exact evn_congr a _ fun k _ => by rw [Nat.zero_add, Nat.add_comm]
    have h0 := h1 0 (by omega)
    rw [e0] at h0
    have ht : ∀ k, k < n + 1 → q ∣ f (k + 1) := ih (fun k => f (k + 1)) (fun k hk => by
      have := h1 (k + 1) (by omega)
      unfold sdf at this ⊢
      rw [show n + 1 - (k + 1) = n - k by omega] at this
      rw [evn_congr (g := fun j => f (k + 1 + 1 + j)) a (n - k) fun j _ => congrArg f (by omega)]
      exact this) h0
    rcases k with _ | k
    · have h3 : q ∣ f 0 + a * evn (fun k => f (k + 1)) (n + 1) a := h2
      have h4 : q ∣ a * evn (fun k => f (k + 1)) (n + 1) a := Int.dvd_mul_of_dvd_right h0
      have := Int.dvd_sub h3 h4
      rw [Int.add_sub_cancel] at this
      exact this
    · exact ht k (by omega)
/-- A number that divides a product divides one of the two. -/
def Prm (q : Int) : Prop := ∀ a b : Int, q ∣ a * b → q ∣ a ∨ q ∣ b
/-- As many zeros as a polynomial has places: it is none. -/
theorem evn_roots {q : Int} (hq : Prm q) : ∀ (n : Nat) (f : Nat → Int) (xs : List Int), xs.length = n → xs.Pairwise (fun a b => ¬ q ∣ b - a) → (∀ x ∈ xs, q ∣ evn f n x) → ∀ k, k < n → q ∣ f k := by
  intro n
  induction n with
  | zero => intro _ _ _ _ _ k hk; omega
  | succ n ih =>
    intro f xs hl hp hx
    cases xs with
    | nil => simp at hl
    | cons a xs =>
      rw [List.pairwise_cons] at hp
      have ha := hx a (List.mem_cons_self ..)
      have hsd : ∀ k, k < n → q ∣ sdf f n a k := ih (sdf f n a) xs (by simpa using hl) hp.2 fun x hxm => by
        have h1 := evn_sd f x a n
        have h2 := Int.dvd_sub (hx x (List.mem_cons_of_mem _ hxm)) ha
        rw [h1] at h2
        rcases hq _ _ h2 with h3 | h3
        · exact absurd h3 (hp.1 x hxm)
        · exact h3
      exact sd_zero f a n hsd ha
end Go.Proofs.Tb
namespace Go.Proofs.Tb
/-! Linear equations modulo q. -/
def dotn (r v : Nat → Int) : Nat → Int
  | 0 => 0
  | n + 1 => dotn r v n + r n * v n
theorem dotn_comb (r p v : Nat → Int) (a b : Int) : ∀ n, dotn (fun j => a * r j + b * p j) v n = a * dotn r v n + b * dotn p v n := by
  intro n
  induction n with
  | zero => show (0 : Int) = a * 0 + b * 0; simp
  | succ n ih =>
    show dotn (fun j => a * r j + b * p j) v n + (a * r n + b * p n) * v n = a * (dotn r v n + r n * v n) + b * (dotn p v n + p n * v n)
    rw [ih]
    grind
theorem dotn_dvd {q : Int} {r p v : Nat → Int} : ∀ n, (∀ j, j < n → q ∣ r j - p j) → q ∣ dotn r v n - dotn p v n := by
  intro n
  induction n with
  | zero => intro _; exact ⟨0, by show (0 : Int) - 0 = q * 0; simp⟩
  | succ n ih =>
    intro h
    obtain ⟨x, hx⟩ := ih fun j hj => h j (by omega)
    obtain ⟨y, hy⟩ := h n (by omega)
    refine ⟨x + y * v n, ?_⟩
    show (dotn r v n + r n * v n) - (dotn p v n + p n * v n) = q * (x + y * v n)
    grind
theorem dotn_zero {r v : Nat → Int} : ∀ n, (∀ j, j < n → r j * v j = 0) → dotn r v n = 0 := by
  intro n
  induction n with
  | zero => intro _; rfl
  | succ n ih =>
    intro h
    show dotn r v n + r n * v n = 0
    rw [ih fun j hj => h j (by omega), h n (by omega)]
    rfl
theorem dotn_one {r v : Nat → Int} {p : Nat} : ∀ n, p < n → (∀ j, j < n → j ≠ p → r j * v j = 0) → dotn r v n = r p * v p := by
  intro n
  induction n with
  | zero => intro h; omega
  | succ n ih =>
    intro hp h
    show dotn r v n + r n * v n = _
    by_cases hpn : p = n
    · subst hpn
      rw [dotn_zero p fun j hj => h j (by omega) (by omega)]
      omega
    · rw [ih (by omega) fun j hj hjp => h j (by omega) hjp, h n (by omega) (Ne.symm hpn)]
      omega
/-- An element of a row. -/
def ro (r : List Int) (j : Nat) : Int := r.getD j 0
/-- The equation of a row holds at v. -/
def Sat (q : Int) (u : Nat) (r : List Int) (v : Nat → Int) : Prop := q ∣ dotn (ro r) v u - ro r u
theorem Sat.comb {q : Int} {u : Nat} {r p s : List Int} {v : Nat → Int} (a b : Int) (h : ∀ j, j ≤ u → q ∣ ro s j - (a * ro r j + b * ro p j)) (hr : Sat q u r v) (hp : Sat q u p v) : Sat q u s v := by
  have h1 := dotn_dvd (v := v) u fun j hj => h j (by omega)
  rw [dotn_comb] at h1
  obtain ⟨x1, e1⟩ := h1
  obtain ⟨x2, e2⟩ := h u (Nat.le_refl _)
  obtain ⟨x3, e3⟩ := hr
  obtain ⟨x4, e4⟩ := hp
  exact ⟨x1 - x2 + a * x3 + b * x4, by grind⟩
/-- A row is well made. -/
def RoK (q : Int) (u : Nat) (r : List Int) : Prop := r.length = u + 1 ∧ ∀ x ∈ r, 0 ≤ x ∧ x < q
theorem RoK.at_ {q : Int} {u : Nat} {r : List Int} (h : RoK q u r) {j : Nat} (hj : j ≤ u) : 0 ≤ ro r j ∧ ro r j < q := by
  have hl : j < r.length := by rw [h.1]; omega
  unfold ro
  rw [List.getD_eq_getElem?_getD, List.getElem?_eq_getElem hl]
  exact h.2 _ (List.getElem_mem hl)
theorem zero_of {q x : Int} (h0 : 0 ≤ x) (h1 : x < q) (h : q ∣ x) : x = 0 := by
  rw [← Int.emod_eq_of_lt h0 h1]
  exact Int.emod_eq_zero_of_dvd h
/-- A row times n. -/
def scR (q : Int) (r : List Int) (n : Int) : List Int := r.map fun x => x * n % q
/-- A row less n times another one. -/
def elR (q : Int) (p : List Int) (n : Int) (r : List Int) : List Int := (List.range r.length).map fun j => (ro r j - ro p j * n % q + q) % q
theorem ro_map (r : List Int) (f : Int → Int) {j : Nat} (hj : j < r.length) : ro (r.map f) j = f (ro r j) := by
  unfold ro
  simp [List.getD, hj]
theorem ro_range (n : Nat) (f : Nat → Int) {j : Nat} (hj : j < n) : ro ((List.range n).map f) j = f j := by
  unfold ro
  simp [List.getD, hj]
theorem scR_ok {q : Int} (hq : 0 < q) {u : Nat} {r : List Int} (h : RoK q u r) (n : Int) : RoK q u (scR q r n) := by
  refine ⟨by unfold scR; rw [List.length_map]; exact h.1, fun x hx => ?_⟩
  obtain ⟨y, _, rfl⟩ := List.mem_map.1 hx
  exact ⟨Int.emod_nonneg _ (by omega), Int.emod_lt_of_pos _ hq⟩
theorem elR_ok {q : Int} (hq : 0 < q) {u : Nat} {r : List Int} (h : RoK q u r) (p : List Int) (n : Int) : RoK q u (elR q p n r) := by
  refine ⟨by unfold elR; rw [List.length_map, List.length_range]; exact h.1, fun x hx => ?_⟩
  obtain ⟨y, _, rfl⟩ := List.mem_map.1 hx
  exact ⟨Int.emod_nonneg _ (by omega), Int.emod_lt_of_pos _ hq⟩
theorem dvd_emod (q a : Int) : q ∣ a % q - a := ⟨-(a / q), by have := Int.emod_add_mul_ediv a q; grind⟩
theorem scR_at {q : Int} {u : Nat} {r : List Int} (h : RoK q u r) (n : Int) {j : Nat} (hj : j ≤ u) : ro (scR q r n) j = ro r j * n % q := ro_map r _ (by rw [h.1]; omega)
theorem elR_at {q : Int} {u : Nat} {r : List Int} (h : RoK q u r) (p : List Int) (n : Int) {j : Nat} (hj : j ≤ u) : ro (elR q p n r) j = (ro r j - ro p j * n % q + q) % q := ro_range _ _ (by rw [h.1]; omega)
theorem elR_dvd {q : Int} {u : Nat} {r : List Int} (h : RoK q u r) (p : List Int) (n : Int) {j : Nat} (hj : j ≤ u) : q ∣ ro (elR q p n r) j - (ro r j - n * ro p j) := by
  rw [elR_at h p n hj]
  obtain ⟨x, hx⟩ := dvd_emod q (ro r j - ro p j * n % q + q)
  obtain ⟨y, hy⟩ := dvd_emod q (ro p j * n)
  exact ⟨x - y + 1, by grind⟩
theorem scR_dvd {q : Int} {u : Nat} {r : List Int} (h : RoK q u r) (n : Int) {j : Nat} (hj : j ≤ u) : q ∣ ro (scR q r n) j - n * ro r j := by
  rw [scR_at h n hj]
  obtain ⟨x, hx⟩ := dvd_emod q (ro r j * n)
  exact ⟨x, by grind⟩
theorem elR_same {q : Int} {u : Nat} {r : List Int} (h : RoK q u r) {p : List Int} (n : Int) {j : Nat} (hj : j ≤ u) (hp : ro p j = 0) : ro (elR q p n r) j = ro r j := by
  rw [elR_at h p n hj, hp, Int.zero_mul, Int.zero_emod, Int.sub_zero, Int.add_emod_right]
  exact Int.emod_eq_of_lt (h.at_ hj).1 (h.at_ hj).2
theorem scR_sat {q : Int} {u : Nat} {r : List Int} (h : RoK q u r) {n m : Int} (hnm : q ∣ n * m - 1) (v : Nat → Int) : Sat q u (scR q r n) v ↔ Sat q u r v := by
  constructor
  · intro hs
    refine Sat.comb (r := scR q r n) (p := scR q r n) m 0 (fun j hj => ?_) hs hs
    obtain ⟨x, hx⟩ := scR_dvd h n hj
    obtain ⟨y, hy⟩ := hnm
    exact ⟨-(m * x) - y * ro r j, by grind⟩
  · intro hs
    refine Sat.comb (r := r) (p := r) n 0 (fun j hj => ?_) hs hs
    obtain ⟨x, hx⟩ := scR_dvd h n hj
    exact ⟨x, by grind⟩
theorem elR_sat {q : Int} {u : Nat} {r p : List Int} (h : RoK q u r) (n : Int) (v : Nat → Int) (hp : Sat q u p v) : Sat q u (elR q p n r) v ↔ Sat q u r v := by
  constructor
  · intro hs
    refine Sat.comb (r := elR q p n r) (p := p) 1 n (fun j hj => ?_) hs hp
    obtain ⟨x, hx⟩ := elR_dvd h p n hj
    exact ⟨-x, by grind⟩
  · intro hs
    refine Sat.comb (r := r) (p := p) 1 (-n) (fun j hj => ?_) hs hp
    obtain ⟨x, hx⟩ := elR_dvd h p n hj
    exact ⟨x, by grind⟩
end Go.Proofs.Tb
namespace Go.Proofs.Tb
/-! Elimination. -/
/-- The element of row i in column j. -/
def mt (M : List (List Int)) (i j : Nat) : Int := ro (M.getD i []) j
/-- Elimination up to column c: k rows lead, in the columns of piv. -/
structure GeI (q : Int) (P u : Nat) (S : (Nat → Int) → Prop) (M : List (List Int)) (piv : List Nat) (c k : Nat) : Prop where
  len : M.length = P
  row : ∀ i, i < P → RoK q u (M.getD i [])
  pl : piv.length = k
  kP : k ≤ P
  cu : c ≤ u
  pc : ∀ i, i < k → piv.getD i 0 < c
  inj : ∀ i i', i < k → i' < k → piv.getD i 0 = piv.getD i' 0 → i = i'
  one : ∀ i, i < k → mt M i (piv.getD i 0) = 1
  zero : ∀ i i', i < k → i' < P → i' ≠ i → mt M i' (piv.getD i 0) = 0
  low : ∀ i j, j < c → k ≤ i → i < P → mt M i j = 0
  sol : ∀ v, S v ↔ ∀ i, i < P → Sat q u (M.getD i []) v
theorem GeI.start {q : Int} {P u : Nat} {M : List (List Int)} (hl : M.length = P) (hr : ∀ i, i < P → RoK q u (M.getD i [])) : GeI q P u (fun v => ∀ i, i < P → Sat q u (M.getD i []) v) M [] 0 0 :=
  ⟨hl, hr, rfl, Nat.zero_le _, Nat.zero_le _, fun i h => by omega, fun i i' h => by omega, fun i h => by omega, fun i i' h => by omega, fun i j h => by omega, fun _ => Iff.rfl⟩
/-- No row leads in column c. -/
theorem GeI.skip {q : Int} {P u : Nat} {S : (Nat → Int) → Prop} {M : List (List Int)} {piv : List Nat} {c k : Nat} (h : GeI q P u S M piv c k) (hc : c < u) (hz : ∀ i, k ≤ i → i < P → mt M i c = 0) : GeI q P u S M piv (c + 1) k :=
  ⟨h.len, h.row, h.pl, h.kP, hc, fun i hi => Nat.lt_succ_of_lt (h.pc i hi), h.inj, h.one, h.zero, fun i j hj hi hp => by
    by_cases hjc : j = c
    · subst hjc; exact hz i hi hp
    · exact h.low i j (by omega) hi hp, h.sol⟩
theorem getD_set' {α : Type} (l : List α) (x d : α) (i j : Nat) (hi : i < l.length) : (l.set i x).getD j d = if j = i then x else l.getD j d := by
  simp only [List.getD, List.getElem?_set]
  by_cases h : i = j
  · subst h; simp [hi]
  · rw [if_neg h, if_neg (Ne.symm h)]
/-- Two rows change places. -/
def swR (M : List (List Int)) (k a : Nat) : List (List Int) := (M.set k (M.getD a [])).set a (M.getD k [])
theorem swR_at {M : List (List Int)} {k a : Nat} (hk : k < M.length) (ha : a < M.length) (i : Nat) : (swR M k a).getD i [] = if i = a then M.getD k [] else if i = k then M.getD a [] else M.getD i [] := by
  unfold swR
  rw [getD_set' _ _ _ _ _ (by rw [List.length_set]; exact ha), getD_set' _ _ _ _ _ hk]
/-- What a row is after the elimination of column c by row p. -/
def elC (q : Int) (p : List Int) (c : Nat) (r : List Int) : List Int := if ro r c = 0 then r else elR q p (ro r c) r
/-- Column c is done: row a came up to place k, was scaled by n, and all other ones lost their column c. -/
structure Elm (q : Int) (P k a c : Nat) (n : Int) (M M' : List (List Int)) : Prop where
  len : M'.length = P
  lead : M'.getD k [] = scR q (M.getD a []) n
  rest : ∀ i, i < P → i ≠ k → M'.getD i [] = elC q (scR q (M.getD a []) n) c ((swR M k a).getD i [])
theorem GeI.step {q : Int} (hq : 1 < q) {P u : Nat} {S : (Nat → Int) → Prop} {M M' : List (List Int)} {piv : List Nat} {c k a : Nat} {n : Int} (h : GeI q P u S M piv c k) (hc : c < u) (hka : k ≤ a) (ha : a < P) (hn : mt M a c * n % q = 1) (he : Elm q P k a c n M M') : GeI q P u S M' (piv ++ [c]) (c + 1) (k + 1) := by
  have hq0 : 0 < q := by omega
  have hkP : k < P := by omega
  have hkl : k < M.length := by rw [h.len]; exact hkP
  have hal : a < M.length := by rw [h.len]; exact ha
  obtain ⟨p, hp⟩ : ∃ p, scR q (M.getD a []) n = p := ⟨_, rfl⟩
  have hra := h.row a ha
  have hpo : RoK q u p := by rw [← hp]; exact scR_ok hq0 hra n
  have hpz : ∀ j, j < c → ro p j = 0 := fun j hj => by
    rw [← hp, scR_at hra n (by omega)]
    have : ro (M.getD a []) j = 0 := h.low a j hj hka ha
    rw [this, Int.zero_mul, Int.zero_emod]
  have hpz2 : ∀ i, i < k → ro p (piv.getD i 0) = 0 := fun i hi => hpz _ (h.pc i hi)
  have hp1 : ro p c = 1 := by
    rw [← hp, scR_at hra n (by omega)]
    exact hn
  -- the rows after the change of places
  have hsw := fun i => swR_at (M := M) hkl hal i
  have hswr : ∀ i, i < P → RoK q u ((swR M k a).getD i []) := fun i hi => by
    rw [hsw]
    split
    · exact h.row k hkP
    · split
      · exact hra
      · exact h.row i hi
  have hel : ∀ r, RoK q u r → RoK q u (elC q p c r) := fun r hr => by
    unfold elC
    split
    · exact hr
    · exact elR_ok hq0 hr p _
  have helz : ∀ r, RoK q u r → ∀ j, j ≤ u → ro p j = 0 → ro (elC q p c r) j = ro r j := fun r hr j hj hz => by
    unfold elC
    split
    · rfl
    · exact elR_same hr _ hj hz
  have helc : ∀ r, RoK q u r → ro (elC q p c r) c = 0 := fun r hr => by
    unfold elC
    split
    · assumption
    · rw [elR_at hr p _ (by omega), hp1, Int.one_mul, Int.emod_eq_of_lt (hr.at_ (by omega)).1 (hr.at_ (by omega)).2, Int.sub_self, Int.zero_add, Int.emod_self]
  have hrest : ∀ i, i < P → i ≠ k → M'.getD i [] = elC q p c ((swR M k a).getD i []) := fun i hi hik => by rw [he.rest i hi hik, hp]
  have hlead : M'.getD k [] = p := by rw [he.lead, hp]
  have hlow : ∀ i j, j < c → k ≤ i → i < P → mt M' i j = 0 := fun i j hj hki hi => by
    unfold mt
    by_cases hik : i = k
    · rw [hik, hlead]; exact hpz j hj
    · rw [hrest i hi hik, helz _ (hswr i hi) j (by omega) (hpz j hj), hsw]
      split
      · exact h.low k j hj (Nat.le_refl _) hkP
      · exact h.low i j hj hki hi
  have hcol : ∀ i j, i < P → i < k → j < u → ro p j = 0 → mt M' i j = mt M i j := fun i j hi hik hj hz => by
    unfold mt
    rw [hrest i hi (by omega), helz _ (hswr i hi) j (by omega) hz, hsw, if_neg (by omega), if_neg (by omega)]
  have hpl := h.pl
  have hpg : ∀ i, i < k → (piv ++ [c]).getD i 0 = piv.getD i 0 := fun i hi => by
    rw [List.getD_eq_getElem?_getD, List.getElem?_append_left (by omega), ← List.getD_eq_getElem?_getD]
  have hpk : (piv ++ [c]).getD k 0 = c := by
    rw [List.getD_eq_getElem?_getD, List.getElem?_append_right (by omega), hpl, Nat.sub_self]
    rfl
  have hcu := h.cu
  refine ⟨he.len, fun i hi => ?_, by rw [List.length_append, hpl]; rfl, hkP, hc, fun i hi => ?_, fun i i' hi hi' e => ?_, fun i hi => ?_, fun i i' hi hi' hne => ?_, fun i j hj hki hi => ?_, fun v => ?_⟩
  · by_cases hik : i = k
    · rw [hik, hlead]; exact hpo
    · rw [hrest i hi hik]; exact hel _ (hswr i hi)
  · by_cases hik : i < k
    · rw [hpg i hik]; have := h.pc i hik; omega
    · obtain rfl : i = k := by omega
      rw [hpk]; omega
  · by_cases hik : i < k
    · by_cases hik' : i' < k
      · rw [hpg i hik, hpg i' hik'] at e; exact h.inj i i' hik hik' e
      · obtain rfl : i' = k := by omega
        rw [hpg i hik, hpk] at e
        have := h.pc i hik
        omega
    · obtain rfl : i = k := by omega
      by_cases hik' : i' < i
      · rw [hpg i' hik', hpk] at e
        have := h.pc i' hik'
        omega
      · omega
  · by_cases hik : i < k
    · rw [hpg i hik, hcol i _ (by omega) hik (by have := h.pc i hik; omega) (hpz2 i hik)]
      exact h.one i hik
    · obtain rfl : i = k := by omega
      unfold mt
      rw [hpk, hlead, hp1]
  · by_cases hik : i < k
    · rw [hpg i hik]
      by_cases hk' : i' < k
      · rw [hcol i' _ hi' hk' (by have := h.pc i hik; omega) (hpz2 i hik)]
        exact h.zero i i' hik hi' hne
      · exact hlow i' _ (h.pc i hik) (by omega) hi'
    · obtain rfl : i = k := by omega
      unfold mt
      rw [hpk, hrest i' hi' hne, helc _ (hswr i' hi')]
  · by_cases hjc : j = c
    · subst hjc
      unfold mt
      rw [hrest i hi (by omega), helc _ (hswr i hi)]
    · exact hlow i j (by omega) (by omega) hi
  · rw [h.sol v]
    have hnm : q ∣ n * mt M a c - 1 := by
      obtain ⟨x, hx⟩ := dvd_emod q (mt M a c * n)
      rw [hn] at hx
      exact ⟨-x, by grind⟩
    have hsp : Sat q u p v ↔ Sat q u (M.getD a []) v := by rw [← hp]; exact scR_sat hra hnm v
    have hse : ∀ r, RoK q u r → Sat q u p v → (Sat q u (elC q p c r) v ↔ Sat q u r v) := fun r hr hs => by
      unfold elC
      split
      · exact Iff.rfl
      · exact elR_sat hr _ v hs
    constructor
    · intro hs i hi
      have hsp' := hsp.2 (hs a ha)
      by_cases hik : i = k
      · rw [hik, hlead]; exact hsp'
      · rw [hrest i hi hik, hse _ (hswr i hi) hsp', hsw]
        split
        · exact hs k hkP
        · exact hs i hi
    · intro hs i hi
      have hsp' : Sat q u p v := by have := hs k hkP; rw [hlead] at this; exact this
      have hall : ∀ i, i < P → i ≠ k → Sat q u ((swR M k a).getD i []) v := fun i hi hik => by
        have := hs i hi
        rw [hrest i hi hik, hse _ (hswr i hi) hsp'] at this
        exact this
      by_cases hia : i = a
      · subst hia; exact hsp.1 hsp'
      · by_cases hik : i = k
        · subst hik
          have := hall a ha (Ne.symm hia)
          rw [hsw, if_pos rfl] at this
          exact this
        · have := hall i hi hik
          rw [hsw, if_neg hia, if_neg hik] at this
          exact this
/-- What leads each unknown. -/
def LdK (u k : Nat) (piv : List Nat) (lead : List Int) : Prop := lead.length = u ∧ (∀ i, i < k → ro lead (piv.getD i 0) = (i : Int) + 1) ∧ ∀ j, j < u → ro lead j = 0 ∨ ∃ i, i < k ∧ j = piv.getD i 0 ∧ ro lead j = (i : Int) + 1
theorem GeI.sums {q : Int} {P u : Nat} {S : (Nat → Int) → Prop} {M : List (List Int)} {piv : List Nat} {k : Nat} (h : GeI q P u S M piv u k) {v : Nat → Int} (hv : S v) {i : Nat} (hk : k ≤ i) (hi : i < P) : mt M i u = 0 := by
  have hs := (h.sol v).1 hv i hi
  unfold Sat at hs
  rw [dotn_zero u fun j hj => (by have := h.low i j hj hk hi; unfold mt at this; rw [this, Int.zero_mul]), Int.zero_sub] at hs
  exact zero_of ((h.row i hi).at_ (Nat.le_refl _)).1 ((h.row i hi).at_ (Nat.le_refl _)).2 (Int.dvd_neg.1 hs)
/-- The solution that is read off. -/
theorem GeI.done {q : Int} {P u : Nat} {S : (Nat → Int) → Prop} {M : List (List Int)} {piv : List Nat} {k : Nat} (h : GeI q P u S M piv u k) {lead : List Int} (hl : LdK u k piv lead) {v0 : Nat → Int} (hv : S v0) {out : Nat → Int} (ho : ∀ j, j < u → (ro lead j = 0 → out j = 0) ∧ ∀ i, i < k → ro lead j = (i : Int) + 1 → out j = mt M i u) : S out := by
  rw [h.sol]
  intro i hi
  unfold Sat
  by_cases hik : i < k
  · have hpu := h.pc i hik
    rw [dotn_one (p := piv.getD i 0) u hpu fun j hj hne => ?_]
    · have h1 := h.one i hik
      unfold mt at h1
      rw [h1, Int.one_mul, (ho _ hpu).2 i hik (hl.2.1 i hik)]
      unfold mt
      rw [Int.sub_self]
      exact ⟨0, by simp⟩
    · rcases hl.2.2 j hj with h0 | ⟨i', hi', rfl, _⟩
      · rw [(ho j hj).1 h0, Int.mul_zero]
      · have hii : i ≠ i' := fun e => hne (by rw [e])
        have := h.zero i' i hi' hi hii
        unfold mt at this
        rw [this, Int.zero_mul]
  · rw [dotn_zero u fun j hj => (by have := h.low i j hj (by omega) hi; unfold mt at this; rw [this, Int.zero_mul])]
    have := h.sums hv (by omega) hi
    unfold mt at this
    rw [this]
    exact ⟨0, by simp⟩
end Go.Proofs.Tb
namespace Go.Proofs.Tb
/-! Reading a word with errors: two digits, t errors. -/
theorem dotn_app (r v : Nat → Int) (a : Nat) : ∀ b, dotn r v (a + b) = dotn r v a + dotn (fun j => r (a + j)) (fun j => v (a + j)) b := by
  intro b
  induction b with
  | zero => show dotn r v a = dotn r v a + 0; omega
  | succ b ih =>
    show dotn r v (a + b) + r (a + b) * v (a + b) = dotn r v a + (dotn (fun j => r (a + j)) (fun j => v (a + j)) b + r (a + b) * v (a + b))
    rw [ih]
    omega
theorem dotn_pow {q c x : Int} {r v : Nat → Int} : ∀ n, (∀ j, j < n → q ∣ r j - c * x ^ j) → q ∣ dotn r v n - c * evn v n x := by
  intro n
  induction n with
  | zero => intro _; exact ⟨0, by show (0 : Int) - c * 0 = q * 0; simp⟩
  | succ n ih =>
    intro h
    obtain ⟨y, hy⟩ := ih fun j hj => h j (by omega)
    obtain ⟨z, hz⟩ := h n (by omega)
    rw [evn_snoc]
    refine ⟨y + z * v n, ?_⟩
    show (dotn r v n + r n * v n) - c * (evn v n x + v n * x ^ n) = q * (y + z * v n)
    grind
/-- A polynomial times x. -/
def shf (f : Nat → Int) (k : Nat) : Int := if k = 0 then 0 else f (k - 1)
theorem evn_shf (f : Nat → Int) (x : Int) (n : Nat) : evn (shf f) (n + 1) x = x * evn f n x := by
  show shf f 0 + x * evn (fun k => shf f (k + 1)) n x = x * evn f n x
  have e : evn (fun k => shf f (k + 1)) n x = evn f n x := evn_congr x n fun k _ => by unfold shf; rw [if_neg (by omega), Nat.add_sub_cancel]
  rw [e]
  unfold shf
  rw [if_pos rfl, Int.zero_add]
/-- (x - e1) (x - e2) .. -/
def prE : List Int → Nat → Int
  | [] => fun k => if k = 0 then 1 else 0
  | e :: es => fun k => shf (prE es) k + (-e) * prE es k
theorem prE_far : ∀ (es : List Int) (k : Nat), es.length < k → prE es k = 0
  | [], k, h => by show (if k = 0 then (1 : Int) else 0) = 0; rw [if_neg (by simp at h; omega)]
  | e :: es, k, h => by
    show shf (prE es) k + (-e) * prE es k = 0
    rw [List.length_cons] at h
    unfold shf
    rw [if_neg (by omega), prE_far es (k - 1) (by omega), prE_far es k (by omega)]
    omega
theorem prE_top : ∀ es : List Int, prE es es.length = 1
  | [] => rfl
  | e :: es => by
    show shf (prE es) (es.length + 1) + (-e) * prE es (es.length + 1) = 1
    unfold shf
    rw [if_neg (by omega), Nat.add_sub_cancel, prE_top es, prE_far es _ (by omega)]
    omega
theorem evn_prE (e : Int) (es : List Int) (x : Int) : evn (prE (e :: es)) (es.length + 2) x = (x - e) * evn (prE es) (es.length + 1) x := by
  have h1 : evn (prE (e :: es)) (es.length + 2) x = evn (shf (prE es)) (es.length + 2) x + evn (fun k => (-e) * prE es k) (es.length + 2) x := evn_add _ _ x _
  rw [h1, evn_shf, evn_mul, evn_snoc (prE es) x (es.length + 1), prE_far es (es.length + 1) (by omega)]
  grind
theorem evn_prE_zero : ∀ (es : List Int) (x : Int), x ∈ es → evn (prE es) (es.length + 1) x = 0
  | [], x, h => absurd h (by simp)
  | e :: es, x, h => by
    rw [List.length_cons, evn_prE]
    rcases List.mem_cons.1 h with rfl | h
    · rw [Int.sub_self, Int.zero_mul]
    · rw [evn_prE_zero es x h, Int.mul_zero]
/-- The unknowns: the product's elements, and behind them those of E but the last one. -/
def v0E (t : Nat) (d0 d1 : Int) (es : List Int) (j : Nat) : Int := if j < t + 2 then d0 * prE es j + d1 * shf (prE es) j else prE es (j - (t + 2))
/-- The equation at x. -/
def EqX (q : Int) (t : Nat) (v : Nat → Int) (x y : Int) : Prop := q ∣ evn v (t + 2) x - y * (evn (fun j => v (t + 2 + j)) t x + x ^ t)
theorem v0E_eq {q : Int} {t : Nat} (d0 d1 : Int) {es : List Int} (hl : es.length = t) (x y : Int) (h : x ∈ es ∨ q ∣ y - (d0 + d1 * x)) : EqX q t (v0E t d0 d1 es) x y := by
  unfold EqX
  have e1 : evn (v0E t d0 d1 es) (t + 2) x = (d0 + d1 * x) * evn (prE es) (t + 1) x := by
    rw [evn_congr (g := fun j => d0 * prE es j + d1 * shf (prE es) j) x _ fun k hk => by unfold v0E; rw [if_pos hk]]
    have h1 : evn (fun j => d0 * prE es j + d1 * shf (prE es) j) (t + 2) x = evn (fun j => d0 * prE es j) (t + 2) x + evn (fun j => d1 * shf (prE es) j) (t + 2) x := evn_add _ _ x _
    rw [h1, evn_mul, evn_mul, evn_shf, evn_snoc (prE es) x (t + 1), prE_far es (t + 1) (by omega)]
    grind
  have e2 : evn (fun j => v0E t d0 d1 es (t + 2 + j)) t x + x ^ t = evn (prE es) (t + 1) x := by
    rw [evn_congr (g := prE es) x _ fun k hk => by unfold v0E; rw [if_neg (by omega), Nat.add_sub_cancel_left], evn_snoc]
    have := prE_top es
    rw [hl] at this
    rw [this]
    omega
  rw [e1, e2]
  rcases h with h | ⟨z, hz⟩
  · have := evn_prE_zero es x h
    rw [hl] at this
    rw [this]
    exact ⟨0, by simp⟩
  · exact ⟨-z * evn (prE es) (t + 1) x, by grind⟩
/-- E of a solution, with its last element. -/
def enE (t : Nat) (v : Nat → Int) (k : Nat) : Int := if k < t then v (t + 2 + k) else if k = t then 1 else 0
theorem few_in (n : Nat) : ∀ ks : List Nat, ((List.range n).filter fun x => decide (x ∈ ks)).length ≤ ks.length
  | [] => by simp
  | k :: ks => by
    have h1 := few_in n ks
    have h2 : ((List.range n).filter fun x => decide (x ∈ k :: ks)).length ≤ ((List.range n).filter fun x => decide (x ∈ ks)).length + ((List.range n).filter fun x => decide (x = k)).length := by
      generalize List.range n = L
      induction L with
      | nil => simp
      | cons a L ih =>
        simp only [List.filter_cons, List.mem_cons]
        by_cases hb : a = k
        · subst hb
          by_cases ha : a ∈ ks <;> simp [ha] at ih ⊢ <;> omega
        · by_cases ha : a ∈ ks <;> simp [ha, hb] at ih ⊢ <;> omega
    have h3 : ((List.range n).filter fun x => decide (x = k)).length ≤ 1 := by
      clear h1 h2
      induction n with
      | zero => simp
      | succ n ih =>
        rw [List.range_succ, List.filter_append, List.length_append]
        by_cases hk : n = k
        · subst hk
          have h0 : ((List.range n).filter fun x => decide (x = n)) = [] := List.filter_eq_nil_iff.2 fun x hx => by have := List.mem_range.1 hx; simp; omega
          rw [h0]
          simp
        · simp [hk]
          exact ih
    rw [List.length_cons]
    omega
theorem many_out (n : Nat) (ks : List Nat) : n ≤ ((List.range n).filter fun x => decide (x ∉ ks)).length + ks.length := by
  have h1 := few_in n ks
  have h2 : ((List.range n).filter fun x => decide (x ∉ ks)).length + ((List.range n).filter fun x => decide (x ∈ ks)).length = n := by
    have : ∀ L : List Nat, (L.filter fun x => decide (x ∉ ks)).length + (L.filter fun x => decide (x ∈ ks)).length = L.length := fun L => by
      induction L with
      | nil => rfl
      | cons a L ih =>
        simp only [List.filter_cons]
        by_cases ha : a ∈ ks <;> simp [ha] <;> simp at ih <;> omega
    rw [this, List.length_range]
  omega
/-- Each solution is the message times its E. -/
theorem sol_mul {q : Int} (hq : Prm q) (hq1 : 1 < q) {t P : Nat} (hP : 2 * t + 2 ≤ P) (hPq : (P : Int) ≤ q) (d0 d1 : Int) {v : Nat → Int} {y : Nat → Int} {ks : List Nat} (hks : ks.length ≤ t) (hy : ∀ x, x < P → x ∉ ks → q ∣ y x - (d0 + d1 * (x : Int))) (hv : ∀ x, x < P → EqX q t v (x : Int) (y x)) :
    ∀ k, k < t + 2 → q ∣ v k - (d0 * enE t v k + d1 * shf (enE t v) k) := by
  have hfar : enE t v (t + 1) = 0 := by unfold enE; rw [if_neg (by omega), if_neg (by omega)]
  have key : ∀ x : Nat, x < P → x ∉ ks → q ∣ evn (fun k => v k + (-1) * (d0 * enE t v k + d1 * shf (enE t v) k)) (t + 2) (x : Int) := fun x hx hxk => by
    have e1 : evn (fun k => v k + (-1) * (d0 * enE t v k + d1 * shf (enE t v) k)) (t + 2) (x : Int) = evn v (t + 2) (x : Int) + evn (fun k => (-1) * (d0 * enE t v k + d1 * shf (enE t v) k)) (t + 2) (x : Int) := evn_add _ _ _ _
    have e2 : evn (fun j => d0 * enE t v j + d1 * shf (enE t v) j) (t + 2) (x : Int) = evn (fun j => d0 * enE t v j) (t + 2) (x : Int) + evn (fun j => d1 * shf (enE t v) j) (t + 2) (x : Int) := evn_add _ _ _ _
    have e3 : evn (fun j => v (t + 2 + j)) t (x : Int) = evn (enE t v) t (x : Int) := evn_congr _ _ fun k hk => by unfold enE; rw [if_pos hk]
    have e4 : enE t v t = 1 := by unfold enE; rw [if_neg (by omega), if_pos rfl]
    have h1 := hv x hx
    unfold EqX at h1
    rw [e3] at h1
    rw [e1, evn_mul, e2, evn_mul, evn_mul, evn_shf, evn_snoc (enE t v) _ (t + 1), hfar, evn_snoc (enE t v) _ t, e4]
    obtain ⟨a, ha⟩ := h1
    obtain ⟨b, hb⟩ := hy x hx hxk
    refine ⟨a + b * (evn (enE t v) t (x : Int) + (x : Int) ^ t), ?_⟩
    grind
  have hm := many_out P ks
  obtain ⟨L, hL⟩ : ∃ L, ((List.range P).filter fun x => decide (x ∉ ks)).take (t + 2) = L := ⟨_, rfl⟩
  have hLl : L.length = t + 2 := by rw [← hL, List.length_take]; omega
  have hLm : ∀ x ∈ L, x < P ∧ x ∉ ks := fun x hx => by
    rw [← hL] at hx
    have := List.mem_filter.1 (List.mem_of_mem_take hx)
    exact ⟨List.mem_range.1 this.1, by simpa using this.2⟩
  have hLp : L.Pairwise (· < ·) := by
    rw [← hL]
    exact ((List.pairwise_lt_range).filter _).take
  have hroots := evn_roots hq (t + 2) (fun k => v k + (-1) * (d0 * enE t v k + d1 * shf (enE t v) k)) (L.map fun (x : Nat) => (x : Int)) (by rw [List.length_map, hLl]) (by
    rw [List.pairwise_map]
    refine hLp.imp_of_mem fun {a b} ha hb hab hd => ?_
    have h1 := (hLm a ha).1
    have h2 := (hLm b hb).1
    have := zero_of (q := q) (x := (b : Int) - (a : Int)) (by omega) (by omega) hd
    omega) (fun x hx => by
    obtain ⟨a, ha, rfl⟩ := List.mem_map.1 hx
    exact key a (hLm a ha).1 (hLm a ha).2)
  intro k hk
  have := hroots k hk
  rw [show v k - (d0 * enE t v k + d1 * shf (enE t v) k) = v k + (-1) * (d0 * enE t v k + d1 * shf (enE t v) k) by omega]
  exact this
end Go.Proofs.Tb
