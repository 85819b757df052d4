/- The operations of a field of a prime order, the rows of equations of a word, the division. Plain. -/
import Derived.Test.YtjiccpacpcongaaPla
set_option linter.unusedVariables false
set_option linter.unusedSimpArgs false
namespace Go.Proofs.Tb
/-! The field's operations, the rows of equations, the division. -/
def Q4 (q : Nat) : Prop := q = 5 ∨ q = 7 ∨ q = 11 ∨ q = 13
theorem Q4.prm {q : Nat} (h : Q4 q) : Prm (q : Int) := fun a b hd => by
  have hq : (0 : Int) < (q : Int) := by rcases h with rfl | rfl | rfl | rfl <;> decide
  have h1 : (a % (q : Int)) * (b % (q : Int)) % (q : Int) = 0 := by rw [← Int.mul_emod]; exact Int.emod_eq_zero_of_dvd hd
  obtain ⟨x, hx⟩ : ∃ x : Nat, a % (q : Int) = (x : Int) := ⟨(a % (q : Int)).toNat, (Int.toNat_of_nonneg (Int.emod_nonneg _ (by omega))).symm⟩
  obtain ⟨y, hy⟩ : ∃ y : Nat, b % (q : Int) = (y : Int) := ⟨(b % (q : Int)).toNat, (Int.toNat_of_nonneg (Int.emod_nonneg _ (by omega))).symm⟩
  have hxq : x < q := by have := Int.emod_lt_of_pos a hq; omega
  have hyq : y < q := by have := Int.emod_lt_of_pos b hq; omega
  rw [hx, hy] at h1
  have h2 : x * y % q = 0 := by exact_mod_cast h1
  have h3 : x = 0 ∨ y = 0 := by
    clear hx hy h1 hd hq
    rcases h with rfl | rfl | rfl | rfl
    · exact (by decide : ∀ x, x < 5 → ∀ y, y < 5 → x * y % 5 = 0 → x = 0 ∨ y = 0) x hxq y hyq h2
    · exact (by decide : ∀ x, x < 7 → ∀ y, y < 7 → x * y % 7 = 0 → x = 0 ∨ y = 0) x hxq y hyq h2
    · exact (by decide : ∀ x, x < 11 → ∀ y, y < 11 → x * y % 11 = 0 → x = 0 ∨ y = 0) x hxq y hyq h2
    · exact (by decide : ∀ x, x < 13 → ∀ y, y < 13 → x * y % 13 = 0 → x = 0 ∨ y = 0) x hxq y hyq h2
  rcases h3 with rfl | rfl
  · exact Or.inl (Int.dvd_of_emod_eq_zero hx)
  · exact Or.inr (Int.dvd_of_emod_eq_zero hy)
/-- A power, multiplied up. -/
def pwI (q x : Int) : Nat → Int
  | 0 => 1
  | n + 1 => pwI q x n * x % q
theorem pwI_dvd (q x : Int) : ∀ n, q ∣ pwI q x n - x ^ n
  | 0 => ⟨0, by show (1 : Int) - x ^ 0 = q * 0; simp⟩
  | n + 1 => by
    obtain ⟨a, ha⟩ := pwI_dvd q x n
    obtain ⟨b, hb⟩ := dvd_emod q (pwI q x n * x)
    refine ⟨b + a * x, ?_⟩
    show pwI q x n * x % q - x ^ (n + 1) = _
    rw [Int.pow_succ]
    grind
theorem pwI_in {q : Int} (hq : 1 < q) (x : Int) : ∀ n, 0 ≤ pwI q x n ∧ pwI q x n < q
  | 0 => ⟨by show (0 : Int) ≤ 1; decide, hq⟩
  | n + 1 => ⟨Int.emod_nonneg _ (by omega), Int.emod_lt_of_pos _ (by omega)⟩
def pwN (q x : Nat) : Nat → Nat
  | 0 => 1
  | n + 1 => pwN q x n * x % q
theorem pwI_nat (q x : Nat) : ∀ n, pwI (q : Int) (x : Int) n = (pwN q x n : Int)
  | 0 => rfl
  | n + 1 => by
    show pwI (q : Int) (x : Int) n * (x : Int) % (q : Int) = ((pwN q x n * x % q : Nat) : Int)
    rw [pwI_nat q x n]
    rfl
theorem inv_ok {q : Nat} (h : Q4 q) {a : Int} (h0 : 0 < a) (h1 : a < (q : Int)) : a * pwI (q : Int) a (q - 2) % (q : Int) = 1 := by
  obtain ⟨x, rfl⟩ : ∃ x : Nat, a = (x : Int) := ⟨a.toNat, by omega⟩
  rw [pwI_nat]
  have hx0 : 0 < x := by omega
  have hx1 : x < q := by omega
  have : x * pwN q x (q - 2) % q = 1 := by
    clear h0 h1
    rcases h with rfl | rfl | rfl | rfl
    · exact (by decide : ∀ x, x < 5 → 0 < x → x * pwN 5 x 3 % 5 = 1) x hx1 hx0
    · exact (by decide : ∀ x, x < 7 → 0 < x → x * pwN 7 x 5 % 7 = 1) x hx1 hx0
    · exact (by decide : ∀ x, x < 11 → 0 < x → x * pwN 11 x 9 % 11 = 1) x hx1 hx0
    · exact (by decide : ∀ x, x < 13 → 0 < x → x * pwN 13 x 11 % 13 = 1) x hx1 hx0
  exact_mod_cast this
/-- A polynomial's value, from the last element on. -/
def hv (q : Int) : List Int → Int → Int
  | [], _ => 0
  | a :: l, x => (hv q l x * x % q + a) % q
theorem hv_in {q : Int} (hq : 0 < q) (l : List Int) (x : Int) : 0 ≤ hv q l x ∧ hv q l x < q := by
  cases l with
  | nil => exact ⟨Int.le_refl _, hq⟩
  | cons a l => exact ⟨Int.emod_nonneg _ (by omega), Int.emod_lt_of_pos _ hq⟩
theorem hv_two {q d0 d1 : Int} (hq : 1 < q) (x : Int) : q ∣ hv q [d0, d1] x - (d0 + d1 * x) := by
  show q ∣ (((0 * x % q + d1) % q) * x % q + d0) % q - (d0 + d1 * x)
  rw [Int.zero_mul, Int.zero_emod, Int.zero_add]
  obtain ⟨a, ha⟩ := dvd_emod q d1
  obtain ⟨b, hb⟩ := dvd_emod q (d1 % q * x)
  obtain ⟨c, hc⟩ := dvd_emod q (d1 % q * x % q + d0)
  exact ⟨c + b + a * x, by grind⟩
theorem hv_zero {q d0 d1 : Int} (h0 : 0 ≤ d0) (h1 : d0 < q) : hv q [d0, d1] 0 = d0 := by
  show (((0 * 0 % q + d1) % q) * 0 % q + d0) % q = d0
  rw [Int.mul_zero, Int.zero_emod, Int.zero_add]
  exact Int.emod_eq_of_lt h0 h1
/-- y times a power of x. -/
def hgh (q x y : Int) : Nat → Int
  | 0 => y
  | n + 1 => hgh q x y n * x % q
theorem hgh_dvd (q x y : Int) : ∀ n, q ∣ hgh q x y n - y * x ^ n
  | 0 => ⟨0, by show y - y * x ^ 0 = q * 0; simp⟩
  | n + 1 => by
    obtain ⟨a, ha⟩ := hgh_dvd q x y n
    obtain ⟨b, hb⟩ := dvd_emod q (hgh q x y n * x)
    refine ⟨b + a * x, ?_⟩
    show hgh q x y n * x % q - y * x ^ (n + 1) = _
    rw [Int.pow_succ]
    grind
theorem hgh_in {q : Int} (hq : 0 < q) (x : Int) {y : Int} (h0 : 0 ≤ y) (h1 : y < q) : ∀ n, 0 ≤ hgh q x y n ∧ hgh q x y n < q
  | 0 => ⟨h0, h1⟩
  | n + 1 => ⟨Int.emod_nonneg _ (by omega), Int.emod_lt_of_pos _ hq⟩
/-- The row of equations at x. -/
def rwX (q : Int) (t : Nat) (x y : Int) : List Int := (List.range (t + 2)).map (pwI q x) ++ (List.range t).map (fun j => (0 - y * pwI q x j % q + q) % q) ++ [hgh q x y t]
theorem rwX_len (q : Int) (t : Nat) (x y : Int) : (rwX q t x y).length = 2 * t + 2 + 1 := by unfold rwX; simp; omega
theorem rwX_ok {q : Int} (hq : 1 < q) (t : Nat) (x : Int) {y : Int} (h0 : 0 ≤ y) (h1 : y < q) : RoK q (2 * t + 2) (rwX q t x y) := by
  refine ⟨rwX_len q t x y, fun z hz => ?_⟩
  unfold rwX at hz
  rcases List.mem_append.1 hz with hz | hz
  · rcases List.mem_append.1 hz with hz | hz
    · obtain ⟨j, _, rfl⟩ := List.mem_map.1 hz
      exact pwI_in hq x j
    · obtain ⟨j, _, rfl⟩ := List.mem_map.1 hz
      exact ⟨Int.emod_nonneg _ (by omega), Int.emod_lt_of_pos _ (by omega)⟩
  · rw [List.mem_singleton.1 hz]
    exact hgh_in (by omega) x h0 h1 t
theorem rwX_a {q : Int} {t : Nat} {x y : Int} {j : Nat} (hj : j < t + 2) : ro (rwX q t x y) j = pwI q x j := by
  unfold ro rwX
  rw [List.append_assoc, List.getD_eq_getElem?_getD, List.getElem?_append_left (by simp; omega)]
  simp [hj]
theorem rwX_b {q : Int} {t : Nat} {x y : Int} {j : Nat} (hj : j < t) : ro (rwX q t x y) (t + 2 + j) = (0 - y * pwI q x j % q + q) % q := by
  unfold ro rwX
  rw [List.getD_eq_getElem?_getD, List.getElem?_append_left (by simp; omega), List.getElem?_append_right (by simp)]
  simp [hj]
theorem rwX_c {q : Int} {t : Nat} {x y : Int} : ro (rwX q t x y) (2 * t + 2) = hgh q x y t := by
  unfold ro rwX
  rw [List.getD_eq_getElem?_getD, List.getElem?_append_right (by simp; omega)]
  simp
  rw [show 2 * t + 2 - (t + 2 + t) = 0 by omega]
  rfl
theorem rwX_sat {q : Int} {t : Nat} {x y : Int} (v : Nat → Int) : Sat q (2 * t + 2) (rwX q t x y) v ↔ EqX q t v x y := by
  have h1 : q ∣ dotn (ro (rwX q t x y)) v (2 * t + 2) - ro (rwX q t x y) (2 * t + 2) - (evn v (t + 2) x - y * (evn (fun j => v (t + 2 + j)) t x + x ^ t)) := by
    rw [show 2 * t + 2 = (t + 2) + t by omega, dotn_app, show (t + 2) + t = 2 * t + 2 by omega, rwX_c]
    have ha := dotn_pow (q := q) (c := 1) (x := x) (r := ro (rwX q t x y)) (v := v) (t + 2) fun j hj => by
      rw [rwX_a hj, Int.one_mul]
      exact pwI_dvd q x j
    have hb := dotn_pow (q := q) (c := -y) (x := x) (r := fun j => ro (rwX q t x y) (t + 2 + j)) (v := fun j => v (t + 2 + j)) t fun j hj => by
      show q ∣ ro (rwX q t x y) (t + 2 + j) - -y * x ^ j
      rw [rwX_b hj]
      obtain ⟨a, ha⟩ := pwI_dvd q x j
      obtain ⟨b, hb⟩ := dvd_emod q (y * pwI q x j)
      obtain ⟨c, hc⟩ := dvd_emod q (0 - y * pwI q x j % q + q)
      exact ⟨c - b + 1 - y * a, by grind⟩
    have hc := hgh_dvd q x y t
    obtain ⟨a, ha⟩ := ha
    obtain ⟨b, hb⟩ := hb
    obtain ⟨c, hc⟩ := hc
    exact ⟨a + b - c, by grind⟩
  unfold Sat EqX
  obtain ⟨z, hz⟩ := h1
  constructor
  · rintro ⟨a, ha⟩
    exact ⟨a - z, by grind⟩
  · rintro ⟨a, ha⟩
    exact ⟨a + z, by grind⟩
/-- A row less c times another one, moved by i: the first m places done. -/
def sbR (q : Int) (p b : List Int) (c : Int) (i m : Nat) : List Int := (List.range p.length).map fun k => if i ≤ k ∧ k < i + m then (ro p k - c * ro b (k - i) % q + q) % q else ro p k
theorem sbR_len (q : Int) (p b : List Int) (c : Int) (i m : Nat) : (sbR q p b c i m).length = p.length := by unfold sbR; simp
theorem sbR_at (q : Int) (p b : List Int) (c : Int) (i m : Nat) {k : Nat} (hk : k < p.length) : ro (sbR q p b c i m) k = if i ≤ k ∧ k < i + m then (ro p k - c * ro b (k - i) % q + q) % q else ro p k := ro_range _ _ hk
theorem list_ro {a b : List Int} (hl : a.length = b.length) (h : ∀ k, k < a.length → ro a k = ro b k) : a = b := by
  refine List.ext_getElem? fun k => ?_
  by_cases hk : k < a.length
  · have := h k hk
    unfold ro at this
    rw [List.getD_eq_getElem?_getD, List.getD_eq_getElem?_getD, List.getElem?_eq_getElem hk, List.getElem?_eq_getElem (by omega)] at this
    rw [List.getElem?_eq_getElem hk, List.getElem?_eq_getElem (by omega)]
    exact congrArg some this
  · rw [List.getElem?_eq_none (by omega), List.getElem?_eq_none (by omega)]
theorem sbR_zero (q : Int) (p b : List Int) (c : Int) (i : Nat) : sbR q p b c i 0 = p := list_ro (sbR_len ..) fun k hk => by
  rw [sbR_len] at hk
  rw [sbR_at q p b c i 0 hk, if_neg (by omega)]
theorem sbR_succ (q : Int) (p b : List Int) (c : Int) (i m : Nat) (h : i + m < p.length) : sbR q p b c i (m + 1) = (sbR q p b c i m).set (i + m) ((ro (sbR q p b c i m) (i + m) - c * ro b m % q + q) % q) := list_ro (by rw [List.length_set, sbR_len, sbR_len]) fun k hk => by
  rw [sbR_len] at hk
  have e1 : ro ((sbR q p b c i m).set (i + m) ((ro (sbR q p b c i m) (i + m) - c * ro b m % q + q) % q)) k = if k = i + m then (ro (sbR q p b c i m) (i + m) - c * ro b m % q + q) % q else ro (sbR q p b c i m) k := getD_set' _ _ _ _ _ (by rw [sbR_len]; exact h)
  rw [e1, sbR_at q p b c i (m + 1) hk]
  by_cases hkm : k = i + m
  · subst hkm
    rw [if_pos (by omega), if_pos rfl, sbR_at q p b c i m h, if_neg (by omega), Nat.add_sub_cancel_left]
  · rw [if_neg hkm, sbR_at q p b c i m hk]
    by_cases h2 : i ≤ k ∧ k < i + m
    · rw [if_pos (by omega), if_pos h2]
    · rw [if_neg (by omega), if_neg h2]
/-- The division of a solution by its E. -/
theorem div_ok {q : Int} (hq : 1 < q) {t : Nat} {d0 d1 : Int} (h0 : 0 ≤ d0 ∧ d0 < q) (h1 : 0 ≤ d1 ∧ d1 < q) {l : List Int} (hl : l.length = 2 * t + 2) (hr : ∀ x ∈ l, 0 ≤ x ∧ x < q) (hm : ∀ k, k < t + 2 → q ∣ ro l k - (d0 * enE t (ro l) k + d1 * shf (enE t (ro l)) k)) :
    ro (l.take (t + 2)) (t + 1) = d1 ∧ ro (sbR q (l.take (t + 2)) (l.drop (t + 2) ++ [1]) d1 1 (t + 1)) t = d0 ∧ ∀ k, k < t + 2 → ro (sbR q (sbR q (l.take (t + 2)) (l.drop (t + 2) ++ [1]) d1 1 (t + 1)) (l.drop (t + 2) ++ [1]) d0 0 (t + 1)) k = 0 := by
  have htl : (l.take (t + 2)).length = t + 2 := by rw [List.length_take]; omega
  have hta : ∀ k, k < t + 2 → ro (l.take (t + 2)) k = ro l k := fun k hk => by
    unfold ro
    rw [List.getD_eq_getElem?_getD, List.getD_eq_getElem?_getD, List.getElem?_take, if_pos hk]
  have hba : ∀ k, k < t + 1 → ro (l.drop (t + 2) ++ [1]) k = enE t (ro l) k := fun k hk => by
    unfold ro enE
    have hdl : (l.drop (t + 2)).length = t := by rw [List.length_drop]; omega
    by_cases hkt : k < t
    · rw [if_pos hkt, List.getD_eq_getElem?_getD, List.getElem?_append_left (by omega), List.getElem?_drop]
      show _ = l.getD (t + 2 + k) 0
      rw [List.getD_eq_getElem?_getD]
    · obtain rfl : k = t := by omega
      rw [if_neg hkt, if_pos rfl, List.getD_eq_getElem?_getD, List.getElem?_append_right (by omega), hdl, Nat.sub_self]
      rfl
  have hlr : ∀ k, k < t + 2 → 0 ≤ ro l k ∧ ro l k < q := fun k hk => by
    unfold ro
    rw [List.getD_eq_getElem?_getD, List.getElem?_eq_getElem (by omega)]
    exact hr _ (List.getElem_mem _)
  have he : enE t (ro l) t = 1 := by unfold enE; rw [if_neg (by omega), if_pos rfl]
  have hf : enE t (ro l) (t + 1) = 0 := by unfold enE; rw [if_neg (by omega), if_neg (by omega)]
  have eq_of : ∀ {a b : Int}, 0 ≤ a → a < q → 0 ≤ b → b < q → q ∣ a - b → a = b := fun {a b} ha0 ha1 hb0 hb1 hd => by
    have e1 := Int.emod_eq_of_lt ha0 ha1
    have e2 := Int.emod_eq_of_lt hb0 hb1
    rw [← e1, ← e2]
    exact Int.emod_eq_emod_iff_emod_sub_eq_zero.2 (Int.emod_eq_zero_of_dvd hd)
  refine ⟨?_, ?_, fun k hk => ?_⟩
  · rw [hta _ (by omega)]
    refine eq_of (hlr _ (by omega)).1 (hlr _ (by omega)).2 h1.1 h1.2 ?_
    have := hm (t + 1) (by omega)
    unfold shf at this
    rw [hf, if_neg (by omega), Nat.add_sub_cancel, he] at this
    rw [show d0 * 0 + d1 * 1 = d1 by omega] at this
    exact this
  · rw [sbR_at _ _ _ _ _ _ (by omega)]
    refine eq_of ?_ ?_ h0.1 h0.2 ?_
    · split
      · exact Int.emod_nonneg _ (by omega)
      · rw [hta _ (by omega)]; exact (hlr _ (by omega)).1
    · split
      · exact Int.emod_lt_of_pos _ (by omega)
      · rw [hta _ (by omega)]; exact (hlr _ (by omega)).2
    · have hmt := hm t (by omega)
      rw [he] at hmt
      rw [hta _ (by omega)]
      by_cases ht : 1 ≤ t
      · rw [if_pos (by omega), hba _ (by omega)]
        unfold shf at hmt
        rw [if_neg (by omega)] at hmt
        obtain ⟨a, ha⟩ := hmt
        obtain ⟨b, hb⟩ := dvd_emod q (d1 * enE t (ro l) (t - 1))
        obtain ⟨c, hc⟩ := dvd_emod q (ro l t - d1 * enE t (ro l) (t - 1) % q + q)
        exact ⟨c + 1 - b + a, by grind⟩
      · obtain rfl : t = 0 := by omega
        rw [if_neg (by omega)]
        unfold shf at hmt
        rw [if_pos rfl] at hmt
        rw [show d0 * 1 + d1 * 0 = d0 by omega] at hmt
        exact hmt
  · obtain ⟨p1, hp1⟩ : ∃ p1, sbR q (l.take (t + 2)) (l.drop (t + 2) ++ [1]) d1 1 (t + 1) = p1 := ⟨_, rfl⟩
    have hp1l : p1.length = t + 2 := by rw [← hp1, sbR_len, htl]
    have hp1a : ∀ k, k < t + 2 → q ∣ ro p1 k - d0 * enE t (ro l) k := fun k hk => by
      rw [← hp1, sbR_at _ _ _ _ _ _ (by omega)]
      obtain ⟨a, ha⟩ := hm k hk
      rw [hta k hk]
      by_cases hk0 : k = 0
      · subst hk0
        rw [if_neg (by omega)]
        unfold shf at ha
        rw [if_pos rfl] at ha
        exact ⟨a, by omega⟩
      · rw [if_pos (by omega), hba _ (by omega)]
        unfold shf at ha
        rw [if_neg hk0] at ha
        obtain ⟨b, hb⟩ := dvd_emod q (d1 * enE t (ro l) (k - 1))
        obtain ⟨c, hc⟩ := dvd_emod q (ro l k - d1 * enE t (ro l) (k - 1) % q + q)
        exact ⟨c + 1 - b + a, by grind⟩
    rw [hp1, sbR_at _ _ _ _ _ _ (by omega)]
    obtain ⟨a, ha⟩ := hp1a k hk
    by_cases hkt : k < t + 1
    · rw [if_pos (by omega), Nat.sub_zero, hba k hkt]
      refine zero_of (Int.emod_nonneg _ (by omega)) (Int.emod_lt_of_pos _ (by omega)) ?_
      obtain ⟨b, hb⟩ := dvd_emod q (d0 * enE t (ro l) k)
      obtain ⟨c, hc⟩ := dvd_emod q (ro p1 k - d0 * enE t (ro l) k % q + q)
      exact ⟨c + 1 - b + a, by grind⟩
    · obtain rfl : k = t + 1 := by omega
      rw [if_neg (by omega)]
      rw [hf, Int.mul_zero, Int.sub_zero] at ha
      refine zero_of ?_ ?_ ⟨a, ha⟩
      · rw [← hp1, sbR_at _ _ _ _ _ _ (by omega), if_pos (by omega)]
        exact Int.emod_nonneg _ (by omega)
      · rw [← hp1, sbR_at _ _ _ _ _ _ (by omega), if_pos (by omega)]
        exact Int.emod_lt_of_pos _ (by omega)
end Go.Proofs.Tb
