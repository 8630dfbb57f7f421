/- THE ORDER OF FLOATS, by their words. -/
import Derived.Test.YtehhljcjdiokjaaSyF
set_option linter.unusedSimpArgs false
set_option linter.unusedVariables false
namespace Go.Sx

/-- the size of a rung, in units of the least number -/
def U (r : Nat) : Nat := if r < 4503599627370496 then r else (4503599627370496 + r % 4503599627370496) * 2 ^ (r / 4503599627370496 - 1)
theorem U_lt {r r' : Nat} (h : r < r') : U r < U r' := by
  unfold U
  by_cases h1 : r' < 4503599627370496
  · rw [if_pos h1, if_pos (by omega)]; exact h
  · rw [if_neg h1]
    have hp : 0 < 2 ^ (r' / 4503599627370496 - 1) := Nat.two_pow_pos _
    by_cases h2 : r < 4503599627370496
    · rw [if_pos h2]
      calc r < 4503599627370496 := h2
        _ ≤ (4503599627370496 + r' % 4503599627370496) * 1 := by omega
        _ ≤ _ := Nat.mul_le_mul_left _ hp
    · rw [if_neg h2]
      by_cases hq : r / 4503599627370496 = r' / 4503599627370496
      · rw [hq]
        exact Nat.mul_lt_mul_of_pos_right (by omega) hp
      · have hq' : r / 4503599627370496 + 1 ≤ r' / 4503599627370496 := by omega
        have hq1 : 1 ≤ r / 4503599627370496 := by omega
        have e : 2 ^ (r' / 4503599627370496 - 1) = 2 ^ (r / 4503599627370496 - 1) * 2 ^ (r' / 4503599627370496 - r / 4503599627370496) := by
          rw [← Nat.pow_add]; congr 1; omega
        have h2p : 2 ≤ 2 ^ (r' / 4503599627370496 - r / 4503599627370496) := by
          calc 2 = 2 ^ 1 := rfl
            _ ≤ _ := Nat.pow_le_pow_right (by omega) (by omega)
        rw [e]
        have hpr : 0 < 2 ^ (r / 4503599627370496 - 1) := Nat.two_pow_pos _
        calc (4503599627370496 + r % 4503599627370496) * 2 ^ (r / 4503599627370496 - 1)
            < (4503599627370496 * 2) * 2 ^ (r / 4503599627370496 - 1) := Nat.mul_lt_mul_of_pos_right (by omega) hpr
          _ = 4503599627370496 * (2 ^ (r / 4503599627370496 - 1) * 2) := by rw [Nat.mul_assoc, Nat.mul_comm 2]
          _ ≤ (4503599627370496 + r' % 4503599627370496) * (2 ^ (r / 4503599627370496 - 1) * 2 ^ (r' / 4503599627370496 - r / 4503599627370496)) := Nat.mul_le_mul (by omega) (Nat.mul_le_mul_left _ h2p)
theorem U_lt_iff {r r' : Nat} : U r < U r' ↔ r < r' := by
  constructor
  · intro h
    rcases Nat.lt_trichotomy r r' with h1 | h1 | h1
    · exact h1
    · rw [h1] at h; omega
    · have := U_lt h1; omega
  · exact U_lt
theorem U_eq_iff {r r' : Nat} : U r = U r' ↔ r = r' := by
  constructor
  · intro h
    rcases Nat.lt_trichotomy r r' with h1 | h1 | h1
    · have := U_lt h1; omega
    · exact h1
    · have := U_lt h1; omega
  · rintro rfl; rfl
theorem U_zero : U 0 = 0 := rfl

theorem lp_is : Ieee.double.leastPlace = -1074 := by decide
theorem bin_is : Ieee.double.binade = 4503599627370496 := by decide
theorem inf_is : Ieee.double.infRung = 9218868437227405312 := by decide
theorem sgn_is : Ieee.double.signWeight = 9223372036854775808 := by decide
/-- what a finite word stands for -/
theorem read_fin {x : Nat} (h : x % 9223372036854775808 < 9218868437227405312) : ∃ m i, Ieee.double.read x = .number (x / 9223372036854775808 % 2 == 1) m i ∧ -1074 ≤ i ∧ m * 2 ^ (i - -1074).toNat = U (x % 9223372036854775808) := by
  unfold Ieee.Format.read
  simp only [sgn_is, bin_is, inf_is, lp_is]
  generalize x % 9223372036854775808 = r at h ⊢
  by_cases h1 : r < 4503599627370496
  · rw [if_pos h1]
    exact ⟨_, _, rfl, by omega, by simp [U, h1]⟩
  · rw [if_neg h1, if_pos h]
    refine ⟨_, _, rfl, by omega, ?_⟩
    rw [show (-1074 + ((r / 4503599627370496 - 1 : Nat) : Int) - -1074).toNat = r / 4503599627370496 - 1 by omega]
    simp [U, h1]
theorem read_inf {x : Nat} (h : x % 9223372036854775808 = 9218868437227405312) : Ieee.double.read x = .infinity (x / 9223372036854775808 % 2 == 1) := by
  unfold Ieee.Format.read
  simp only [sgn_is, bin_is, inf_is, lp_is, h]
  rfl
/-- the place of a word -/
def rk (n : Nat) : Int := if 9223372036854775808 ≤ n then -((n - 9223372036854775808 : Nat) : Int) else n
theorem compare_of {a b c d : Int} (h1 : a < b ↔ c < d) (h2 : a = b ↔ c = d) : compare a b = compare c d := by
  simp only [compare, compareOfLessAndEq, h1, h2]
theorem signed_scale (s : Bool) (m : Nat) {i base : Int} (h1 : base ≤ i) (h2 : -1074 ≤ base) :
    Ieee.signed s m (i - base).toNat * 2 ^ (base - -1074).toNat = if s then -((m * 2 ^ (i - -1074).toNat : Nat) : Int) else ((m * 2 ^ (i - -1074).toNat : Nat) : Int) := by
  have e : (i - -1074).toNat = (i - base).toNat + (base - -1074).toNat := by omega
  unfold Ieee.signed
  rw [e, Nat.pow_add, Nat.shiftLeft_eq]
  cases s
  · simp [Int.mul_assoc]
  · simp [Int.mul_assoc, Int.neg_mul]
theorem compare_scale (a b : Int) (k : Nat) : compare a b = compare (a * 2 ^ k) (b * 2 ^ k) := by
  have hp : (0 : Int) < 2 ^ k := by
    have := Nat.two_pow_pos k
    exact_mod_cast this
  refine compare_of ?_ ?_
  · exact (Int.mul_lt_mul_right hp).symm
  · exact ⟨fun h => by rw [h], fun h => Int.eq_of_mul_eq_mul_right (by omega) h⟩
theorem sg_lt {n : Nat} (h : n < 18446744073709551616) : (n / 9223372036854775808 % 2 == 1) = decide (9223372036854775808 ≤ n) := by
  by_cases h1 : 9223372036854775808 ≤ n
  · rw [decide_eq_true h1, show n / 9223372036854775808 = 1 by omega]; rfl
  · rw [decide_eq_false h1, show n / 9223372036854775808 = 0 by omega]; rfl
theorem notnan {n : Nat} (h : isnan n = false) : n % 9223372036854775808 ≤ 9218868437227405312 := by
  unfold isnan at h
  have := of_decide_eq_false h
  omega
theorem order_rk {x y : Nat} (hx : x < 18446744073709551616) (hy : y < 18446744073709551616) (nx : isnan x = false) (ny : isnan y = false) : forder x y = some (compare (rk x) (rk y)) := by
  unfold forder Ieee.Format.order
  have lx := notnan nx
  have ly := notnan ny
  have rx : rk x = if 9223372036854775808 ≤ x then -((x % 9223372036854775808 : Nat) : Int) else ((x % 9223372036854775808 : Nat) : Int) := by
    unfold rk
    by_cases h : 9223372036854775808 ≤ x
    · rw [if_pos h, if_pos h, show x - 9223372036854775808 = x % 9223372036854775808 by omega]
    · rw [if_neg h, if_neg h, show x % 9223372036854775808 = x by omega]
  have ry : rk y = if 9223372036854775808 ≤ y then -((y % 9223372036854775808 : Nat) : Int) else ((y % 9223372036854775808 : Nat) : Int) := by
    unfold rk
    by_cases h : 9223372036854775808 ≤ y
    · rw [if_pos h, if_pos h, show y - 9223372036854775808 = y % 9223372036854775808 by omega]
    · rw [if_neg h, if_neg h, show y % 9223372036854775808 = y by omega]
  by_cases fx : x % 9223372036854775808 < 9218868437227405312
  · obtain ⟨m, i, e1, i1, u1⟩ := read_fin fx
    rw [e1, sg_lt hx]
    by_cases fy : y % 9223372036854775808 < 9218868437227405312
    · obtain ⟨n, j, e2, j1, u2⟩ := read_fin fy
      rw [e2, sg_lt hy]
      simp only [Ieee.Datum.order]
      congr 1
      rw [compare_scale _ _ (min i j - -1074).toNat, signed_scale _ _ (Int.min_le_left ..) (by omega), signed_scale _ _ (Int.min_le_right ..) (by omega), u1, u2, rx, ry]
      have hl := @U_lt_iff (x % 9223372036854775808) (y % 9223372036854775808)
      have hg := @U_lt_iff (y % 9223372036854775808) (x % 9223372036854775808)
      have he := @U_eq_iff (x % 9223372036854775808) (y % 9223372036854775808)
      have z1 := @U_lt_iff 0 (x % 9223372036854775808)
      have z2 := @U_lt_iff 0 (y % 9223372036854775808)
      rw [U_zero] at z1 z2
      generalize U (x % 9223372036854775808) = ux at *
      generalize U (y % 9223372036854775808) = uy at *
      simp only [decide_eq_true_eq]
      refine compare_of ?_ ?_
      · split <;> split <;> omega
      · split <;> split <;> omega
    · have fy' : y % 9223372036854775808 = 9218868437227405312 := by omega
      rw [read_inf fy', sg_lt hy]
      simp only [Ieee.Datum.order]
      congr 1
      rw [rx, ry]
      by_cases h : 9223372036854775808 ≤ y
      · simp only [h, decide_true, if_true]
        symm
        rw [Int.compare_eq_gt]
        split <;> omega
      · simp only [h, decide_false, if_false, Bool.false_eq_true]
        symm
        rw [Int.compare_eq_lt]
        split <;> omega
  · have fx' : x % 9223372036854775808 = 9218868437227405312 := by omega
    rw [read_inf fx', sg_lt hx]
    by_cases fy : y % 9223372036854775808 < 9218868437227405312
    · obtain ⟨n, j, e2, j1, u2⟩ := read_fin fy
      rw [e2]
      simp only [Ieee.Datum.order]
      congr 1
      rw [rx, ry]
      by_cases h : 9223372036854775808 ≤ x
      · simp only [h, decide_true, if_true]
        symm
        rw [Int.compare_eq_lt]
        split <;> omega
      · simp only [h, decide_false, if_false, Bool.false_eq_true]
        symm
        rw [Int.compare_eq_gt]
        split <;> omega
    · have fy' : y % 9223372036854775808 = 9218868437227405312 := by omega
      rw [read_inf fy', sg_lt hy]
      simp only [Ieee.Datum.order]
      congr 1
      rw [rx, ry]
      by_cases h : 9223372036854775808 ≤ x <;> by_cases h' : 9223372036854775808 ≤ y <;> simp [h, h', fx', fy'] <;> decide
/-! ### the tests, by the places of words -/
theorem forder_nan {x y : Nat} (h : isnan x = true ∨ isnan y = true) : forder x y = none := by
  unfold forder Ieee.Format.order
  rcases h with h | h
  · obtain ⟨s, t, e⟩ := read_of_nan h
    rw [e]; rfl
  · obtain ⟨s, t, e⟩ := read_of_nan h
    rw [e]; cases Ieee.double.read x <;> rfl
theorem forder_cn (x y : Nat) : forder (cn x) (cn y) = forder x y := order_cn x y
section
variable {x y : Nat} (hx : x < 18446744073709551616) (hy : y < 18446744073709551616)
include hx hy
theorem flt_rk : flt x y = (!isnan x && !isnan y && decide (rk x < rk y)) := by
  unfold flt
  cases nx : isnan x with
  | true => rw [forder_nan (.inl nx)]; rfl
  | false =>
    cases ny : isnan y with
    | true => rw [forder_nan (.inr ny)]; rfl
    | false =>
      rw [order_rk hx hy nx ny]
      by_cases h : rk x < rk y
      · rw [Int.compare_eq_lt.2 h, decide_eq_true h]; rfl
      · rw [decide_eq_false h]
        by_cases h2 : rk x = rk y
        · rw [Int.compare_eq_eq.2 h2]; rfl
        · rw [Int.compare_eq_gt.2 (by omega)]; rfl
theorem fgt_rk : fgt x y = (!isnan x && !isnan y && decide (rk y < rk x)) := by
  unfold fgt
  cases nx : isnan x with
  | true => rw [forder_nan (.inl nx)]; rfl
  | false =>
    cases ny : isnan y with
    | true => rw [forder_nan (.inr ny)]; rfl
    | false =>
      rw [order_rk hx hy nx ny]
      by_cases h : rk y < rk x
      · rw [Int.compare_eq_gt.2 h, decide_eq_true h]; rfl
      · rw [decide_eq_false h]
        by_cases h2 : rk x = rk y
        · rw [Int.compare_eq_eq.2 h2]; rfl
        · rw [Int.compare_eq_lt.2 (by omega)]; rfl
theorem feq_rk : feq x y = (!isnan x && !isnan y && decide (rk x = rk y)) := by
  unfold feq
  cases nx : isnan x with
  | true => rw [forder_nan (.inl nx)]; rfl
  | false =>
    cases ny : isnan y with
    | true => rw [forder_nan (.inr ny)]; rfl
    | false =>
      rw [order_rk hx hy nx ny]
      by_cases h : rk x = rk y
      · rw [Int.compare_eq_eq.2 h, decide_eq_true h]; rfl
      · rw [decide_eq_false h]
        by_cases h2 : rk x < rk y
        · rw [Int.compare_eq_lt.2 h2]; rfl
        · rw [Int.compare_eq_gt.2 (by omega)]; rfl
theorem fle_rk : fle x y = (!isnan x && !isnan y && decide (rk x ≤ rk y)) := by
  unfold fle
  cases nx : isnan x with
  | true => rw [forder_nan (.inl nx)]; rfl
  | false =>
    cases ny : isnan y with
    | true => rw [forder_nan (.inr ny)]; rfl
    | false =>
      rw [order_rk hx hy nx ny]
      by_cases h : rk x < rk y
      · rw [Int.compare_eq_lt.2 h, decide_eq_true (by omega)]; rfl
      · by_cases h2 : rk x = rk y
        · rw [Int.compare_eq_eq.2 h2, decide_eq_true (by omega)]; rfl
        · rw [Int.compare_eq_gt.2 (by omega), decide_eq_false (by omega)]; rfl
theorem fge_rk : fge x y = (!isnan x && !isnan y && decide (rk y ≤ rk x)) := by
  unfold fge
  cases nx : isnan x with
  | true => rw [forder_nan (.inl nx)]; rfl
  | false =>
    cases ny : isnan y with
    | true => rw [forder_nan (.inr ny)]; rfl
    | false =>
      rw [order_rk hx hy nx ny]
      by_cases h : rk y < rk x
      · rw [Int.compare_eq_gt.2 h, decide_eq_true (by omega)]; rfl
      · by_cases h2 : rk x = rk y
        · rw [Int.compare_eq_eq.2 h2, decide_eq_true (by omega)]; rfl
        · rw [Int.compare_eq_lt.2 (by omega), decide_eq_false (by omega)]; rfl
end
theorem cn_lt {n : Nat} (h : n < 18446744073709551616) : cn n < 18446744073709551616 := by
  unfold cn; cases isnan n
  · exact h
  · show qn < _; decide
/-- x less x -/
theorem fsub_self {x : Nat} (h : isnan x = false) : fsub (cn x) (cn x) = if x % 9223372036854775808 < 9218868437227405312 then 0 else qn := by
  have l := notnan h
  unfold fsub
  rw [sub_cn]
  unfold Ieee.Format.sub
  by_cases f : x % 9223372036854775808 < 9218868437227405312
  · obtain ⟨m, i, e, _⟩ := read_fin f
    rw [e, if_pos f]
    have key : ∀ s : Bool, Ieee.signed s m (i - min i i).toNat + Ieee.signed (!s) m (i - min i i).toNat = 0 := by
      intro s; unfold Ieee.signed; cases s <;> simp <;> omega
    simp only [Ieee.Datum.opposite, Ieee.Datum.sum, key, if_true, Option.map_some, Option.getD_some, Int.natAbs_zero]
    cases (x / 9223372036854775808 % 2 == 1) <;> rfl
  · rw [if_neg f, read_inf (by omega)]
    cases (x / 9223372036854775808 % 2 == 1) <;> rfl
end Go.Sx
