/- SIGNS OF PRODUCTS AND QUOTIENTS. -/
import Derived.Test.YtehhljcjdiokjaaSyH
set_option linter.unusedSimpArgs false
set_option linter.unusedVariables false
namespace Go.Sx

theorem word_false (r : Nat) : Ieee.double.word false r = r := rfl
theorem nearest_pos (m : Nat) (p : Int) : Ieee.double.nearest false m p < 9223372036854775808 := by
  have hi := inf_is
  unfold Ieee.Format.nearest
  dsimp only
  split
  · rw [word_false]; omega
  · rw [word_false]
    exact Nat.lt_of_le_of_lt (Nat.min_le_right ..) (by rw [hi]; omega)
theorem read_pos {x : Nat} (h : x < 9223372036854775808) : Ieee.double.read x = .nan false (x % 9223372036854775808 - 9218868437227405312) ∨ Ieee.double.read x = .infinity false ∨ ∃ m i, Ieee.double.read x = .number false m i := by
  have hs : (x / 9223372036854775808 % 2 == 1) = false := by rw [show x / 9223372036854775808 = 0 by omega]; rfl
  by_cases h1 : x % 9223372036854775808 < 9218868437227405312
  · obtain ⟨m, i, e, _⟩ := read_fin h1
    rw [hs] at e
    exact .inr (.inr ⟨m, i, e⟩)
  · by_cases h2 : x % 9223372036854775808 = 9218868437227405312
    · have := read_inf h2
      rw [hs] at this
      exact .inr (.inl this)
    · left
      unfold Ieee.Format.read
      simp only [sgn_is, bin_is, inf_is, lp_is, hs]
      rw [if_neg (by omega), if_neg h1, if_neg h2]
theorem inf_pos : Ieee.double.write (.infinity false) < 9223372036854775808 := by decide
theorem qn_lt : qn < 9223372036854775808 := by decide
/-- a product of two that bear no sign bears none -/
theorem fmul_pos {x y : Nat} (hx : x < 9223372036854775808) (hy : y < 9223372036854775808) : fmul x y < 9223372036854775808 := by
  unfold fmul Ieee.Format.mul
  rcases read_pos hx with e | e | ⟨m, i, e⟩ <;> rcases read_pos hy with f | f | ⟨n, j, f⟩ <;> rw [e, f] <;> simp only [Ieee.Datum.product, Option.map_none, Option.map_some, Option.getD_none, Option.getD_some, Bool.xor_self]
  all_goals first
    | exact qn_lt
    | exact inf_pos
    | exact nearest_pos _ _
    | (split <;> first | exact qn_lt | exact inf_pos)
theorem fdiv_pos {x y : Nat} (hx : x < 9223372036854775808) (hy : y < 9223372036854775808) : fdiv x y < 9223372036854775808 := by
  unfold fdiv Ieee.Format.div
  rcases read_pos hx with e | e | ⟨m, i, e⟩ <;> rcases read_pos hy with f | f | ⟨n, j, f⟩ <;> rw [e, f] <;> simp only [Ieee.Datum.quotient, Option.map_none, Option.map_some, Option.getD_none, Option.getD_some, Bool.xor_self]
  all_goals first
    | exact qn_lt
    | exact inf_pos
    | exact nearest_pos _ _
    | (split <;> first | exact qn_lt | exact inf_pos | exact nearest_pos _ _ | (split <;> first | exact qn_lt | exact inf_pos | exact nearest_pos _ _))
theorem cn_pos {x : Nat} (h : x < 9223372036854775808) : cn x < 9223372036854775808 := by
  unfold cn; cases isnan x
  · exact h
  · exact qn_lt
theorem flt_pos {z : Nat} (h : z < 9223372036854775808) : flt z (cn 0) = false := by
  have e : cn 0 = 0 := by decide
  rw [e, flt_rk (by omega) (by omega)]
  have : decide (rk z < rk 0) = false := by
    have r0 : rk 0 = 0 := by decide
    rw [r0]
    unfold rk; rw [if_neg (by omega)]
    exact decide_eq_false (by omega)
  rw [this, Bool.and_false]
theorem fgt_neg {z : Nat} (h : z < 9223372036854775808) : fgt (fneg z) (cn 0) = false := by
  have e : cn 0 = 0 := by decide
  have hw : z ^^^ 9223372036854775808 = 9223372036854775808 + z := neg_word h
  unfold fneg
  rw [hw, e]
  cases hn : isnan (9223372036854775808 + z) with
  | true =>
    rw [cn_of_nan hn]; decide
  | false =>
    rw [cn_of_not hn, fgt_rk (by omega) (by omega)]
    have : decide (rk 0 < rk (9223372036854775808 + z)) = false := by
      have r0 : rk 0 = 0 := by decide
      rw [r0]
      unfold rk; rw [if_pos (by omega)]
      exact decide_eq_false (by omega)
    rw [this, Bool.and_false]
/-- above nought -/
theorem gt_pos {b : Nat} (hb : b < 18446744073709551616) (t : fgt (cn b) (cn 0) = true) : cn b < 9223372036854775808 := by
  have e : cn 0 = 0 := by decide
  rw [e, fgt_rk (cn_lt hb) (by omega)] at t
  simp only [Bool.and_eq_true, decide_eq_true_eq] at t
  have r0 : rk 0 = 0 := by decide
  rw [r0] at t
  have := t.2
  unfold rk at this
  split at this <;> omega
theorem le_pos {a : Nat} (ha : a < 18446744073709551616) (k : decide ((2 : Int) < kindDef a) = false) (t : fle (cn a) (cn 0) = false) : cn a < 9223372036854775808 := by
  have hn : isnan a = false := by
    cases hn : isnan a with
    | false => rfl
    | true => rw [kind_nan ha hn] at k; exact absurd k (by decide)
  have e : cn 0 = 0 := by decide
  rw [e, fle_rk (cn_lt ha) (by omega), isnan_cn, hn] at t
  have r0 : rk 0 = 0 := by decide
  have i0 : isnan 0 = false := by decide
  rw [r0, i0] at t
  have : ¬ (rk (cn a) ≤ 0) := of_decide_eq_false (by simpa using t)
  unfold rk at this
  split at this <;> omega
end Go.Sx
