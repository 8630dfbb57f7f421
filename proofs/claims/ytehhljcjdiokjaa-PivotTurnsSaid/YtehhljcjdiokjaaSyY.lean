/- TWICE A NUMBER: rounding and places. -/
import Derived.Test.YtehhljcjdiokjaaSyX
set_option linter.unusedSimpArgs false
set_option linter.unusedVariables false
noncomputable section
namespace Go.Sx

theorem log2_mul_pow {n : Nat} (hn : n ≠ 0) : ∀ k, (n * 2 ^ k).log2 = n.log2 + k
  | 0 => by simp
  | k + 1 => by
    have h : n * 2 ^ k ≠ 0 := Nat.mul_ne_zero hn (Nat.ne_of_gt (Nat.two_pow_pos k))
    rw [Nat.pow_succ, ← Nat.mul_assoc, Nat.mul_comm (n * 2 ^ k) 2, Nat.log2_two_mul h, log2_mul_pow hn k]
    omega
theorem cut_scale (s : Bool) {n : Nat} (hn : n ≠ 0) (d k : Nat) : Ieee.Toward.even.cut s (n * 2 ^ k) (d + k) = Ieee.Toward.even.cut s n d := by
  have hp : 0 < 2 ^ k := Nat.two_pow_pos k
  unfold Ieee.Toward.cut
  rw [log2_mul_pow hn k, show min (d + k) (n.log2 + k + 2) = min d (n.log2 + 2) + k by omega]
  generalize min d (n.log2 + 2) = a
  have e1 : 1 <<< (a + k) = (1 <<< a) * 2 ^ k := by rw [Nat.shiftLeft_eq, Nat.shiftLeft_eq, Nat.pow_add, Nat.mul_assoc]
  simp only [e1]
  generalize 1 <<< a = g
  have e2 : n * 2 ^ k / (g * 2 ^ k) = n / g := Nat.mul_div_mul_right _ _ hp
  have e3 : n * 2 ^ k % (g * 2 ^ k) = n % g * 2 ^ k := Nat.mul_mod_mul_right _ _ _
  rw [e2, e3]
  generalize n % g = r
  have e4 : decide (g * 2 ^ k < 2 * (r * 2 ^ k)) = decide (g < 2 * r) := decide_eq_decide.2 (by rw [← Nat.mul_assoc]; exact Nat.mul_lt_mul_right hp)
  have e5 : (g * 2 ^ k == 2 * (r * 2 ^ k)) = (g == 2 * r) := by
    rw [← Nat.mul_assoc]
    rw [Bool.eq_iff_iff]
    simp only [beq_iff_eq]
    exact ⟨fun hh => Nat.eq_of_mul_eq_mul_right hp hh, fun hh => by rw [hh]⟩
  rw [e4, e5]
theorem frac_is : (Ieee.double.fractionBits : Int) = 52 := rfl
/-- the rung of a number, before it is cut at the greatest -/
def rung (s : Bool) (m : Nat) (p : Int) : Nat :=
  (max (p + m.log2 - 52) (-1074) - -1074).toNat * 4503599627370496 + Ieee.Toward.even.cut s (m <<< (p - max (p + m.log2 - 52) (-1074)).toNat) (max (p + m.log2 - 52) (-1074) - p).toNat
theorem nearest_is (s : Bool) {m : Nat} (hm : m ≠ 0) (p : Int) : Ieee.double.nearest s m p = Ieee.double.word s (min (rung s m p) 9218868437227405312) := by
  unfold Ieee.Format.nearest
  rw [if_neg hm]
  simp only [frac_is, lp_is, bin_is, inf_is]
  rfl
theorem rung_scale (s : Bool) {m : Nat} (hm : m ≠ 0) (k : Nat) (p : Int) : rung s (m * 2 ^ k) (p - k) = rung s m p := by
  unfold rung
  rw [log2_mul_pow hm k, show p - (k : Int) + ((m.log2 + k : Nat) : Int) - 52 = p + m.log2 - 52 by omega]
  generalize max (p + m.log2 - 52) (-1074) = L
  congr 1
  by_cases h1 : L ≤ p
  · by_cases h2 : L ≤ p - k
    · rw [show (L - (p - k)).toNat = 0 by omega, show (L - p).toNat = 0 by omega]
      congr 1
      rw [Nat.shiftLeft_eq, Nat.shiftLeft_eq, Nat.mul_assoc, ← Nat.pow_add, show k + (p - k - L).toNat = (p - L).toNat by omega]
    · rw [show (p - k - L).toNat = 0 by omega, show (L - p).toNat = 0 by omega]
      have e : k = (p - L).toNat + (L - (p - k)).toNat := by omega
      have hm' : m * 2 ^ (p - L).toNat ≠ 0 := Nat.mul_ne_zero hm (Nat.ne_of_gt (Nat.two_pow_pos _))
      have := cut_scale s hm' 0 (L - (p - k)).toNat
      rw [Nat.zero_add, Nat.mul_assoc, ← Nat.pow_add, ← e] at this
      rw [Nat.shiftLeft_zero, Nat.shiftLeft_eq]
      exact this
  · rw [show (p - k - L).toNat = 0 by omega, show (p - L).toNat = 0 by omega, Nat.shiftLeft_zero, Nat.shiftLeft_zero, show (L - (p - k)).toNat = (L - p).toNat + k by omega]
    exact cut_scale s hm _ _
/-- a place more is a binade more -/
theorem rung_up (s : Bool) (m : Nat) {p : Int} (h : -1074 ≤ p + m.log2 - 52) : rung s m (p + 1) = rung s m p + 4503599627370496 := by
  unfold rung
  rw [show max (p + 1 + (m.log2 : Int) - 52) (-1074) = p + m.log2 - 52 + 1 by omega, show max (p + (m.log2 : Int) - 52) (-1074) = p + m.log2 - 52 by omega]
  rw [show (p + 1 - (p + (m.log2 : Int) - 52 + 1)).toNat = (p - (p + m.log2 - 52)).toNat by omega, show (p + (m.log2 : Int) - 52 + 1 - (p + 1)).toNat = (p + m.log2 - 52 - p).toNat by omega, show (p + (m.log2 : Int) - 52 + 1 - -1074).toNat = (p + m.log2 - 52 - -1074).toNat + 1 by omega, Nat.succ_mul]
  omega
theorem cut_zero (s : Bool) (n : Nat) : Ieee.Toward.even.cut s n 0 = n := by
  unfold Ieee.Toward.cut
  simp [Nat.mod_one]
theorem rung_small (s : Bool) {S : Nat} (h : S < 9007199254740992) (h0 : S ≠ 0) : rung s S (-1074) = S := by
  have hl : S.log2 < 53 := (Nat.log2_lt h0).2 h
  unfold rung
  rw [show max (-1074 + (S.log2 : Int) - 52) (-1074) = -1074 by omega]
  simp [cut_zero]
theorem rung_big {S : Nat} (h : 4503599627370496 ≤ S) : 4503599627370496 ≤ rung false S (-1074) := by
  have h0 : S ≠ 0 := by omega
  have hl : 52 ≤ S.log2 := (Nat.le_log2 h0).2 h
  have hself : 2 ^ S.log2 ≤ S := Nat.log2_self_le h0
  unfold rung
  rw [show max (-1074 + (S.log2 : Int) - 52) (-1074) = -1074 + S.log2 - 52 by omega, show (-1074 - (-1074 + (S.log2 : Int) - 52)).toNat = 0 by omega, Nat.shiftLeft_zero, show (-1074 + (S.log2 : Int) - 52 - -1074).toNat = S.log2 - 52 by omega]
  have hc : 4503599627370496 ≤ Ieee.Toward.even.cut false S (S.log2 - 52) := by
    unfold Ieee.Toward.cut
    rw [show min (S.log2 - 52) (S.log2 + 2) = S.log2 - 52 by omega, Nat.shiftLeft_eq, Nat.one_mul]
    have : 4503599627370496 ≤ S / 2 ^ (S.log2 - 52) := by
      rw [Nat.le_div_iff_mul_le (Nat.two_pow_pos _)]
      have e : 4503599627370496 * 2 ^ (S.log2 - 52) = 2 ^ S.log2 := by
        rw [show (4503599627370496 : Nat) = 2 ^ 52 by decide, ← Nat.pow_add]; congr 1; omega
      rw [e]; exact hself
    dsimp only
    exact Nat.le_trans this (Nat.le_add_right _ _)
  omega
/-- the float nearest to so many of the least parts -/
def nearU (S : Nat) : Nat := Ieee.double.nearest false S (-1074)
theorem nearU_zero : nearU 0 = 0 := rfl
theorem nearU_is {S : Nat} (h : S ≠ 0) : nearU S = min (rung false S (-1074)) 9218868437227405312 := by
  unfold nearU; rw [nearest_is _ h, word_false]
theorem nearU_small {S : Nat} (h : S < 9007199254740992) : nearU S = S := by
  by_cases h0 : S = 0
  · subst h0; rfl
  · rw [nearU_is h0, rung_small _ h h0]; omega
theorem nearU_twice {S : Nat} (h : nearU (2 * S) < 9218868437227405312) : (S < 4503599627370496 ∧ nearU S = S ∧ nearU (2 * S) = 2 * S) ∨ (4503599627370496 ≤ S ∧ 4503599627370496 ≤ nearU S ∧ nearU (2 * S) = nearU S + 4503599627370496) := by
  by_cases hS : S < 4503599627370496
  · exact .inl ⟨hS, nearU_small (by omega), nearU_small (by omega)⟩
  · refine .inr ⟨by omega, ?_⟩
    have h0 : S ≠ 0 := by omega
    have h1 : 2 * S ≠ 0 := by omega
    have hb := rung_big (show 4503599627370496 ≤ S by omega)
    have hl : 52 ≤ S.log2 := (Nat.le_log2 h0).2 (by omega)
    have e : rung false (2 * S) (-1074) = rung false S (-1074) + 4503599627370496 := by
      rw [← rung_up false S (p := -1074) (by omega)]
      have := rung_scale false h0 1 (-1074 + 1)
      rw [Nat.pow_one, Nat.mul_comm] at this
      exact this
    rw [nearU_is h1, e] at h
    rw [nearU_is h1, nearU_is h0, e]
    omega
/-- doubled, the order is the same -/
theorem nearU_order {S T : Nat} (hS : nearU (2 * S) < 9218868437227405312) (hT : nearU (2 * T) < 9218868437227405312) : nearU S < nearU T ↔ nearU (2 * S) < nearU (2 * T) := by
  rcases nearU_twice hS with ⟨a, b, c⟩ | ⟨a, b, c⟩ <;> rcases nearU_twice hT with ⟨d, e, f⟩ | ⟨d, e, f⟩ <;> omega
theorem nearU_U {r : Nat} (h : r < 9218868437227405312) : nearU (U r) = r := by
  by_cases hr : r < 4503599627370496
  · have : U r = r := by unfold U; rw [if_pos hr]
    rw [this]; exact nearU_small (by omega)
  · have hU : U r = (4503599627370496 + r % 4503599627370496) * 2 ^ (r / 4503599627370496 - 1) := by unfold U; rw [if_neg hr]
    have hf : (4503599627370496 + r % 4503599627370496).log2 = 52 := by
      have h1 : 52 ≤ (4503599627370496 + r % 4503599627370496).log2 := (Nat.le_log2 (by omega)).2 (by omega)
      have h2 : (4503599627370496 + r % 4503599627370496).log2 < 53 := (Nat.log2_lt (by omega)).2 (by omega)
      omega
    have hm : 4503599627370496 + r % 4503599627370496 ≠ 0 := by omega
    have h0 : U r ≠ 0 := by rw [hU]; exact Nat.mul_ne_zero hm (Nat.ne_of_gt (Nat.two_pow_pos _))
    rw [nearU_is h0, hU]
    have e := rung_scale false hm (r / 4503599627370496 - 1) (-1074 + ((r / 4503599627370496 - 1 : Nat) : Int))
    rw [show -1074 + ((r / 4503599627370496 - 1 : Nat) : Int) - ((r / 4503599627370496 - 1 : Nat) : Int) = -1074 by omega] at e
    rw [e]
    have e2 : rung false (4503599627370496 + r % 4503599627370496) (-1074 + ((r / 4503599627370496 - 1 : Nat) : Int)) = r := by
      unfold rung
      rw [hf, show max (-1074 + ((r / 4503599627370496 - 1 : Nat) : Int) + ((52 : Nat) : Int) - 52) (-1074) = -1074 + ((r / 4503599627370496 - 1 : Nat) : Int) by omega]
      rw [show (-1074 + ((r / 4503599627370496 - 1 : Nat) : Int) - (-1074 + ((r / 4503599627370496 - 1 : Nat) : Int))).toNat = 0 by omega, Nat.shiftLeft_zero, cut_zero, show (-1074 + ((r / 4503599627370496 - 1 : Nat) : Int) - -1074).toNat = r / 4503599627370496 - 1 by omega]
      omega
    rw [e2]; omega
theorem U_twice {r : Nat} (h : nearU (2 * U r) < 9218868437227405312) (hr : r < 9218868437227405312) : U (nearU (2 * U r)) = 2 * U r := by
  have e := nearU_U hr
  rcases nearU_twice h with ⟨a, b, c⟩ | ⟨a, b, c⟩
  · rw [c]
    have hrr : r < 4503599627370496 := by rw [e] at b; omega
    have hU : U r = r := by unfold U; rw [if_pos hrr]
    rw [hU]
    unfold U
    by_cases h2 : 2 * r < 4503599627370496
    · rw [if_pos h2]
    · rw [if_neg h2, show 2 * r / 4503599627370496 = 1 by omega, show 2 * r % 4503599627370496 = 2 * r - 4503599627370496 by omega]
      simp; omega
  · rw [c, e]
    rw [e] at b
    unfold U
    rw [if_neg (by omega), if_neg (by omega), show (r + 4503599627370496) % 4503599627370496 = r % 4503599627370496 by omega, show (r + 4503599627370496) / 4503599627370496 - 1 = (r / 4503599627370496 - 1) + 1 by omega, Nat.pow_succ]
    generalize 2 ^ (r / 4503599627370496 - 1) = q
    rw [← Nat.mul_assoc, Nat.mul_comm 2]
end Go.Sx
