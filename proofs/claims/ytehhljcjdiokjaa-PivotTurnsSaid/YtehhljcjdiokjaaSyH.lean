/- WORDS OF FLOATS: places, signs, middles. -/
import Derived.Test.YtehhljcjdiokjaaSyG
set_option linter.unusedSimpArgs false
set_option linter.unusedVariables false
namespace Go.Sx

theorem wrap_u64 {n : Nat} (h : n < 18446744073709551616) : IntKind.u64.wrap (n : Int) = n := by
  simp only [IntKind.wrap, show IntKind.u64.bits = 64 from rfl, IntKind.signed, Bool.false_and, Bool.false_eq_true, if_false]
  omega
theorem wrap_u64_neg {n : Int} (h : 0 < n) (h2 : n < 18446744073709551616) : IntKind.u64.wrap (-n) = 18446744073709551616 - n := by
  simp only [IntKind.wrap, show IntKind.u64.bits = 64 from rfl, IntKind.signed, Bool.false_and, Bool.false_eq_true, if_false]
  omega
theorem wrap_i64 {n : Int} (h : -9223372036854775808 ≤ n) (h2 : n ≤ 9223372036854775807) : IntKind.i64.wrap n = n := by
  simp only [IntKind.wrap, show IntKind.i64.bits = 64 from rfl, IntKind.signed, Bool.true_and, decide_eq_true_eq]
  split <;> omega
theorem two_and_xor : ∀ (n x y : Nat), x < 2 ^ n → x + y = 2 * (x &&& y) + (x ^^^ y)
  | 0, x, y, h => by
    have : x = 0 := by simpa using h
    subst this; simp
  | n + 1, x, y, h => by
    have ih := two_and_xor n (x / 2) (y / 2) (by rw [Nat.pow_succ] at h; omega)
    have a1 : (x &&& y) / 2 = (x / 2) &&& (y / 2) := Nat.and_div_two
    have a2 : (x ^^^ y) / 2 = (x / 2) ^^^ (y / 2) := Nat.xor_div_two
    have b1 : (x &&& y) % 2 = (x % 2) * (y % 2) := by
      have := Nat.and_mod_two_pow (a := x) (b := y) (n := 1)
      rw [Nat.pow_one] at this
      rw [this]
      rcases Nat.mod_two_eq_zero_or_one x with hx | hx <;> rcases Nat.mod_two_eq_zero_or_one y with hy | hy <;> rw [hx, hy] <;> rfl
    have b2 : (x ^^^ y) % 2 = (x % 2 + y % 2) % 2 := by
      have := Nat.xor_mod_two_pow (a := x) (b := y) (n := 1)
      rw [Nat.pow_one] at this
      rw [this]
      rcases Nat.mod_two_eq_zero_or_one x with hx | hx <;> rcases Nat.mod_two_eq_zero_or_one y with hy | hy <;> rw [hx, hy] <;> rfl
    rw [← a1, ← a2] at ih
    rcases Nat.mod_two_eq_zero_or_one x with hx | hx <;> rcases Nat.mod_two_eq_zero_or_one y with hy | hy <;> rw [hx, hy] at b1 b2 <;> omega
theorem top_and {x y : Nat} (hx : x < 18446744073709551616) (hy : y < 18446744073709551616) : 9223372036854775808 ≤ (x &&& y) ↔ 9223372036854775808 ≤ x ∧ 9223372036854775808 ≤ y := by
  have key : ∀ n : Nat, n < 18446744073709551616 → (9223372036854775808 ≤ n ↔ n.testBit 63 = true) := by
    intro n hn
    rw [Nat.testBit_eq_decide_div_mod_eq, decide_eq_true_eq]
    omega
  have h : (x &&& y) < 18446744073709551616 := Nat.lt_of_le_of_lt Nat.and_le_left hx
  rw [key _ h, key _ hx, key _ hy, Nat.testBit_and, Bool.and_eq_true]
theorem top_xor {x y : Nat} (hx : x < 18446744073709551616) (hy : y < 18446744073709551616) : (x ^^^ y) < 18446744073709551616 ∧ (9223372036854775808 ≤ (x ^^^ y) ↔ ¬ (9223372036854775808 ≤ x ↔ 9223372036854775808 ≤ y)) := by
  have key : ∀ n : Nat, n < 18446744073709551616 → (9223372036854775808 ≤ n ↔ n.testBit 63 = true) := by
    intro n hn
    rw [Nat.testBit_eq_decide_div_mod_eq, decide_eq_true_eq]
    omega
  have h : (x ^^^ y) < 2 ^ 64 := Nat.xor_lt_two_pow (by omega) (by omega)
  refine ⟨h, ?_⟩
  rw [key _ h, key _ hx, key _ hy, Nat.testBit_xor]
  cases x.testBit 63 <;> cases y.testBit 63 <;> simp
/-- the middle of two places -/
theorem middle_is {p q : Int} (hp : -9223372036854775808 ≤ p) (hp2 : p ≤ 9223372036854775807) (hq : -9223372036854775808 ≤ q) (hq2 : q ≤ 9223372036854775807) :
    bitsV .and .i64 p q + (bitsV .xor .i64 p q).fdiv (2 ^ min (Int.toNat 1) IntKind.i64.bits) = (p + q).fdiv 2 := by
  have e1 : (2 ^ min (Int.toNat 1) IntKind.i64.bits : Int) = 2 := by decide
  rw [e1]
  have X : ∀ z : Int, -9223372036854775808 ≤ z → z ≤ 9223372036854775807 → ∃ n : Nat, (BitVec.ofInt IntKind.i64.bits z).toNat = n ∧ n < 18446744073709551616 ∧ z = if 9223372036854775808 ≤ n then (n : Int) - 18446744073709551616 else n := by
    intro z h1 h2
    refine ⟨_, rfl, (BitVec.ofInt IntKind.i64.bits z).isLt, ?_⟩
    have : (BitVec.ofInt IntKind.i64.bits z).toNat = (z % 18446744073709551616).toNat := by rw [BitVec.toNat_ofInt]; rfl
    rw [this]
    split <;> omega
  obtain ⟨x, ex, hx, px⟩ := X p hp hp2
  obtain ⟨y, ey, hy, py⟩ := X q hq hq2
  have hs := two_and_xor 64 x y (by omega)
  have t1 := top_and hx hy
  have t2 := top_xor hx hy
  have ha : (x &&& y) < 18446744073709551616 := Nat.lt_of_le_of_lt Nat.and_le_left hx
  have W : ∀ n : Nat, n < 18446744073709551616 → IntKind.i64.wrap (n : Int) = if 9223372036854775808 ≤ n then (n : Int) - 18446744073709551616 else n := by
    intro n h
    simp only [IntKind.wrap, show IntKind.i64.bits = 64 from rfl, IntKind.signed, Bool.true_and, decide_eq_true_eq]
    split <;> split <;> omega
  have ea : bitsV .and .i64 p q = if 9223372036854775808 ≤ (x &&& y) then ((x &&& y : Nat) : Int) - 18446744073709551616 else ((x &&& y : Nat) : Int) := by
    simp only [bitsV, BitVec.toNat_and, ex, ey]
    exact W _ ha
  have eb : bitsV .xor .i64 p q = if 9223372036854775808 ≤ (x ^^^ y) then ((x ^^^ y : Nat) : Int) - 18446744073709551616 else ((x ^^^ y : Nat) : Int) := by
    simp only [bitsV, BitVec.toNat_xor, ex, ey]
    exact W _ t2.1
  rw [ea, eb]
  have fd : ∀ z : Int, z.fdiv 2 = z / 2 := fun z => Int.fdiv_eq_ediv_of_nonneg _ (by omega)
  rw [fd, fd]
  generalize (x &&& y) = A at *
  generalize (x ^^^ y) = B at *
  have t2' := t2.2
  clear ea eb W X ex ey fd e1 t2
  split at px <;> split at py <;> split <;> split <;> omega
theorem neg_word {n : Nat} (h : n < 9223372036854775808) : n ^^^ 9223372036854775808 = 9223372036854775808 + n := by
  have hs := two_and_xor 64 n 9223372036854775808 (by omega)
  have ha : n &&& 9223372036854775808 = 0 := by
    have := @top_and n 9223372036854775808 (by omega) (by omega)
    rcases Nat.eq_zero_or_pos (n &&& 9223372036854775808) with h0 | h0
    · exact h0
    · have key : ∀ i, (n &&& 9223372036854775808).testBit i = false := by
        intro i
        rw [Nat.testBit_and]
        by_cases hi : i = 63
        · subst hi
          rw [Nat.testBit_lt_two_pow (by omega)]; rfl
        · have : (9223372036854775808 : Nat) = 2 ^ 63 := by decide
          rw [this, Nat.testBit_two_pow]
          simp [Ne.symm hi]
      have : (n &&& 9223372036854775808) = 0 := Nat.eq_of_testBit_eq fun i => by rw [key i]; simp
      exact this
  omega
/-- the word of a place -/
def wd (p : Int) : Nat := if p < 0 then 9223372036854775808 + (-p).toNat else p.toNat
theorem rk_wd {p : Int} (h : -9218868437227405312 ≤ p) (h2 : p ≤ 9218868437227405312) : rk (wd p) = p ∧ wd p < 18446744073709551616 ∧ isnan (wd p) = false := by
  unfold rk wd isnan
  by_cases hp : p < 0
  · rw [if_pos hp]
    refine ⟨by rw [if_pos (by omega)]; omega, by omega, decide_eq_false (by omega)⟩
  · rw [if_neg hp]
    refine ⟨by rw [if_neg (by omega)]; omega, by omega, decide_eq_false (by omega)⟩
def finD (n : Nat) : Bool := decide (n % 9223372036854775808 < 9218868437227405312)
theorem finD_notnan {n : Nat} (h : finD n = true) : isnan n = false := by
  have := of_decide_eq_true h
  unfold isnan
  exact decide_eq_false (by omega)
theorem rk_bound {n : Nat} (h : n < 18446744073709551616) (hn : isnan n = false) : -9218868437227405312 ≤ rk n ∧ rk n ≤ 9218868437227405312 := by
  have := notnan hn
  unfold rk; split <;> omega
theorem rk_fin {n : Nat} (h : n < 18446744073709551616) (hn : finD n = true) : -9218868437227405311 ≤ rk n ∧ rk n ≤ 9218868437227405311 := by
  have := of_decide_eq_true hn
  unfold rk; split <;> omega
theorem feq_self {n : Nat} (h : n < 18446744073709551616) : feq (cn n) (cn n) = !isnan n := by
  rw [feq_rk (cn_lt h) (cn_lt h), isnan_cn]
  cases isnan n <;> simp
theorem andNot63 {n : Nat} (h : n < 18446744073709551616) : bitsV .andNot .u64 n 9223372036854775808 = ((n % 9223372036854775808 : Nat) : Int) := bitsV_andNot63 h
theorem fin_gt {n : Nat} (h : n < 18446744073709551616) : fgt (cn (n % 9223372036854775808)) (cn 9218868437227405311) = (!isnan n && !finD n) := by
  have e : cn 9218868437227405311 = 9218868437227405311 := by decide
  rw [e, fgt_rk (cn_lt (by omega)) (by omega), isnan_cn]
  have e2 : isnan (n % 9223372036854775808) = isnan n := by unfold isnan; rw [Nat.mod_mod]
  have e3 : isnan 9218868437227405311 = false := by decide
  rw [e2, e3]
  cases hn : isnan n with
  | true => rfl
  | false =>
    rw [cn_of_not (by rw [e2]; exact hn)]
    have := notnan hn
    unfold finD rk
    rw [if_neg (by omega), if_neg (by omega)]
    by_cases hf : n % 9223372036854775808 < 9218868437227405312
    · rw [decide_eq_true hf, decide_eq_false (by omega)]; rfl
    · rw [decide_eq_false hf, decide_eq_true (by omega)]; rfl
theorem fin_sub {n : Nat} (h : n < 18446744073709551616) : feq (fsub (cn n) (cn n)) (cn 0) = finD n := by
  cases hn : isnan n with
  | true =>
    have e : fsub (cn n) (cn n) = qn := by
      unfold fsub
      rw [sub_cn]
      unfold Ieee.Format.sub
      obtain ⟨s, t, e⟩ := read_of_nan hn
      rw [e]; rfl
    rw [e]
    have : finD n = false := by
      have : 9218868437227405312 < n % 9223372036854775808 := by simpa [isnan] using hn
      exact decide_eq_false (by omega)
    rw [this]; decide
  | false =>
    rw [fsub_self hn]
    unfold finD
    by_cases hf : n % 9223372036854775808 < 9218868437227405312
    · rw [if_pos hf, decide_eq_true hf]; decide
    · rw [if_neg hf, decide_eq_false hf]; decide
theorem flt_zero {n : Nat} (h : n < 18446744073709551616) (hn : isnan n = false) : flt (cn n) (cn 0) = decide (rk n < 0) := by
  have e : cn 0 = 0 := by decide
  rw [e, flt_rk (cn_lt h) (by omega), isnan_cn, hn, cn_of_not hn]
  have : isnan 0 = false := by decide
  rw [this]
  show (true && true && decide (rk n < rk 0)) = _
  have : rk 0 = 0 := by decide
  rw [this]; rfl
theorem shr63 {n : Nat} (h : n < 18446744073709551616) : decide ((n : Int).fdiv (2 ^ min (Int.toNat 63) IntKind.u64.bits) = 1) = decide (9223372036854775808 ≤ n) := by
  have e1 : (2 ^ min (Int.toNat 63) IntKind.u64.bits : Int) = 9223372036854775808 := by decide
  rw [e1, Int.fdiv_eq_ediv_of_nonneg _ (by omega)]
  apply decide_eq_decide.2
  omega
theorem or63 {n : Int} (h : 0 < n) (h2 : n < 9223372036854775808) : bitsV .or .u64 n 9223372036854775808 = 9223372036854775808 + n := by
  obtain ⟨m, rfl⟩ := Int.eq_ofNat_of_zero_le (show 0 ≤ n by omega)
  simp only [bitsV]
  rw [BitVec.toNat_or]
  have a : (BitVec.ofInt IntKind.u64.bits (m : Int)).toNat = m := by
    show (BitVec.ofInt 64 (m : Int)).toNat = m
    rw [BitVec.toNat_ofInt]; omega
  have b : (BitVec.ofInt IntKind.u64.bits 9223372036854775808).toNat = 9223372036854775808 := by decide
  rw [a, b]
  have : (m ||| 9223372036854775808) = 9223372036854775808 + m := by
    have := Nat.two_pow_add_eq_or_of_lt (i := 63) (b := m) (by omega) 1
    rw [Nat.mul_one] at this
    rw [Nat.or_comm]
    exact this.symm
  rw [this, wrap_u64 (by omega)]
  omega
end Go.Sx
