/- THE KIND OF A FLOAT, by its bits; a NaN is a NaN. -/
import Derived.Test.YtehhljcjdiokjaaSyE
set_option linter.unusedSimpArgs false
set_option linter.unusedVariables false
namespace Go.Sx
def kE (n : Nat) : Int := bitsV BinOp.and IntKind.u64 ((n : Int).fdiv (2 ^ min (Int.toNat 52) IntKind.u64.bits)) 2047
def kR (n : Nat) : Int := IntKind.u64.wrap ((n : Int) * 2 ^ min (Int.toNat 12) IntKind.u64.bits)
theorem kE_is {n : Nat} (h : n < 18446744073709551616) : kE n = ((n / 4503599627370496 % 2048 : Nat) : Int) := by
  unfold kE
  have e1 : (2 ^ min (Int.toNat 52) IntKind.u64.bits : Int) = 4503599627370496 := by decide
  rw [e1]
  have e2 : (n : Int).fdiv 4503599627370496 = ((n / 4503599627370496 : Nat) : Int) := by
    rw [Int.fdiv_eq_ediv_of_nonneg _ (by omega)]; rfl
  rw [e2]
  simp only [bitsV]
  have e3 : IntKind.u64.bits = 64 := rfl
  rw [e3]
  have e4 : (BitVec.ofInt 64 ((n / 4503599627370496 : Nat) : Int) &&& BitVec.ofInt 64 2047).toNat = n / 4503599627370496 % 2048 := by
    rw [BitVec.toNat_and]
    have a : (BitVec.ofInt 64 ((n / 4503599627370496 : Nat) : Int)).toNat = n / 4503599627370496 := by
      rw [BitVec.toNat_ofInt]; omega
    have b : (BitVec.ofInt 64 2047).toNat = 2 ^ 11 - 1 := by decide
    rw [a, b, Nat.and_two_pow_sub_one_eq_mod]
  rw [e4]
  simp only [IntKind.wrap, e3, IntKind.signed, Bool.false_and, Bool.false_eq_true, if_false]
  omega
theorem kR_is {n : Nat} (h : n < 18446744073709551616) : kR n = ((n * 4096 % 18446744073709551616 : Nat) : Int) := by
  unfold kR
  have e1 : (2 ^ min (Int.toNat 12) IntKind.u64.bits : Int) = 4096 := by decide
  have e3 : IntKind.u64.bits = 64 := rfl
  rw [e1]
  simp only [IntKind.wrap, e3, IntKind.signed, Bool.false_and, Bool.false_eq_true, if_false]
  omega
def kindDef (n : Nat) : Int := bif decide (kE n = 0) then (bif decide (kR n = 0) then 0 else 1) else bif decide (kE n < 2047) then 2 else bif decide (kR n = 0) then 3 else 4
theorem kind_nan {n : Nat} (h : n < 18446744073709551616) (hn : isnan n = true) : kindDef n = 4 := by
  unfold kindDef
  rw [kE_is h, kR_is h]
  have hn' : 9218868437227405312 < n % 9223372036854775808 := by simpa [isnan] using hn
  have a : ¬ (((n / 4503599627370496 % 2048 : Nat) : Int) = 0) := by omega
  have b : ¬ (((n / 4503599627370496 % 2048 : Nat) : Int) < 2047) := by omega
  have c : ¬ (((n * 4096 % 18446744073709551616 : Nat) : Int) = 0) := by omega
  rw [decide_eq_false a, decide_eq_false b, decide_eq_false c]; rfl
theorem kind_cn {n : Nat} (h : n < 18446744073709551616) : kindDef (cn n) = kindDef n := by
  cases hn : isnan n with
  | false => rw [cn_of_not hn]
  | true => rw [cn_of_nan hn, kind_nan h hn]; exact kind_nan (by decide) isnan_qn
end Go.Sx
