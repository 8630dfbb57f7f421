/- OPPOSITES AND HALVES: sizes, order, noughts. -/
import Derived.Test.YtehhljcjdiokjaaSyY
set_option linter.unusedSimpArgs false
set_option linter.unusedVariables false
noncomputable section
namespace Go.Sx

theorem fneg_lt {x : Nat} (h : x < 18446744073709551616) : fneg x < 18446744073709551616 := by
  unfold fneg
  exact cn_lt (top_xor h (by omega)).1
theorem fneg_fw {x : Nat} (h : x < 18446744073709551616) : Fw (fneg x) := ⟨fneg_lt h, by unfold fneg; exact cn_cn _⟩
theorem fneg_cases (x : Nat) : (isnan x = true ∧ fneg x = qn) ∨ (isnan x = false ∧ fneg x % 9223372036854775808 = x % 9223372036854775808 ∧ isnan (fneg x) = false) := by
  cases h : isnan x with
  | true => exact .inl ⟨rfl, by unfold fneg; exact cn_of_nan (by rw [isnan_xor63]; exact h)⟩
  | false =>
    have e : fneg x = x ^^^ 9223372036854775808 := by unfold fneg; exact cn_of_not (by rw [isnan_xor63]; exact h)
    exact .inr ⟨rfl, by rw [e]; exact xor63_mod x, by rw [e, isnan_xor63]; exact h⟩
theorem fabs_fneg (x : Nat) : fabs (fneg x) = fabs x := by
  rcases fneg_cases x with ⟨h, e⟩ | ⟨h, e, _⟩
  · rw [e]
    have e2 : fabs x = qn := by unfold fabs; exact cn_of_nan (by unfold isnan at h ⊢; rw [Nat.mod_mod]; exact h)
    rw [e2]; decide
  · unfold fabs; rw [e]
theorem fin_fneg (x : Nat) : feq (fsub (fneg x) (fneg x)) 0 = feq (fsub x x) 0 := by
  rw [Bool.eq_iff_iff, fin_iff, fin_iff]
  rcases fneg_cases x with ⟨h, e⟩ | ⟨h, e, _⟩
  · rw [e]
    unfold isnan at h
    have := of_decide_eq_true h
    constructor
    · intro hh; exact absurd hh (by decide)
    · intro hh; omega
  · rw [e]
theorem zero_iff {x : Nat} (h : x < 18446744073709551616) : feq x 0 = true ↔ x % 9223372036854775808 = 0 := by
  rw [feq_rk h (by omega)]
  have r0 : rk 0 = 0 := by decide
  have n0 : isnan 0 = false := by decide
  rw [r0, n0]
  have key : rk x = 0 ↔ x % 9223372036854775808 = 0 := by
    unfold rk; split <;> omega
  cases hn : isnan x with
  | true =>
    unfold isnan at hn
    have := of_decide_eq_true hn
    simp; omega
  | false => simp [key]
theorem zero_fneg {x : Nat} (h : x < 18446744073709551616) : feq (fneg x) 0 = feq x 0 := by
  rw [Bool.eq_iff_iff, zero_iff (fneg_lt h), zero_iff h]
  rcases fneg_cases x with ⟨hn, e⟩ | ⟨hn, e, _⟩
  · rw [e]
    unfold isnan at hn
    have := of_decide_eq_true hn
    constructor
    · intro hh; exact absurd hh (by decide)
    · intro hh; omega
  · rw [e]

/-! ### halves -/
theorem fmul_lt (x y : Nat) : fmul x y < 18446744073709551616 := by
  unfold fmul Ieee.Format.mul
  cases (Ieee.double.read x).product (Ieee.double.read y) with
  | none => show qn < _; decide
  | some d => exact write_lt d
theorem nearU_le (S : Nat) : nearU S ≤ 9218868437227405312 := by
  by_cases h : S = 0
  · subst h; rw [nearU_zero]; omega
  · rw [nearU_is h]; exact Nat.min_le_right _ _
theorem near_at (s : Bool) {T : Nat} {p : Int} (hp : -1074 ≤ p) : Ieee.double.nearest s T p = Ieee.double.word s (nearU (T * 2 ^ (p - -1074).toNat)) := by
  by_cases h : T = 0
  · subst h
    rw [Nat.zero_mul, nearU_zero]; rfl
  · have h2 : T * 2 ^ (p - -1074).toNat ≠ 0 := Nat.mul_ne_zero h (Nat.ne_of_gt (Nat.two_pow_pos _))
    rw [nearest_is s h, nearU_is h2]
    have e := rung_scale false h (p - -1074).toNat p
    rw [show p - ((p - -1074).toNat : Int) = -1074 by omega] at e
    rw [e]
    rfl
/-- the sum of two sizes -/
theorem fadd_U {x y : Nat} (hx : x < 9218868437227405312) (hy : y < 9218868437227405312) : fadd x y = nearU (U x + U y) := by
  have ex : x % 9223372036854775808 = x := by omega
  have ey : y % 9223372036854775808 = y := by omega
  obtain ⟨m, i, e1, i1, u1⟩ := read_fin (x := x) (by omega)
  obtain ⟨n, j, e2, j1, u2⟩ := read_fin (x := y) (by omega)
  rw [ex] at u1
  rw [ey] at u2
  have sx : (x / 9223372036854775808 % 2 == 1) = false := by rw [show x / 9223372036854775808 = 0 by omega]; rfl
  have sy : (y / 9223372036854775808 % 2 == 1) = false := by rw [show y / 9223372036854775808 = 0 by omega]; rfl
  rw [sx] at e1
  rw [sy] at e2
  unfold fadd Ieee.Format.add
  rw [e1, e2]
  have tot : Ieee.signed false m (i - min i j).toNat + Ieee.signed false n (j - min i j).toNat = ((m * 2 ^ (i - min i j).toNat + n * 2 ^ (j - min i j).toNat : Nat) : Int) := by
    unfold Ieee.signed
    simp [Nat.shiftLeft_eq]
  simp only [Ieee.Datum.sum, tot, Option.map_some, Option.getD_some, Int.natAbs_natCast]
  have hs : (if ((m * 2 ^ (i - min i j).toNat + n * 2 ^ (j - min i j).toNat : Nat) : Int) = 0 then (false && false) else decide (((m * 2 ^ (i - min i j).toNat + n * 2 ^ (j - min i j).toNat : Nat) : Int) < 0)) = false := by
    split
    · rfl
    · exact decide_eq_false (by omega)
  rw [hs]
  show Ieee.double.nearest false _ _ = _
  rw [near_at false (by omega), word_false, Nat.add_mul, Nat.mul_assoc, Nat.mul_assoc, ← Nat.pow_add, ← Nat.pow_add, show (i - min i j).toNat + (min i j - -1074).toNat = (i - -1074).toNat by omega, show (j - min i j).toNat + (min i j - -1074).toNat = (j - -1074).toNat by omega, u1, u2]
/-- a number and itself -/
theorem fadd_self {h : Nat} (hf : h % 9223372036854775808 < 9218868437227405312) : fadd h h = Ieee.double.word (h / 9223372036854775808 % 2 == 1) (nearU (2 * U (h % 9223372036854775808))) := by
  obtain ⟨m, i, e1, i1, u1⟩ := read_fin hf
  generalize (h / 9223372036854775808 % 2 == 1) = s at e1 ⊢
  unfold fadd Ieee.Format.add
  rw [e1]
  have hmin : min i i = i := by omega
  simp only [Ieee.Datum.sum, hmin, Option.map_some, Option.getD_some]
  have e0 : (i - i).toNat = 0 := by omega
  rw [e0]
  have tot : (Ieee.signed s m 0 + Ieee.signed s m 0).natAbs = 2 * m := by
    unfold Ieee.signed
    cases s <;> simp <;> omega
  have hs : (if Ieee.signed s m 0 + Ieee.signed s m 0 = 0 then (s && s) else decide (Ieee.signed s m 0 + Ieee.signed s m 0 < 0)) = s := by
    unfold Ieee.signed
    cases s
    · simp; omega
    · simp; omega
  rw [tot, hs]
  show Ieee.double.nearest s (2 * m) i = _
  rw [near_at s i1, Nat.mul_assoc, u1]
theorem word_mod (s : Bool) {r : Nat} (h : r < 9223372036854775808) : Ieee.double.word s r % 9223372036854775808 = r := by
  unfold Ieee.Format.word
  rw [sgn_is]
  cases s
  · show r % _ = r; omega
  · show (9223372036854775808 + r) % _ = r; omega
theorem word_lt (s : Bool) {r : Nat} (h : r < 9223372036854775808) : Ieee.double.word s r < 18446744073709551616 := by
  unfold Ieee.Format.word
  rw [sgn_is]
  cases s
  · show r < _; omega
  · show 9223372036854775808 + r < _; omega
/-- of what is as great as a finite number twice over -/
theorem half_of {h x : Nat} (hl : h < 18446744073709551616) (xl : x < 18446744073709551616) (hx : x % 9223372036854775808 < 9218868437227405312) (e : feq (fadd h h) x = true) :
    h % 9223372036854775808 < 9218868437227405312 ∧ nearU (2 * U (h % 9223372036854775808)) = x % 9223372036854775808 ∧ U (x % 9223372036854775808) = 2 * U (h % 9223372036854775808) := by
  have hf : h % 9223372036854775808 < 9218868437227405312 := by
    refine Nat.lt_of_not_le fun hge => ?_
    by_cases hn : isnan h = true
    · obtain ⟨s, t, er⟩ := read_of_nan hn
      have : fadd h h = qn := by unfold fadd Ieee.Format.add; rw [er]; rfl
      rw [this, feq_rk (by decide) xl] at e
      have hq : isnan qn = true := by decide
      rw [hq] at e; simp at e
    · have hi : h % 9223372036854775808 = 9218868437227405312 := by
        have : isnan h = false := by cases hq : isnan h <;> simp_all
        unfold isnan at this
        have := of_decide_eq_false this
        omega
      have : fadd h h = Ieee.double.word (h / 9223372036854775808 % 2 == 1) 9218868437227405312 := by
        unfold fadd Ieee.Format.add
        rw [read_inf hi]
        simp only [Ieee.Datum.sum, if_true, Option.map_some, Option.getD_some]
        rfl
      rw [this, feq_rk (word_lt _ (by omega)) xl] at e
      simp only [Bool.and_eq_true, decide_eq_true_eq] at e
      have hr := e.2
      have hm := word_mod (h / 9223372036854775808 % 2 == 1) (r := 9218868437227405312) (by omega)
      have hl2 := word_lt (h / 9223372036854775808 % 2 == 1) (r := 9218868437227405312) (by omega)
      generalize Ieee.double.word (h / 9223372036854775808 % 2 == 1) 9218868437227405312 = W at hr hm hl2
      unfold rk at hr
      split at hr <;> split at hr <;> omega
  have hN := nearU_le (2 * U (h % 9223372036854775808))
  rw [fadd_self hf, feq_rk (word_lt _ (by omega)) xl] at e
  simp only [Bool.and_eq_true, decide_eq_true_eq] at e
  have hr := e.2
  have hm := word_mod (h / 9223372036854775808 % 2 == 1) (r := nearU (2 * U (h % 9223372036854775808))) (by omega)
  have hl2 := word_lt (h / 9223372036854775808 % 2 == 1) (r := nearU (2 * U (h % 9223372036854775808))) (by omega)
  have hw : nearU (2 * U (h % 9223372036854775808)) = x % 9223372036854775808 := by
    rw [← hm]
    generalize Ieee.double.word (h / 9223372036854775808 % 2 == 1) (nearU (2 * U (h % 9223372036854775808))) = W at hr hm hl2
    unfold rk at hr
    split at hr <;> split at hr <;> omega
  refine ⟨hf, hw, ?_⟩
  rw [← hw]
  exact U_twice (by rw [hw]; exact hx) hf
theorem fabs_fin {x : Nat} (h : x % 9223372036854775808 < 9218868437227405312) : fabs x = x % 9223372036854775808 := by
  unfold fabs
  exact cn_of_not (by unfold isnan; exact decide_eq_false (by rw [Nat.mod_mod]; omega))
theorem size1_U {a b : Nat} (ha : a % 9223372036854775808 < 9218868437227405312) (hb : b % 9223372036854775808 < 9218868437227405312) : size1 a b = nearU (U (a % 9223372036854775808) + U (b % 9223372036854775808)) := by
  unfold size1
  rw [fabs_fin ha, fabs_fin hb]
  exact fadd_U ha hb
theorem fgt_pos {x y : Nat} (hx : x ≤ 9218868437227405312) (hy : y ≤ 9218868437227405312) : fgt x y = decide (y < x) := by
  rw [fgt_rk (by omega) (by omega)]
  have n1 : isnan x = false := by unfold isnan; exact decide_eq_false (by omega)
  have n2 : isnan y = false := by unfold isnan; exact decide_eq_false (by omega)
  rw [n1, n2]
  have : (rk y < rk x) ↔ y < x := by unfold rk; rw [if_neg (by omega), if_neg (by omega)]; omega
  simp [this]
/-- a law whose code was walked in pieces -/
theorem goes_true {P : Program} {f : FuncId} {fn : Func} {c : Code} (hf : P.funcs[f]? = some fn) (hb : fn.body = some c) (hname : (fn.name == "runtime.NumGoroutine") = false) {args : List AV} {bl : List (Nat × ABk)} {K K' t : Nat} (hres : fn.results.toList = [.tmp t])
    (h : GoesB P c fn.ntmps K K K' (frameOf args 0 .e) (hpL bl) fun e fr' H' => (e = .ret ∨ e = .normal) ∧ ∃ u, fr'.get t = some u ∧ AV.ge u (.bool true)) {μ : MM} {w : World} (hg : GOk K μ w.heap (hpL bl)) (hno : ∀ B, ¬ May μ (hpL bl) B) {cargs : Array Value} (ha : Reps K μ args cargs.toList) :
    Calls P f cargs w fun e w' => e = .returned (.bool true) ∧ RowKit.Below w.heap.size w w' := by
  have hc := GoesB.call hf hb hname (V := fun u H' => AV.ge u (.bool true)) (h.mono fun e fr' H' ⟨k1, u, k2, k3⟩ => ⟨k1, [u], _, res1 hres k2, trivial, k3⟩) μ w hg ha
  have main : ∀ c w', (∃ v μ' H', AV.ge v (.bool true) ∧ Rep K' μ' v c ∧ GOk K' μ' w'.heap H' ∧ ExtB K (hpL bl) μ w H' μ' w') → c = .bool true ∧ RowKit.Below w.heap.size w w' := by
    rintro c w' ⟨v, μ', H', h1, h2, _, hE⟩
    have := h1 _ _ _ h2
    simp only [Rep] at this
    exact ⟨this, hE.os, hE.tape, hE.output, hE.size, fun k hk => hE.block k hk (hno k)⟩
  rcases hc with ⟨cv, w', e, _⟩ | ⟨f', args', w', e, hc⟩
  · rw [run_enter hf hname hb] at e; cases e
  · rw [run_enter hf hname hb] at e
    cases e
    refine hc.mono ?_
    rintro e1 w1 ⟨cv, rfl, h1⟩
    obtain ⟨h2, h3⟩ := main cv w1 h1
    exact ⟨by rw [h2], h3⟩
end Go.Sx
