/- THE FIRST GREATEST; weights of finite numbers. -/
import Derived.Test.YtehhljcjdiokjaaSyU
set_option linter.unusedSimpArgs false
set_option linter.unusedVariables false
noncomputable section
namespace Go.Sx

/-- the place that a loop keeps: of n places from f on the first that none is greater than -/
def bst (gt : Nat → Nat → Bool) (f : Nat) : Nat → Nat
  | 0 => f
  | n + 1 => bif gt (f + n) (bst gt f n) then f + n else bst gt f n
theorem bst_le (gt : Nat → Nat → Bool) (f : Nat) : ∀ n, f ≤ bst gt f n ∧ bst gt f n ≤ f + n ∧ (0 < n → bst gt f n < f + n)
  | 0 => ⟨Nat.le_refl _, Nat.le_refl _, fun h => absurd h (by omega)⟩
  | n + 1 => by
    obtain ⟨h1, h2, h3⟩ := bst_le gt f n
    simp only [bst]
    cases gt (f + n) (bst gt f n)
    · simp only [cond_false]; omega
    · simp only [cond_true]; omega
theorem bst_congr {gt gt' : Nat → Nat → Bool} {f : Nat} : ∀ {n : Nat}, (∀ k i, f ≤ k → k < f + n → f ≤ i → i < f + n → gt k i = gt' k i) → bst gt f n = bst gt' f n
  | 0, _ => rfl
  | n + 1, h => by
    have ih := bst_congr (n := n) fun k i a b c d => h k i a (by omega) c (by omega)
    have hm := bst_le gt' f n
    simp only [bst, ih]
    rw [h (f + n) (bst gt' f n) (by omega) (by omega) hm.1 (by omega)]
/-- the order that the choice goes by -/
def Ordered (gt : Nat → Nat → Bool) (w : Nat → Int) (f n : Nat) : Prop := ∀ k i, f ≤ k → k < f + n → f ≤ i → i < f + n → gt k i = decide (w i < w k)
theorem bst_greatest {gt : Nat → Nat → Bool} {w : Nat → Int} {f : Nat} : ∀ {n : Nat}, 0 < n → Ordered gt w f n → (∀ k, f ≤ k → k < f + n → w k ≤ w (bst gt f n)) ∧ ∀ k, f ≤ k → k < bst gt f n → w k < w (bst gt f n)
  | 0, h, _ => absurd h (by omega)
  | 1, _, h => by
    have e : bst gt f 1 = f := by simp [bst]
    rw [e]
    exact ⟨fun k h1 h2 => by rw [show k = f by omega]; exact Int.le_refl _, fun k h1 h2 => by omega⟩
  | n + 2, _, h => by
    obtain ⟨i1, i2⟩ := bst_greatest (gt := gt) (w := w) (f := f) (n := n + 1) (by omega) fun k i a b c d => h k i a (by omega) c (by omega)
    obtain ⟨l1, l2, l3⟩ := bst_le gt f (n + 1)
    have l3 := l3 (by omega)
    have hg := h (f + (n + 1)) (bst gt f (n + 1)) (by omega) (by omega) l1 (by omega)
    rw [bst]
    cases hc : gt (f + (n + 1)) (bst gt f (n + 1)) with
    | true =>
      rw [hc] at hg
      have hlt := of_decide_eq_true hg.symm
      rw [cond_true]
      refine ⟨fun k h1 h2 => ?_, fun k h1 h2 => ?_⟩
      · by_cases e : k < f + (n + 1)
        · exact Int.le_of_lt (Int.lt_of_le_of_lt (i1 k h1 e) hlt)
        · rw [show k = f + (n + 1) by omega]; exact Int.le_refl _
      · exact Int.lt_of_le_of_lt (i1 k h1 h2) hlt
    | false =>
      rw [hc] at hg
      have hge := of_decide_eq_false hg.symm
      rw [cond_false]
      refine ⟨fun k h1 h2 => ?_, i2⟩
      by_cases e : k < f + (n + 1)
      · exact i1 k h1 e
      · rw [show k = f + (n + 1) by omega]; omega
theorem cd_step (p : Nat → Bool) (f n : Nat) : cd (∀ j, f ≤ j → j < f + (n + 1) → p j = true) = (cd (∀ j, f ≤ j → j < f + n → p j = true) && p (f + n)) := by
  by_cases h : ∀ j, f ≤ j → j < f + n → p j = true
  · rw [cd_true h, Bool.true_and]
    cases hp : p (f + n) with
    | true =>
      refine cd_true fun j h1 h2 => ?_
      by_cases e : j < f + n
      · exact h j h1 e
      · rw [show j = f + n by omega]; exact hp
    | false => exact cd_false fun hh => by have := hh (f + n) (by omega) (by omega); rw [hp] at this; cases this
  · rw [cd_false h, Bool.false_and]
    exact cd_false fun hh => h fun j h1 h2 => hh j h1 (by omega)
theorem cd_congr {p q : Prop} (h : p ↔ q) : cd p = cd q := by rw [propext h]

/-! ### weights -/
theorem write_lt (d : Ieee.Datum) : Ieee.double.write d < 18446744073709551616 := by
  have hb := bin_is
  have hi := inf_is
  have hs := sgn_is
  have wd : ∀ s r, r < 9218868437227405312 + 4503599627370496 → Ieee.double.word s r < 18446744073709551616 := fun s r h => by
    unfold Ieee.Format.word
    rw [hs]
    cases s
    · show r < 18446744073709551616; omega
    · show 9223372036854775808 + r < 18446744073709551616; omega
  cases d with
  | number s m p =>
    unfold Ieee.Format.write Ieee.Format.nearest
    dsimp only
    split
    · exact wd _ _ (by omega)
    · exact wd _ _ (Nat.lt_of_le_of_lt (Nat.min_le_right ..) (by omega))
  | infinity s => exact wd _ _ (by omega)
  | nan s r => exact wd _ _ (by rw [hi, hb]; have := Nat.mod_lt r (show 0 < 4503599627370496 by omega); omega)
theorem fadd_lt (x y : Nat) : fadd x y < 18446744073709551616 := by
  unfold fadd Ieee.Format.add
  cases (Ieee.double.read x).sum (Ieee.double.read y) with
  | none => show qn < _; decide
  | some d => exact write_lt d
theorem isnan_fabs (x : Nat) : isnan (fabs x) = isnan x := by
  unfold fabs
  rw [isnan_cn]
  unfold isnan
  rw [Nat.mod_mod]
theorem fabs_pos (x : Nat) : fabs x < 9223372036854775808 := cn_pos (Nat.mod_lt _ (by omega))
theorem fadd_nn {x y : Nat} (hx : x < 9223372036854775808) (hy : y < 9223372036854775808) (nx : isnan x = false) (ny : isnan y = false) : isnan (fadd x y) = false := by
  have rx := read_nan x
  have ry := read_nan y
  rw [nx] at rx
  rw [ny] at ry
  have : ∃ r, Ieee.double.add x y = some r := by
    unfold Ieee.Format.add
    rcases read_pos hx with e | e | ⟨m, i, e⟩
    · rw [e] at rx; cases rx
    all_goals
      rcases read_pos hy with f | f | ⟨n, j, f⟩
      · rw [f] at ry; cases ry
      all_goals
        rw [e, f]
        exact ⟨_, rfl⟩
  obtain ⟨r, h⟩ := this
  unfold fadd
  rw [h]
  exact add_notNaN h
theorem fin_nn {a : Nat} (h : feq (fsub a a) 0 = true) : isnan a = false := by
  cases hn : isnan a with
  | false => rfl
  | true =>
    obtain ⟨s, t, e⟩ := read_of_nan hn
    have : fsub a a = qn := by unfold fsub Ieee.Format.sub; rw [e]; rfl
    rw [this] at h
    exact absurd h (by decide)
def size1 (a b : Nat) : Nat := fadd (fabs a) (fabs b)
theorem size1_lt (a b : Nat) : size1 a b < 18446744073709551616 := fadd_lt _ _
theorem size1_nn {a b : Nat} (ha : isnan a = false) (hb : isnan b = false) : isnan (size1 a b) = false :=
  fadd_nn (fabs_pos a) (fabs_pos b) (by rw [isnan_fabs]; exact ha) (by rw [isnan_fabs]; exact hb)
theorem size1_gt {a b c d : Nat} (ha : isnan a = false) (hb : isnan b = false) (hc : isnan c = false) (hd : isnan d = false) : fgt (size1 a b) (size1 c d) = decide (rk (size1 c d) < rk (size1 a b)) := by
  rw [fgt_rk (size1_lt _ _) (size1_lt _ _), size1_nn ha hb, size1_nn hc hd]
  simp
end Go.Sx
