/- Floats up to the bits of a NaN: 'cn' takes all NaNs to one; the operations on such canonical words; what a run of the model's operations gives, by 'cn'. No program in sight. -/
import Derived.Laws.FloatArith
import Derived.Laws.ComplexArith
import Derived.Laws.World
set_option linter.unusedSimpArgs false
set_option linter.unusedVariables false
noncomputable section
namespace Go.Sx

/-- is this word a NaN? -/
def isnan (b : Nat) : Bool := decide (9218868437227405312 < b % 9223372036854775808)
/-- the one NaN that stands for all -/
def qn : Nat := 9221120237041090561
/-- canonical -/
def cn (b : Nat) : Nat := bif isnan b then qn else b

theorem isnan_qn : isnan qn = true := by decide
theorem read_nan (b : Nat) : (Ieee.double.read b).isNaN = isnan b := by
  have hs : Ieee.double.signWeight = 9223372036854775808 := by decide
  have hb : Ieee.double.binade = 4503599627370496 := by decide
  have hi : Ieee.double.infRung = 9218868437227405312 := by decide
  unfold Ieee.Format.read isnan
  simp only [hs, hb, hi]
  have hlt : b % 9223372036854775808 < 9223372036854775808 := Nat.mod_lt _ (by decide)
  generalize b % 9223372036854775808 = r at hlt ⊢
  by_cases h1 : r < 4503599627370496
  · simp [h1, Ieee.Datum.isNaN]
    omega
  · by_cases h2 : r < 9218868437227405312
    · simp [h1, h2, Ieee.Datum.isNaN]
      omega
    · by_cases h3 : r = 9218868437227405312
      · simp [h3, Ieee.Datum.isNaN]
      · simp [h1, h2, h3, Ieee.Datum.isNaN]
        omega

theorem cn_cn (b : Nat) : cn (cn b) = cn b := by
  unfold cn
  cases h : isnan b
  · simp [h]
  · simp [isnan_qn]
theorem isnan_cn (b : Nat) : isnan (cn b) = isnan b := by
  unfold cn
  cases h : isnan b
  · simp [h]
  · simp [isnan_qn]
theorem cn_of_not {b : Nat} (h : isnan b = false) : cn b = b := by simp [cn, h]
theorem cn_of_nan {b : Nat} (h : isnan b = true) : cn b = qn := by simp [cn, h]

theorem read_of_nan {b : Nat} (h : isnan b = true) : ∃ s t, Ieee.double.read b = .nan s t := by
  have h' := read_nan b
  rw [h] at h'
  cases hr : Ieee.double.read b <;> simp [hr, Ieee.Datum.isNaN] at h'
  exact ⟨_, _, rfl⟩

/-- 'op' on canonical words -/
def fadd (x y : Nat) : Nat := (Ieee.double.add x y).getD qn
def fsub (x y : Nat) : Nat := (Ieee.double.sub x y).getD qn
def fmul (x y : Nat) : Nat := (Ieee.double.mul x y).getD qn
def fdiv (x y : Nat) : Nat := (Ieee.double.div x y).getD qn
def fsqrt (x : Nat) : Nat := (Ieee.double.sqrt x).getD qn
def ffma (x y z : Nat) : Nat := (Ieee.double.fma x y z).getD qn
def forder (x y : Nat) : Option Ordering := Ieee.double.order x y
def feq (x y : Nat) : Bool := forder x y == some .eq
def flt (x y : Nat) : Bool := forder x y == some .lt
def fle (x y : Nat) : Bool := forder x y == some .lt || forder x y == some .eq
def fgt (x y : Nat) : Bool := forder x y == some .gt
def fge (x y : Nat) : Bool := forder x y == some .gt || forder x y == some .eq
def fneg (x : Nat) : Nat := cn (x ^^^ 9223372036854775808)
def fabs (x : Nat) : Nat := cn (x % 9223372036854775808)

/-- every operation looks at its operands' data alone, and a NaN is a NaN -/
theorem add_cn (a b : Nat) : Ieee.double.add (cn a) (cn b) = Ieee.double.add a b := by
  unfold cn Ieee.Format.add
  cases ha : isnan a <;> cases hb : isnan b <;> simp
  · obtain ⟨s, t, h1⟩ := read_of_nan hb
    obtain ⟨s', t', h2⟩ := read_of_nan isnan_qn
    rw [h1, h2]; cases Ieee.double.read a <;> simp [Ieee.Datum.sum]
  · obtain ⟨s, t, h1⟩ := read_of_nan ha
    obtain ⟨s', t', h2⟩ := read_of_nan isnan_qn
    rw [h1, h2]; cases Ieee.double.read b <;> simp [Ieee.Datum.sum]
  · obtain ⟨s, t, h1⟩ := read_of_nan ha
    obtain ⟨s', t', h2⟩ := read_of_nan isnan_qn
    rw [h1, h2]; simp [Ieee.Datum.sum]
theorem sub_cn (a b : Nat) : Ieee.double.sub (cn a) (cn b) = Ieee.double.sub a b := by
  unfold cn Ieee.Format.sub
  cases ha : isnan a <;> cases hb : isnan b <;> simp
  · obtain ⟨s, t, h1⟩ := read_of_nan hb
    obtain ⟨s', t', h2⟩ := read_of_nan isnan_qn
    rw [h1, h2]; cases Ieee.double.read a <;> simp [Ieee.Datum.sum, Ieee.Datum.opposite]
  · obtain ⟨s, t, h1⟩ := read_of_nan ha
    obtain ⟨s', t', h2⟩ := read_of_nan isnan_qn
    rw [h1, h2]; cases Ieee.double.read b <;> simp [Ieee.Datum.sum, Ieee.Datum.opposite]
  · obtain ⟨s, t, h1⟩ := read_of_nan ha
    obtain ⟨s', t', h2⟩ := read_of_nan isnan_qn
    rw [h1, h2]; simp [Ieee.Datum.sum, Ieee.Datum.opposite]
theorem mul_cn (a b : Nat) : Ieee.double.mul (cn a) (cn b) = Ieee.double.mul a b := by
  unfold cn Ieee.Format.mul
  cases ha : isnan a <;> cases hb : isnan b <;> simp
  · obtain ⟨s, t, h1⟩ := read_of_nan hb
    obtain ⟨s', t', h2⟩ := read_of_nan isnan_qn
    rw [h1, h2]; cases Ieee.double.read a <;> simp [Ieee.Datum.product]
  · obtain ⟨s, t, h1⟩ := read_of_nan ha
    obtain ⟨s', t', h2⟩ := read_of_nan isnan_qn
    rw [h1, h2]; cases Ieee.double.read b <;> simp [Ieee.Datum.product]
  · obtain ⟨s, t, h1⟩ := read_of_nan ha
    obtain ⟨s', t', h2⟩ := read_of_nan isnan_qn
    rw [h1, h2]; simp [Ieee.Datum.product]
theorem div_cn (a b : Nat) : Ieee.double.div (cn a) (cn b) = Ieee.double.div a b := by
  unfold cn Ieee.Format.div
  cases ha : isnan a <;> cases hb : isnan b <;> simp
  · obtain ⟨s, t, h1⟩ := read_of_nan hb
    obtain ⟨s', t', h2⟩ := read_of_nan isnan_qn
    rw [h1, h2]; cases Ieee.double.read a <;> simp [Ieee.Datum.quotient]
  · obtain ⟨s, t, h1⟩ := read_of_nan ha
    obtain ⟨s', t', h2⟩ := read_of_nan isnan_qn
    rw [h1, h2]; cases Ieee.double.read b <;> simp [Ieee.Datum.quotient]
  · obtain ⟨s, t, h1⟩ := read_of_nan ha
    obtain ⟨s', t', h2⟩ := read_of_nan isnan_qn
    rw [h1, h2]; simp [Ieee.Datum.quotient]
theorem order_cn (a b : Nat) : Ieee.double.order (cn a) (cn b) = Ieee.double.order a b := by
  unfold cn Ieee.Format.order
  cases ha : isnan a <;> cases hb : isnan b <;> simp
  · obtain ⟨s, t, h1⟩ := read_of_nan hb
    obtain ⟨s', t', h2⟩ := read_of_nan isnan_qn
    rw [h1, h2]; cases Ieee.double.read a <;> simp [Ieee.Datum.order]
  · obtain ⟨s, t, h1⟩ := read_of_nan ha
    obtain ⟨s', t', h2⟩ := read_of_nan isnan_qn
    rw [h1, h2]; cases Ieee.double.read b <;> simp [Ieee.Datum.order]
  · obtain ⟨s, t, h1⟩ := read_of_nan ha
    obtain ⟨s', t', h2⟩ := read_of_nan isnan_qn
    rw [h1, h2]; simp [Ieee.Datum.order]
theorem sqrt_cn (a : Nat) : Ieee.double.sqrt (cn a) = Ieee.double.sqrt a := by
  unfold cn Ieee.Format.sqrt
  cases ha : isnan a <;> simp
  obtain ⟨s, t, h1⟩ := read_of_nan ha
  obtain ⟨s', t', h2⟩ := read_of_nan isnan_qn
  rw [h1, h2]; simp [Ieee.Datum.root]

/-- a written number is no NaN -/
theorem isnan_nearest (neg : Bool) (m : Nat) (p : Int) : isnan (Ieee.double.nearest neg m p) = false := by
  have hs : Ieee.double.signWeight = 9223372036854775808 := by decide
  have hi : Ieee.double.infRung = 9218868437227405312 := by decide
  have key : ∀ r : Nat, r ≤ 9218868437227405312 → isnan (Ieee.double.word neg r) = false := by
    intro r hr
    unfold Ieee.Format.word isnan
    rw [hs]
    cases neg <;> simp <;> omega
  unfold Ieee.Format.nearest
  dsimp only
  split
  · exact key 0 (by omega)
  · rw [hi]; exact key _ (Nat.min_le_right ..)
theorem isnan_word_inf (neg : Bool) : isnan (Ieee.double.word neg Ieee.double.infRung) = false := by
  cases neg <;> decide
theorem isnan_write {d : Ieee.Datum} (h : d.isNaN = false) : isnan (Ieee.double.write d) = false := by
  cases d with
  | number s m e => exact isnan_nearest s m e
  | infinity s => exact isnan_word_inf s
  | nan s t => simp [Ieee.Datum.isNaN] at h

theorem sum_notNaN {a b d : Ieee.Datum} (h : a.sum b = some d) : d.isNaN = false := by
  cases a <;> cases b <;> simp [Ieee.Datum.sum] at h
  · subst h; rfl
  · subst h; rfl
  · subst h; rfl
  · obtain ⟨_, rfl⟩ := h; rfl
theorem product_notNaN {a b d : Ieee.Datum} (h : a.product b = some d) : d.isNaN = false := by
  cases a <;> cases b <;> simp [Ieee.Datum.product] at h
  · subst h; rfl
  · obtain ⟨_, rfl⟩ := h; rfl
  · obtain ⟨_, rfl⟩ := h; rfl
  · subst h; rfl
theorem quotient_notNaN {k : Nat} {a b d : Ieee.Datum} (h : a.quotient k b = some d) : d.isNaN = false := by
  cases a <;> cases b <;> simp [Ieee.Datum.quotient] at h
  · split at h
    · split at h
      · cases h
      · cases h; rfl
    · cases h; rfl
  · subst h; rfl
  · subst h; rfl
theorem root_notNaN {k : Nat} {a d : Ieee.Datum} (h : a.root k = some d) : d.isNaN = false := by
  cases a with
  | number s m e =>
    simp only [Ieee.Datum.root] at h
    split at h
    · cases h; rfl
    · split at h
      · cases h
      · cases h; rfl
  | infinity s => simp [Ieee.Datum.root] at h; obtain ⟨_, rfl⟩ := h; rfl
  | nan => simp [Ieee.Datum.root] at h

theorem map_write_notNaN {o : Option Ieee.Datum} {r : Nat} (h : o.map Ieee.double.write = some r) (hn : ∀ d, o = some d → d.isNaN = false) : isnan r = false := by
  cases o with
  | none => cases h
  | some d => cases h; exact isnan_write (hn d rfl)

theorem isnan_getD {o : Option Nat} (h : ∀ r, o = some r → isnan r = false) : cn (o.getD qn) = o.getD qn := by
  cases o with
  | none => rfl
  | some r => exact cn_of_not (h r rfl)
theorem add_notNaN {a b r : Nat} (h : Ieee.double.add a b = some r) : isnan r = false := map_write_notNaN h fun _ => sum_notNaN
theorem sub_notNaN {a b r : Nat} (h : Ieee.double.sub a b = some r) : isnan r = false := map_write_notNaN h fun _ => sum_notNaN
theorem mul_notNaN {a b r : Nat} (h : Ieee.double.mul a b = some r) : isnan r = false := map_write_notNaN h fun _ => product_notNaN
theorem div_notNaN {a b r : Nat} (h : Ieee.double.div a b = some r) : isnan r = false := map_write_notNaN h fun _ => quotient_notNaN
theorem sqrt_notNaN {a r : Nat} (h : Ieee.double.sqrt a = some r) : isnan r = false := map_write_notNaN h fun _ => root_notNaN
theorem cn_fadd (x y : Nat) : cn (fadd x y) = fadd x y := isnan_getD fun _ => add_notNaN
theorem cn_fsub (x y : Nat) : cn (fsub x y) = fsub x y := isnan_getD fun _ => sub_notNaN
theorem cn_fmul (x y : Nat) : cn (fmul x y) = fmul x y := isnan_getD fun _ => mul_notNaN
theorem cn_fdiv (x y : Nat) : cn (fdiv x y) = fdiv x y := isnan_getD fun _ => div_notNaN
theorem cn_fsqrt (x : Nat) : cn (fsqrt x) = fsqrt x := isnan_getD fun _ => sqrt_notNaN

/-- the drawn NaN is one -/
theorem isnan_cut (x y t : Nat) : isnan (Question.cut (.nanBits .f64 x y) t) = true := by
  have h1 : (t / 2) % (2 ^ 52 - 1) < 4503599627370495 := Nat.mod_lt _ (by decide)
  have h2 : t % 2 < 2 := Nat.mod_lt _ (by decide)
  have e : (2 : Nat) ^ 63 = 9223372036854775808 := by decide
  have e2 : (2 : Nat) ^ 52 - 1 = 4503599627370495 := by decide
  simp only [Question.cut, isnan, decide_eq_true_eq, e]
  rw [e2] at h1 ⊢
  generalize (t / 2) % 4503599627370495 = u at h1 ⊢
  rcases (by omega : t % 2 = 0 ∨ t % 2 = 1) with h | h <;> rw [h] <;> omega
theorem isnan_cut_mm (m : Bool) (x y t : Nat) : isnan (Question.cut (.nanMinMax .f64 m x y) t) = true := isnan_cut x y t

/-- the four operations -/
def fop : BinOp → Nat → Nat → Nat
  | .add, x, y => fadd x y
  | .sub, x, y => fsub x y
  | .mul, x, y => fmul x y
  | .quo, x, y => fdiv x y
  | _, _, _ => 0
def isArith : BinOp → Bool
  | .add | .sub | .mul | .quo => true
  | _ => false
section
variable {P : Program} (w : World)
theorem run_farith {op : BinOp} (hop : isArith op = true) (a b : Nat) : ∃ r n, (Op.floatArith op .f64 a b).run P w = .ok (.float .f64 r) { w with drawn := n } ∧ cn r = fop op (cn a) (cn b) := by
  have none_case : ∀ {o : Option Nat}, o = none → ∃ r n, (do let result ← (pure o : Sem (Option Nat)); match result with | some r => pure (Value.float FloatKind.f64 r) | none => pure (.float .f64 (← choose (.nanBits .f64 a b))) : Sem Value).run P w = .ok (.float .f64 r) { w with drawn := n } ∧ cn r = qn := by
    rintro _ rfl
    refine ⟨_, w.drawn + 1, rfl, cn_of_nan (isnan_cut a b _)⟩
  have some_case : ∀ {o : Option Nat} {r : Nat}, o = some r → isnan r = false → ∃ r' n, (do let result ← (pure o : Sem (Option Nat)); match result with | some r => pure (Value.float FloatKind.f64 r) | none => pure (.float .f64 (← choose (.nanBits .f64 a b))) : Sem Value).run P w = .ok (.float .f64 r') { w with drawn := n } ∧ cn r' = r := by
    rintro _ r rfl hr
    exact ⟨r, w.drawn, rfl, cn_of_not hr⟩
  cases op <;> simp only [isArith, Bool.false_eq_true] at hop <;> simp only [fop]
  · unfold fadd; rw [add_cn]
    cases h : Ieee.double.add a b with
    | none => exact none_case h
    | some r => exact some_case h (add_notNaN h)
  · unfold fsub; rw [sub_cn]
    cases h : Ieee.double.sub a b with
    | none => exact none_case h
    | some r => exact some_case h (sub_notNaN h)
  · unfold fmul; rw [mul_cn]
    cases h : Ieee.double.mul a b with
    | none => exact none_case h
    | some r => exact some_case h (mul_notNaN h)
  · unfold fdiv; rw [div_cn]
    cases h : Ieee.double.div a b with
    | none => exact none_case h
    | some r => exact some_case h (div_notNaN h)
end
#print axioms run_farith
end Go.Sx
