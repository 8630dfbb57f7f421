/- THE ENGINE, part 0: an interpreter of the program's code over abstract values, and its proof. -/
import Derived.Laws.FloatArith
import Derived.Laws.ComplexArith
import Derived.Laws.World
import Derived.WalkKit
import Derived.MapKept
import Derived.Laws.RangeAny
import Derived.Laws.BytesString
import Derived.Laws.StructEq
import Derived.Laws.Cover1
noncomputable section
set_option linter.unusedSimpArgs false
set_option linter.unusedVariables false
namespace Go.Sx
def isnan (b : Nat) : Bool := decide (9218868437227405312 < b % 9223372036854775808)
def qn : Nat := 9221120237041090561
def cn (b : Nat) : Nat := bif isnan b then qn else b
theorem isnan_qn : isnan qn = true := by decide
theorem read_nan (b : Nat) : (Ieee.double.read b).isNaN = isnan b := by
 have hs : Ieee.double.signWeight = 9223372036854775808 := by decide
 have hb : Ieee.double.binade = 4503599627370496 := by decide
 have hi : Ieee.double.infRung = 9218868437227405312 := by decide
 unfold Ieee.Format.read isnan
 simp only [hs, hb, hi]
 have hlt : b % 9223372036854775808 < 9223372036854775808 := Nat.mod_lt _ (by decide)
 generalize b % 9223372036854775808 = r at hlt ⊢
 by_cases h1 : r < 4503599627370496
 ·simp [h1, Ieee.Datum.isNaN]
  omega
 ·by_cases h2 : r < 9218868437227405312
  ·simp [h1, h2, Ieee.Datum.isNaN]
   omega
  ·by_cases h3 : r = 9218868437227405312
   ·simp [h3, Ieee.Datum.isNaN]
   ·simp [h1, h2, h3, Ieee.Datum.isNaN]
    omega
theorem cn_cn (b : Nat) : cn (cn b) = cn b := by
 unfold cn
 cases h : isnan b
 ·simp [h]
 ·simp [isnan_qn]
theorem isnan_cn (b : Nat) : isnan (cn b) = isnan b := by
 unfold cn
 cases h : isnan b
 ·simp [h]
 ·simp [isnan_qn]
theorem cn_of_not {b : Nat} (h : isnan b = false) : cn b = b := by simp [cn, h]
theorem cn_of_nan {b : Nat} (h : isnan b = true) : cn b = qn := by simp [cn, h]
theorem read_of_nan {b : Nat} (h : isnan b = true) : ∃ s t, Ieee.double.read b = .nan s t := by
 have h' := read_nan b
 rw [h] at h'
 cases hr : Ieee.double.read b <;> simp [hr, Ieee.Datum.isNaN] at h'
 exact ⟨_, _, rfl⟩
def fadd (x y : Nat) : Nat := (Ieee.double.add x y).getD qn
def fsub (x y : Nat) : Nat := (Ieee.double.sub x y).getD qn
def fmul (x y : Nat) : Nat := (Ieee.double.mul x y).getD qn
def fdiv (x y : Nat) : Nat := (Ieee.double.div x y).getD qn
def forder (x y : Nat) : Option Ordering := Ieee.double.order x y
def feq (x y : Nat) : Bool := forder x y == some .eq
def flt (x y : Nat) : Bool := forder x y == some .lt
def fle (x y : Nat) : Bool := forder x y == some .lt || forder x y == some .eq
def fgt (x y : Nat) : Bool := forder x y == some .gt
def fge (x y : Nat) : Bool := forder x y == some .gt || forder x y == some .eq
def fneg (x : Nat) : Nat := cn (x ^^^ 9223372036854775808)
def fabs (x : Nat) : Nat := cn (x % 9223372036854775808)
theorem add_cn (a b : Nat) : Ieee.double.add (cn a) (cn b) = Ieee.double.add a b := by
 unfold cn Ieee.Format.add
 cases ha : isnan a <;> cases hb : isnan b <;> simp
 ·obtain ⟨s, t, h1⟩ := read_of_nan hb
  obtain ⟨s', t', h2⟩ := read_of_nan isnan_qn
  rw [h1, h2]; cases Ieee.double.read a <;> simp [Ieee.Datum.sum]
 ·obtain ⟨s, t, h1⟩ := read_of_nan ha
  obtain ⟨s', t', h2⟩ := read_of_nan isnan_qn
  rw [h1, h2]; cases Ieee.double.read b <;> simp [Ieee.Datum.sum]
 ·obtain ⟨s, t, h1⟩ := read_of_nan ha
  obtain ⟨s', t', h2⟩ := read_of_nan isnan_qn
  rw [h1, h2]; simp [Ieee.Datum.sum]
theorem sub_cn (a b : Nat) : Ieee.double.sub (cn a) (cn b) = Ieee.double.sub a b := by
 unfold cn Ieee.Format.sub
 cases ha : isnan a <;> cases hb : isnan b <;> simp
 ·obtain ⟨s, t, h1⟩ := read_of_nan hb
  obtain ⟨s', t', h2⟩ := read_of_nan isnan_qn
  rw [h1, h2]; cases Ieee.double.read a <;> simp [Ieee.Datum.sum, Ieee.Datum.opposite]
 ·obtain ⟨s, t, h1⟩ := read_of_nan ha
  obtain ⟨s', t', h2⟩ := read_of_nan isnan_qn
  rw [h1, h2]; cases Ieee.double.read b <;> simp [Ieee.Datum.sum, Ieee.Datum.opposite]
 ·obtain ⟨s, t, h1⟩ := read_of_nan ha
  obtain ⟨s', t', h2⟩ := read_of_nan isnan_qn
  rw [h1, h2]; simp [Ieee.Datum.sum, Ieee.Datum.opposite]
theorem mul_cn (a b : Nat) : Ieee.double.mul (cn a) (cn b) = Ieee.double.mul a b := by
 unfold cn Ieee.Format.mul
 cases ha : isnan a <;> cases hb : isnan b <;> simp
 ·obtain ⟨s, t, h1⟩ := read_of_nan hb
  obtain ⟨s', t', h2⟩ := read_of_nan isnan_qn
  rw [h1, h2]; cases Ieee.double.read a <;> simp [Ieee.Datum.product]
 ·obtain ⟨s, t, h1⟩ := read_of_nan ha
  obtain ⟨s', t', h2⟩ := read_of_nan isnan_qn
  rw [h1, h2]; cases Ieee.double.read b <;> simp [Ieee.Datum.product]
 ·obtain ⟨s, t, h1⟩ := read_of_nan ha
  obtain ⟨s', t', h2⟩ := read_of_nan isnan_qn
  rw [h1, h2]; simp [Ieee.Datum.product]
theorem div_cn (a b : Nat) : Ieee.double.div (cn a) (cn b) = Ieee.double.div a b := by
 unfold cn Ieee.Format.div
 cases ha : isnan a <;> cases hb : isnan b <;> simp
 ·obtain ⟨s, t, h1⟩ := read_of_nan hb
  obtain ⟨s', t', h2⟩ := read_of_nan isnan_qn
  rw [h1, h2]; cases Ieee.double.read a <;> simp [Ieee.Datum.quotient]
 ·obtain ⟨s, t, h1⟩ := read_of_nan ha
  obtain ⟨s', t', h2⟩ := read_of_nan isnan_qn
  rw [h1, h2]; cases Ieee.double.read b <;> simp [Ieee.Datum.quotient]
 ·obtain ⟨s, t, h1⟩ := read_of_nan ha
  obtain ⟨s', t', h2⟩ := read_of_nan isnan_qn
  rw [h1, h2]; simp [Ieee.Datum.quotient]
theorem order_cn (a b : Nat) : Ieee.double.order (cn a) (cn b) = Ieee.double.order a b := by
 unfold cn Ieee.Format.order
 cases ha : isnan a <;> cases hb : isnan b <;> simp
 ·obtain ⟨s, t, h1⟩ := read_of_nan hb
  obtain ⟨s', t', h2⟩ := read_of_nan isnan_qn
  rw [h1, h2]; cases Ieee.double.read a <;> simp [Ieee.Datum.order]
 ·obtain ⟨s, t, h1⟩ := read_of_nan ha
  obtain ⟨s', t', h2⟩ := read_of_nan isnan_qn
  rw [h1, h2]; cases Ieee.double.read b <;> simp [Ieee.Datum.order]
 ·obtain ⟨s, t, h1⟩ := read_of_nan ha
  obtain ⟨s', t', h2⟩ := read_of_nan isnan_qn
  rw [h1, h2]; simp [Ieee.Datum.order]
theorem isnan_nearest (neg : Bool) (m : Nat) (p : Int) : isnan (Ieee.double.nearest neg m p) = false := by
 have hs : Ieee.double.signWeight = 9223372036854775808 := by decide
 have hi : Ieee.double.infRung = 9218868437227405312 := by decide
 have key : ∀ r : Nat, r ≤ 9218868437227405312 → isnan (Ieee.double.word neg r) = false := by
  intro r hr
  unfold Ieee.Format.word isnan
  rw [hs]
  cases neg <;> simp <;> omega
 unfold Ieee.Format.nearest
 dsimp only
 split
 ·exact key 0 (by omega)
 ·rw [hi]; exact key _ (Nat.min_le_right ..)
theorem isnan_word_inf (neg : Bool) : isnan (Ieee.double.word neg Ieee.double.infRung) = false := by
 cases neg <;> decide
theorem isnan_write {d : Ieee.Datum} (h : d.isNaN = false) : isnan (Ieee.double.write d) = false := by
 cases d with
 | number s m e => exact isnan_nearest s m e
 | infinity s => exact isnan_word_inf s
 | nan s t => simp [Ieee.Datum.isNaN] at h
theorem sum_notNaN {a b d : Ieee.Datum} (h : a.sum b = some d) : d.isNaN = false := by
 cases a <;> cases b <;> simp [Ieee.Datum.sum] at h
 ·subst h; rfl
 ·subst h; rfl
 ·subst h; rfl
 ·obtain ⟨_, rfl⟩ := h; rfl
theorem product_notNaN {a b d : Ieee.Datum} (h : a.product b = some d) : d.isNaN = false := by
 cases a <;> cases b <;> simp [Ieee.Datum.product] at h
 ·subst h; rfl
 ·obtain ⟨_, rfl⟩ := h; rfl
 ·obtain ⟨_, rfl⟩ := h; rfl
 ·subst h; rfl
theorem quotient_notNaN {k : Nat} {a b d : Ieee.Datum} (h : a.quotient k b = some d) : d.isNaN = false := by
 cases a <;> cases b <;> simp [Ieee.Datum.quotient] at h
 ·split at h
  ·split at h
   ·cases h
   ·cases h; rfl
  ·cases h; rfl
 ·subst h; rfl
 ·subst h; rfl
theorem map_write_notNaN {o : Option Ieee.Datum} {r : Nat} (h : o.map Ieee.double.write = some r) (hn : ∀ d, o = some d → d.isNaN = false) : isnan r = false := by
 cases o with
 | none => cases h
 | some d => cases h; exact isnan_write (hn d rfl)
theorem isnan_getD {o : Option Nat} (h : ∀ r, o = some r → isnan r = false) : cn (o.getD qn) = o.getD qn := by
 cases o with
 | none => rfl
 | some r => exact cn_of_not (h r rfl)
theorem add_notNaN {a b r : Nat} (h : Ieee.double.add a b = some r) : isnan r = false := map_write_notNaN h fun _ => sum_notNaN
theorem sub_notNaN {a b r : Nat} (h : Ieee.double.sub a b = some r) : isnan r = false := map_write_notNaN h fun _ => sum_notNaN
theorem mul_notNaN {a b r : Nat} (h : Ieee.double.mul a b = some r) : isnan r = false := map_write_notNaN h fun _ => product_notNaN
theorem div_notNaN {a b r : Nat} (h : Ieee.double.div a b = some r) : isnan r = false := map_write_notNaN h fun _ => quotient_notNaN
theorem cn_fadd (x y : Nat) : cn (fadd x y) = fadd x y := isnan_getD fun _ => add_notNaN
theorem cn_fsub (x y : Nat) : cn (fsub x y) = fsub x y := isnan_getD fun _ => sub_notNaN
theorem cn_fmul (x y : Nat) : cn (fmul x y) = fmul x y := isnan_getD fun _ => mul_notNaN
theorem isnan_cut (x y t : Nat) : isnan (Question.cut (.nanBits .f64 x y) t) = true := by
 have h1 : (t / 2) % (2 ^ 52 - 1) < 4503599627370495 := Nat.mod_lt _ (by decide)
 have h2 : t % 2 < 2 := Nat.mod_lt _ (by decide)
 have e : (2 : Nat) ^ 63 = 9223372036854775808 := by decide
 have e2 : (2 : Nat) ^ 52 - 1 = 4503599627370495 := by decide
 simp only [Question.cut, isnan, decide_eq_true_eq, e]
 rw [e2] at h1 ⊢
 generalize (t / 2) % 4503599627370495 = u at h1 ⊢
 rcases (by omega : t % 2 = 0 ∨ t % 2 = 1) with h | h <;> rw [h] <;> omega
theorem isnan_cut_mm (m : Bool) (x y t : Nat) : isnan (Question.cut (.nanMinMax .f64 m x y) t) = true := isnan_cut x y t
def fop : BinOp → Nat → Nat → Nat
 | .add, x, y => fadd x y
 | .sub, x, y => fsub x y
 | .mul, x, y => fmul x y
 | .quo, x, y => fdiv x y
 | _, _, _ => 0
def isArith : BinOp → Bool
 | .add | .sub | .mul | .quo => true
 | _ => false
section
variable {P : Program} (w : World)
theorem run_farith {op : BinOp} (hop : isArith op = true) (a b : Nat) : ∃ r n, (Op.floatArith op .f64 a b).run P w = .ok (.float .f64 r) { w with drawn := n } ∧ cn r = fop op (cn a) (cn b) := by
 have none_case : ∀ {o : Option Nat}, o = none → ∃ r n, (do let result ← (pure o : Sem (Option Nat)); match result with | some r => pure (Value.float FloatKind.f64 r) | none => pure (.float .f64 (← choose (.nanBits .f64 a b))) : Sem Value).run P w = .ok (.float .f64 r) { w with drawn := n } ∧ cn r = qn := by
  rintro _ rfl
  refine ⟨_, w.drawn + 1, rfl, cn_of_nan (isnan_cut a b _)⟩
 have some_case : ∀ {o : Option Nat} {r : Nat}, o = some r → isnan r = false → ∃ r' n, (do let result ← (pure o : Sem (Option Nat)); match result with | some r => pure (Value.float FloatKind.f64 r) | none => pure (.float .f64 (← choose (.nanBits .f64 a b))) : Sem Value).run P w = .ok (.float .f64 r') { w with drawn := n } ∧ cn r' = r := by
  rintro _ r rfl hr
  exact ⟨r, w.drawn, rfl, cn_of_not hr⟩
 cases op <;> simp only [isArith, Bool.false_eq_true] at hop <;> simp only [fop]
 ·unfold fadd; rw [add_cn]
  cases h : Ieee.double.add a b with
  | none => exact none_case h
  | some r => exact some_case h (add_notNaN h)
 ·unfold fsub; rw [sub_cn]
  cases h : Ieee.double.sub a b with
  | none => exact none_case h
  | some r => exact some_case h (sub_notNaN h)
 ·unfold fmul; rw [mul_cn]
  cases h : Ieee.double.mul a b with
  | none => exact none_case h
  | some r => exact some_case h (mul_notNaN h)
 ·unfold fdiv; rw [div_cn]
  cases h : Ieee.double.div a b with
  | none => exact none_case h
  | some r => exact some_case h (div_notNaN h)
end
#print axioms run_farith
end Go.Sx
namespace Go.Sx
inductive T (α : Type) : Type where
 | e
 | n (l : T α) (v : Option α) (r : T α)
namespace T
variable {α : Type}
noncomputable def get (t : T α) : Nat → Option α :=
 T.rec (fun _ => none) (fun _ v _ ihl ihr i => Nat.rec v (fun j _ => bif Nat.beq (j % 2) 0 then ihl (j / 2) else ihr (j / 2)) i) t
noncomputable def sing (o : Option α) (f : Nat) : Nat → T α :=
 Nat.rec (fun _ => e) (fun _ ih i => Nat.rec (n e o e) (fun j _ => bif Nat.beq (j % 2) 0 then n (ih (j / 2)) none e else n e none (ih (j / 2))) i) f
noncomputable def upd (t : T α) (i : Nat) (o : Option α) : T α :=
 T.rec (fun i => sing o (i + 1) i) (fun l v r ihl ihr i => Nat.rec (n l o r) (fun j _ => bif Nat.beq (j % 2) 0 then n (ihl (j / 2)) v r else n l v (ihr (j / 2))) i) t i
theorem get_e (i : Nat) : (e : T α).get i = none := rfl
theorem get_n0 (l r : T α) (v : Option α) : (n l v r).get 0 = v := rfl
theorem get_ns (l r : T α) (v : Option α) (i : Nat) : (n l v r).get (i + 1) = bif Nat.beq (i % 2) 0 then l.get (i / 2) else r.get (i / 2) := rfl
theorem sing_s0 (o : Option α) (f : Nat) : sing o (f + 1) 0 = n e o e := rfl
theorem sing_ss (o : Option α) (f i : Nat) : sing o (f + 1) (i + 1) = bif Nat.beq (i % 2) 0 then n (sing o f (i / 2)) none e else n e none (sing o f (i / 2)) := rfl
theorem upd_e (i : Nat) (o : Option α) : (e : T α).upd i o = sing o (i + 1) i := rfl
theorem upd_n0 (l r : T α) (v o : Option α) : (n l v r).upd 0 o = n l o r := rfl
theorem upd_ns (l r : T α) (v o : Option α) (i : Nat) : (n l v r).upd (i + 1) o = bif Nat.beq (i % 2) 0 then n (l.upd (i / 2) o) v r else n l v (r.upd (i / 2) o) := rfl
theorem get_sing (o : Option α) : ∀ f i j, i < f → (sing o f i).get j = if j = i then o else none := by
 intro f
 induction f with
 | zero => intro i j h; omega
 | succ f ih =>
  intro i j h
  cases i with
  | zero =>
   cases j with
   | zero => simp [sing_s0, get_n0, get_ns, get_e]
   | succ j => simp [sing_s0, get_n0, get_ns, get_e]
  | succ i =>
   cases hp : Nat.beq (i % 2) 0 with
   | true =>
    have hp' : i % 2 = 0 := Nat.eq_of_beq_eq_true hp
    cases j with
    | zero => simp [sing_ss, hp, get_n0]
    | succ j =>
     simp only [sing_ss, hp, cond_true, get_ns, get_e, ih _ _ (show i / 2 < f by omega)]
     cases hq : Nat.beq (j % 2) 0 with
     | true =>
      have hq' : j % 2 = 0 := Nat.eq_of_beq_eq_true hq
      simp only [cond_true]
      by_cases e : j = i
      ·subst e; simp
      ·rw [if_neg (by omega), if_neg (by omega)]
     | false =>
      have hq' : ¬ j % 2 = 0 := Nat.ne_of_beq_eq_false hq
      simp only [cond_false]
      rw [if_neg (by omega)]
   | false =>
    have hp' : ¬ i % 2 = 0 := Nat.ne_of_beq_eq_false hp
    cases j with
    | zero => simp [sing_ss, hp, get_n0]
    | succ j =>
     simp only [sing_ss, hp, cond_false, get_ns, get_e, ih _ _ (show i / 2 < f by omega)]
     cases hq : Nat.beq (j % 2) 0 with
     | true =>
      have hq' : j % 2 = 0 := Nat.eq_of_beq_eq_true hq
      simp only [cond_true]
      rw [if_neg (by omega)]
     | false =>
      have hq' : ¬ j % 2 = 0 := Nat.ne_of_beq_eq_false hq
      simp only [cond_false]
      by_cases e : j = i
      ·subst e; simp
      ·rw [if_neg (by omega), if_neg (by omega)]
theorem get_upd (o : Option α) (t : T α) : ∀ i j, (t.upd i o).get j = if j = i then o else t.get j := by
 induction t with
 | e => intro i j; simp only [upd_e, get_sing o _ _ _ (Nat.lt_succ_self i), get_e]
 | n l v r ihl ihr =>
  intro i j
  cases i with
  | zero =>
   cases j with
   | zero => simp [upd_n0, get_n0, get_ns]
   | succ j => simp [upd_n0, get_n0, get_ns]
  | succ i =>
   cases hp : Nat.beq (i % 2) 0 with
   | true =>
    have hp' : i % 2 = 0 := Nat.eq_of_beq_eq_true hp
    cases j with
    | zero => simp [upd_ns, hp, get_n0]
    | succ j =>
     simp only [upd_ns, hp, cond_true, get_ns, ihl]
     cases hq : Nat.beq (j % 2) 0 with
     | true =>
      have hq' : j % 2 = 0 := Nat.eq_of_beq_eq_true hq
      simp only [cond_true]
      by_cases e : j = i
      ·subst e; simp
      ·rw [if_neg (by omega), if_neg (by omega)]
     | false =>
      have hq' : ¬ j % 2 = 0 := Nat.ne_of_beq_eq_false hq
      simp only [cond_false]
      rw [if_neg (by omega)]
   | false =>
    have hp' : ¬ i % 2 = 0 := Nat.ne_of_beq_eq_false hp
    cases j with
    | zero => simp [upd_ns, hp, get_n0]
    | succ j =>
     simp only [upd_ns, hp, cond_false, get_ns, ihr]
     cases hq : Nat.beq (j % 2) 0 with
     | true =>
      have hq' : j % 2 = 0 := Nat.eq_of_beq_eq_true hq
      simp only [cond_true]
      rw [if_neg (by omega)]
     | false =>
      have hq' : ¬ j % 2 = 0 := Nat.ne_of_beq_eq_false hq
      simp only [cond_false]
      by_cases e : j = i
      ·subst e; simp
      ·rw [if_neg (by omega), if_neg (by omega)]
end T
structure AA where
 s : Bool
 g : Nat
 i : Nat
 o : Nat
inductive AV where
 | top
 | bool (b : Bool)
 | sbool (b : Bool)
 | int (s : Bool) (k : IntKind) (n : Int)
 | flt (s : Bool) (x : Nat)
 | raw (s : Bool) (x : Nat)
 | bits (s : Bool) (x : Nat)
 | cpx (s : Bool) (x y : Nat)
 | str (s : Bool) (l : List UInt8)
 | ptr (a : AA)
 | nilp
 | slc (s own : Bool) (a : AA) (len : Nat)
 | nils
 | mp (g : Nat)
 | nilm
 | fn (f : Fn) (first cap : List AV)
 | nilf
 | nili
 | hdr (b len : Nat)
 | any1
 | txs (n : Nat) (f : Nat → List UInt8)
 | ptx (x : List UInt8)
 | agg (l : List AV)
 | tup (l : List AV)
def AV.fl1 : AV → AV
 | .raw s x => .flt s (cn x)
 | v => v
def AV.fl : AV → AV
 | .raw s x => .flt s (cn x)
 | .agg l => .agg (l.map AV.fl1)
 | v => v
def AV.one : AV → Bool
 | .top | .agg _ | .tup _ => false
 | _ => true
def AV.cells : AV → List AV
 | .agg l => l
 | v => [v]
inductive Cont where
 | lit (d : List AV) (t : T (List AV))
 | fn (f : Nat → List AV)
def Cont.row : Cont → Nat → List AV
 | .lit d t, i => (t.get i).getD d
 | .fn f, i => f i
def Cont.put : Cont → Nat → List AV → Cont
 | .lit d t, i, r => .lit d (t.upd i (some r))
 | .fn f, i, r => .fn fun j => bif Nat.beq j i then r else f j
def Cont.more (src : Nat → List AV) (n : Nat) : Nat → Cont → Cont
 | 0, c => c
 | m + 1, c => (more src n m c).put (n + m) (src m)
inductive ABk where
 | cells (own : Bool) (sz n : Nat) (c : Cont)
 | mSI (s : Bool) (l : List (List UInt8 × Int))
 | mII (s : Bool) (l : List (Int × Int))
 | sit (s : Bool) (l : List UInt8) (pos : Nat)
structure G where
 H : T ABk
 nx : Nat
 tch : List Nat
 path : List Bool
 cs : Prop
inductive Res (α : Type) : Type where
 | done (a : α) (g : G)
 | need (b : Bool)
 | fail
abbrev M (α : Type) := G → Res α
namespace M
variable {α β : Type}
def ret (a : α) : M α := fun g => .done a g
def no : M α := fun _ => .fail
def andThen (x : M α) (f : α → M β) : M β := fun g =>
 match x g with
 | .done a g' => f a g'
 | .need b => .need b
 | .fail => .fail
def ofOpt : Option α → M α
 | some a => ret a
 | none => no
def req (p : Prop) : M Unit := fun g => .done () { g with cs := g.cs ∧ p }
def ck (s : Bool) (p : Prop) [Decidable p] : M Unit := bif s then req p else bif decide p then ret () else no
def dec (b : Bool) : M Bool := fun g =>
 match g.path with
 | [] => .need b
 | d :: ds => .done d { g with path := ds, cs := g.cs ∧ b = d }
def getB (nm : Nat) : M ABk := fun g =>
 match g.H.get nm with
 | some b => .done b g
 | none => .fail
def setB (nm : Nat) (b : ABk) : M Unit := fun g => .done () { g with H := g.H.upd nm (some b), tch := nm :: g.tch }
def delB (nm : Nat) : M Unit := fun g => .done () { g with H := g.H.upd nm none, tch := nm :: g.tch }
def newB (b : ABk) : M Nat := fun g => .done g.nx { g with H := g.H.upd g.nx (some b), nx := g.nx + 1 }
def okIf (b : Bool) : M Unit := bif b then ret () else no
end M
open M
def asInt : AV → Option (Bool × Int)
 | .int s _ n => some (s, n)
 | _ => none
def asPtr : AV → Option AA
 | .ptr a => some a
 | _ => none
def asAgg : AV → Option (List AV)
 | .agg l => some l
 | _ => none
def asCells : ABk → Option (Bool × Nat × Nat × Cont)
 | .cells own sz n c => some (own, sz, n, c)
 | _ => none
def getC (nm : Nat) : M (Bool × Nat × Nat × Cont) := (getB nm).andThen fun b => ofOpt (asCells b)
def sliceE (P : Program) (t : TypeId) : Option TypeId :=
 match P.underlying t with
 | some (.slice e) => some e
 | _ => none
def arrayE (P : Program) (t : TypeId) : Option (Nat × TypeId) :=
 match P.underlying t with
 | some (.array n e) => some (n, e)
 | _ => none
def ofVal1 : Value → AV
 | .bool b => .bool b
 | .int k n => .int false k n
 | .float .f64 b => bif decide (b < 18446744073709551616) then .flt false (cn b) else .top
 | .complex .f64 a b => bif decide (a < 18446744073709551616 ∧ b < 18446744073709551616) then .cpx false (cn a) (cn b) else .top
 | .string s => .str false s.data.toList
 | .pointer none => .nilp
 | .slice none 0 0 => .nils
 | .map none => .nilm
 | .nilFunc => .nilf
 | .nilIface => .nili
 | _ => .top
def ofVal : Value → AV
 | .agg cs => .agg (cs.toList.map ofVal1)
 | .tuple cs => .tup (cs.toList.map ofVal1)
 | v => ofVal1 v
def isAggD : TypeDesc → Bool
 | .struct _ | .array _ _ => true
 | _ => false
def lay (P : Program) (t : TypeId) : Option (Nat × Bool) :=
 match P.info? t, P.underlying t with
 | some i, some d => some (i.size, isAggD d)
 | _, _ => none
def zeroOf (P : Program) (t : TypeId) : Option AV :=
 match P.info? t with
 | some i => i.zero.map ofVal
 | none => none
def loadA (P : Program) (t : TypeId) (a : AA) : M AV :=
 (ofOpt (lay P t)).andThen fun y =>
 (getC a.g).andThen fun b =>
 (ck a.s (a.i < b.2.2.1)).andThen fun _ =>
 bif y.2 then (ck a.s (a.o + y.1 ≤ b.2.1)).andThen fun _ => ret (.agg (((b.2.2.2.row a.i).drop a.o).take y.1))
 else ofOpt ((b.2.2.2.row a.i)[a.o]?)
def loadX (P : Program) (t : TypeId) : AV → M AV
 | .ptx x => (ofOpt (lay P t)).andThen fun y => (okIf (Nat.beq y.1 1 && !y.2)).andThen fun _ => ret (.str true x)
 | v => (ofOpt (asPtr v)).andThen fun a => loadA P t a
def splice (row : List AV) (o : Nat) (vs : List AV) : List AV := row.take o ++ vs ++ row.drop (o + vs.length)
def spliceN (sz : Nat) (row : List AV) (o : Nat) (vs : List AV) : List AV := bif Nat.beq sz vs.length then vs else splice row o vs
def storeA (P : Program) (t : TypeId) (a : AA) (v : AV) : M Unit :=
 (ofOpt (lay P t)).andThen fun y =>
 (getC a.g).andThen fun b =>
 (okIf (b.1 && Nat.beq v.cells.length y.1 && v.cells.all AV.one)).andThen fun _ =>
 (ck a.s (a.i < b.2.2.1)).andThen fun _ =>
 (ck a.s (a.o + y.1 ≤ b.2.1)).andThen fun _ =>
 setB a.g (.cells true b.2.1 b.2.2.1 (b.2.2.2.put a.i (spliceN b.2.1 (b.2.2.2.row a.i) a.o v.cells)))
def boxA (v : AV) : M AV :=
 (okIf (v.cells.all AV.one && !v.cells.isEmpty)).andThen fun _ =>
 (newB (.cells true v.cells.length 1 (.lit [] (T.sing (some v.cells) 1 0)))).andThen fun nm => ret (.ptr ⟨false, nm, 0, 0⟩)
def cmpB (s b : Bool) : AV := bif s then .sbool b else .bool b
def bitsV (op : BinOp) (k : IntKind) (x y : Int) : Int :=
 let a := BitVec.ofInt k.bits x
 let b := BitVec.ofInt k.bits y
 match op with
 | .and => k.wrap (a &&& b).toNat
 | .or => k.wrap (a ||| b).toNat
 | .xor => k.wrap (a ^^^ b).toNat
 | _ => k.wrap (a &&& ~~~b).toNat
def isI64 : IntKind → Bool
 | .i64 => true
 | _ => false
def arithR (s : Bool) (k : IntKind) (r : Int) : M AV :=
 bif s && isI64 k then (req (-9223372036854775808 ≤ r ∧ r ≤ 9223372036854775807)).andThen fun _ => ret (.int s k r)
 else ret (.int s k (k.wrap r))
def intBin (s : Bool) (k : IntKind) (op : BinOp) (a b : Int) : M AV :=
 match op with
 | .add => arithR s k (a + b)
 | .sub => arithR s k (a - b)
 | .mul => arithR s k (a * b)
 | .quo => (ck s (b ≠ 0)).andThen fun _ => arithR s k (a.tdiv b)
 | .rem => (ck s (b ≠ 0)).andThen fun _ => ret (.int s k (a.tmod b))
 | .and | .or | .xor | .andNot => ret (.int s k (bitsV op k a b))
 | .eql => ret (cmpB s (decide (a = b)))
 | .neq => ret (cmpB s (!decide (a = b)))
 | .lss => ret (cmpB s (decide (a < b)))
 | .leq => ret (cmpB s (decide (a ≤ b)))
 | .gtr => ret (cmpB s (decide (b < a)))
 | .geq => ret (cmpB s (decide (b ≤ a)))
 | _ => no
def shiftA (s : Bool) (k : IntKind) (op : BinOp) (a b : Int) : M AV :=
 (ck s (0 ≤ b)).andThen fun _ =>
 match op with
 | .shl => arithR s k (a * 2 ^ (min b.toNat k.bits))
 | .shr => ret (.int s k (a.fdiv (2 ^ (min b.toNat k.bits))))
 | _ => no
def fltBin (s : Bool) (op : BinOp) (x y : Nat) : M AV :=
 match op with
 | .add => ret (.flt s (fadd x y))
 | .sub => ret (.flt s (fsub x y))
 | .mul => ret (.flt s (fmul x y))
 | .quo => ret (.flt s (fdiv x y))
 | .eql => ret (cmpB s (feq x y))
 | .neq => ret (cmpB s (!feq x y))
 | .lss => ret (cmpB s (flt x y))
 | .leq => ret (cmpB s (fle x y))
 | .gtr => ret (cmpB s (fgt x y))
 | .geq => ret (cmpB s (fge x y))
 | _ => no
def cpxBin (s : Bool) (op : BinOp) (a b c d : Nat) : M AV :=
 match op with
 | .add => ret (.cpx s (fadd a c) (fadd b d))
 | .sub => ret (.cpx s (fsub a c) (fsub b d))
 | .eql => ret (cmpB s (feq a c && feq b d))
 | .neq => ret (cmpB s (!(feq a c && feq b d)))
 | _ => no
def strBin (s : Bool) (op : BinOp) (a b : List UInt8) : M AV :=
 match op with
 | .add => (ck s (a.length + b.length ≤ 9223372036854775807)).andThen fun _ => ret (.str s (a ++ b))
 | .eql => ret (cmpB s (a == b))
 | .neq => ret (cmpB s (!(a == b)))
 | .lss => ret (cmpB s (Op.bytesLess a b))
 | _ => no
def boolEq (op : BinOp) (s a b : Bool) : M AV :=
 match op with
 | .eql => ret (cmpB s (a == b))
 | .neq => ret (cmpB s (!(a == b)))
 | _ => no
def nilEq (op : BinOp) (b : Bool) : M AV :=
 match op with
 | .eql => ret (.bool b)
 | .neq => ret (.bool !b)
 | _ => no
def cellEq (d : TypeDesc) (v v' : AV) : Option (Bool × Bool) :=
 match d, v, v' with
 | .int _, .int s k a, .int s' k' b => bif decide (k = k') then some (s || s', decide (a = b)) else none
 | .float _, .flt s a, .flt s' b => some (s || s', feq a b)
 | .string, .str s a, .str s' b => some (s || s', a == b)
 | .bool, .bool a, .bool b => some (false, a == b)
 | _, _, _ => none
def fieldsEq (P : Program) : Nat → List Field → List AV → List AV → Option (Bool × Bool)
 | _, [], [], [] => some (false, true)
 | o, f :: fs, v :: l, v' :: l' =>
  bif Nat.beq f.offset o && !(f.name == "_") then
   match P.underlying f.type with
   | some d =>
    match cellEq d v v', fieldsEq P (o + 1) fs l l' with
    | some x, some y => some (x.1 || y.1, x.2 && y.2)
    | _, _ => none
   | none => none
  else none
 | _, _, _, _ => none
def structEq (P : Program) (t : TypeId) (l l' : List AV) : Option (Bool × Bool) :=
 match P.underlying t with
 | some (.struct fs) => bif !P.stoodInHeld t && !P.eqGuardType P.depth t then fieldsEq P 0 fs.toList l l' else none
 | _ => none
def isBoolD (P : Program) (t : TypeId) : Bool :=
 match P.underlying t with
 | some .bool => true
 | _ => false
def isPtrD (P : Program) (t : TypeId) : Bool :=
 match P.underlying t with
 | some (.pointer _) => true
 | _ => false
def isFuncD (P : Program) (t : TypeId) : Bool :=
 match P.underlying t with
 | some (.func _ _ _) => true
 | _ => false
def signBit : Int := 9223372036854775808
def bitsBin (s : Bool) (op : BinOp) (x : Nat) (m : Int) : M AV :=
 match op with
 | .xor => bif decide (m = signBit) then ret (.bits s (fneg x)) else (ck s (isnan x = false)).andThen fun _ => intBin s .u64 op x m
 | .andNot => bif decide (m = signBit) then ret (.bits s (fabs x)) else (ck s (isnan x = false)).andThen fun _ => intBin s .u64 op x m
 | _ => (ck s (isnan x = false)).andThen fun _ => intBin s .u64 op x m
def isShift : BinOp → Bool
 | .shl | .shr => true
 | _ => false
def ck' (s : Bool) (p : Prop) : M Unit := bif s then req p else ret ()
def binA0 (P : Program) (op : BinOp) (t : TypeId) (x y : AV) : M AV :=
 match x, y with
 | .int s k a, .int s' k' b => bif isShift op then shiftA (s || s') k op a b else bif decide (k = k') then intBin (s || s') k op a b else no
 | .flt s a, .flt s' b => fltBin (s || s') op a b
 | .cpx s a b, .cpx s' c d => cpxBin (s || s') op a b c d
 | .str s a, .str s' b => strBin (s || s') op a b
 | .bits s a, .int false .u64 m => bif isShift op then (ck s (isnan a = false)).andThen fun _ => shiftA s .u64 op a m else bitsBin s op a m
 | .bits s a, .int false .i64 m => bif isShift op then (ck s (isnan a = false)).andThen fun _ => shiftA s .u64 op a m else no
 | .bits s a, .int s' .u64 m => bif isShift op then no else (ck s (isnan a = false)).andThen fun _ => intBin (s || s') .u64 op a m
 | .int s .u64 n, .bits s' b => bif isShift op then no else (ck s' (isnan b = false)).andThen fun _ => intBin (s || s') .u64 op n b
 | .bits s a, .bits s' b => bif isShift op then no else (ck s (isnan a = false)).andThen fun _ => (ck s' (isnan b = false)).andThen fun _ => intBin (s || s') .u64 op a b
 | .bool a, .bool b => (okIf (isBoolD P t)).andThen fun _ => boolEq op false a b
 | .sbool a, .bool b => (okIf (isBoolD P t)).andThen fun _ => boolEq op true a b
 | .bool a, .sbool b => (okIf (isBoolD P t)).andThen fun _ => boolEq op true a b
 | .sbool a, .sbool b => (okIf (isBoolD P t)).andThen fun _ => boolEq op true a b
 | .nils, .nils => (okIf (sliceE P t).isSome).andThen fun _ => nilEq op true
 | .slc s _ _ len, .nils => (okIf (sliceE P t).isSome).andThen fun _ => (ck' s (0 < len)).andThen fun _ => nilEq op false
 | .nils, .slc s _ _ len => (okIf (sliceE P t).isSome).andThen fun _ => (ck' s (0 < len)).andThen fun _ => nilEq op false
 | .nilp, .nilp => (okIf (isPtrD P t)).andThen fun _ => nilEq op true
 | .ptr _, .nilp => (okIf (isPtrD P t)).andThen fun _ => nilEq op false
 | .nilp, .ptr _ => (okIf (isPtrD P t)).andThen fun _ => nilEq op false
 | .nilf, .nilf => (okIf (isFuncD P t)).andThen fun _ => nilEq op true
 | .fn .., .nilf => (okIf (isFuncD P t)).andThen fun _ => nilEq op false
 | .nilf, .fn .. => (okIf (isFuncD P t)).andThen fun _ => nilEq op false
 | .agg l, .agg l' =>
  (ofOpt (structEq P t l l')).andThen fun x =>
  match op with
  | .eql => ret (cmpB x.1 x.2)
  | .neq => ret (cmpB x.1 (!x.2))
  | _ => no
 | _, _ => no
def binI (P : Program) (op : BinOp) (t : TypeId) (s : Bool) (k : IntKind) (a : Int) (y : AV) : M AV :=
 match y with
 | .int s' k' b => bif isShift op then shiftA (s || s') k op a b else bif decide (k = k') then intBin (s || s') k op a b else no
 | y => binA0 P op t (.int s k a) y
def binF (P : Program) (op : BinOp) (t : TypeId) (s : Bool) (a : Nat) (y : AV) : M AV :=
 match y with
 | .flt s' b => fltBin (s || s') op a b
 | y => binA0 P op t (.flt s a) y
def binA (P : Program) (op : BinOp) (t : TypeId) (x y : AV) : M AV :=
 match x with
 | .int s k a => binI P op t s k a y
 | .flt s a => binF P op t s a y
 | x => binA0 P op t x y
theorem binA_eq (P : Program) (op : BinOp) (t : TypeId) (x y : AV) : binA P op t x y = binA0 P op t x y := by
 unfold binA
 split
 ·unfold binI; split
  ·rfl
  ·rfl
 ·unfold binF; split
  ·rfl
  ·rfl
 ·rfl
def unA (op : UnOp) (x : AV) : M AV :=
 match op, x with
 | .neg, .int s k n => arithR s k (0 - n)
 | .neg, .flt s x => ret (.flt s (fneg x))
 | .neg, .cpx s x y => ret (.cpx s (fneg x) (fneg y))
 | .not, .bool b => ret (.bool !b)
 | .not, .sbool b => ret (.sbool !b)
 | _, _ => no
def ofInt (n : Int) : Nat := floatOfInt .f64 n
def toIntV (x : Nat) (k : IntKind) : Option Int := floatToIntVal .f64 x k
def rowsOf (a : AA) (esz sz : Nat) (c : Cont) (j : Nat) : List AV :=
 bif Nat.beq esz sz && Nat.beq a.o 0 then c.row (a.i + j) else ((c.row a.i).drop (a.o + j * esz)).take esz
def rowsCk (s : Bool) (a : AA) (esz sz n m : Nat) : M Unit :=
 bif Nat.beq esz sz && Nat.beq a.o 0 then ck (s || a.s) (a.i + m ≤ n)
 else (ck (s || a.s) (a.i < n)).andThen fun _ => ck (s || a.s) (a.o + m * esz ≤ sz)
def convD (d : TypeDesc) (x : AV) : M AV :=
 match d, x with
 | .int k, .int s _ n => bif s && isI64 k then (req (-9223372036854775808 ≤ n ∧ n ≤ 9223372036854775807)).andThen fun _ => ret (.int s k n) else ret (.int s k (k.wrap n))
 | .int k, .bits s x => (ck s (isnan x = false)).andThen fun _ => bif s && isI64 k then (req ((x : Int) ≤ 9223372036854775807)).andThen fun _ => ret (.int s k x) else ret (.int s k (k.wrap x))
 | .float .f64, .int s _ n => ret (.flt s (ofInt n))
 | .float .f64, .flt s x => ret (.flt s x)
 | .int k, .flt s x => (ck s ((toIntV x k).isSome = true)).andThen fun _ => ret (.int s k ((toIntV x k).getD 0))
 | _, _ => no
def convA (P : Program) (src dst : TypeId) (x : AV) : M AV :=
 (ofOpt (P.underlying src)).andThen fun _ => (ofOpt (P.underlying dst)).andThen fun d => convD d x
def isStrD (P : Program) (t : TypeId) : Bool :=
 match P.underlying t with
 | some .string => true
 | _ => false
def lenA (P : Program) (t : TypeId) : AV → M AV
 | .slc s _ _ len => (okIf (sliceE P t).isSome).andThen fun _ => ret (.int s .i64 len)
 | .nils => (okIf (sliceE P t).isSome).andThen fun _ => ret (.int false .i64 0)
 | .str s l => (okIf (isStrD P t)).andThen fun _ => ret (.int s .i64 l.length)
 | .hdr _ len => (okIf (sliceE P t).isSome).andThen fun _ => ret (.int true .i64 len)
 | .txs len _ => (okIf (sliceE P t).isSome).andThen fun _ => ret (.int true .i64 len)
 | _ => no
def boundA (d : Nat) : Option AV → Option (Bool × Int)
 | none => some (false, d)
 | some v => asInt v
def stepA (a : AA) (s : Bool) (esz sz n : Nat) : AA :=
 bif Nat.beq esz sz && Nat.beq a.o 0 then ⟨s, a.g, a.i + n, 0⟩ else ⟨s, a.g, a.i, a.o + n * esz⟩
def sliceA (P : Program) (t : TypeId) (x : AV) (lo hi mx : Option AV) : M AV :=
 (okIf mx.isNone).andThen fun _ =>
 match x with
 | .slc s own a len =>
  (ofOpt (sliceE P t)).andThen fun e =>
  (ofOpt (lay P e)).andThen fun y =>
  (ofOpt (boundA 0 lo)).andThen fun l =>
  (ofOpt (boundA len hi)).andThen fun h =>
  (ck (s || l.1 || h.1) (0 ≤ l.2 ∧ l.2 ≤ h.2 ∧ h.2 ≤ len)).andThen fun _ =>
  bif lo.isNone then ret (.slc (s || h.1) own a h.2.toNat)
  else (getC a.g).andThen fun b => ret (.slc (s || l.1 || h.1) false (stepA a (a.s || l.1) y.1 b.2.1 l.2.toNat) (h.2.toNat - l.2.toNat))
 | .str s cs =>
  (okIf (isStrD P t)).andThen fun _ =>
  (ofOpt (boundA 0 lo)).andThen fun l =>
  (ofOpt (boundA cs.length hi)).andThen fun h =>
  (ck (s || l.1 || h.1) (0 ≤ l.2 ∧ l.2 ≤ h.2 ∧ h.2 ≤ cs.length)).andThen fun _ => ret (.str (s || l.1 || h.1) ((cs.drop l.2.toNat).take (h.2.toNat - l.2.toNat)))
 | .ptr a =>
  (ofOpt (arrayE P t)).andThen fun ne =>
  (ofOpt (lay P ne.2)).andThen fun _ =>
  (okIf lo.isNone).andThen fun _ =>
  (ofOpt (boundA ne.1 hi)).andThen fun h =>
  (ck h.1 (0 ≤ h.2 ∧ h.2 ≤ ne.1)).andThen fun _ => ret (.slc (a.s || h.1) false a h.2.toNat)
 | _ => no
def indexAddrA (P : Program) (t : TypeId) (x ix : AV) : M AV :=
 (ofOpt (asInt ix)).andThen fun i =>
 match x with
 | .slc s _ a len =>
  (ofOpt (sliceE P t)).andThen fun e =>
  (ck (i.1 || s) (0 ≤ i.2 ∧ i.2 < len)).andThen fun _ =>
  (ofOpt (lay P e)).andThen fun y =>
  (getC a.g).andThen fun b => ret (.ptr (stepA a (a.s || i.1 || s) y.1 b.2.1 i.2.toNat))
 | .ptr a =>
  (ofOpt (arrayE P t)).andThen fun ne =>
  (ck i.1 (0 ≤ i.2 ∧ i.2 < ne.1)).andThen fun _ =>
  (ofOpt (lay P ne.2)).andThen fun y => ret (.ptr ⟨a.s || i.1, a.g, a.i, a.o + i.2.toNat * y.1⟩)
 | .txs len f =>
  (ofOpt (sliceE P t)).andThen fun e =>
  (req (0 ≤ i.2 ∧ i.2 < len)).andThen fun _ =>
  (ofOpt (lay P e)).andThen fun y => (okIf (Nat.beq y.1 1)).andThen fun _ => ret (.ptx (f i.2.toNat))
 | _ => no
def partA (y : Nat × Bool) (cs : List AV) (off : Nat) : M AV :=
 bif y.2 then (okIf (decide (off + y.1 ≤ cs.length))).andThen fun _ => ret (.agg ((cs.drop off).take y.1)) else ofOpt cs[off]?
def indexA (P : Program) (t : TypeId) (x ix : AV) : M AV :=
 (ofOpt (asInt ix)).andThen fun i =>
 match x with
 | .str s l => (okIf (isStrD P t)).andThen fun _ => (ck (i.1 || s) (0 ≤ i.2 ∧ i.2 < l.length)).andThen fun _ => ret (.int (i.1 || s) .u8 (l.getD i.2.toNat 0).toNat)
 | .agg cs =>
  (ofOpt (arrayE P t)).andThen fun ne =>
  (ck i.1 (0 ≤ i.2 ∧ i.2 < ne.1)).andThen fun _ =>
  (ofOpt (lay P ne.2)).andThen fun y => partA y cs (i.2.toNat * y.1)
 | _ => no
def fieldOf (P : Program) (t : TypeId) (f : Nat) : Option Field :=
 match P.underlying t with
 | some (.struct fs) => fs[f]?
 | _ => none
def fieldAddrA (P : Program) (t : TypeId) (x : AV) (f : Nat) : M AV :=
 (ofOpt (asPtr x)).andThen fun a =>
 (ofOpt (fieldOf P t f)).andThen fun fd =>
 (ofOpt (lay P fd.type)).andThen fun y =>
 (okIf (!Nat.beq y.1 0)).andThen fun _ => ret (.ptr ⟨a.s, a.g, a.i, a.o + fd.offset⟩)
def fieldA (P : Program) (t : TypeId) (x : AV) (f : Nat) : M AV :=
 (ofOpt (asAgg x)).andThen fun cs =>
 (ofOpt (fieldOf P t f)).andThen fun fd =>
 (ofOpt (lay P fd.type)).andThen fun y => partA y cs fd.offset
def zeroRow (P : Program) (e : TypeId) : Option (List AV × Nat) :=
 match P.info? e, zeroOf P e with
 | some i, some z => bif Nat.beq z.cells.length i.size && z.cells.all AV.one && !Nat.beq i.size 0 then some (z.cells, i.bytes) else none
 | _, _ => none
def makeSliceA (P : Program) (t : TypeId) (l c : AV) : M AV :=
 (ofOpt (asInt l)).andThen fun n =>
 (ofOpt (asInt c)).andThen fun m =>
 (ofOpt (sliceE P t)).andThen fun e =>
 (ofOpt (zeroRow P e)).andThen fun z =>
 (ck (n.1 || m.1) (0 ≤ n.2 ∧ n.2 ≤ m.2 ∧ z.2 * m.2 ≤ 140737488355328 ∧ m.2 ≤ 9223372036854775807)).andThen fun _ =>
 (newB (.cells true z.1.length n.2.toNat (bif n.1 then .fn fun _ => z.1 else .lit z.1 .e))).andThen fun nm =>
 ret (.slc n.1 true ⟨false, nm, 0, 0⟩ n.2.toNat)
def fillA (place : Nat → Option (Nat × Nat)) (cells : List AV) : List (Nat × AV) → Option (List AV)
 | [] => some cells
 | (i, v) :: rest =>
  match place i with
  | none => none
  | some (off, size) =>
   bif Nat.beq v.cells.length size && decide (off + size ≤ cells.length) then fillA place (splice cells off v.cells) rest else none
def placesOf (P : Program) : List Field → Option (List (Nat × Nat))
 | [] => some []
 | f :: l =>
  match lay P f.type, placesOf P l with
  | some y, some r => some ((f.offset, y.1) :: r)
  | _, _ => none
def placeOf (P : Program) (t : TypeId) : Option (Nat → Option (Nat × Nat)) :=
 match P.underlying t with
 | some (.struct fs) => (placesOf P fs.toList).map fun ps i => ps[i]?
 | some (.array _ e) => (lay P e).map fun y i => some (i * y.1, y.1)
 | _ => none
def buildA (P : Program) (t : TypeId) (parts : List (Nat × AV)) : M AV :=
 (okIf (parts.all fun p => p.2.cells.all AV.one)).andThen fun _ =>
 (ofOpt (zeroOf P t)).andThen fun z =>
 (ofOpt (placeOf P t)).andThen fun place =>
 (ofOpt (fillA place z.cells parts)).andThen fun cs => ret (.agg cs)
def chop (sz : Nat) : Nat → List AV → T (List AV) → Nat → T (List AV)
 | 0, _, t, _ => t
 | n + 1, l, t, i => chop sz n (l.drop sz) (t.upd i (some (l.take sz))) (i + 1)
def manyOf (z : List AV) : Nat → List AV
 | 0 => []
 | n + 1 => z ++ manyOf z n
def buildSliceA (P : Program) (t : TypeId) (len : Nat) (parts : List (Nat × AV)) : M AV :=
 (ofOpt (sliceE P t)).andThen fun e =>
 (ofOpt (zeroRow P e)).andThen fun z =>
 (okIf (decide (len * z.1.length ≤ 16777216) && parts.all fun p => p.2.cells.all AV.one)).andThen fun _ =>
 (ofOpt (fillA (fun i => some (i * z.1.length, z.1.length)) (manyOf z.1 len) parts)).andThen fun cs =>
 (okIf (cs.all AV.one)).andThen fun _ =>
 (newB (.cells true z.1.length len (.lit z.1 (chop z.1.length len cs .e 0)))).andThen fun nm => ret (.slc false true ⟨false, nm, 0, 0⟩ len)
def srcOf (esz : Nat) : AV → M (Bool × Nat × (Nat → List AV))
 | .nils => ret (false, 0, fun _ => [])
 | .slc s _ a len => (getC a.g).andThen fun b => (rowsCk s a esz b.2.1 b.2.2.1 len).andThen fun _ => ret (s, len, rowsOf a esz b.2.1 b.2.2.2)
 | _ => no
def rowJ (c : Cont) (len j : Nat) : List AV := match c with
 | .fn f => f j
 | .lit d t => bif Nat.beq len 1 then (Cont.lit d t).row 0 else (Cont.lit d t).row j
theorem rowJ_eq (c : Cont) {len j : Nat} (h : j < len) : rowJ c len j = c.row j := by
 cases c with
 | fn f => rfl
 | lit d t =>
  show (bif Nat.beq len 1 then _ else _) = _
  cases e : Nat.beq len 1 with
  | false => rfl
  | true =>
   have := Nat.eq_of_beq_eq_true e
   obtain rfl : j = 0 := by omega
   rfl
def appendA (P : Program) (t u : TypeId) (x y : AV) : M AV :=
 (ofOpt (sliceE P t)).andThen fun e =>
 (okIf (Nat.beq t u)).andThen fun _ =>
 (ofOpt (zeroRow P e)).andThen fun z =>
 (srcOf z.1.length y).andThen fun src =>
 match x with
 | .nils =>
  bif !src.1 && Nat.beq src.2.1 0 then ret .nils else
  (ck src.1 (src.2.1 * z.2 ≤ 140737488355328 ∧ src.2.1 ≤ 9223372036854775807)).andThen fun _ =>
  (newB (.cells true z.1.length src.2.1 (bif src.1 then .fn src.2.2 else Cont.more src.2.2 0 src.2.1 (.lit [] .e)))).andThen fun nm =>
  ret (.slc src.1 true ⟨false, nm, 0, 0⟩ src.2.1)
 | .slc s own a len =>
  (getC a.g).andThen fun b =>
  (okIf (own && b.1 && Nat.beq b.2.1 z.1.length)).andThen fun _ =>
  (ck (s || src.1) (len ≤ b.2.2.1 ∧ (len + src.2.1) * z.2 ≤ 140737488355328 ∧ len + src.2.1 ≤ 9223372036854775807)).andThen fun _ =>
  (delB a.g).andThen fun _ =>
  (newB (.cells true z.1.length (len + src.2.1) (bif s || src.1 then .fn (fun j => bif decide (j < len) then rowJ b.2.2.2 len j else (bif Nat.beq src.2.1 1 then src.2.2 0 else src.2.2 (j - len))) else Cont.more src.2.2 len src.2.1 b.2.2.2))).andThen fun nm =>
  ret (.slc (s || src.1) true ⟨false, nm, 0, 0⟩ (len + src.2.1))
 | _ => no
def minN (a b : Nat) : Nat := bif Nat.ble a b then a else b
def copyA (P : Program) (t : TypeId) (x y : AV) : M AV :=
 (ofOpt (sliceE P t)).andThen fun e =>
 (ofOpt (zeroRow P e)).andThen fun z =>
 (okIf (Nat.beq z.1.length 1)).andThen fun _ =>
 (srcOf 1 y).andThen fun src =>
 match x with
 | .slc s _ a len =>
  (getC a.g).andThen fun b =>
  (okIf (b.1 && Nat.beq b.2.1 1 && Nat.beq a.o 0)).andThen fun _ =>
  (ck (s || a.s) (a.i + len ≤ b.2.2.1)).andThen fun _ =>
  (setB a.g (.cells true 1 b.2.2.1 (bif s || a.s || src.1 then .fn (fun j => bif decide (a.i ≤ j ∧ j < a.i + minN src.2.1 len) then src.2.2 (j - a.i) else b.2.2.2.row j) else Cont.more src.2.2 a.i (minN src.2.1 len) b.2.2.2))).andThen fun _ =>
  ret (.int (s || src.1) .i64 (minN src.2.1 len))
 | _ => no
def fmax (x y : Nat) : Nat :=
 match forder x y with
 | none => qn
 | some .lt => y
 | some .gt => x
 | some .eq => bif decide (9223372036854775808 ≤ x) then y else x
def fmin (x y : Nat) : Nat :=
 match forder x y with
 | none => qn
 | some .lt => x
 | some .gt => y
 | some .eq => bif decide (9223372036854775808 ≤ x) then x else y
def maxA (x y : AV) : M AV :=
 match x, y with
 | .int s k a, .int s' k' b => bif decide (k = k') then ret (.int (s || s') k (if b > a then b else a)) else no
 | .flt s a, .flt s' b => ret (.flt (s || s') (fmax a b))
 | _, _ => no
def minA (x y : AV) : M AV :=
 match x, y with
 | .int s k a, .int s' k' b => bif decide (k = k') then ret (.int (s || s') k (if b < a then b else a)) else no
 | .flt s a, .flt s' b => ret (.flt (s || s') (fmin a b))
 | _, _ => no
def foldA (f : AV → AV → M AV) : AV → List AV → M AV
 | x, [] => ret x
 | x, y :: l => (f x y).andThen fun z => foldA f z l
def builtinA (P : Program) (b : Builtin) (ts : List TypeId) (args : List AV) : M AV :=
 match b, ts, args with
 | .len, [t], [x] => lenA P t x
 | .real, _, [.cpx s x _] => ret (.flt s x)
 | .imag, _, [.cpx s _ y] => ret (.flt s y)
 | .complex, _, [.flt s x, .flt s' y] => ret (.cpx (s || s') x y)
 | .append, [t, u], [x, y] => appendA P t u x y
 | .copy, [t, u], [x, y] => copyA P t x y
 | .max, _, x :: l => foldA maxA x l
 | .min, _, x :: l => foldA minA x l
 | _, _, _ => no
inductive MK where
 | si
 | ii
def isZ : Option AV → Bool
 | some (.int false .i64 0) => true
 | _ => false
def mapK (P : Program) (t : TypeId) : Option MK :=
 match P.underlying t with
 | some (.map k e) =>
  bif isZ (zeroOf P e) then
   match P.underlying k with
   | some .string => some .si
   | some (.int .i64) => some .ii
   | _ => none
  else none
 | _ => none
def lfind {α : Type} (eq : α → α → Bool) (x : α) : List (α × Int) → Option Int
 | [] => none
 | p :: l => bif eq x p.1 then some p.2 else lfind eq x l
def lput {α : Type} (eq : α → α → Bool) (x : α) (v : Int) : List (α × Int) → List (α × Int)
 | [] => [(x, v)]
 | p :: l => bif eq x p.1 then (x, v) :: l else p :: lput eq x v l
def seq (a b : List UInt8) : Bool := a == b
def ieq (a b : Int) : Bool := a == b
def foundV (ok s : Bool) (r : Option Int) : AV := bif ok then .tup [.int s .i64 (r.getD 0), cmpB s r.isSome] else .int s .i64 (r.getD 0)
def asSI : ABk → Option (Bool × List (List UInt8 × Int))
 | .mSI s l => some (s, l)
 | _ => none
def asII : ABk → Option (Bool × List (Int × Int))
 | .mII s l => some (s, l)
 | _ => none
def asSit : ABk → Option (Bool × List UInt8 × Nat)
 | .sit s l n => some (s, l, n)
 | _ => none
def lookA (P : Program) (t : TypeId) (x ix : AV) (ok : Bool) : M AV :=
 (ofOpt (mapK P t)).andThen fun mk =>
 match mk, x, ix with
 | .si, .nilm, .str s _ => ret (foundV ok s none)
 | .ii, .nilm, .int s .i64 _ => ret (foundV ok s none)
 | .si, .mp g, .str s k => (getB g).andThen fun b => (ofOpt (asSI b)).andThen fun y => ret (foundV ok (s || y.1) (lfind seq k y.2))
 | .ii, .mp g, .int s .i64 k => (getB g).andThen fun b => (ofOpt (asII b)).andThen fun y => ret (foundV ok (s || y.1) (lfind ieq k y.2))
 | _, _, _ => no
def mapSetA (P : Program) (t : TypeId) (m k v : AV) : M Unit :=
 (ofOpt (mapK P t)).andThen fun mk =>
 match mk, m, k, v with
 | .si, .mp g, .str s k, .int s' .i64 v => (getB g).andThen fun b => (ofOpt (asSI b)).andThen fun y => setB g (.mSI (s || s' || y.1) (lput seq k v y.2))
 | .ii, .mp g, .int s .i64 k, .int s' .i64 v => (getB g).andThen fun b => (ofOpt (asII b)).andThen fun y => setB g (.mII (s || s' || y.1) (lput ieq k v y.2))
 | _, _, _, _ => no
def noMap : MK → ABk
 | .si => .mSI false []
 | .ii => .mII false []
def hintOk : Option AV → Bool
 | none => true
 | some v => (asInt v).isSome
def makeMapA (P : Program) (t : TypeId) (r : Option AV) : M AV :=
 (ofOpt (mapK P t)).andThen fun mk => (okIf (hintOk r)).andThen fun _ => (newB (noMap mk)).andThen fun nm => ret (.mp nm)
def asStr : AV → Option (Bool × List UInt8)
 | .str s l => some (s, l)
 | _ => none
def rangeA (P : Program) (t : TypeId) (x : AV) : M AV :=
 (ofOpt (asStr x)).andThen fun y => (okIf (isStrD P t)).andThen fun _ => (newB (.sit y.1 y.2 0)).andThen fun nm => ret (.ptr ⟨false, nm, 0, 0⟩)
def decS (s b : Bool) : M Bool := bif s then dec b else ret b
def nextA (it : AV) (isString : Bool) : M AV :=
 (okIf isString).andThen fun _ =>
 (ofOpt (asPtr it)).andThen fun a =>
 (okIf (Nat.beq a.i 0 && Nat.beq a.o 0)).andThen fun _ =>
 (getB a.g).andThen fun b =>
 (ofOpt (asSit b)).andThen fun y =>
 (decS y.1 (decide (y.2.2 < y.2.1.length))).andThen fun d =>
 bif d then (setB a.g (.sit y.1 y.2.1 (y.2.2 + (Utf8.decode ⟨y.2.1.toArray⟩ y.2.2).2))).andThen fun _ => ret (.tup [.bool true, .int y.1 .i64 y.2.2, .int y.1 .i32 (Utf8.decode ⟨y.2.1.toArray⟩ y.2.2).1])
 else ret (.tup [.bool false])
def byteOf : List AV → Option Int
 | [.int _ .u8 n] => some n
 | _ => none
def symOf : List AV → Bool
 | [.int s .u8 _] => s
 | _ => false
def bytesOf (rows : Nat → List AV) : Nat → Nat → Option (List Int)
 | _, 0 => some []
 | i, n + 1 =>
  match byteOf (rows i), bytesOf rows (i + 1) n with
  | some x, some l => some (x :: l)
  | _, _ => none
def symsOf (rows : Nat → List AV) : Nat → Nat → Bool
 | _, 0 => false
 | i, n + 1 => symOf (rows i) || symsOf rows (i + 1) n
def isBytes (P : Program) (t : TypeId) : Bool :=
 match sliceE P t with
 | some e =>
  match P.underlying e with
  | some (.int .u8) => true
  | _ => false
 | none => false
def textA (P : Program) (src dst : TypeId) (x : AV) : M AV :=
 (okIf (isBytes P src && isStrD P dst)).andThen fun _ =>
 (srcOf 1 x).andThen fun y =>
 (okIf !y.1).andThen fun _ =>
 (ofOpt (bytesOf y.2.2 0 y.2.1)).andThen fun l => ret (.str (symsOf y.2.2 0 y.2.1) (l.map fun n => UInt8.ofNat n.toNat))
def convAll (P : Program) (src dst : TypeId) (x : AV) : M AV :=
 match x with
 | .slc s own a len => textA P src dst (.slc s own a len)
 | .nils => textA P src dst .nils
 | x => convA P src dst x
abbrev Fr := T AV
def evalA (fr : Fr) : Operand → AV
 | .tmp t => (fr.get t).getD .top
 | .const v => ofVal v
 | .global _ => .top
 | .func f => .fn (.func f) [] []
abbrev Calls' := FuncId → List AV → M AV
def opA (P : Program) (call : Calls') (fr : Fr) (o : Oper) : M AV :=
 match o.op with
 | .move x => ret (evalA fr x)
 | .assign x => ret (evalA fr x)
 | .pick c a b =>
  match evalA fr c with
  | .bool t => ret (bif t then evalA fr a else evalA fr b)
  | .sbool t => (dec t).andThen fun d => ret (bif d then evalA fr a else evalA fr b)
  | _ => no
 | .alloc e => (ofOpt (zeroOf P e)).andThen fun z => boxA z
 | .box e x => boxA (evalA fr x)
 | .build t ps => buildA P t (ps.toList.map fun p => (p.1, evalA fr p.2))
 | .buildSlice t len ps => buildSliceA P t len (ps.toList.map fun p => (p.1, evalA fr p.2))
 | .load t x => loadX P t (evalA fr x)
 | .store t x v => (ofOpt (asPtr (evalA fr x))).andThen fun a => (storeA P t a (evalA fr v)).andThen fun _ => ret .top
 | .nilCheck x =>
  match evalA fr x with
  | .ptr a => ret (.ptr a)
  | .fn (.func f) l c => ret (.fn (.func f) l c)
  | _ => no
 | .binOp op t x y _ => binA P op t (evalA fr x).fl (evalA fr y).fl
 | .unOp op _ x => unA op (evalA fr x).fl
 | .convert s d x => convAll P s d (evalA fr x).fl
 | .lookup t x i ok => lookA P t (evalA fr x) (evalA fr i) ok
 | .mapUpdate t m k x => (mapSetA P t (evalA fr m) (evalA fr k) (evalA fr x)).andThen fun _ => ret .top
 | .insert t m k x => (mapSetA P t (evalA fr m) (evalA fr k) (evalA fr x)).andThen fun _ => ret .top
 | .makeMap t r => makeMapA P t (r.map (evalA fr))
 | .range t x => rangeA P t (evalA fr x)
 | .next it s => nextA (evalA fr it) s
 | .makeFunc f l c => ret (.fn f (l.toList.map (evalA fr)) (c.toList.map (evalA fr)))
 | .makeSlice t l c => makeSliceA P t (evalA fr l) (evalA fr c)
 | .slice t x lo hi mx => sliceA P t (evalA fr x) (lo.map (evalA fr)) (hi.map (evalA fr)) (mx.map (evalA fr))
 | .fieldAddr t x f => fieldAddrA P t (evalA fr x) f
 | .field t x f => fieldA P t (evalA fr x) f
 | .indexAddr t x i => indexAddrA P t (evalA fr x) (evalA fr i)
 | .index t x i => indexA P t (evalA fr x) (evalA fr i)
 | .extract x i =>
  match evalA fr x with
  | .tup l => ofOpt l[i]?
  | _ => no
 | .call c =>
  match c.callee with
  | .value f =>
   match evalA fr f with
   | .fn (.func k) l cap => call k (l ++ c.args.toList.map (evalA fr) ++ cap)
   | _ => no
  | .builtin b => builtinA P b c.argTypes.toList (c.args.toList.map fun x => (evalA fr x).fl)
  | .invoke _ _ => no
 | _ => no
def putA (n : Nat) (fr : Fr) (dst : Option Tmp) (v : AV) : M Fr :=
 match dst with
 | some d => bif Nat.blt d n then ret (fr.upd d (some v)) else no
 | none => ret fr
def opsA0 (P : Program) (call : Calls') (n : Nat) (all : List Oper) : List Oper → Fr → M Fr
 | [], fr => ret fr
 | o :: rest, fr =>
  match o.guard with
  | none => (opA P call fr o).andThen fun v => (putA n fr o.dst v).andThen fun fr' => opsA0 P call n all rest fr'
  | some (j, want) =>
   match (all[j]?).bind (·.dst) with
   | none => no
   | some d =>
    match fr.get d with
    | some (.bool b) =>
     bif b == want then (opA P call fr o).andThen fun v => (putA n fr o.dst v).andThen fun fr' => opsA0 P call n all rest fr'
     else (putA n fr o.dst (.tup [])).andThen fun fr' => opsA0 P call n all rest fr'
    | some (.sbool b) =>
     (dec b).andThen fun t =>
     bif t == want then (opA P call (fr.upd d (some (.bool t))) o).andThen fun v => (putA n (fr.upd d (some (.bool t))) o.dst v).andThen fun fr' => opsA0 P call n all rest fr'
     else (putA n (fr.upd d (some (.bool t))) o.dst (.tup [])).andThen fun fr' => opsA0 P call n all rest fr'
    | some (.tup _) => (putA n fr o.dst (.tup [])).andThen fun fr' => opsA0 P call n all rest fr'
    | _ => no
def doA (P : Program) (call : Calls') (n : Nat) (fr : Fr) (o : Oper) : M Fr := (opA P call fr o).andThen fun v => putA n fr o.dst v
def skipA (n : Nat) (fr : Fr) (o : Oper) : M Fr := putA n fr o.dst (.tup [])
def guardStep (P : Program) (call : Calls') (n : Nat) (all : List Oper) (o : Oper) (fr : Fr) (p : Nat × Bool) : M Fr :=
 match (all[p.1]?).bind (·.dst) with
 | none => no
 | some d =>
  match fr.get d with
  | some (.bool b) => bif b == p.2 then doA P call n fr o else skipA n fr o
  | some (.sbool b) => (dec b).andThen fun t => bif t == p.2 then doA P call n (fr.upd d (some (.bool t))) o else skipA n (fr.upd d (some (.bool t))) o
  | some (.tup _) => skipA n fr o
  | _ => no
def stepO (P : Program) (call : Calls') (n : Nat) (all : List Oper) (o : Oper) (fr : Fr) : M Fr :=
 match o.guard with
 | none => doA P call n fr o
 | some p => guardStep P call n all o fr p
def opsA (P : Program) (call : Calls') (n : Nat) (all : List Oper) (l : List Oper) : Fr → M Fr :=
 List.rec (fun fr => ret fr) (fun o _ ih fr => (stepO P call n all o fr).andThen ih) l
theorem M.assoc {α β γ : Type} (x : M α) (f : α → M β) (k : β → M γ) : (x.andThen f).andThen k = x.andThen fun a => (f a).andThen k := by
 funext g
 unfold M.andThen
 cases x g <;> rfl
theorem M.no_then {α β : Type} (k : α → M β) : (M.no : M α).andThen k = M.no := rfl
theorem cond_then {α β : Type} (b : Bool) (x y : M α) (k : α → M β) : (bif b then x else y).andThen k = bif b then x.andThen k else y.andThen k := by cases b <;> rfl
theorem opsA_cons (P : Program) (call : Calls') (n : Nat) (all : List Oper) (o : Oper) (l : List Oper) (fr : Fr) : opsA P call n all (o :: l) fr = (stepO P call n all o fr).andThen (opsA P call n all l) := rfl
theorem opsA_eq (P : Program) (call : Calls') (n : Nat) (all : List Oper) : ∀ (l : List Oper) (fr : Fr), opsA P call n all l fr = opsA0 P call n all l fr
 | [], fr => rfl
 | o :: l, fr => by
  have ih : opsA P call n all l = opsA0 P call n all l := by funext fr; exact opsA_eq P call n all l fr
  rw [opsA_cons, ih]
  unfold opsA0 stepO
  cases o.guard with
  | none => simp only [doA, M.assoc]
  | some p =>
   obtain ⟨j, want⟩ := p
   simp only [guardStep]
   cases (all[j]?).bind (·.dst) with
   | none => rfl
   | some d =>
    simp only
    cases fr.get d with
    | none => rfl
    | some v => cases v <;> simp only [doA, skipA, M.assoc, cond_then, M.no_then]
inductive Ex where
 | normal
 | exit (id : Nat)
 | ret
def loopA (body : Fr → M (Ex × Fr)) : Nat → Fr → M (Ex × Fr)
 | 0, _ => no
 | n + 1, fr => (body fr).andThen fun r =>
  match r.1 with
  | .normal => loopA body n r.2
  | e => M.ret (e, r.2)
abbrev Loops := Nat → Option (Fr → M (Ex × Fr))
def noLoops : Loops := fun _ => none
def codeA (P : Program) (call : Calls') (region : List Oper → Fr → M Fr) (loops : Loops) (n rounds : Nat) : Code → Fr → M (Ex × Fr)
 | .skip, fr => ret (.normal, fr)
 | .region _ ops false, fr => (opsA P call n ops.toList ops.toList fr).andThen fun fr => ret (.normal, fr)
 | .region _ ops true, fr => (region ops.toList fr).andThen fun fr => ret (.normal, fr)
 | .seq a b, fr => (codeA P call region loops n rounds a fr).andThen fun r =>
  match r.1 with
  | .normal => codeA P call region loops n rounds b r.2
  | e => ret (e, r.2)
 | .cond c x y, fr =>
  match evalA fr c with
  | .bool t => bif t then codeA P call region loops n rounds x fr else codeA P call region loops n rounds y fr
  | .sbool t => (dec t).andThen fun d => bif d then codeA P call region loops n rounds x fr else codeA P call region loops n rounds y fr
  | _ => no
 | .block id c, fr =>
  match loops id with
  | some S => S fr
  | none => (codeA P call region loops n rounds c fr).andThen fun r =>
   match r.1 with
   | .exit id' => bif Nat.beq id' id then ret (.normal, r.2) else ret r
   | _ => ret r
 | .loop c, fr => loopA (codeA P call region loops n rounds c) rounds fr
 | .exit id, fr => ret (.exit id, fr)
 | .ret, fr => ret (.ret, fr)
 | _, _ => no
def resultA (P : Program) (fr : Fr) : ResultVar → M AV
 | .tmp t => ret ((fr.get t).getD .top)
 | .cell a t =>
  match (fr.get a).getD .top with
  | .ptr ad => loadA P t ad
  | _ => no
def resultsA (P : Program) (fr : Fr) : List ResultVar → M (List AV)
 | [] => ret []
 | r :: l => (resultA P fr r).andThen fun v => (resultsA P fr l).andThen fun vs => ret (v :: vs)
def frameOf : List AV → Nat → Fr → Fr
 | [], _, fr => fr
 | v :: l, i, fr => frameOf l (i + 1) (fr.upd i (some v))
abbrev Known := FuncId → Option (List AV → M AV)
def runA (P : Program) (Γ : Known) (Λ : FuncId → Loops) (region : Calls' → Nat → List Oper → Fr → M Fr) (rounds : Nat) : Nat → FuncId → List AV → M AV
 | 0, _, _ => no
 | n + 1, f, args =>
  match Γ f with
  | some s => s args
  | none =>
   match P.funcs[f]? with
   | none => no
   | some fn =>
    match fn.body with
    | none => no
    | some c =>
     (codeA P (runA P Γ Λ region rounds n) (region (runA P Γ Λ region rounds n) fn.ntmps) (Λ f) fn.ntmps rounds c (frameOf args 0 .e)).andThen fun r =>
     match r.1 with
     | .exit _ => no
     | _ => (resultsA P r.2 fn.results.toList).andThen fun vs =>
      match vs with
      | [v] => ret v
      | _ => ret (.tup vs)
end Go.Sx
namespace Go.Sx
open M
structure MM where
 blk : Nat → Nat
 cap : Nat → Nat
 sz : Nat → Nat
 base : Nat → Nat
 /-- what is frozen: nobody writes there again -/
 fz : Nat → Option Obj
def MM.addr (μ : MM) (a : AA) : Addr := ⟨μ.blk a.g, μ.base a.g + a.i * μ.sz a.g + a.o, none⟩
def FB (x b : Nat) : Prop := cn b = x ∧ b < 18446744073709551616
def RepS (μ : MM) (s own : Bool) (a : AA) (len : Nat) (c : Value) : Prop :=
 ∃ A C, c = .slice A len C ∧ len ≤ C ∧ (0 < len → A = some (μ.addr a)) ∧ (s = false → A.isSome = true) ∧
  (own = true → a.i = 0 ∧ a.o = 0 ∧ ((A = none ∧ C = 0 ∧ len = 0) ∨ (A = some ⟨μ.blk a.g, 0, none⟩ ∧ C = μ.cap a.g)))
mutual
def Rep (N : Nat) (μ : MM) : AV → Value → Prop
 | .top, _ => True
 | .bool b, c => c = .bool b
 | .sbool b, c => c = .bool b
 | .int _ k n, c => c = .int k n
 | .flt _ x, c => ∃ b, c = .float .f64 b ∧ FB x b
 | .raw _ x, c => c = .float .f64 x ∧ x < 18446744073709551616
 | .bits _ x, c => ∃ b : Nat, c = .int .u64 b ∧ FB x b
 | .cpx _ x y, c => ∃ a b, c = .complex .f64 a b ∧ FB x a ∧ FB y b
 | .str _ l, c => c = .string ⟨l.toArray⟩
 | .ptr a, c => a.g < N ∧ c = .pointer (some (μ.addr a))
 | .nilp, c => c = .pointer none
 | .slc s own a len, c => a.g < N ∧ RepS μ s own a len c
 | .nils, c => c = .slice none 0 0
 | .mp g, c => g < N ∧ c = .map (some (μ.blk g))
 | .nilm, c => c = .map none
 | .fn f l cap, c => ∃ fs cs, c = .func f fs cs ∧ Reps N μ l fs.toList ∧ Reps N μ cap cs.toList
 | .nilf, c => c = .nilFunc
 | .nili, c => c = .nilIface
 | .hdr b len, c => ∃ C, c = .slice (some ⟨b, 0, none⟩) len C ∧ len ≤ C
 | .any1, c => c.oneCell' = true
 | .txs n f, c => 0 < N ∧ ∃ b C cur ty z, c = .slice (some ⟨b, 0, none⟩) n C ∧ n ≤ C ∧ μ.fz b = some (.cells cur ty z) ∧ ∀ i, i < n → cur[i]? = some (.string ⟨(f i).toArray⟩)
 | .ptx x, c => 0 < N ∧ ∃ b i cur ty z, c = .pointer (some ⟨b, i, none⟩) ∧ μ.fz b = some (.cells cur ty z) ∧ cur[i]? = some (.string ⟨x.toArray⟩)
 | .agg l, c => ∃ cs, c = .agg cs ∧ Reps N μ l cs.toList
 | .tup l, c => ∃ cs, c = .tuple cs ∧ Reps N μ l cs.toList
def Reps (N : Nat) (μ : MM) : List AV → List Value → Prop
 | [], cs => cs = []
 | v :: l, cs => ∃ c r, cs = c :: r ∧ Rep N μ v c ∧ Reps N μ l r
end
theorem Reps.length {N : Nat} {μ : MM} : ∀ {l : List AV} {cs : List Value}, Reps N μ l cs → cs.length = l.length
 | [], cs, h => by simp only [Reps] at h; simp [h]
 | v :: l, cs, h => by
  simp only [Reps] at h
  obtain ⟨c, r, rfl, _, h⟩ := h
  simp [Reps.length h]
theorem Reps.get {N : Nat} {μ : MM} : ∀ {l : List AV} {cs : List Value}, Reps N μ l cs → ∀ {i : Nat} {v : AV}, l[i]? = some v → ∃ c, cs[i]? = some c ∧ Rep N μ v c
 | [], cs, h, i, v, hv => by simp at hv
 | u :: l, cs, h, i, v, hv => by
  simp only [Reps] at h
  obtain ⟨c, r, rfl, hu, h⟩ := h
  cases i with
  | zero => simp at hv; subst hv; exact ⟨c, rfl, hu⟩
  | succ i => simpa using Reps.get h (by simpa using hv)
theorem Reps.of_get {N : Nat} {μ : MM} : ∀ {l : List AV} {cs : List Value}, cs.length = l.length → (∀ (i : Nat) (v : AV), l[i]? = some v → ∃ c, cs[i]? = some c ∧ Rep N μ v c) → Reps N μ l cs
 | [], cs, hl, _ => by simp only [Reps]; exact List.eq_nil_of_length_eq_zero hl
 | v :: l, [], hl, _ => by simp at hl
 | v :: l, c :: r, hl, h => by
  simp only [Reps]
  obtain ⟨c', hc, hv⟩ := h 0 v rfl
  simp at hc
  subst hc
  exact ⟨c, r, rfl, hv, Reps.of_get (by simpa using hl) fun i u hu => by simpa using h (i + 1) u (by simpa using hu)⟩
theorem Reps.drop {N : Nat} {μ : MM} {l : List AV} {cs : List Value} (h : Reps N μ l cs) (n : Nat) : Reps N μ (l.drop n) (cs.drop n) :=
 .of_get (by simp [h.length]) fun i v hv => by
  rw [List.getElem?_drop] at hv ⊢; exact h.get hv
theorem Reps.take {N : Nat} {μ : MM} {l : List AV} {cs : List Value} (h : Reps N μ l cs) (n : Nat) : Reps N μ (l.take n) (cs.take n) :=
 .of_get (by simp [h.length]) fun i v hv => by
  rw [List.getElem?_take] at hv ⊢
  split at hv
  ·rename_i hi; rw [if_pos hi]; exact h.get hv
  ·cases hv
theorem Reps.append {N : Nat} {μ : MM} : ∀ {l : List AV} {cs : List Value} {l' : List AV} {cs' : List Value}, Reps N μ l cs → Reps N μ l' cs' → Reps N μ (l ++ l') (cs ++ cs')
 | [], cs, l', cs', h, h' => by simp only [Reps] at h; subst h; exact h'
 | v :: l, cs, l', cs', h, h' => by
  simp only [Reps] at h
  obtain ⟨c, r, rfl, hv, h⟩ := h
  simp only [List.cons_append, Reps]
  exact ⟨c, r ++ cs', rfl, hv, h.append h'⟩
theorem Reps.map {N : Nat} {μ : MM} {α : Type} (f : α → AV) (f' : α → Value) : ∀ (l : List α), (∀ x, x ∈ l → Rep N μ (f x) (f' x)) → Reps N μ (l.map f) (l.map f')
 | [], _ => by simp [Reps]
 | x :: l, h => by
  simp only [List.map_cons, Reps]
  exact ⟨_, _, rfl, h x (by simp), Reps.map f f' l fun y hy => h y (by simp [hy])⟩
structure MM.upto (N : Nat) (μ μ' : MM) : Prop where
 blk : ∀ g, g < N → μ'.blk g = μ.blk g
 cap : ∀ g, g < N → μ'.cap g = μ.cap g
 sz : ∀ g, g < N → μ'.sz g = μ.sz g
 base : ∀ g, g < N → μ'.base g = μ.base g
 fz : ∀ b o, μ.fz b = some o → μ'.fz b = some o
theorem MM.upto.refl (N : Nat) (μ : MM) : MM.upto N μ μ := ⟨fun _ _ => rfl, fun _ _ => rfl, fun _ _ => rfl, fun _ _ => rfl, fun _ _ h => h⟩
theorem MM.upto.trans {N N' : Nat} {a b c : MM} (h : MM.upto N a b) (k : MM.upto N' b c) (hN : N ≤ N') : MM.upto N a c :=
 ⟨fun g hg => (k.blk g (by omega)).trans (h.blk g hg), fun g hg => (k.cap g (by omega)).trans (h.cap g hg), fun g hg => (k.sz g (by omega)).trans (h.sz g hg), fun g hg => (k.base g (by omega)).trans (h.base g hg), fun b o q => k.fz b o (h.fz b o q)⟩
theorem MM.upto.addr {N : Nat} {μ μ' : MM} (h : MM.upto N μ μ') {a : AA} (ha : a.g < N) : μ'.addr a = μ.addr a := by
 simp [MM.addr, h.blk _ ha, h.sz _ ha, h.base _ ha]
mutual
theorem Rep.later {N N' : Nat} {μ μ' : MM} (h : MM.upto N μ μ') (hN : N ≤ N') : ∀ {v : AV} {c : Value}, Rep N μ v c → Rep N' μ' v c
 | .top, _, _ => by simp [Rep]
 | .bool _, _, r => by simpa [Rep] using r
 | .sbool _, _, r => by simpa [Rep] using r
 | .int .., _, r => by simpa [Rep] using r
 | .flt .., _, r => by simpa [Rep] using r
 | .raw .., _, r => by simpa [Rep] using r
 | .bits .., _, r => by simpa [Rep] using r
 | .cpx .., _, r => by simpa [Rep] using r
 | .str .., _, r => by simpa [Rep] using r
 | .ptr a, _, r => by
  simp only [Rep] at r ⊢
  exact ⟨by omega, by rw [h.addr r.1]; exact r.2⟩
 | .nilp, _, r => by simpa [Rep] using r
 | .slc _ own a len, _, r => by
  simp only [Rep, RepS] at r ⊢
  obtain ⟨hg, A, C, rfl, hl, h1, h3, h2⟩ := r
  exact ⟨by omega, A, C, rfl, hl, by rw [h.addr hg]; exact h1, h3, by rw [h.blk _ hg, h.cap _ hg]; exact h2⟩
 | .nils, _, r => by simpa [Rep] using r
 | .mp g, _, r => by
  simp only [Rep] at r ⊢
  exact ⟨by omega, by rw [h.blk _ r.1]; exact r.2⟩
 | .nilm, _, r => by simpa [Rep] using r
 | .fn f l cap, _, r => by
  simp only [Rep] at r ⊢
  obtain ⟨fs, cs, rfl, h1, h2⟩ := r
  exact ⟨fs, cs, rfl, Reps.later h hN h1, Reps.later h hN h2⟩
 | .nilf, _, r => by simpa [Rep] using r
 | .nili, _, r => by simpa [Rep] using r
 | .hdr .., _, r => by simpa [Rep] using r
 | .any1, _, r => by simpa [Rep] using r
 | .txs .., _, r => by
  simp only [Rep] at r ⊢
  obtain ⟨h0, b, C, cur, ty, z, e, h1, h2, h3⟩ := r
  exact ⟨by omega, b, C, cur, ty, z, e, h1, h.fz _ _ h2, h3⟩
 | .ptx _, _, r => by
  simp only [Rep] at r ⊢
  obtain ⟨h0, b, i, cur, ty, z, e, h2, h3⟩ := r
  exact ⟨by omega, b, i, cur, ty, z, e, h.fz _ _ h2, h3⟩
 | .agg l, _, r => by
  simp only [Rep] at r ⊢
  obtain ⟨cs, rfl, h1⟩ := r
  exact ⟨cs, rfl, Reps.later h hN h1⟩
 | .tup l, _, r => by
  simp only [Rep] at r ⊢
  obtain ⟨cs, rfl, h1⟩ := r
  exact ⟨cs, rfl, Reps.later h hN h1⟩
theorem Reps.later {N N' : Nat} {μ μ' : MM} (h : MM.upto N μ μ') (hN : N ≤ N') : ∀ {l : List AV} {cs : List Value}, Reps N μ l cs → Reps N' μ' l cs
 | [], _, r => by simpa [Reps] using r
 | v :: l, _, r => by
  simp only [Reps] at r ⊢
  obtain ⟨c, t, rfl, h1, h2⟩ := r
  exact ⟨c, t, rfl, Rep.later h hN h1, Reps.later h hN h2⟩
end
theorem Rep.fl1 {N : Nat} {μ : MM} {v : AV} {c : Value} (h : Rep N μ v c) : Rep N μ v.fl1 c := by
 cases v with
 | raw s x => simp only [Rep] at h; simp only [AV.fl1, Rep]; exact ⟨x, h.1, rfl, h.2⟩
 | _ => exact h
theorem Reps.fl1 {N : Nat} {μ : MM} : ∀ {l : List AV} {cs : List Value}, Reps N μ l cs → Reps N μ (l.map AV.fl1) cs
 | [], _, h => h
 | v :: l, _, h => by
  simp only [Reps, List.map_cons] at h ⊢
  obtain ⟨c, r, rfl, h1, h2⟩ := h
  exact ⟨c, r, rfl, h1.fl1, Reps.fl1 h2⟩
theorem Rep.fl {N : Nat} {μ : MM} {v : AV} {c : Value} (h : Rep N μ v c) : Rep N μ v.fl c := by
 cases v with
 | raw s x => exact Rep.fl1 h
 | agg l =>
  simp only [Rep, AV.fl] at h ⊢
  obtain ⟨cs, rfl, h1⟩ := h
  exact ⟨cs, rfl, h1.fl1⟩
 | _ => exact h
def RowOk (N : Nat) (μ : MM) (row : List AV) (sz : Nat) (cur : Array Value) (base : Nat) : Prop :=
 row.length = sz ∧ ∀ (o : Nat) (v : AV), row[o]? = some v → v.one = true ∧ ∃ c, cur[base + o]? = some c ∧ Rep N μ v c
def ABk.owned : ABk → Bool
 | .cells own .. => own
 | _ => true
def ABk.real (μ : MM) (g : Nat) : ABk → Prop
 | .cells own _ n _ => 0 < n ∨ (own = true ∧ 0 < μ.cap g)
 | _ => True
def entSI (l : List (List UInt8 × Int)) (es : List MapEntry) : Prop := es.map (fun e => (e.key, e.val)) = l.map fun p => (Value.string ⟨p.1.toArray⟩, Value.int .i64 p.2)
def entII (l : List (Int × Int)) (es : List MapEntry) : Prop := es.map (fun e => (e.key, e.val)) = l.map fun p => (Value.int .i64 p.1, Value.int .i64 p.2)
def BkOk (N : Nat) (μ : MM) (hp : Array Obj) (g : Nat) : ABk → Prop
 | .cells own sz n c => μ.sz g = sz ∧ 0 < sz ∧ ((0 < n ∨ (own = true ∧ 0 < μ.cap g)) → ∃ cur ty fz, hp[μ.blk g]? = some (.cells cur ty fz) ∧ μ.base g + n * sz ≤ cur.size ∧
   (own = true → fz = (0, 0) ∧ cur.size = μ.cap g * sz ∧ μ.base g = 0) ∧ ∀ i, i < n → RowOk N μ (c.row i) sz cur (μ.base g + i * sz))
 | .mSI _ l => ∃ es clock, hp[μ.blk g]? = some (.map es clock) ∧ entSI l es.toList
 | .mII _ l => ∃ es clock, hp[μ.blk g]? = some (.map es clock) ∧ entII l es.toList
 | .sit _ l pos => hp[μ.blk g]? = some (.stringIter ⟨l.toArray⟩ pos) ∧ μ.base g = 0
def May (μ : MM) (H : T ABk) (B : Nat) : Prop := ∃ g b, H.get g = some b ∧ b.owned = true ∧ b.real μ g ∧ μ.blk g = B
def FzOk (μ : MM) (hp : Array Obj) (H : T ABk) : Prop := ∀ b o, μ.fz b = some o → hp[b]? = some o ∧ ¬ May μ H b
structure GOk (N : Nat) (μ : MM) (hp : Array Obj) (H : T ABk) : Prop where
 lt : ∀ g b, H.get g = some b → g < N
 ok : ∀ g b, H.get g = some b → BkOk N μ hp g b
 sep : ∀ g b g' b', H.get g = some b → H.get g' = some b' → b.owned = true → b.real μ g → b'.real μ g' → μ.blk g = μ.blk g' → g = g'
 fz : FzOk μ hp H
structure Ext (g : G) (μ : MM) (w : World) (g' : G) (μ' : MM) (w' : World) : Prop where
 nx : g.nx ≤ g'.nx
 names : MM.upto g.nx μ μ'
 os : w'.os = w.os
 tape : w'.tape = w.tape
 output : w'.output = w.output
 size : w.heap.size ≤ w'.heap.size
 block : ∀ B, B < w.heap.size → ¬ May μ g.H B → w'.heap[B]? = w.heap[B]?
 may : ∀ B, B < w.heap.size → May μ' g'.H B → May μ g.H B
 fz : ∀ b o, μ'.fz b = some o → μ.fz b = some o ∨ w.heap.size ≤ b ∨ May μ g.H b
theorem Ext.trans {g g' g'' : G} {μ μ' μ'' : MM} {w w' w'' : World} (h : Ext g μ w g' μ' w') (k : Ext g' μ' w' g'' μ'' w'') : Ext g μ w g'' μ'' w'' where
 nx := Nat.le_trans h.nx k.nx
 names := h.names.trans k.names h.nx
 os := k.os.trans h.os
 tape := k.tape.trans h.tape
 output := k.output.trans h.output
 size := Nat.le_trans h.size k.size
 block := fun B hB hn => (k.block B (Nat.lt_of_lt_of_le hB h.size) fun hm => hn (h.may B hB hm)).trans (h.block B hB hn)
 may := fun B hB hm => h.may B hB (k.may B (Nat.lt_of_lt_of_le hB h.size) hm)
 fz := fun b o q => by
  rcases k.fz b o q with q | q | q
  ·exact h.fz b o q
  ·exact .inr (.inl (Nat.le_trans h.size q))
  ·by_cases hb : b < w.heap.size
   ·exact .inr (.inr (h.may b hb q))
   ·exact .inr (.inl (by omega))
theorem Ext.drawn {g g' : G} (μ : MM) (w : World) (n : Nat) (hH : g'.H = g.H) (hn : g'.nx = g.nx) : Ext g μ w g' μ { w with drawn := n } where
 nx := by rw [hn]; exact Nat.le_refl _
 names := .refl _ _
 os := rfl
 tape := rfl
 output := rfl
 size := Nat.le_refl _
 block := fun _ _ _ => rfl
 may := fun B _ hm => by rw [hH] at hm; exact hm
 fz := fun _ _ q => .inl q
theorem Ext.same {g g' : G} (μ : MM) (w : World) (hH : g'.H = g.H) (hn : g'.nx = g.nx) : Ext g μ w g' μ w := Ext.drawn μ w w.drawn hH hn
theorem RowOk.later {N N' : Nat} {μ μ' : MM} (h : MM.upto N μ μ') (hN : N ≤ N') {row : List AV} {sz : Nat} {cur : Array Value} {base : Nat} (r : RowOk N μ row sz cur base) : RowOk N' μ' row sz cur base :=
 ⟨r.1, fun o v hv => let ⟨h0, c, h1, h2⟩ := r.2 o v hv; ⟨h0, c, h1, Rep.later h hN h2⟩⟩
theorem ABk.real_later {N : Nat} {μ μ' : MM} (h : MM.upto N μ μ') {g : Nat} (hg : g < N) (b : ABk) : b.real μ' g ↔ b.real μ g := by
 cases b <;> simp [ABk.real, h.cap g hg]
theorem BkOk.later {N N' : Nat} {μ μ' : MM} (h : MM.upto N μ μ') (hN : N ≤ N') {hp hp' : Array Obj} {g : Nat} (hg : g < N) {b : ABk} (hB : b.real μ g → hp'[μ.blk g]? = hp[μ.blk g]?) (r : BkOk N μ hp g b) : BkOk N' μ' hp' g b := by
 cases b with
 | cells own sz n c =>
  simp only [BkOk, h.blk g hg, h.cap g hg, h.sz g hg, h.base g hg] at r ⊢
  refine ⟨r.1, r.2.1, fun hr => ?_⟩
  obtain ⟨cur, ty, fz, h1, h2, h3, h4⟩ := r.2.2 hr
  exact ⟨cur, ty, fz, (hB hr).trans h1, h2, h3, fun i hi => (h4 i hi).later h hN⟩
 | mSI s l =>
  simp only [BkOk, h.blk g hg] at r ⊢
  obtain ⟨es, cl, h1, h2⟩ := r
  exact ⟨es, cl, (hB trivial).trans h1, h2⟩
 | mII s l =>
  simp only [BkOk, h.blk g hg] at r ⊢
  obtain ⟨es, cl, h1, h2⟩ := r
  exact ⟨es, cl, (hB trivial).trans h1, h2⟩
 | sit s l pos =>
  simp only [BkOk, h.blk g hg, h.base g hg] at r ⊢
  exact ⟨(hB trivial).trans r.1, r.2⟩
theorem BkOk.lt_size {N : Nat} {μ : MM} {hp : Array Obj} {g : Nat} {b : ABk} (r : BkOk N μ hp g b) (hr : b.real μ g) : μ.blk g < hp.size := by
 have key : ∀ {o : Obj}, hp[μ.blk g]? = some o → μ.blk g < hp.size := fun h => (Array.getElem?_eq_some_iff.1 h).1
 cases b with
 | cells own sz n c => obtain ⟨cur, ty, fz, h1, _⟩ := r.2.2 hr; exact key h1
 | mSI s l => obtain ⟨es, cl, h1, _⟩ := r; exact key h1
 | mII s l => obtain ⟨es, cl, h1, _⟩ := r; exact key h1
 | sit s l pos => exact key r.1
end Go.Sx
namespace Go.Sx
open M
def Keep (g g' : G) (p : Prop) : Prop := g'.H = g.H ∧ g'.nx = g.nx ∧ (g'.cs → g.cs ∧ p)
theorem Keep.refl (g : G) : Keep g g True := ⟨rfl, rfl, fun h => ⟨h, trivial⟩⟩
theorem Keep.trans {a b c : G} {p q : Prop} (h : Keep a b p) (k : Keep b c q) : Keep a c (p ∧ q) :=
 ⟨k.1.trans h.1, k.2.1.trans h.2.1, fun hc => ⟨(h.2.2 (k.2.2 hc).1).1, (h.2.2 (k.2.2 hc).1).2, (k.2.2 hc).2⟩⟩
theorem Keep.mono {a b : G} {p q : Prop} (h : Keep a b p) (k : p → q) : Keep a b q := ⟨h.1, h.2.1, fun hc => ⟨(h.2.2 hc).1, k (h.2.2 hc).2⟩⟩
theorem done_of {α β : Type} {x : M α} {f : α → M β} {g g'' : G} {b : β} (h : x.andThen f g = .done b g'') : ∃ a g', x g = .done a g' ∧ f a g' = .done b g'' := by
 unfold M.andThen at h
 cases hx : x g with
 | done a g' => rw [hx] at h; exact ⟨a, g', rfl, h⟩
 | need b => rw [hx] at h; cases h
 | fail => rw [hx] at h; cases h
theorem ret_done {α : Type} {a b : α} {g g' : G} (h : ret a g = .done b g') : b = a ∧ g = g' := by
 unfold ret at h; cases h; exact ⟨rfl, rfl⟩
theorem ofOpt_done {α : Type} {o : Option α} {b : α} {g g' : G} (h : ofOpt o g = .done b g') : o = some b ∧ g = g' := by
 cases o with
 | none => cases h
 | some a => obtain ⟨rfl, rfl⟩ := ret_done h; exact ⟨rfl, rfl⟩
theorem req_done {p : Prop} {u : Unit} {g g' : G} (h : req p g = .done u g') : Keep g g' p := by
 unfold req at h; cases h; exact ⟨rfl, rfl, id⟩
theorem ck_done {s : Bool} {p : Prop} [Decidable p] {u : Unit} {g g' : G} (h : ck s p g = .done u g') : Keep g g' p := by
 unfold ck at h
 cases s with
 | true => exact req_done h
 | false =>
  by_cases hp : p
  ·simp only [cond_false, hp, decide_true, cond_true] at h
   obtain ⟨_, rfl⟩ := ret_done h
   exact (Keep.refl _).mono fun _ => hp
  ·simp only [cond_false, hp, decide_false] at h; cases h
theorem dec_done {b d : Bool} {g g' : G} (h : dec b g = .done d g') : Keep g g' (b = d) := by
 unfold dec at h
 split at h
 ·cases h
 ·cases h; exact ⟨rfl, rfl, id⟩
theorem getB_done {nm : Nat} {b : ABk} {g g' : G} (h : getB nm g = .done b g') : g.H.get nm = some b ∧ g = g' := by
 unfold getB at h
 split at h
 ·rename_i b' hb; cases h; exact ⟨hb, rfl⟩
 ·cases h
theorem setB_done {nm : Nat} {b : ABk} {u : Unit} {g g' : G} (h : setB nm b g = .done u g') : g'.H = g.H.upd nm (some b) ∧ g'.nx = g.nx ∧ g'.cs = g.cs := by
 unfold setB at h; cases h; exact ⟨rfl, rfl, rfl⟩
theorem delB_done {nm : Nat} {u : Unit} {g g' : G} (h : delB nm g = .done u g') : g'.H = g.H.upd nm none ∧ g'.nx = g.nx ∧ g'.cs = g.cs := by
 unfold delB at h; cases h; exact ⟨rfl, rfl, rfl⟩
theorem newB_done {b : ABk} {nm : Nat} {g g' : G} (h : newB b g = .done nm g') : nm = g.nx ∧ g'.H = g.H.upd g.nx (some b) ∧ g'.nx = g.nx + 1 ∧ g'.cs = g.cs := by
 unfold newB at h; cases h; exact ⟨rfl, rfl, rfl, rfl⟩
theorem okIf_done {b : Bool} {u : Unit} {g g' : G} (h : okIf b g = .done u g') : b = true ∧ g = g' := by
 unfold okIf at h
 cases b with
 | true => exact ⟨rfl, (ret_done h).2⟩
 | false => cases h
theorem asInt_some {v : AV} {y : Bool × Int} (h : asInt v = some y) : ∃ k, v = .int y.1 k y.2 := by
 unfold asInt at h; split at h <;> cases h; exact ⟨_, rfl⟩
theorem asPtr_some {v : AV} {a : AA} (h : asPtr v = some a) : v = .ptr a := by
 unfold asPtr at h; split at h <;> cases h; rfl
theorem asAgg_some {v : AV} {l : List AV} (h : asAgg v = some l) : v = .agg l := by
 unfold Sx.asAgg at h; split at h <;> cases h; rfl
theorem sliceE_some {P : Program} {t e : TypeId} (h : sliceE P t = some e) : P.underlying t = some (.slice e) := by
 unfold sliceE at h; split at h <;> cases h; assumption
theorem arrayE_some {P : Program} {t : TypeId} {ne : Nat × TypeId} (h : arrayE P t = some ne) : P.underlying t = some (.array ne.1 ne.2) := by
 unfold arrayE at h; split at h <;> cases h; assumption
theorem getC_done {nm : Nat} {b : Bool × Nat × Nat × Cont} {g g' : G} (h : getC nm g = .done b g') : g.H.get nm = some (.cells b.1 b.2.1 b.2.2.1 b.2.2.2) ∧ g = g' := by
 unfold getC at h
 obtain ⟨x, g1, a1, h1⟩ := done_of h
 obtain ⟨hx, rfl⟩ := getB_done a1
 obtain ⟨hy, rfl⟩ := ofOpt_done h1
 refine ⟨?_, rfl⟩
 rw [hx]
 unfold asCells at hy
 split at hy <;> cases hy
 rfl
theorem no_done {α : Type} {a : α} {g g' : G} (h : (no : M α) g = .done a g') : False := by cases h
theorem GOk.upd {N N' : Nat} {μ μ' : MM} {hp hp' : Array Obj} {H : T ABk} {nm : Nat} {ob : Option ABk} (h : GOk N μ hp H) (hu : MM.upto N μ μ') (hN : N ≤ N') (hnm : nm < N')
  (hb : ∀ b, ob = some b → BkOk N' μ' hp' nm b)
  (hkeep : ∀ g b, H.get g = some b → g ≠ nm → b.real μ g → hp'[μ.blk g]? = hp[μ.blk g]?)
  (hsep : ∀ b, ob = some b → b.real μ' nm → ∀ g b', H.get g = some b' → g ≠ nm → b'.real μ g → (b.owned = true ∨ b'.owned = true) → μ'.blk nm ≠ μ.blk g)
  (hz : ∀ b o, μ'.fz b = some o → μ.fz b = some o ∧ (hp[b]? = some o → ¬ May μ H b → hp'[b]? = some o ∧ ∀ bk, ob = some bk → bk.owned = true → bk.real μ' nm → μ'.blk nm ≠ b)) : GOk N' μ' hp' (H.upd nm ob) where
 lt := fun g b hg => by
  rw [T.get_upd] at hg
  split at hg
  ·subst_vars; exact hnm
  ·exact Nat.lt_of_lt_of_le (h.lt g b hg) hN
 ok := fun g b hg => by
  rw [T.get_upd] at hg
  split at hg
  ·subst_vars; exact hb b rfl
  ·rename_i hne; exact (h.ok g b hg).later hu hN (h.lt g b hg) (hkeep g b hg hne)
 sep := fun g b g' b' hg hg' ho hr hr' he => by
  rw [T.get_upd] at hg hg'
  split at hg
  ·rename_i e1
   split at hg'
   ·rename_i e2; rw [e1, e2]
   ·rename_i e2
    rw [e1] at hr he
    rw [ABk.real_later hu (h.lt _ _ hg')] at hr'
    rw [hu.blk g' (h.lt _ _ hg')] at he
    exact absurd he (hsep b hg hr g' b' hg' e2 hr' (.inl ho))
  ·rename_i e1
   rw [ABk.real_later hu (h.lt _ _ hg)] at hr
   split at hg'
   ·rename_i e2
    rw [e2] at hr' he
    rw [hu.blk g (h.lt _ _ hg)] at he
    exact absurd he.symm (hsep b' hg' hr' g b hg e1 hr (.inr ho))
   ·rename_i e2
    rw [ABk.real_later hu (h.lt _ _ hg')] at hr'
    rw [hu.blk g (h.lt _ _ hg), hu.blk g' (h.lt _ _ hg')] at he
    exact h.sep g b g' b' hg hg' ho hr hr' he
 fz := fun b o q => by
  obtain ⟨q1, q2⟩ := hz b o q
  obtain ⟨p1, p2⟩ := h.fz b o q1
  obtain ⟨q3, q4⟩ := q2 p1 p2
  refine ⟨q3, fun ⟨g, bk, m1, m2, m3, m4⟩ => ?_⟩
  rw [T.get_upd] at m1
  split at m1
  ·rename_i e; rw [e] at m3 m4; exact q4 bk m1 m2 m3 m4
  ·rw [ABk.real_later hu (h.lt _ _ m1)] at m3
   rw [hu.blk g (h.lt _ _ m1)] at m4
   exact p2 ⟨g, bk, m1, m2, m3, m4⟩
theorem hz_keep {μ : MM} {hp hp' : Array Obj} {H : T ABk} {nm : Nat} {b0 : ABk} {ob : Option ABk} (h0 : H.get nm = some b0) (ho : b0.owned = true) (hr : b0.real μ nm) (hk : ∀ B, B ≠ μ.blk nm → hp'[B]? = hp[B]?) :
  ∀ b o, μ.fz b = some o → μ.fz b = some o ∧ (hp[b]? = some o → ¬ May μ H b → hp'[b]? = some o ∧ ∀ bk, ob = some bk → bk.owned = true → bk.real μ nm → μ.blk nm ≠ b) := fun b o q => ⟨q, fun p1 p2 =>
 have hne : b ≠ μ.blk nm := fun e => p2 ⟨nm, b0, h0, ho, hr, e.symm⟩
 ⟨by rw [hk b hne]; exact p1, fun bk _ _ _ e => hne e.symm⟩⟩
theorem lt_of_get {hp : Array Obj} {b : Nat} {o : Obj} (h : hp[b]? = some o) : b < hp.size := (Array.getElem?_eq_some_iff.1 h).1
theorem hz_new {μ μ' : MM} {hp hp' : Array Obj} {H : T ABk} {nm : Nat} {ob : Option ABk} (hf : ∀ b, μ'.fz b = μ.fz b) (hk : ∀ B, B < hp.size → hp'[B]? = hp[B]?) (hb : ∀ bk, ob = some bk → bk.owned = true → bk.real μ' nm → hp.size ≤ μ'.blk nm) :
  ∀ b o, μ'.fz b = some o → μ.fz b = some o ∧ (hp[b]? = some o → ¬ May μ H b → hp'[b]? = some o ∧ ∀ bk, ob = some bk → bk.owned = true → bk.real μ' nm → μ'.blk nm ≠ b) := fun b o q => ⟨by rw [← hf]; exact q, fun p1 p2 =>
 have hlt := lt_of_get p1
 ⟨by rw [hk b hlt]; exact p1, fun bk e1 e2 e3 e => by have := hb bk e1 e2 e3; omega⟩⟩
theorem GOk.sub {N : Nat} {μ : MM} {hp : Array Obj} {H H' : T ABk} (h : GOk N μ hp H) (hs : ∀ g b, H'.get g = some b → H.get g = some b) : GOk N μ hp H' :=
 ⟨fun g b hg => h.lt g b (hs g b hg), fun g b hg => h.ok g b (hs g b hg), fun g b g' b' hg hg' => h.sep g b g' b' (hs _ _ hg) (hs _ _ hg'), fun b o q => ⟨(h.fz b o q).1, fun ⟨g, bk, m1, m2⟩ => (h.fz b o q).2 ⟨g, bk, hs _ _ m1, m2⟩⟩⟩
def MM.set (μ : MM) (nm blk cap sz : Nat) : MM :=
 ⟨fun g => if g = nm then blk else μ.blk g, fun g => if g = nm then cap else μ.cap g, fun g => if g = nm then sz else μ.sz g, fun g => if g = nm then 0 else μ.base g, μ.fz⟩
theorem MM.upto_set (μ : MM) {N nm blk cap sz : Nat} (h : N ≤ nm) : MM.upto N μ (μ.set nm blk cap sz) :=
 ⟨fun g hg => if_neg (by omega), fun g hg => if_neg (by omega), fun g hg => if_neg (by omega), fun g hg => if_neg (by omega), fun _ _ h => h⟩
theorem MM.set_blk (μ : MM) (nm blk cap sz : Nat) : (μ.set nm blk cap sz).blk nm = blk := if_pos rfl
theorem MM.set_cap (μ : MM) (nm blk cap sz : Nat) : (μ.set nm blk cap sz).cap nm = cap := if_pos rfl
theorem MM.set_sz (μ : MM) (nm blk cap sz : Nat) : (μ.set nm blk cap sz).sz nm = sz := if_pos rfl
theorem MM.set_base (μ : MM) (nm blk cap sz : Nat) : (μ.set nm blk cap sz).base nm = 0 := if_pos rfl
theorem lay_some {P : Program} {t : TypeId} {y : Nat × Bool} (h : lay P t = some y) : ∃ i d, P.info? t = some i ∧ P.underlying t = some d ∧ i.size = y.1 ∧ isAggD d = y.2 := by
 unfold lay at h
 split at h
 ·rename_i i d hi hd; cases h; exact ⟨i, d, hi, hd, rfl, rfl⟩
 ·cases h
theorem run_sizeOf {P : Program} {t : TypeId} {i : TypeInfo} (hi : P.info? t = some i) (w : World) : (sizeOf t).run P w = .ok i.size w := by simp [sizeOf, typeInfo, hi]
theorem run_isAgg {P : Program} {t : TypeId} {d : TypeDesc} (hd : P.underlying t = some d) (w : World) : (isAgg t).run P w = .ok (isAggD d) w := by
 cases d <;> simp [isAgg, run_underlying hd, isAggD]
theorem cell_of {w : World} {B o : Nat} {cur : Array Value} {ty : TypeId} {fz : Nat × Nat} (h : w.heap[B]? = some (.cells cur ty fz)) : w.cell? ⟨B, o, none⟩ = cur[o]? := cell_of_row w B o cur ty fz h
theorem run_load_at {P : Program} {w : World} {a : Addr} {c : Value} (h : w.cell? a = some c) : (load a).run P w = .ok c w := by simp [load, Sem.run, h]
theorem run_loadAt {P : Program} {w : World} {t : TypeId} {i : TypeInfo} {d : TypeDesc} (hi : P.info? t = some i) (hd : P.underlying t = some d) {B o : Nat} {cur : Array Value} {ty : TypeId} {fz : Nat × Nat}
  (h : w.heap[B]? = some (.cells cur ty fz)) (hfit : isAggD d = true → o + i.size ≤ cur.size) (h1 : isAggD d = false → o < cur.size) :
  (loadVar t ⟨B, o, none⟩).run P w = .ok (if isAggD d then .agg ((cur.toList.drop o).take i.size).toArray else cur.getD o undef) w := by
 unfold loadVar
 cases hA : isAggD d with
 | true =>
  have hl : ((cur.toList.drop o).take i.size).length = i.size := by
   have := hfit hA
   simp; omega
  have hrun := run_loadCells_list (P := P) w ⟨B, o, none⟩ ((cur.toList.drop o).take i.size) fun j v hv => by
   rw [Addr.add_lit, cell_of h]
   rw [List.getElem?_take] at hv
   split at hv
   ·rw [List.getElem?_drop] at hv; simpa using hv
   ·cases hv
  rw [hl] at hrun
  simp [run_isAgg hd, hA, run_sizeOf hi, hrun]
 | false =>
  have hc : w.cell? ⟨B, o, none⟩ = some (cur.getD o undef) := by
   rw [cell_of h]; simp [h1 hA]
  simp only [Sem.run_bind, run_isAgg hd, hA, Result.andThen_ok, run_load_at hc, if_neg Bool.false_ne_true]
theorem RowOk.reps {N : Nat} {μ : MM} {row : List AV} {sz : Nat} {cur : Array Value} {base : Nat} (h : RowOk N μ row sz cur base) (hf : base + sz ≤ cur.size) : Reps N μ row ((cur.toList.drop base).take sz) :=
 .of_get (by simp [h.1]; omega) fun i v hv => by
  obtain ⟨_, c, hc, hr⟩ := h.2 i v hv
  refine ⟨c, ?_, hr⟩
  have hi : i < sz := by
   have := (List.getElem?_eq_some_iff.1 hv).1
   rw [h.1] at this; exact this
  rw [List.getElem?_take, if_pos hi, List.getElem?_drop]
  simpa using hc
theorem row_fits {n sz i size : Nat} (hi : i < n) (h : n * sz ≤ size) : i * sz + sz ≤ size := by
 have : (i + 1) * sz ≤ n * sz := Nat.mul_le_mul_right _ hi
 rw [Nat.add_mul] at this; omega
theorem loadA_sound {P : Program} {t : TypeId} {a : AA} {g g' : G} {v : AV} (h : loadA P t a g = .done v g') :
  Keep g g' True ∧ (g'.cs → ∀ N μ w, GOk N μ w.heap g.H → ∃ c, (loadVar t (μ.addr a)).run P w = .ok c w ∧ Rep N μ v c) := by
 unfold loadA at h
 obtain ⟨y, g1, a1, h1⟩ := done_of h
 obtain ⟨hy, rfl⟩ := ofOpt_done a1
 obtain ⟨i, d, hi, hd, e1, e2⟩ := lay_some hy
 obtain ⟨⟨own, sz, n, c⟩, g2, a2, h2⟩ := done_of h1
 obtain ⟨hb, rfl⟩ := getC_done a2
 simp only at h2 hb
 obtain ⟨u, g3, a3, h3⟩ := done_of h2
 have k3 := ck_done a3
 cases hA : y.2 with
 | true =>
  rw [hA, cond_true] at h3
  obtain ⟨u, g4, a4, h4⟩ := done_of h3
  have k4 := ck_done a4
  obtain ⟨rfl, rfl⟩ := ret_done h4
  refine ⟨(k3.trans k4).mono fun _ => trivial, fun hc N μ w hg => ?_⟩
  have hq := (k3.trans k4).2.2 hc
  have hn := hq.2.1
  have hf := hq.2.2
  obtain ⟨hsz, _, hcur⟩ := hg.ok _ _ hb
  obtain ⟨cur, ty, fz, hB, hfit, _, hrows⟩ := hcur (.inl (by omega))
  have hrf : μ.base a.g + a.i * sz + sz ≤ cur.size := by have := row_fits hn (Nat.le_refl (n * sz)); omega
  have hrun := run_loadAt (P := P) (t := t) hi hd (o := μ.base a.g + a.i * sz + a.o) hB (fun _ => by omega) (fun hx => by rw [e2, hA] at hx; cases hx)
  rw [e2, hA, if_pos rfl] at hrun
  refine ⟨_, by unfold MM.addr; rw [hsz]; exact hrun, ?_⟩
  simp only [Rep]
  refine ⟨_, rfl, ?_⟩
  have hr := ((hrows a.i hn).reps hrf).drop a.o
  have hr2 := hr.take i.size
  rw [← e1]
  have : (((cur.toList.drop (μ.base a.g + a.i * sz)).take sz).drop a.o).take i.size = (cur.toList.drop (μ.base a.g + a.i * sz + a.o)).take i.size := by
   apply List.ext_getElem?
   intro j
   simp only [List.getElem?_take, List.getElem?_drop]
   by_cases hj : j < i.size
   ·rw [if_pos hj, if_pos (by omega), if_pos hj]; congr 1; omega
   ·rw [if_neg hj, if_neg hj]
  rw [this] at hr2
  simpa using hr2
 | false =>
  rw [hA, cond_false] at h3
  obtain ⟨hv, rfl⟩ := ofOpt_done h3
  refine ⟨k3.mono fun _ => trivial, fun hc N μ w hg => ?_⟩
  have hn := (k3.2.2 hc).2
  obtain ⟨hsz, _, hcur⟩ := hg.ok _ _ hb
  obtain ⟨cur, ty, fz, hB, hfit, _, hrows⟩ := hcur (.inl (by omega))
  obtain ⟨_, c', hc', hrep⟩ := (hrows a.i hn).2 _ _ hv
  have hlt : μ.base a.g + a.i * sz + a.o < cur.size := (Array.getElem?_eq_some_iff.1 hc').1
  have hrun := run_loadAt (P := P) (t := t) hi hd (o := μ.base a.g + a.i * sz + a.o) hB (fun hx => by rw [e2, hA] at hx; cases hx) (fun _ => hlt)
  rw [e2, hA] at hrun
  have : cur.getD (μ.base a.g + a.i * sz + a.o) undef = c' := by
   have := (Array.getElem?_eq_some_iff.1 hc').2
   simp [Array.getD, hlt, this]
  simp only [this] at hrun
  exact ⟨c', by unfold MM.addr; rw [hsz]; simpa using hrun, hrep⟩
theorem loadX_sound {P : Program} {t : TypeId} {x : AV} {g g' : G} {v : AV} (h : loadX P t x g = .done v g') :
  Keep g g' True ∧ (g'.cs → ∀ N μ w cx, GOk N μ w.heap g.H → Rep N μ x cx → ∃ A c, cx = .pointer (some A) ∧ (loadVar t A).run P w = .ok c w ∧ Rep N μ v c) := by
 unfold loadX at h
 split at h
 ·rename_i x
  obtain ⟨y, g1, a1, h1⟩ := done_of h
  obtain ⟨hy, rfl⟩ := ofOpt_done a1
  obtain ⟨i, d, hi, hd, e1, e2⟩ := lay_some hy
  obtain ⟨_, g2, a2, h2⟩ := done_of h1
  obtain ⟨hq, rfl⟩ := okIf_done a2
  obtain ⟨rfl, rfl⟩ := ret_done h2
  simp only [Bool.and_eq_true, Bool.not_eq_true'] at hq
  refine ⟨Keep.refl _, fun hc N μ w cx hg hx => ?_⟩
  simp only [Rep] at hx
  obtain ⟨_, b, k, cur, ty, z, rfl, q1, q2⟩ := hx
  obtain ⟨p1, _⟩ := hg.fz b _ q1
  have hlt : k < cur.size := (Array.getElem?_eq_some_iff.1 q2).1
  have hrun := run_loadAt (P := P) (t := t) hi hd (o := k) p1 (fun hx => by rw [e2, hq.2] at hx; cases hx) (fun _ => hlt)
  rw [e2, hq.2] at hrun
  have : cur.getD k undef = .string ⟨x.toArray⟩ := by
   have := (Array.getElem?_eq_some_iff.1 q2).2
   simp [Array.getD, hlt, this]
  simp only [this] at hrun
  refine ⟨_, _, rfl, by simpa using hrun, ?_⟩
  simp only [Rep]
 ·obtain ⟨a, g1, a1, h1⟩ := done_of h
  obtain ⟨hx, rfl⟩ := ofOpt_done a1
  obtain ⟨k, hs⟩ := loadA_sound h1
  refine ⟨k, fun hc N μ w cx hg hr => ?_⟩
  obtain ⟨c, e1, hv⟩ := hs hc N μ w hg
  rw [asPtr_some hx] at hr
  simp only [Rep] at hr
  exact ⟨_, c, hr.2, e1, hv⟩
end Go.Sx
namespace Go.Sx
open M
theorem splice_get {α : Type} (l : List α) (o : Nat) (vs : List α) (h : o + vs.length ≤ l.length) (m : Nat) :
  (l.take o ++ vs ++ l.drop (o + vs.length))[m]? = if m < o then l[m]? else if m < o + vs.length then vs[m - o]? else l[m]? := by
 have ht : (l.take o).length = o := by simp; omega
 by_cases h1 : m < o
 ·rw [if_pos h1, List.append_assoc, List.getElem?_append_left (by omega), List.getElem?_take, if_pos h1]
 ·rw [if_neg h1, List.append_assoc, List.getElem?_append_right (by omega), ht]
  by_cases h2 : m < o + vs.length
  ·rw [if_pos h2, List.getElem?_append_left (by omega)]
  ·rw [if_neg h2, List.getElem?_append_right (by omega), List.getElem?_drop]
   congr 1; omega
theorem splice_length (l : List AV) (o : Nat) (vs : List AV) (h : o + vs.length ≤ l.length) : (splice l o vs).length = l.length := by
 simp [splice]; omega
theorem Rep.oneCell {N : Nat} {μ : MM} {v : AV} {c : Value} (h : Rep N μ v c) (h1 : v.one = true) : c.oneCell' = true := by
 cases v <;> simp [AV.one] at h1 <;> simp only [Rep] at h
 case slc s own a len => obtain ⟨_, A, C, rfl, _⟩ := h; rfl
 case flt => obtain ⟨b, rfl, _⟩ := h; rfl
 case raw => obtain ⟨rfl, _⟩ := h; rfl
 case bits => obtain ⟨b, rfl, _⟩ := h; rfl
 case cpx => obtain ⟨a, b, rfl, _⟩ := h; rfl
 case ptr => obtain ⟨_, rfl⟩ := h; rfl
 case mp => obtain ⟨_, rfl⟩ := h; rfl
 case fn => obtain ⟨_, _, rfl, _⟩ := h; rfl
 case hdr => obtain ⟨_, rfl, _⟩ := h; rfl
 case any1 => exact h
 case txs => obtain ⟨_, _, _, _, _, _, rfl, _⟩ := h; rfl
 case ptx => obtain ⟨_, _, _, _, _, _, rfl, _⟩ := h; rfl
 all_goals (subst h; rfl)
theorem Rep.cells {N : Nat} {μ : MM} {v : AV} {c : Value} (h : Rep N μ v c) (h1 : v.cells.all AV.one = true) : Reps N μ v.cells c.cells.toList ∧ ∀ x ∈ c.cells.toList, x.oneCell' = true := by
 have key : ∀ {l : List AV} {cs : List Value}, Reps N μ l cs → l.all AV.one = true → ∀ x ∈ cs, x.oneCell' = true := by
  intro l cs hr ha x hx
  obtain ⟨i, hi, rfl⟩ := List.getElem_of_mem hx
  have hil : i < l.length := by rw [← hr.length]; exact hi
  obtain ⟨c', hc', hrep⟩ := hr.get (List.getElem?_eq_getElem hil)
  rw [List.getElem?_eq_getElem hi] at hc'
  cases hc'
  exact hrep.oneCell (List.all_eq_true.1 ha _ (List.getElem_mem hil))
 cases v with
 | agg l =>
  simp only [Rep] at h
  obtain ⟨cs, rfl, hr⟩ := h
  exact ⟨hr, key hr h1⟩
 | _ =>
  simp only [AV.cells, List.all_cons, List.all_nil, Bool.and_true] at h1
  have ho := h.oneCell h1
  have hc : c.cells = #[c] := by cases c <;> first | rfl | simp [Value.oneCell'] at ho
  rw [hc]
  refine ⟨by simp only [AV.cells, Reps]; exact ⟨c, [], rfl, h, rfl⟩, fun x hx => ?_⟩
  simp at hx
  subst hx; exact ho
theorem Cont.row_put (c : Cont) (i : Nat) (r : List AV) (j : Nat) : (c.put i r).row j = if j = i then r else c.row j := by
 cases c with
 | lit d t =>
  simp only [Cont.put, Cont.row, T.get_upd]
  split <;> rfl
 | fn f =>
  simp only [Cont.put, Cont.row]
  cases h : Nat.beq j i with
  | true => simp [Nat.eq_of_beq_eq_true h]
  | false => simp [Nat.ne_of_beq_eq_false h]
theorem Cont.row_more (src : Nat → List AV) (n : Nat) (c : Cont) : ∀ m j, (Cont.more src n m c).row j = if n ≤ j ∧ j < n + m then src (j - n) else c.row j
 | 0, j => by simp only [Cont.more]; rw [if_neg (by omega)]
 | m + 1, j => by
  simp only [Cont.more, Cont.row_put, Cont.row_more src n c m]
  by_cases h : j = n + m
  ·subst h; rw [if_pos rfl, if_pos (by omega)]; congr 1; omega
  ·rw [if_neg h]
   by_cases h2 : n ≤ j ∧ j < n + m
   ·rw [if_pos h2, if_pos (by omega)]
   ·rw [if_neg h2, if_neg (by omega)]
theorem May.of {μ : MM} {H : T ABk} {g : Nat} {b : ABk} (hg : H.get g = some b) (ho : b.owned = true) (hr : b.real μ g) : May μ H (μ.blk g) := ⟨g, b, hg, ho, hr, rfl⟩
theorem run_storeVar {P : Program} {t : TypeId} {i : TypeInfo} (hi : P.info? t = some i) {w : World} {B o : Nat} {cur : Array Value} {ty : TypeId} (hB : w.heap[B]? = some (.cells cur ty (0, 0))) {v : Value}
  (hs : v.cells.size = i.size) (hf : o + i.size ≤ cur.size) (h1 : ∀ x ∈ v.cells.toList, x.oneCell' = true) :
  (storeVar t ⟨B, o, none⟩ v).run P w = .ok () (w.setRow B (cur.toList.take o ++ v.cells.toList ++ cur.toList.drop (o + v.cells.toList.length)).toArray) := by
 have hst := run_storeCells_at P B o ty v.cells.toList 0 cur w hB (by simp; omega) h1
 simp only [Nat.add_zero] at hst
 simp [storeVar, run_sizeOf hi, hs, hst]
theorem spliceN_eq {sz : Nat} {row : List AV} {o : Nat} {vs : List AV} (h : row.length = sz) (ho : o + vs.length ≤ sz) : spliceN sz row o vs = splice row o vs := by
 unfold spliceN
 cases e : Nat.beq sz vs.length with
 | false => rfl
 | true =>
  have e := Nat.eq_of_beq_eq_true e
  have o0 : o = 0 := by omega
  subst o0
  unfold splice
  rw [List.drop_eq_nil_of_le (by omega)]
  simp
theorem storeA_sound {P : Program} {t : TypeId} {a : AA} {v : AV} {g g' : G} {u : Unit} (h : storeA P t a v g = .done u g') :
  (g'.cs → g.cs) ∧ (g'.cs → ∀ μ w cv, GOk g.nx μ w.heap g.H → Rep g.nx μ v cv → ∃ w', (storeVar t (μ.addr a) cv).run P w = .ok () w' ∧ GOk g'.nx μ w'.heap g'.H ∧ Ext g μ w g' μ w') := by
 unfold storeA at h
 obtain ⟨y, g1, a1, h1⟩ := done_of h
 obtain ⟨hy, rfl⟩ := ofOpt_done a1
 obtain ⟨i, d, hi, hd, e1, e2⟩ := lay_some hy
 obtain ⟨⟨own, sz, n, c⟩, g2, a2, h2⟩ := done_of h1
 obtain ⟨hb, rfl⟩ := getC_done a2
 simp only at h2 hb
 obtain ⟨_, g3, a3, h3⟩ := done_of h2
 obtain ⟨hq, rfl⟩ := okIf_done a3
 simp only [Bool.and_eq_true] at hq
 obtain ⟨⟨rfl, hlen⟩, hone⟩ := hq
 have hlen' := Nat.eq_of_beq_eq_true hlen
 obtain ⟨u3, g4, a4, h4⟩ := done_of h3
 obtain ⟨u4, g5, a5, h5⟩ := done_of h4
 have k4 := (ck_done a4).trans (ck_done a5)
 obtain ⟨hH, hnx, hcs⟩ := setB_done h5
 have hc0 : g'.cs → g.cs ∧ a.i < n ∧ a.o + y.1 ≤ sz := fun hc => by rw [hcs] at hc; exact k4.2.2 hc
 refine ⟨fun hc => (hc0 hc).1, fun hc μ w cv hg hv => ?_⟩
 obtain ⟨_, hn, hf⟩ := hc0 hc
 obtain ⟨hsz, hpos, hcur⟩ := hg.ok _ _ hb
 obtain ⟨cur, ty, fz, hB, hfit, hown, hrows⟩ := hcur (.inl (by omega))
 obtain ⟨hfz, hcap, hb0⟩ := hown rfl
 simp only [hb0, Nat.zero_add] at hfit hrows
 rw [hfz] at hB
 rw [spliceN_eq (hrows _ hn).1 (by omega)] at hH
 obtain ⟨hreps, hone'⟩ := hv.cells hone
 have hcl : cv.cells.toList.length = y.1 := by rw [hreps.length, hlen']
 have hcz : cv.cells.size = y.1 := by rw [← hcl, Array.length_toList]
 have hrf := row_fits hn hfit
 have hrun := run_storeVar (P := P) (t := t) hi hB (o := a.i * sz + a.o) (v := cv) (by omega) (by omega) hone'
 have hgc := fun m => splice_get cur.toList (a.i * sz + a.o) cv.cells.toList (by simp only [Array.length_toList]; omega) m
 refine ⟨_, by unfold MM.addr; rw [hsz, hb0, Nat.zero_add]; exact hrun, ?_, ?_⟩
 ·rw [hH, hnx, k4.2.1, k4.1]
  refine hg.upd (.refl _ _) (Nat.le_refl _) (hg.lt _ _ hb) ?_ ?_ ?_ (hz_keep hb rfl (.inl (by omega)) fun B hne => setRow_other w _ _ _ hne)
  ·rintro _ ⟨⟩
   refine ⟨hsz, hpos, fun _ => ⟨_, ty, (0, 0), setRow_heap w _ cur _ ty _ hB, ?_, fun _ => ⟨rfl, ?_, hb0⟩, fun j hj => ?_⟩⟩
   rotate_left 2
   rw [hb0, Nat.zero_add]
   rotate_right 2
   ·simp; omega
   ·rw [← hcap]; simp; omega
   ·rw [Cont.row_put]
    have hjf := row_fits hj hfit
    obtain ⟨rl, rc⟩ := hrows j hj
    split
    ·rename_i e; rw [e] at rl rc hjf ⊢
     refine ⟨by rw [splice_length _ _ _ (by omega)]; exact rl, fun o x hx => ?_⟩
     have ho : o < sz := by
      have := (List.getElem?_eq_some_iff.1 hx).1
      rw [splice_length _ _ _ (by omega), rl] at this; exact this
     rw [List.getElem?_toArray, hgc]
     unfold splice at hx
     rw [splice_get _ _ _ (by omega)] at hx
     split at hx
     ·rw [if_pos (by omega)]
      obtain ⟨h0, c', h1, h2⟩ := rc _ _ hx
      exact ⟨h0, c', by simpa using h1, h2⟩
     ·split at hx
      ·rw [if_neg (by omega), if_pos (by omega)]
       obtain ⟨c', h1, h2⟩ := hreps.get hx
       exact ⟨List.all_eq_true.1 hone _ (List.mem_of_getElem? hx), c', by rw [← h1]; congr 1; omega, h2⟩
      ·rw [if_neg (by omega), if_neg (by omega)]
       obtain ⟨h0, c', h1, h2⟩ := rc _ _ hx
       exact ⟨h0, c', by simpa using h1, h2⟩
    ·rename_i hne
     refine ⟨rl, fun o x hx => ?_⟩
     have ho : o < sz := by
      have := (List.getElem?_eq_some_iff.1 hx).1
      rw [rl] at this; exact this
     obtain ⟨h0, c', h1, h2⟩ := rc _ _ hx
     refine ⟨h0, c', ?_, h2⟩
     rw [List.getElem?_toArray, hgc]
     have hdis : j * sz + o < a.i * sz + a.o ∨ a.i * sz + a.o + cv.cells.toList.length ≤ j * sz + o := by
      rcases Nat.lt_or_gt_of_ne hne with hlt | hgt
      ·left
       have : (j + 1) * sz ≤ a.i * sz := Nat.mul_le_mul_right _ hlt
       rw [Nat.add_mul] at this; omega
      ·right
       have : (a.i + 1) * sz ≤ j * sz := Nat.mul_le_mul_right _ hgt
       rw [Nat.add_mul] at this; omega
     rcases hdis with hd1 | hd1
     ·rw [if_pos hd1]; simpa using h1
     ·rw [if_neg (by omega), if_neg (by omega)]; simpa using h1
  ·intro g1 b1 hg1 hne hr1
   refine setRow_other w _ _ _ fun e => hne ?_
   exact (hg.sep _ _ _ _ hb hg1 rfl (.inl (by omega)) hr1 e.symm).symm
  ·rintro _ ⟨⟩ hr1 g1 b1 hg1 hne hr2 _ e
   exact hne (hg.sep _ _ _ _ hb hg1 rfl (.inl (by omega)) hr2 e).symm
 ·have hgB : ∀ B, B ≠ μ.blk a.g → (w.setRow (μ.blk a.g) (cur.toList.take (a.i * sz + a.o) ++ cv.cells.toList ++ cur.toList.drop (a.i * sz + a.o + cv.cells.toList.length)).toArray).heap[B]? = w.heap[B]? := fun B hne => setRow_other w _ _ _ hne
  refine ⟨by rw [hnx, k4.2.1]; exact Nat.le_refl _, .refl _ _, rfl, rfl, rfl, by simp, fun B _ hnm => hgB B fun e => hnm ?_, fun B hB hm => ?_, fun _ _ q => .inl q⟩
  ·rw [e]; exact May.of hb rfl (.inl (by omega))
  ·obtain ⟨g1, b1, hg1, ho1, hr1, rfl⟩ := hm
   rw [hH, T.get_upd, k4.1] at hg1
   split at hg1
   ·rename_i e; rw [e]; exact May.of hb rfl (.inl (by omega))
   ·exact May.of hg1 ho1 hr1
end Go.Sx
namespace Go.Sx
open M
theorem Rep.ofVal1 (N : Nat) (μ : MM) (v : Value) : Rep N μ (ofVal1 v) v := by
 unfold Sx.ofVal1
 split
 ·simp [Rep]
 ·simp [Rep]
 ·rename_i b
  by_cases h : b < 18446744073709551616
  ·simp only [h, decide_true, cond_true, Rep]; exact ⟨b, rfl, rfl, h⟩
  ·simp [h, Rep]
 ·rename_i a b
  by_cases h : a < 18446744073709551616 ∧ b < 18446744073709551616
  ·simp only [h, and_self, decide_true, cond_true, Rep]; exact ⟨a, b, rfl, ⟨rfl, h.1⟩, ⟨rfl, h.2⟩⟩
  ·simp [h, Rep]
 ·simp only [Rep, Array.toArray_toList]
 all_goals simp [Rep]
theorem Rep.ofVal (N : Nat) (μ : MM) (v : Value) : Rep N μ (ofVal v) v := by
 unfold Sx.ofVal
 split
 ·rename_i cs
  simp only [Rep]
  exact ⟨cs, rfl, by have := Reps.map (N := N) (μ := μ) Sx.ofVal1 id cs.toList fun x _ => Rep.ofVal1 N μ x; simpa using this⟩
 ·rename_i cs
  simp only [Rep]
  exact ⟨cs, rfl, by have := Reps.map (N := N) (μ := μ) Sx.ofVal1 id cs.toList fun x _ => Rep.ofVal1 N μ x; simpa using this⟩
 ·exact Rep.ofVal1 N μ v
theorem zeroOf_some {P : Program} {t : TypeId} {z : AV} (h : zeroOf P t = some z) : ∃ i v, P.info? t = some i ∧ i.zero = some v ∧ z = ofVal v := by
 unfold zeroOf at h
 split at h
 ·rename_i i hi
  cases hz : i.zero with
  | none => rw [hz] at h; cases h
  | some v => rw [hz] at h; cases h; exact ⟨i, v, hi, hz, rfl⟩
 ·cases h
structure Pushed (w w' : World) (o : Obj) : Prop where
 heap : w'.heap = w.heap.push o
 os : w'.os = w.os
 tape : w'.tape = w.tape
 output : w'.output = w.output
theorem Pushed.alloc (w : World) (o : Obj) : Pushed w (w.alloc o) o := ⟨rfl, rfl, rfl, rfl⟩
theorem Pushed.drew (w : World) (o : Obj) : Pushed w (w.drew.alloc o) o := ⟨rfl, rfl, rfl, rfl⟩
theorem Pushed.new {w w' : World} {o : Obj} (h : Pushed w w' o) : w'.heap[w.heap.size]? = some o := by rw [h.heap]; simp
theorem Pushed.old {w w' : World} {o : Obj} (h : Pushed w w' o) {B : Nat} (hB : B < w.heap.size) : w'.heap[B]? = w.heap[B]? := by
 rw [h.heap, Array.getElem?_push, if_neg (by omega)]
theorem newB_ok {g g' : G} {nm sz n : Nat} {c : Cont} (h : newB (.cells true sz n c) g = .done nm g') {μ : MM} {w w' : World} (hg : GOk g.nx μ w.heap g.H) (hpos : 0 < sz) {cur : Array Value} {ty : TypeId}
  (hw : Pushed w w' (.cells cur ty (0, 0))) (cap : Nat) (hcap : cur.size = cap * sz) (hn : n ≤ cap) (hrows : ∀ i, i < n → RowOk g.nx μ (c.row i) sz cur (i * sz)) :
  GOk g'.nx (μ.set g.nx w.heap.size cap sz) w'.heap g'.H ∧ Ext g μ w g' (μ.set g.nx w.heap.size cap sz) w' := by
 obtain ⟨_, hH, hnx, _⟩ := newB_done h
 have hu : MM.upto g.nx μ (μ.set g.nx w.heap.size cap sz) := MM.upto_set μ (Nat.le_refl _)
 constructor
 ·rw [hH, hnx]
  refine hg.upd hu (by omega) (by omega) ?_ ?_ ?_ (hz_new (fun _ => rfl) (fun B hB => hw.old hB) fun bk _ _ _ => by rw [MM.set_blk]; exact Nat.le_refl _)
  ·rintro _ ⟨⟩
   simp only [BkOk, MM.set_sz, MM.set_blk, MM.set_cap, MM.set_base, Nat.zero_add]
   refine ⟨trivial, hpos, fun _ => ⟨cur, ty, (0, 0), hw.new, ?_, fun _ => ⟨rfl, hcap, trivial⟩, fun i hi => (hrows i hi).later hu (by omega)⟩⟩
   rw [hcap]; exact Nat.mul_le_mul_right _ hn
  ·intro g1 b1 hg1 _ hr1
   exact hw.old ((hg.ok _ _ hg1).lt_size hr1)
  ·rintro _ ⟨⟩ _ g1 b1 hg1 _ hr1 _ e
   have := (hg.ok _ _ hg1).lt_size hr1
   rw [MM.set_blk] at e; omega
 ·refine ⟨by omega, hu, hw.os, hw.tape, hw.output, by rw [hw.heap]; simp, fun B hB _ => hw.old hB, fun B hB hm => ?_, fun _ _ q => .inl q⟩
  obtain ⟨g1, b1, hg1, ho1, hr1, e⟩ := hm
  rw [hH, T.get_upd] at hg1
  split at hg1
  ·rename_i e1
   rw [e1, MM.set_blk] at e; omega
  ·have hlt := hg.lt _ _ hg1
   rw [ABk.real_later hu hlt] at hr1
   rw [hu.blk _ hlt] at e
   exact ⟨g1, b1, hg1, ho1, hr1, e⟩
def Gives (g : G) (μ : MM) (w : World) (g' : G) (v : AV) (r : Result Value) : Prop :=
 ∃ c w' μ', r = .ok c w' ∧ Rep g'.nx μ' v c ∧ GOk g'.nx μ' w'.heap g'.H ∧ Ext g μ w g' μ' w'
theorem Gives.keep {g g' : G} {μ : MM} {w : World} {v : AV} {c : Value} {n : Nat} {p : Prop} (k : Keep g g' p) (hg : GOk g.nx μ w.heap g.H) (hv : Rep g.nx μ v c) : Gives g μ w g' v (.ok c { w with drawn := n }) :=
 ⟨c, _, μ, rfl, by rw [k.2.1]; exact hv, by rw [k.1, k.2.1]; exact hg, Ext.drawn μ w n k.1 k.2.1⟩
theorem Gives.keep0 {g g' : G} {μ : MM} {w : World} {v : AV} {c : Value} {p : Prop} (k : Keep g g' p) (hg : GOk g.nx μ w.heap g.H) (hv : Rep g.nx μ v c) : Gives g μ w g' v (.ok c w) :=
 Gives.keep (n := w.drawn) k hg hv
theorem boxA_sound {P : Program} {t : TypeId} {v r : AV} {g g' : G} (h : boxA v g = .done r g') :
  (g'.cs → g.cs) ∧ ∀ μ w cv, GOk g.nx μ w.heap g.H → Rep g.nx μ v cv → Gives g μ w g' r ((do pure (.pointer (some (← newVar t cv))) : Sem Value).run P w) := by
 unfold boxA at h
 obtain ⟨_, g1, a1, h1⟩ := done_of h
 obtain ⟨hq, rfl⟩ := okIf_done a1
 rw [Bool.and_eq_true] at hq
 obtain ⟨nm, g2, a2, h2⟩ := done_of h1
 obtain ⟨rfl, rfl⟩ := ret_done h2
 obtain ⟨hnm, hH, hnx, hcs⟩ := newB_done a2
 refine ⟨fun hc => by rw [hcs] at hc; exact hc, fun μ w cv hg hv => ?_⟩
 obtain ⟨hreps, _⟩ := hv.cells hq.1
 have hl : cv.cells.size = v.cells.length := by rw [← hreps.length, Array.length_toList]
 have hpos : 0 < v.cells.length := by
  cases hvc : v.cells with
  | nil => simp [hvc] at hq
  | cons => simp
 obtain ⟨hg', he⟩ := newB_ok a2 hg hpos (w' := w.alloc (.cells cv.cells t (0, 0))) (.alloc _ _) 1 (by omega) (Nat.le_refl _) (by
  intro i hi
  obtain rfl : i = 0 := by omega
  refine ⟨rfl, fun o x hx => ?_⟩
  obtain ⟨c', h1, h2⟩ := hreps.get hx
  exact ⟨List.all_eq_true.1 hq.1 _ (List.mem_of_getElem? hx), c', by simpa using h1, h2⟩)
 refine ⟨.pointer (some ⟨w.heap.size, 0, none⟩), w.alloc (.cells cv.cells t (0, 0)), _, rfl, ?_, hg', he⟩
 simp only [Rep]
 refine ⟨by omega, ?_⟩
 rw [hnm]
 simp [MM.addr, MM.set_blk, MM.set_base]
theorem Keep.of_newB {g g1 g2 : G} {p : Prop} (k : Keep g g1 p) (hcs : g2.cs = g1.cs) : g2.cs → g.cs ∧ p := fun hc => k.2.2 (hcs ▸ hc)
theorem Ext.of_keep {g g1 g2 : G} {μ μ' : MM} {w w' : World} {p : Prop} (k : Keep g g1 p) (h : Ext g1 μ w g2 μ' w') : Ext g μ w g2 μ' w' :=
 (Ext.same μ w k.1 k.2.1).trans h
theorem zeroRow_some {P : Program} {e : TypeId} {z : List AV × Nat} (h : zeroRow P e = some z) : ∃ i v, P.info? e = some i ∧ i.zero = some v ∧ i.bytes = z.2 ∧ i.size = z.1.length ∧ 0 < z.1.length ∧ v.cells.size = z.1.length ∧
  z.1.all AV.one = true ∧ ∀ N μ, Reps N μ z.1 v.cells.toList := by
 unfold zeroRow at h
 split at h
 ·rename_i i zv hi hz
  obtain ⟨i', v, hi', hzv, rfl⟩ := zeroOf_some hz
  rw [hi] at hi'; cases hi'
  cases hq : (Nat.beq (ofVal v).cells.length i.size && (ofVal v).cells.all AV.one && !Nat.beq i.size 0) with
  | false => rw [hq] at h; cases h
  | true =>
   rw [hq] at h; cases h
   simp only [Bool.and_eq_true, Bool.not_eq_true'] at hq
   obtain ⟨⟨hl, hone⟩, hpos⟩ := hq
   have hl' := Nat.eq_of_beq_eq_true hl
   have hpos' : 0 < i.size := Nat.pos_of_ne_zero (Nat.ne_of_beq_eq_false hpos)
   have hr := fun N μ => ((Rep.ofVal N μ v).cells hone).1
   refine ⟨i, v, hi, hzv, rfl, hl'.symm, by rw [hl']; exact hpos', ?_, hone, hr⟩
   have := (hr 0 ⟨fun _ => 0, fun _ => 0, fun _ => 0, fun _ => 0, fun _ => none⟩).length
   rw [Array.length_toList] at this; exact this
 ·cases h
theorem makeSliceA_sound {P : Program} {t : TypeId} {l c v : AV} {g g' : G} (h : makeSliceA P t l c g = .done v g') :
  (g'.cs → g.cs) ∧ (g'.cs → ∀ μ w cl cc, GOk g.nx μ w.heap g.H → Rep g.nx μ l cl → Rep g.nx μ c cc → Gives g μ w g' v ((Instr.makeSlice t cl cc).run P w)) := by
 unfold makeSliceA at h
 obtain ⟨⟨s, n⟩, g1, a1, h1⟩ := done_of h
 obtain ⟨hl, rfl⟩ := ofOpt_done a1
 obtain ⟨⟨s', m⟩, g2, a2, h2⟩ := done_of h1
 obtain ⟨hm, rfl⟩ := ofOpt_done a2
 obtain ⟨k, rfl⟩ := asInt_some hl
 obtain ⟨k', rfl⟩ := asInt_some hm
 obtain ⟨e, g3, a3, h3⟩ := done_of h2
 obtain ⟨ht, rfl⟩ := ofOpt_done a3
 obtain ⟨z, g4, a4, h4⟩ := done_of h3
 obtain ⟨hz, rfl⟩ := ofOpt_done a4
 obtain ⟨i, zv, hi, hzv, hby, hsz, hpos, hzl, hone, hzr⟩ := zeroRow_some hz
 obtain ⟨u, g5, a5, h5⟩ := done_of h4
 have k1 := ck_done a5
 obtain ⟨nm, g6, a6, h6⟩ := done_of h5
 obtain ⟨rfl, rfl⟩ := ret_done h6
 obtain ⟨hnm, hH, hnx, hcs⟩ := newB_done a6
 have hk := Keep.of_newB k1 hcs
 refine ⟨fun hc => (hk hc).1, fun hc μ w cl cc hg hcl hcc => ?_⟩
 obtain ⟨h0, hnm', hb, h63⟩ := (hk hc).2
 simp only [Rep] at hcl hcc
 subst hcl hcc
 simp only at h0 hnm' hb h63
 have hrun := run_make (P := P) w t e i zv (sliceE_some ht) hi hzv k k' n m h0 hnm' (by rw [hby]; omega) h63
 rw [hsz] at hrun
 rw [← k1.1, ← k1.2.1] at hg
 obtain ⟨hg', he⟩ := newB_ok a6 hg hpos (w' := w.alloc (.cells (madeCells zv.cells (m.toNat * z.1.length)) e (0, 0))) (.alloc _ _) m.toNat (size_madeCells _ _) (by omega) (by
  intro j hj
  have hrow : (bif s then Cont.fn fun _ => z.1 else Cont.lit z.1 T.e).row j = z.1 := by cases s <;> simp [Cont.row, T.get]
  simp only
  rw [hrow]
  refine ⟨rfl, fun o x hx => ?_⟩
  have ho : o < z.1.length := (List.getElem?_eq_some_iff.1 hx).1
  obtain ⟨c', h1, h2⟩ := (hzr g.nx μ).get hx
  refine ⟨List.all_eq_true.1 hone _ (List.mem_of_getElem? hx), c', ?_, by rw [k1.2.1]; exact h2⟩
  have hjm : j * z.1.length + o < m.toNat * z.1.length := by
   have : (j + 1) * z.1.length ≤ m.toNat * z.1.length := Nat.mul_le_mul_right _ (by omega)
   rw [Nat.add_mul] at this; omega
  have hmod : (j * z.1.length + o) % zv.cells.size = o := by rw [hzl, Nat.mul_comm, Nat.mul_add_mod]; exact Nat.mod_eq_of_lt ho
  have h1' : zv.cells[o]? = some c' := by simpa using h1
  simp only [madeCells, Array.getElem?_map, Array.getElem?_range, hjm, if_true, Option.map_some, hmod]
  rw [getElem!_def, h1'])
 refine ⟨_, _, _, hrun, ?_, hg', Ext.of_keep k1 he⟩
 simp only [Rep]
 refine ⟨by omega, some ⟨w.heap.size, 0, none⟩, m.toNat, rfl, by omega, fun _ => ?_, fun _ => rfl, fun _ => ⟨rfl, rfl, .inr ⟨?_, ?_⟩⟩⟩
 ·rw [hnm]; simp [MM.addr, MM.set_blk, MM.set_base]
 ·rw [hnm, MM.set_blk]
 ·rw [hnm, MM.set_cap]
end Go.Sx
namespace Go.Sx
open M
def RC (a : AA) (esz sz n m : Nat) : Prop := if esz = sz ∧ a.o = 0 then a.i + m ≤ n else a.i < n ∧ a.o + m * esz ≤ sz
theorem same_of {esz sz : Nat} {a : AA} : (Nat.beq esz sz && Nat.beq a.o 0) = true ↔ esz = sz ∧ a.o = 0 := by
 simp [Bool.and_eq_true, Nat.beq_eq_true_eq]
theorem rowsCk_done {s : Bool} {a : AA} {esz sz n m : Nat} {u : Unit} {g g' : G} (h : rowsCk s a esz sz n m g = .done u g') : Keep g g' (RC a esz sz n m) := by
 unfold rowsCk at h
 cases hq : (Nat.beq esz sz && Nat.beq a.o 0) with
 | true =>
  rw [hq, cond_true] at h
  exact (ck_done h).mono fun hp => by unfold RC; rw [if_pos (same_of.1 hq)]; exact hp
 | false =>
  rw [hq, cond_false] at h
  obtain ⟨_, g1, a1, h1⟩ := done_of h
  refine ((ck_done a1).trans (ck_done h1)).mono fun hp => ?_
  unfold RC
  rw [if_neg fun e => by rw [same_of.2 e] at hq; cases hq]
  exact hp
theorem rowsOf_ok {N : Nat} {μ : MM} {hp : Array Obj} {a : AA} {own : Bool} {esz sz n m : Nat} {c : Cont} (hb : BkOk N μ hp a.g (.cells own sz n c)) (he : 0 < esz) (hr : RC a esz sz n m) (hm : 0 < m) :
  ∃ cur ty fz, hp[μ.blk a.g]? = some (.cells cur ty fz) ∧ μ.base a.g + a.i * sz + a.o + m * esz ≤ cur.size ∧ ∀ j, j < m → RowOk N μ (rowsOf a esz sz c j) esz cur (μ.base a.g + a.i * sz + a.o + j * esz) := by
 obtain ⟨hsz, hpos, hcur⟩ := hb
 unfold RC at hr
 by_cases hq : esz = sz ∧ a.o = 0
 ·rw [if_pos hq] at hr
  obtain ⟨cur, ty, fz, hB, hfit, _, hrows⟩ := hcur (.inl (by omega))
  refine ⟨cur, ty, fz, hB, ?_, fun j hj => ?_⟩
  ·have := row_fits (n := n) (sz := sz) (i := a.i + m - 1) (by omega) (Nat.le_refl _)
   rw [hq.1, hq.2]
   have e : (a.i + m - 1) * sz + sz = a.i * sz + m * sz := by
    rw [← Nat.succ_mul, ← Nat.add_mul]; congr 1; omega
   omega
  ·have := hrows (a.i + j) (by omega)
   unfold rowsOf
   rw [same_of.2 hq, cond_true, hq.1, hq.2, Nat.add_zero, Nat.add_assoc, ← Nat.add_mul]
   exact this
 ·rw [if_neg hq] at hr
  obtain ⟨cur, ty, fz, hB, hfit, _, hrows⟩ := hcur (.inl (by omega))
  have hrf : μ.base a.g + a.i * sz + sz ≤ cur.size := by have := row_fits hr.1 (Nat.le_refl (n * sz)); omega
  refine ⟨cur, ty, fz, hB, by omega, fun j hj => ?_⟩
  obtain ⟨rl, rc⟩ := hrows a.i hr.1
  have hqf : (Nat.beq esz sz && Nat.beq a.o 0) = false := by
   cases h : (Nat.beq esz sz && Nat.beq a.o 0) with
   | false => rfl
   | true => exact absurd (same_of.1 h) hq
  have hje : j * esz + esz ≤ m * esz := row_fits hj (Nat.le_refl _)
  unfold rowsOf
  rw [hqf, cond_false]
  refine ⟨by simp [rl]; omega, fun o v hv => ?_⟩
  rw [List.getElem?_take] at hv
  split at hv
  ·rw [List.getElem?_drop] at hv
   obtain ⟨h0, c', h1, h2⟩ := rc _ _ hv
   exact ⟨h0, c', by rw [← h1]; congr 1; omega, h2⟩
  ·cases hv
def SrcIs (N : Nat) (μ : MM) (w : World) (esz m : Nat) (r : Nat → List AV) (cy : Value) : Prop :=
 ∃ B C, cy = .slice B m C ∧ (0 < m → ∃ (ad : Addr) (news : List Value), B = some ad ∧ news.length = m * esz ∧ (∀ (j : Nat) v, news[j]? = some v → w.cell? (ad.add j) = some v) ∧ (∀ u ∈ news, u.oneCell' = true) ∧
  ∀ j, j < m → RowOk N μ (r j) esz news.toArray (j * esz))
theorem srcOf_sound {esz : Nat} {y : AV} {x : Bool × Nat × (Nat → List AV)} {g g' : G} (h : srcOf esz y g = .done x g') (he : 0 < esz) :
  ∃ p, Keep g g' p ∧ (p → ∀ N μ w cy, GOk N μ w.heap g.H → Rep N μ y cy → SrcIs N μ w esz x.2.1 x.2.2 cy) := by
 unfold srcOf at h
 split at h
 ·obtain ⟨rfl, rfl⟩ := ret_done h
  refine ⟨True, Keep.refl _, fun _ N μ w cy _ hy => ?_⟩
  simp only [Rep] at hy
  exact ⟨none, 0, hy, fun h0 => absurd h0 (by simp)⟩
 ·rename_i s own a len
  obtain ⟨⟨bo, sz, n, c⟩, g1, a1, h1⟩ := done_of h
  obtain ⟨hb, rfl⟩ := getC_done a1
  simp only at h1 hb
  obtain ⟨_, g2, a2, h2⟩ := done_of h1
  obtain ⟨rfl, rfl⟩ := ret_done h2
  refine ⟨_, rowsCk_done a2, fun hp N μ w cy hg hy => ?_⟩
  simp only [Rep] at hy
  obtain ⟨_, A, C, rfl, hlen, hA, _⟩ := hy
  refine ⟨A, C, rfl, fun h0 => ?_⟩
  simp only at h0
  obtain ⟨cur, ty, fz, hB, hfit, hrows⟩ := rowsOf_ok (hg.ok _ _ hb) he hp h0
  have hsz : μ.sz a.g = sz := (hg.ok _ _ hb).1
  have hnl : ((cur.toList.drop (μ.base a.g + a.i * sz + a.o)).take (len * esz)).length = len * esz := by simp; omega
  have hrow' : ∀ j, j < len → RowOk N μ (rowsOf a esz sz c j) esz ((cur.toList.drop (μ.base a.g + a.i * sz + a.o)).take (len * esz)).toArray (j * esz) := by
   intro j hj
   obtain ⟨rl, rc⟩ := hrows j hj
   refine ⟨rl, fun o v hv => ?_⟩
   obtain ⟨h0, c', h1, h2⟩ := rc o v hv
   refine ⟨h0, c', ?_, h2⟩
   have ho : o < esz := by have := (List.getElem?_eq_some_iff.1 hv).1; omega
   have hje : j * esz + esz ≤ len * esz := row_fits hj (Nat.le_refl _)
   rw [List.getElem?_toArray, List.getElem?_take, if_pos (by omega), List.getElem?_drop, ← Nat.add_assoc]
   simpa using h1
  refine ⟨_, _, hA h0, hnl, ?_, ?_, hrow'⟩
  ·intro j v hv
   unfold MM.addr
   rw [hsz, Addr.add_lit, cell_of hB]
   rw [List.getElem?_take] at hv
   split at hv
   ·rw [List.getElem?_drop] at hv; simpa using hv
   ·cases hv
  ·intro u hu
   obtain ⟨p, hp', rfl⟩ := List.getElem_of_mem hu
   rw [hnl] at hp'
   have hj : p / esz < len := Nat.div_lt_of_lt_mul (by rw [Nat.mul_comm]; exact hp')
   obtain ⟨rl, rc⟩ := hrow' (p / esz) hj
   have ho : p % esz < esz := Nat.mod_lt _ he
   obtain ⟨h0, c', h1, h2⟩ := rc (p % esz) _ (List.getElem?_eq_getElem (by rw [rl]; exact ho))
   have e : p / esz * esz + p % esz = p := by rw [Nat.mul_comm]; exact Nat.div_add_mod p esz
   rw [e, List.getElem?_toArray, List.getElem?_eq_getElem (by rw [hnl]; exact hp')] at h1
   cases h1
   exact h2.oneCell h0
 ·cases h
theorem delB_ok {g g1 : G} {old : Nat} {u : Unit} (h : delB old g = .done u g1) {μ : MM} {w : World} (hg : GOk g.nx μ w.heap g.H) : GOk g1.nx μ w.heap g1.H ∧ Ext g μ w g1 μ w := by
 obtain ⟨hH, hnx, _⟩ := delB_done h
 have hs : ∀ k b, g1.H.get k = some b → g.H.get k = some b := fun k b hk => by
  rw [hH, T.get_upd] at hk
  split at hk
  ·cases hk
  ·exact hk
 refine ⟨by rw [hnx]; exact hg.sub hs, ⟨by omega, .refl _ _, rfl, rfl, rfl, Nat.le_refl _, fun _ _ _ => rfl, fun B _ hm => ?_, fun _ _ q => .inl q⟩⟩
 obtain ⟨k, b, hk, r⟩ := hm
 exact ⟨k, b, hs k b hk, r⟩
theorem newB_empty {g g' : G} {nm sz : Nat} {c : Cont} (h : newB (.cells true sz 0 c) g = .done nm g') {μ : MM} {w : World} (hg : GOk g.nx μ w.heap g.H) (hpos : 0 < sz) (bk : Nat) :
  GOk g'.nx (μ.set g.nx bk 0 sz) w.heap g'.H ∧ Ext g μ w g' (μ.set g.nx bk 0 sz) w := by
 obtain ⟨_, hH, hnx, _⟩ := newB_done h
 have hu : MM.upto g.nx μ (μ.set g.nx bk 0 sz) := MM.upto_set μ (Nat.le_refl _)
 have hnr : ¬ (ABk.cells true sz 0 c).real (μ.set g.nx bk 0 sz) g.nx := by simp [ABk.real, MM.set_cap]
 constructor
 ·rw [hH, hnx]
  refine hg.upd hu (by omega) (by omega) ?_ (fun _ _ _ _ _ => rfl) ?_ (fun b o q => ⟨q, fun p1 _ => ⟨p1, fun bk e1 _ e3 => by cases e1; exact absurd e3 hnr⟩⟩)
  ·rintro _ ⟨⟩
   exact ⟨MM.set_sz .., hpos, fun hr => absurd hr hnr⟩
  ·rintro _ ⟨⟩ hr; exact absurd hr hnr
 ·refine ⟨by omega, hu, rfl, rfl, rfl, Nat.le_refl _, fun _ _ _ => rfl, fun B hB hm => ?_, fun _ _ q => .inl q⟩
  obtain ⟨g1, b1, hg1, ho1, hr1, e⟩ := hm
  rw [hH, T.get_upd] at hg1
  split at hg1
  ·rename_i e1; cases hg1; rw [e1] at hr1; exact absurd hr1 hnr
  ·have hlt := hg.lt _ _ hg1
   rw [ABk.real_later hu hlt] at hr1
   rw [hu.blk _ hlt] at e
   exact ⟨g1, b1, hg1, ho1, hr1, e⟩
theorem reuse_ok {g g1 g2 : G} {old nm sz n n' : Nat} {c c' : Cont} {u : Unit} (h1 : delB old g = .done u g1) (h2 : newB (.cells true sz n' c') g1 = .done nm g2) {μ : MM} {w w' : World} (hg : GOk g.nx μ w.heap g.H)
  (hb : g.H.get old = some (.cells true sz n c)) (hreal : 0 < n ∨ 0 < μ.cap old) (hos : w'.os = w.os) (htape : w'.tape = w.tape) (hout : w'.output = w.output) (hsize : w'.heap.size = w.heap.size)
  (hoth : ∀ B, B ≠ μ.blk old → w'.heap[B]? = w.heap[B]?) {cur : Array Value} {ty : TypeId} (hB : w'.heap[μ.blk old]? = some (.cells cur ty (0, 0))) (hcap : cur.size = μ.cap old * sz) (hn : n' * sz ≤ cur.size)
  (hrows : ∀ i, i < n' → RowOk g.nx μ (c'.row i) sz cur (i * sz)) :
  GOk g2.nx (μ.set g.nx (μ.blk old) (μ.cap old) sz) w'.heap g2.H ∧ Ext g μ w g2 (μ.set g.nx (μ.blk old) (μ.cap old) sz) w' := by
 obtain ⟨hH1, hnx1, _⟩ := delB_done h1
 obtain ⟨_, hH, hnx, _⟩ := newB_done h2
 rw [hnx1] at hH hnx
 have hu : MM.upto g.nx μ (μ.set g.nx (μ.blk old) (μ.cap old) sz) := MM.upto_set μ (Nat.le_refl _)
 have hs : ∀ k b, g1.H.get k = some b → g.H.get k = some b ∧ k ≠ old := fun k b hk => by
  rw [hH1, T.get_upd] at hk
  split at hk
  ·cases hk
  ·exact ⟨hk, by assumption⟩
 have hpos : 0 < sz := (hg.ok _ _ hb).2.1
 have hrealb : (ABk.cells true sz n c).real μ old := by
  rcases hreal with h | h
  ·exact .inl h
  ·exact .inr ⟨rfl, h⟩
 have hdis : ∀ k b, g1.H.get k = some b → b.real μ k → μ.blk k ≠ μ.blk old := fun k b hk hr e =>
  (hs k b hk).2 (hg.sep _ _ _ _ hb (hs k b hk).1 rfl hrealb hr e.symm).symm
 have hg1 : GOk g.nx μ w.heap g1.H := hg.sub fun k b hk => (hs k b hk).1
 constructor
 ·rw [hH, hnx]
  refine hg1.upd hu (by omega) (by omega) ?_ ?_ ?_ (fun b o q => ⟨q, fun p1 _ => have hne : b ≠ μ.blk old := fun e => (hg.fz b o q).2 (by rw [e]; exact May.of hb rfl hrealb); ⟨by rw [hoth b hne]; exact p1, fun bk _ _ _ e => hne (by rw [MM.set_blk] at e; exact e.symm)⟩⟩)
  ·rintro _ ⟨⟩
   refine ⟨MM.set_sz .., hpos, fun _ => ⟨cur, ty, (0, 0), by rw [MM.set_blk]; exact hB, by rw [MM.set_base, Nat.zero_add]; exact hn, fun _ => ⟨rfl, by rw [MM.set_cap]; exact hcap, MM.set_base ..⟩, fun i hi => by rw [MM.set_base, Nat.zero_add]; exact (hrows i hi).later hu (by omega)⟩⟩
  ·intro k b hk _ hr
   exact hoth _ (hdis k b hk hr)
  ·rintro _ ⟨⟩ _ k b hk _ hr _ e
   rw [MM.set_blk] at e
   exact hdis k b hk hr e.symm
 ·refine ⟨by omega, hu, hos, htape, hout, by rw [hsize]; exact Nat.le_refl _, fun B hB' hnm => hoth B fun e => hnm ?_, fun B hB' hm => ?_, fun _ _ q => .inl q⟩
  ·rw [e]; exact May.of hb rfl hrealb
  ·obtain ⟨k, b, hk, ho, hr, e⟩ := hm
   rw [hH, T.get_upd] at hk
   split at hk
   ·rename_i e1
    rw [e1, MM.set_blk] at e
    rw [← e]; exact May.of hb rfl hrealb
   ·have hlt := hg1.lt _ _ hk
    rw [ABk.real_later hu hlt] at hr
    rw [hu.blk _ hlt] at e
    exact ⟨k, b, (hs k b hk).1, ho, hr, e⟩
theorem run_append_none {P : Program} {t e : TypeId} {i : TypeInfo} (ht : P.underlying t = some (.slice e)) (hi : P.info? e = some i) (ty : TypeId) (w : World) (A B : Option Addr) (n C D : Nat) (hC : n ≤ C) :
  (Builtin.append_ #[t, t] ty #[.slice A n C, .slice B 0 D]).run P w = .ok (.slice A n C) w := by
 have hf : (Builtin.firstCells i.size 0 (.slice B 0 D)).run P w = .ok #[] w := by
  cases B with
  | none => simp [Builtin.firstCells]
  | some b => simp [Builtin.firstCells, loadCells, loadCellsFrom]
 cases A with
 | none => simp [Builtin.append_, run_underlying ht, sizeOf, typeInfo, hi, Builtin.lenOf, hC, hf]
 | some a => simp [Builtin.append_, run_underlying ht, sizeOf, typeInfo, hi, Builtin.lenOf, hC, hf, storeCells]
theorem newCells_rows {N : Nat} {μ : MM} {esz len m : Nat} {olds news : List Value} {ro rn c' : Nat → List AV} {tail : Array Value} (hlo : olds.length = len * esz)
  (ho : ∀ j, j < len → RowOk N μ (ro j) esz olds.toArray (j * esz)) (hn : ∀ j, j < m → RowOk N μ (rn j) esz news.toArray (j * esz))
  (hc : ∀ j, j < len + m → c' j = if j < len then ro j else rn (j - len)) (j : Nat) (hj : j < len + m) : RowOk N μ (c' j) esz (olds.toArray ++ news.toArray ++ tail) (j * esz) := by
 rw [hc j hj]
 split
 ·rename_i h
  obtain ⟨rl, rc⟩ := ho j h
  refine ⟨rl, fun o v hv => ?_⟩
  obtain ⟨h0, c1, h1, h2⟩ := rc o v hv
  refine ⟨h0, c1, ?_, h2⟩
  have hlt := (Array.getElem?_eq_some_iff.1 h1).1
  rw [Array.append_assoc, Array.getElem?_append_left hlt]; exact h1
 ·rename_i h
  obtain ⟨rl, rc⟩ := hn (j - len) (by omega)
  refine ⟨rl, fun o v hv => ?_⟩
  obtain ⟨h0, c1, h1, h2⟩ := rc o v hv
  refine ⟨h0, c1, ?_, h2⟩
  have hlt := (Array.getElem?_eq_some_iff.1 h1).1
  have e : j * esz + o = len * esz + ((j - len) * esz + o) := by
   rw [← Nat.add_assoc, ← Nat.add_mul]; congr 2; omega
  rw [Array.append_assoc, e, Array.getElem?_append_right (by simp; omega)]
  have e2 : len * esz + ((j - len) * esz + o) - olds.toArray.size = (j - len) * esz + o := by simp [hlo]
  rw [e2, Array.getElem?_append_left hlt]; exact h1
end Go.Sx
namespace Go.Sx
open M
theorem run_append_fits {P : Program} {w : World} {t ty e : TypeId} {i : TypeInfo} (ht : P.underlying t = some (.slice e)) (hi : P.info? e = some i)
  {g sLen sCap : Nat} {cur : Array Value} {ty' : TypeId} (hg : w.heap[g]? = some (.cells cur ty' (0, 0)))
  {a : Addr} {m c : Nat} {news : List Value} (hl : news.length = m * i.size) (hnews : ∀ (j : Nat) u, news[j]? = some u → w.cell? (a.add j) = some u) (h1 : ∀ u ∈ news, u.oneCell' = true)
  (hroom : sLen + m ≤ sCap) (hfit : sLen * i.size + news.length ≤ cur.size) :
  (Builtin.append_ #[t, t] ty #[.slice (some ⟨g, 0, none⟩) sLen sCap, .slice (some a) m c]).run P w =
   .ok (.slice (some ⟨g, 0, none⟩) (sLen + m) sCap) (w.setRow g (cur.toList.take (sLen * i.size) ++ news ++ cur.toList.drop (sLen * i.size + news.length)).toArray) := by
 have hf := run_firstCells_some (P := P) w i.size m a m c news hl hnews
 have hst := run_storeCells_at P g (sLen * i.size) ty' news 0 cur w hg (by simpa using hfit) h1
 simp only [Nat.add_zero] at hst
 simp [Builtin.append_, run_underlying ht, sizeOf, typeInfo, hi, Builtin.lenOf, hroom, hf, Addr.add_lit, hst]
theorem olds_ok {N : Nat} {μ : MM} {w : World} {nm : Nat} {own : Bool} {sz n len : Nat} {c : Cont} (hb : BkOk N μ w.heap nm (.cells own sz n c)) (hown : own = true) (hlen : len ≤ n) :
  ∃ olds : List Value, olds.length = len * sz ∧ (∀ (j : Nat) v, olds[j]? = some v → w.cell? ((⟨μ.blk nm, 0, none⟩ : Addr).add j) = some v) ∧ ∀ j, j < len → RowOk N μ (c.row j) sz olds.toArray (j * sz) := by
 obtain ⟨_, _, hcur⟩ := hb
 rcases Nat.eq_zero_or_pos len with rfl | hpos
 ·exact ⟨[], by simp, fun j v h => by simp at h, fun j hj => absurd hj (by omega)⟩
 ·obtain ⟨cur, ty, fz, hB, hfit, hfz, hrows⟩ := hcur (.inl (by omega))
  obtain ⟨_, _, hb0⟩ := hfz hown
  simp only [hb0, Nat.zero_add] at hfit hrows
  have hls : len * sz ≤ n * sz := Nat.mul_le_mul_right _ hlen
  refine ⟨cur.toList.take (len * sz), by simp; omega, fun j v hv => ?_, fun j hj => ?_⟩
  ·rw [Addr.add_lit, cell_of hB]
   rw [List.getElem?_take] at hv
   split at hv
   ·simpa using hv
   ·cases hv
  ·obtain ⟨rl, rc⟩ := hrows j (by omega)
   refine ⟨rl, fun o v hv => ?_⟩
   obtain ⟨h0, c', h1, h2⟩ := rc o v hv
   have ho : o < sz := by have := (List.getElem?_eq_some_iff.1 hv).1; omega
   have := row_fits hj (Nat.le_refl (len * sz))
   refine ⟨h0, c', ?_, h2⟩
   rw [List.getElem?_toArray, List.getElem?_take, if_pos (by omega)]
   simpa using h1
theorem more_row {src : Nat → List AV} {s : Bool} {len m : Nat} {c : Cont} (j : Nat) (hj : j < len + m) :
  (bif s then Cont.fn (fun j => bif decide (j < len) then rowJ c len j else (bif Nat.beq m 1 then src 0 else src (j - len))) else Cont.more src len m c).row j = if j < len then c.row j else src (j - len) := by
 cases s with
 | true =>
  simp only [cond_true]
  show (bif decide (j < len) then rowJ c len j else (bif Nat.beq m 1 then src 0 else src (j - len))) = _
  by_cases h : j < len
  ·rw [decide_eq_true h, cond_true, if_pos h, rowJ_eq c h]
  ·simp only [decide_eq_false h, cond_false, if_neg h]
   cases hm : Nat.beq m 1 with
   | true =>
    have := Nat.eq_of_beq_eq_true hm
    rw [cond_true, show j - len = 0 by omega]
   | false => rfl
 | false =>
  simp only [cond_false, Cont.row_more]
  by_cases h : j < len
  ·rw [if_neg (by omega), if_pos h]
  ·rw [if_pos (by omega), if_neg h]
theorem appendA_sound {P : Program} {t u ty : TypeId} {x y v : AV} {g g' : G} (h : appendA P t u x y g = .done v g') :
  (g'.cs → g.cs) ∧ (g'.cs → ∀ μ w cx cy, GOk g.nx μ w.heap g.H → Rep g.nx μ x cx → Rep g.nx μ y cy → Gives g μ w g' v ((Builtin.append_ #[t, u] ty #[cx, cy]).run P w)) := by
 unfold appendA at h
 obtain ⟨e, g1, a1, h1⟩ := done_of h
 obtain ⟨ht, rfl⟩ := ofOpt_done a1
 obtain ⟨_, g2, a2, h2⟩ := done_of h1
 obtain ⟨htu, rfl⟩ := okIf_done a2
 obtain rfl := Nat.eq_of_beq_eq_true htu
 obtain ⟨z, g3, a3, h3⟩ := done_of h2
 obtain ⟨hz, rfl⟩ := ofOpt_done a3
 obtain ⟨i, zv, hi, hzv, hby, hsz, hpos, hzl, hone, hzr⟩ := zeroRow_some hz
 have ht' := sliceE_some ht
 obtain ⟨⟨ss, m, r⟩, g4, a4, h4⟩ := done_of h3
 obtain ⟨p, k4, hsrc⟩ := srcOf_sound a4 hpos
 simp only at h4 hsrc
 split at h4
 ·-- onto nil
  cases hz0 : (!ss && Nat.beq m 0) with
  | true =>
   rw [hz0, cond_true] at h4
   obtain ⟨rfl, rfl⟩ := ret_done h4
   simp only [Bool.and_eq_true, Bool.not_eq_true', Bool.not_eq_true] at hz0
   obtain rfl : m = 0 := Nat.eq_of_beq_eq_true hz0.2
   refine ⟨fun hc => (k4.2.2 hc).1, fun hc μ w cx cy hg hx hy => ?_⟩
   obtain ⟨B, C, rfl, _⟩ := hsrc (k4.2.2 hc).2 g.nx μ w cy hg hy
   simp only [Rep] at hx
   subst hx
   rw [run_append_none ht' hi ty w none B 0 0 C (Nat.le_refl _)]
   exact Gives.keep0 k4 hg (by simp [Rep])
  | false =>
  rw [hz0, cond_false] at h4
  obtain ⟨_, g5, a5, h5⟩ := done_of h4
  have k5 := k4.trans (ck_done a5)
  obtain ⟨nm, g6, a6, h6⟩ := done_of h5
  obtain ⟨rfl, rfl⟩ := ret_done h6
  obtain ⟨hnm, hH, hnx, hcs⟩ := newB_done a6
  have hk := Keep.of_newB k5 hcs
  refine ⟨fun hc => (hk hc).1, fun hc μ w cx cy hg hx hy => ?_⟩
  obtain ⟨hp, hb48, hb63⟩ := (hk hc).2
  obtain ⟨B, C, rfl, hnews⟩ := hsrc hp g.nx μ w cy hg hy
  simp only [Rep] at hx
  subst hx
  have hg5 : GOk g5.nx μ w.heap g5.H := by rw [k5.1, k5.2.1]; exact hg
  rcases Nat.eq_zero_or_pos m with rfl | hm
  ·obtain ⟨hg', he⟩ := newB_empty a6 hg5 hpos 0
   refine ⟨_, w, _, run_append_none ht' hi ty w none B 0 0 C (Nat.le_refl _), ?_, hg', Ext.of_keep k5 he⟩
   simp only [Rep]
   exact ⟨by omega, none, 0, rfl, Nat.le_refl _, fun h0 => absurd h0 (by omega), (fun hs => by rw [hs] at hz0; simp at hz0), fun _ => ⟨rfl, rfl, .inl ⟨rfl, rfl, rfl⟩⟩⟩
  ·obtain ⟨ad, news, rfl, hnl, hcell, h1c, hrow⟩ := hnews hm
   have hrun := run_append_nil (P := P) w t ty e i zv ht' hi hzv ad m C news (by rw [hsz]; exact hnl) hcell hm (by omega) (by rw [hby]; omega)
   have hge := grownCap_ge w m 0 e
   obtain ⟨hg', he⟩ := newB_ok a6 hg5 hpos (w' := w.drew.alloc (.cells (news.toArray ++ Builtin.zeroCells zv.cells (grownCap w m 0 e - m)) e)) (.drew _ _) (grownCap w m 0 e) (by
    simp only [Array.size_append, List.size_toArray, size_zeroCells, hnl, hzl, ← Nat.add_mul]; congr 1; omega) hge (by
    intro j hj
    have := newCells_rows (N := g.nx) (μ := μ) (esz := z.1.length) (len := 0) (m := m) (olds := []) (news := news) (ro := fun _ => []) (rn := r)
     (c' := (bif ss then Cont.fn r else Cont.more r 0 m (.lit [] .e)).row) (tail := Builtin.zeroCells zv.cells (grownCap w m 0 e - m)) (by simp) (fun j hj => absurd hj (by omega)) hrow
     (fun j hj => by
      rw [if_neg (by omega), Nat.sub_zero]
      cases ss with
      | true => rfl
      | false => simp only [cond_false, Cont.row_more]; rw [if_pos (by omega), Nat.sub_zero]) j (by omega)
    rw [k5.2.1]
    simpa using this)
   refine ⟨_, _, _, hrun, ?_, hg', Ext.of_keep k5 he⟩
   simp only [Rep]
   refine ⟨by omega, _, _, rfl, hge, fun _ => ?_, fun _ => rfl, fun _ => ⟨rfl, rfl, .inr ⟨?_, ?_⟩⟩⟩
   ·rw [hnm]; simp [MM.addr, MM.set_base, MM.set_blk]
   ·rw [hnm, MM.set_blk]
   ·rw [hnm, MM.set_cap]
 ·-- onto a slice of the call's own
  rename_i s own a len
  obtain ⟨⟨bo, sz, n, c⟩, g5, a5, h5⟩ := done_of h4
  obtain ⟨hb, rfl⟩ := getC_done a5
  simp only at h5 hb
  obtain ⟨_, g6, a6, h6⟩ := done_of h5
  obtain ⟨hq, rfl⟩ := okIf_done a6
  simp only [Bool.and_eq_true] at hq
  obtain ⟨⟨rfl, rfl⟩, hszq⟩ := hq
  obtain rfl := Nat.eq_of_beq_eq_true hszq
  obtain ⟨_, g7, a7, h7⟩ := done_of h6
  have k7 := k4.trans (ck_done a7)
  obtain ⟨_, g8, a8, h8⟩ := done_of h7
  obtain ⟨nm, g9, a9, h9⟩ := done_of h8
  obtain ⟨rfl, rfl⟩ := ret_done h9
  obtain ⟨hnm, hH, hnx, hcs⟩ := newB_done a9
  obtain ⟨hH8, hnx8, hcs8⟩ := delB_done a8
  have hk := Keep.of_newB k7 (hcs.trans hcs8)
  refine ⟨fun hc => (hk hc).1, fun hc μ w cx cy hg hx hy => ?_⟩
  obtain ⟨hp, hlen, hb48, hb63⟩ := (hk hc).2
  obtain ⟨B, D, rfl, hnews⟩ := hsrc hp g.nx μ w cy hg hy
  have hg7 : GOk g7.nx μ w.heap g7.H := by rw [k7.1, k7.2.1]; exact hg
  have hb7 : g7.H.get a.g = some (.cells true z.1.length n c) := by rw [k7.1, ← k4.1]; exact hb
  obtain ⟨hg8, he8⟩ := delB_ok a8 hg7
  simp only [Rep] at hx
  obtain ⟨hag, A, C, rfl, hlC, hA, hnn, hown⟩ := hx
  obtain ⟨hai, hao, hAC⟩ := hown rfl
  obtain ⟨olds, hol, hoc, horow⟩ := olds_ok (hg7.ok _ _ hb7) rfl hlen
  have hnm8 : g8.nx = g.nx := hnx8.trans k7.2.1
  have hrows : ∀ (news : List Value) (tail : Array Value), (∀ j, j < m → RowOk g.nx μ (r j) z.1.length news.toArray (j * z.1.length)) → ∀ j, j < len + m →
    RowOk g.nx μ ((bif s || ss then Cont.fn (fun j => bif decide (j < len) then rowJ c len j else (bif Nat.beq m 1 then r 0 else r (j - len))) else Cont.more r len m c).row j) z.1.length (olds.toArray ++ news.toArray ++ tail) (j * z.1.length) :=
   fun news tail hr j hj => newCells_rows hol (by rw [← k7.2.1]; exact horow) hr (fun j hj => more_row j hj) j hj
  rcases Nat.eq_zero_or_pos m with rfl | hm
  ·have hrun := run_append_none (P := P) ht' hi ty w A B len C D hlC
   simp only [Nat.add_zero] at *
   by_cases hreal : 0 < n ∨ 0 < μ.cap a.g
   ·-- the block goes on
    obtain ⟨_, _, hcur⟩ := hg7.ok _ _ hb7
    obtain ⟨cur, ty', fz, hB, hfit, hfz, hro⟩ := hcur (hreal.imp id fun h => ⟨rfl, h⟩)
    obtain ⟨rfl, hcap, hb0⟩ := hfz rfl
    simp only [hb0, Nat.zero_add] at hfit hro
    have hls : len * z.1.length ≤ n * z.1.length := Nat.mul_le_mul_right _ hlen
    obtain ⟨hg', he⟩ := reuse_ok a8 a9 hg7 hb7 hreal (w' := w) rfl rfl rfl rfl (fun _ _ => rfl) hB hcap (by omega) (by
     intro j hj
     have e := more_row (src := r) (s := s || ss) (len := len) (m := 0) (c := c) j (by omega)
     rw [if_pos hj] at e
     rw [e]; exact hro j (by omega))
    refine ⟨_, _, _, hrun, ?_, hg', Ext.of_keep k7 he⟩
    simp only [Rep]
    refine ⟨by omega, A, C, rfl, hlC, fun h0 => ?_, fun hs => hnn (by simpa using (Bool.or_eq_false_iff.1 hs).1), fun _ => ⟨rfl, rfl, ?_⟩⟩
    ·rw [hA h0, hnm, hnx8]; simp [MM.addr, MM.set_base, MM.set_blk, hai, hao]
    ·rw [hnm, hnx8, MM.set_blk, MM.set_cap]; exact hAC
   ·-- there was none
    obtain rfl : n = 0 := by omega
    obtain rfl : len = 0 := by omega
    obtain ⟨hg', he⟩ := newB_empty a9 hg8 hpos (μ.blk a.g)
    refine ⟨_, _, _, hrun, ?_, hg', Ext.of_keep k7 (he8.trans he)⟩
    simp only [Rep]
    refine ⟨by omega, A, C, rfl, hlC, fun h0 => absurd h0 (by omega), fun hs => hnn (Bool.or_eq_false_iff.1 hs).1, fun _ => ⟨rfl, rfl, ?_⟩⟩
    rw [hnm, MM.set_blk, MM.set_cap]
    rcases hAC with hq | ⟨hq, hq2⟩
    ·exact .inl hq
    ·exact .inr ⟨hq, by omega⟩
  ·obtain ⟨ad, news, rfl, hnl, hcell, h1c, hrow⟩ := hnews hm
   rcases hAC with ⟨rfl, rfl, rfl⟩ | ⟨rfl, rfl⟩
   ·-- nil
    have hrun := run_append_nil (P := P) w t ty e i zv ht' hi hzv ad m D news (by rw [hsz]; exact hnl) hcell hm (by omega) (by rw [hby]; simp only [Nat.zero_add] at hb48; omega)
    have hge := grownCap_ge w m 0 e
    obtain rfl : olds = [] := List.eq_nil_of_length_eq_zero (by simpa using hol)
    obtain ⟨hg', he⟩ := newB_ok a9 hg8 hpos (w' := w.drew.alloc (.cells (news.toArray ++ Builtin.zeroCells zv.cells (grownCap w m 0 e - m)) e)) (.drew _ _) (grownCap w m 0 e) (by
     simp only [Array.size_append, List.size_toArray, size_zeroCells, hnl, hzl, ← Nat.add_mul]; congr 1; omega) (by omega) (by
     intro j hj
     rw [hnm8]
     have := hrows news (Builtin.zeroCells zv.cells (grownCap w m 0 e - m)) hrow j hj
     simpa using this)
    refine ⟨_, _, _, hrun, ?_, hg', Ext.of_keep k7 (he8.trans he)⟩
    simp only [Rep]
    refine ⟨by omega, _, _, by rw [Nat.zero_add], by omega, fun _ => ?_, fun _ => rfl, fun _ => ⟨rfl, rfl, .inr ⟨?_, ?_⟩⟩⟩
    ·rw [hnm]; simp [MM.addr, MM.set_base, MM.set_blk]
    ·rw [hnm, MM.set_blk]
    ·rw [hnm, MM.set_cap]
   ·by_cases hroom : len + m ≤ μ.cap a.g
    ·-- there is room
     have hreal : 0 < n ∨ 0 < μ.cap a.g := .inr (by omega)
     obtain ⟨_, _, hcur⟩ := hg7.ok _ _ hb7
     obtain ⟨cur, ty', fz, hB, hfit, hfz, hro⟩ := hcur (hreal.imp id fun h => ⟨rfl, h⟩)
     obtain ⟨rfl, hcap, hb0⟩ := hfz rfl
     simp only [hb0, Nat.zero_add] at hfit hro
     have hlm : (len + m) * z.1.length ≤ μ.cap a.g * z.1.length := Nat.mul_le_mul_right _ hroom
     rw [Nat.add_mul] at hlm
     have hfit2 : len * z.1.length + news.length ≤ cur.toList.length := by rw [hnl, Array.length_toList, hcap]; exact hlm
     have hrun := run_append_fits (P := P) (ty := ty) (c := D) ht' hi hB (by rw [hsz]; exact hnl) hcell h1c hroom (by rw [hsz]; simpa using hfit2)
     rw [hsz] at hrun
     have hget := fun p => splice_get cur.toList (len * z.1.length) news hfit2 p
     obtain ⟨hg', he⟩ := reuse_ok a8 a9 hg7 hb7 hreal (w' := w.setRow (μ.blk a.g) (cur.toList.take (len * z.1.length) ++ news ++ cur.toList.drop (len * z.1.length + news.length)).toArray) rfl rfl rfl (by simp)
      (fun B hne => setRow_other w _ _ _ hne) (setRow_heap w _ cur _ ty' _ hB) (by rw [← hcap]; simp at hfit2 ⊢; omega) (by rw [Nat.add_mul]; simp at hfit2 ⊢; omega) (by
      intro j hj
      rw [more_row j hj]
      split
      ·rename_i hjl
       obtain ⟨rl, rc⟩ := hro j (by omega)
       refine ⟨rl, fun o v hv => ?_⟩
       obtain ⟨h0, c', h1, h2⟩ := rc o v hv
       have ho : o < z.1.length := by have := (List.getElem?_eq_some_iff.1 hv).1; omega
       have := row_fits hjl (Nat.le_refl (len * z.1.length))
       refine ⟨h0, c', ?_, h2⟩
       rw [List.getElem?_toArray, hget, if_pos (by omega)]
       simpa using h1
      ·rename_i hjl
       obtain ⟨rl, rc⟩ := hrow (j - len) (by omega)
       refine ⟨rl, fun o v hv => ?_⟩
       obtain ⟨h0, c', h1, h2⟩ := rc o v hv
       have hlt : (j - len) * z.1.length + o < news.length := by have := (Array.getElem?_eq_some_iff.1 h1).1; simpa using this
       have e3 : j * z.1.length + o = len * z.1.length + ((j - len) * z.1.length + o) := by
        rw [← Nat.add_assoc, ← Nat.add_mul]; congr 2; omega
       refine ⟨h0, c', ?_, by rw [k7.2.1]; exact h2⟩
       rw [List.getElem?_toArray, e3, hget, if_neg (by omega), if_pos (by omega), Nat.add_sub_cancel_left]
       simpa using h1)
     refine ⟨_, _, _, hrun, ?_, hg', Ext.of_keep k7 he⟩
     simp only [Rep]
     refine ⟨by omega, _, _, rfl, hroom, fun _ => ?_, fun _ => rfl, fun _ => ⟨rfl, rfl, .inr ⟨?_, ?_⟩⟩⟩
     ·rw [hnm, hnx8]; simp [MM.addr, MM.set_base, MM.set_blk]
     ·rw [hnm, hnx8, MM.set_blk]
     ·rw [hnm, hnx8, MM.set_cap]
    ·-- it grows
     have hrun := run_append_grow (P := P) w t ty e i zv ht' hi hzv ⟨μ.blk a.g, 0, none⟩ len (μ.cap a.g) olds (by rw [hsz]; exact hol) hoc ad m D news (by rw [hsz]; exact hnl) hcell (by omega) (by omega)
      (growslice_fits (by omega) (by rw [hby]; exact hb48))
     have hge := grownCap_ge w (len + m) (μ.cap a.g) e
     obtain ⟨hg', he⟩ := newB_ok a9 hg8 hpos (w' := w.drew.alloc (.cells (olds.toArray ++ news.toArray ++ Builtin.zeroCells zv.cells (grownCap w (len + m) (μ.cap a.g) e - (len + m))) e)) (.drew _ _) (grownCap w (len + m) (μ.cap a.g) e) (by
      simp only [Array.size_append, List.size_toArray, size_zeroCells, hnl, hol, hzl, ← Nat.add_mul]; congr 1; omega) hge (by
      intro j hj
      rw [hnm8]
      exact hrows news _ hrow j hj)
     refine ⟨_, _, _, hrun, ?_, hg', Ext.of_keep k7 (he8.trans he)⟩
     simp only [Rep]
     refine ⟨by omega, _, _, rfl, hge, fun _ => ?_, fun _ => rfl, fun _ => ⟨rfl, rfl, .inr ⟨?_, ?_⟩⟩⟩
     ·rw [hnm]; simp [MM.addr, MM.set_base, MM.set_blk]
     ·rw [hnm, MM.set_blk]
     ·rw [hnm, MM.set_cap]
 ·cases h4
theorem minN_eq (a b : Nat) : minN a b = Nat.min a b := by
 unfold minN
 cases h : Nat.ble a b with
 | true =>
  have := Nat.le_of_ble_eq_true h
  simp only [cond_true]; show a = min a b; omega
 | false =>
  have : ¬ a ≤ b := fun k => by rw [Nat.ble_eq_true_of_le k] at h; cases h
  simp only [cond_false]; show b = min a b; omega
theorem copyA_sound {P : Program} {t u ty : TypeId} {x y v : AV} {g g' : G} (h : copyA P t x y g = .done v g') :
  (g'.cs → g.cs) ∧ (g'.cs → ∀ μ w cx cy, GOk g.nx μ w.heap g.H → Rep g.nx μ x cx → Rep g.nx μ y cy → Gives g μ w g' v ((Builtin.copy_ #[t, u] ty #[cx, cy]).run P w)) := by
 unfold copyA at h
 obtain ⟨e, g1, a1, h1⟩ := done_of h
 obtain ⟨ht, rfl⟩ := ofOpt_done a1
 obtain ⟨z, g2, a2, h2⟩ := done_of h1
 obtain ⟨hz, rfl⟩ := ofOpt_done a2
 obtain ⟨_, g3, a3, h3⟩ := done_of h2
 obtain ⟨hz1, rfl⟩ := okIf_done a3
 have hz1 := Nat.eq_of_beq_eq_true hz1
 obtain ⟨i, zv, hi, hzv, hby, hsz, hpos, hzl, hone, hzr⟩ := zeroRow_some hz
 have ht' := sliceE_some ht
 obtain ⟨⟨ss, m, r⟩, g4, a4, h4⟩ := done_of h3
 obtain ⟨p, k4, hsrc⟩ := srcOf_sound a4 (by omega)
 simp only at h4 hsrc
 split at h4
 ·rename_i s own a len
  obtain ⟨⟨bo, sz, n, c⟩, g5, a5, h5⟩ := done_of h4
  obtain ⟨hb, rfl⟩ := getC_done a5
  simp only at h5 hb
  obtain ⟨_, g6, a6, h6⟩ := done_of h5
  obtain ⟨hq, rfl⟩ := okIf_done a6
  simp only [Bool.and_eq_true] at hq
  obtain ⟨⟨rfl, hs1⟩, ho⟩ := hq
  obtain rfl := Nat.eq_of_beq_eq_true hs1
  have ho := Nat.eq_of_beq_eq_true ho
  obtain ⟨_, g7, a7, h7⟩ := done_of h6
  have k7 := k4.trans (ck_done a7)
  obtain ⟨_, g8, a8, h8⟩ := done_of h7
  obtain ⟨rfl, rfl⟩ := ret_done h8
  obtain ⟨hH, hnx, hcs⟩ := setB_done a8
  rw [minN_eq] at hH ⊢
  have hk : g8.cs → g.cs ∧ (p ∧ a.i + len ≤ n) := fun hc => k7.2.2 (by rw [hcs] at hc; exact hc)
  refine ⟨fun hc => (hk hc).1, fun hc μ w cx cy hg hx hy => ?_⟩
  obtain ⟨_, hp, hin⟩ := hk hc
  obtain ⟨B, C, rfl, hnews⟩ := hsrc hp g.nx μ w cy hg hy
  have hb0 : g.H.get a.g = some (.cells true 1 n c) := by rw [← k4.1]; exact hb
  simp only [Rep] at hx
  obtain ⟨hag, A, D, rfl, hlD, hA, hnn, hown⟩ := hx
  have hrow : ∀ j, (bif s || a.s || ss then Cont.fn (fun j => bif decide (a.i ≤ j ∧ j < a.i + Nat.min m len) then r (j - a.i) else c.row j) else Cont.more r a.i (Nat.min m len) c).row j = if a.i ≤ j ∧ j < a.i + Nat.min m len then r (j - a.i) else c.row j := by
   intro j
   cases hss : (s || a.s || ss) with
   | true =>
    simp only [cond_true, Cont.row]
    by_cases hj : a.i ≤ j ∧ j < a.i + Nat.min m len
    ·rw [decide_eq_true hj, cond_true, if_pos hj]
    ·rw [decide_eq_false hj, cond_false, if_neg hj]
   | false => simp only [cond_false, Cont.row_more]
  have hmin1 : Nat.min m len ≤ m := Nat.min_le_left _ _
  have hmin2 : Nat.min m len ≤ len := Nat.min_le_right _ _
  generalize hqd : Nat.min m len = q at *
  obtain ⟨hmsz, hmpos, hcur⟩ := hg.ok _ _ hb0
  have hval : Rep g8.nx μ (AV.int (s || ss) .i64 ((q : Nat) : Int)) (goInt (q)) := by simp [Rep, goInt]
  rcases Nat.eq_zero_or_pos (q) with h0 | hpm
  ·-- nothing is copied
   have hrun : (Builtin.copy_ #[t, u] ty #[.slice A len D, .slice B m C]).run P w = .ok (goInt (q)) w := by
    have hq : P.info? e = some i := hi
    have hz : m.min len = 0 := hqd.trans h0
    rw [h0]
    cases A <;> cases B <;> simp [Builtin.copy_, run_underlying ht', Builtin.lenOf, Builtin.firstCells, sizeOf, typeInfo, hq, loadCells, storeCells] <;> rw [hz] <;> simp [loadCellsFrom, storeCells]
   refine ⟨_, w, μ, hrun, hval, ?_, ?_⟩
   ·rw [hH, hnx, k7.2.1, k7.1]
    refine hg.upd (.refl _ _) (Nat.le_refl _) (hg.lt _ _ hb0) ?_ (fun _ _ _ _ _ => rfl) ?_ (fun b o q => ⟨q, fun p1 p2 => ⟨p1, fun bk e1 _ e3 e4 => by cases e1; exact p2 (by rw [← e4]; exact May.of hb0 rfl e3)⟩⟩)
    ·rintro _ ⟨⟩
     refine ⟨hmsz, hmpos, fun hr => ?_⟩
     obtain ⟨cur, ty', fz, hB, hfit, hfz, hrows⟩ := hcur hr
     refine ⟨cur, ty', fz, hB, hfit, hfz, fun j hj => ?_⟩
     rw [hrow, if_neg (by omega)]
     exact hrows j hj
    ·rintro _ ⟨⟩ hr1 g1 b1 hg1 hne hr2 _ e
     exact hne (hg.sep _ _ _ _ hb0 hg1 rfl hr1 hr2 e).symm
   ·refine ⟨by rw [hnx, k7.2.1]; exact Nat.le_refl _, .refl _ _, rfl, rfl, rfl, Nat.le_refl _, fun _ _ _ => rfl, fun B hB hm => ?_, fun _ _ q => .inl q⟩
    obtain ⟨g1, b1, hg1, ho1, hr1, rfl⟩ := hm
    rw [hH, T.get_upd, k7.1] at hg1
    split at hg1
    ·rename_i e; rw [e]; cases hg1; rw [e] at hr1; exact May.of hb0 rfl hr1
    ·exact May.of hg1 ho1 hr1
  ·obtain ⟨ad, news, rfl, hnl, hcell, h1c, hrn⟩ := hnews (by omega)
   obtain ⟨cur, ty', fz, hB, hfit, hownd, hrows⟩ := hcur (.inl (by omega))
   obtain ⟨rfl, hcap, hbase⟩ := hownd rfl
   simp only [hbase, Nat.zero_add, Nat.mul_one] at hfit hrows
   simp only [Nat.mul_one] at hnl hrn hcap
   obtain rfl : A = some ⟨μ.blk a.g, a.i, none⟩ := by
    rw [hA (by omega)]; unfold MM.addr; rw [hmsz, hbase, ho]; simp
   have hcl : (news.take (q)).length = q := by rw [List.length_take, hnl]; exact Nat.min_eq_left hmin1
   have hrun := run_copy_row P w t u ty e (μ.blk a.g) a.i len D ad m C cur ty' (news.take (q)) ht' (by rw [hi]; simp [hsz, hz1]) hB (hcl.trans hqd.symm)
    (fun j v hv => hcell j v (by rw [List.getElem?_take] at hv; split at hv; exact hv; cases hv)) (by omega) (fun v hv => h1c v (List.mem_of_mem_take hv))
   rw [hcl] at hrun
   have hgc := fun k => splice_get cur.toList a.i (news.take (q)) (by simp only [Array.length_toList]; omega) k
   rw [hcl] at hgc
   refine ⟨_, _, μ, hrun, hval, ?_, ?_⟩
   ·rw [hH, hnx, k7.2.1, k7.1]
    refine hg.upd (.refl _ _) (Nat.le_refl _) (hg.lt _ _ hb0) ?_ ?_ ?_ (hz_keep hb0 rfl (.inl (by omega)) fun B hne => setRow_other w _ _ _ hne)
    ·rintro _ ⟨⟩
     refine ⟨hmsz, hmpos, fun _ => ⟨_, ty', (0, 0), setRow_heap w _ cur _ ty' _ hB, ?_, fun _ => ⟨rfl, ?_, hbase⟩, fun j hj => ?_⟩⟩
     ·rw [hbase]; simp; omega
     ·simp; omega
     ·rw [hrow, hbase, Nat.zero_add, Nat.mul_one]
      split
      ·rename_i hj2
       obtain ⟨rl, rc⟩ := hrn (j - a.i) (by omega)
       refine ⟨rl, fun o x hx => ?_⟩
       obtain ⟨q0, c', q1, q2⟩ := rc o x hx
       have ho' : o < 1 := by have := (List.getElem?_eq_some_iff.1 hx).1; omega
       obtain rfl : o = 0 := by omega
       refine ⟨q0, c', ?_, q2⟩
       rw [List.getElem?_toArray, hgc, if_neg (by omega), if_pos (by omega)]
       rw [List.getElem?_take, if_pos (by omega)]
       rw [← q1]; simp [List.getElem?_toArray]
      ·rename_i hj2
       obtain ⟨rl, rc⟩ := hrows j hj
       refine ⟨rl, fun o x hx => ?_⟩
       obtain ⟨q0, c', q1, q2⟩ := rc o x hx
       have ho' : o < 1 := by have := (List.getElem?_eq_some_iff.1 hx).1; omega
       obtain rfl : o = 0 := by omega
       refine ⟨q0, c', ?_, q2⟩
       rw [List.getElem?_toArray, hgc]
       by_cases hj3 : j < a.i
       ·rw [if_pos (by omega)]; simpa using q1
       ·rw [if_neg (by omega), if_neg (by omega)]; simpa using q1
    ·intro g1 b1 hg1 hne hr1
     refine setRow_other w _ _ _ fun e => hne ?_
     exact (hg.sep _ _ _ _ hb0 hg1 rfl (.inl (by omega)) hr1 e.symm).symm
    ·rintro _ ⟨⟩ hr1 g1 b1 hg1 hne hr2 _ e
     exact hne (hg.sep _ _ _ _ hb0 hg1 rfl (.inl (by omega)) hr2 e).symm
   ·refine ⟨by rw [hnx, k7.2.1]; exact Nat.le_refl _, .refl _ _, rfl, rfl, rfl, by simp, fun B _ hnm => setRow_other w _ _ _ fun e => hnm ?_, fun B hB hm => ?_, fun _ _ q => .inl q⟩
    ·rw [e]; exact May.of hb0 rfl (.inl (by omega))
    ·obtain ⟨g1, b1, hg1, ho1, hr1, rfl⟩ := hm
     rw [hH, T.get_upd, k7.1] at hg1
     split at hg1
     ·rename_i e; rw [e]; exact May.of hb0 rfl (.inl (by omega))
     ·exact May.of hg1 ho1 hr1
 ·exact (no_done h4).elim
end Go.Sx
namespace Go.Sx
open M
theorem foldl_set (off : Nat) : ∀ (l : List Value) (k : Nat) (cs : Array Value), off + k + l.length ≤ cs.size →
  ((l.zipIdx k).foldl (fun cs p => cs.setIfInBounds (off + p.2) p.1) cs).toList = cs.toList.take (off + k) ++ l ++ cs.toList.drop (off + k + l.length)
 | [], k, cs, _ => by simp
 | v :: l, k, cs, h => by
  simp only [List.length_cons] at h
  simp only [List.zipIdx_cons, List.foldl_cons]
  rw [foldl_set off l (k + 1) (cs.setIfInBounds (off + k) v) (by simp; omega)]
  have e := list_seg_step cs.toList (off + k) v l (by simp; omega)
  simpa [Array.toList_setIfInBounds, Nat.add_assoc] using e
theorem fill_ok {N : Nat} {μ : MM} {place : Nat → Option (Nat × Nat)} : ∀ {ps : List (Nat × AV)} {qs : List (Nat × Value)} {cells : List AV} {cs : Array Value} {r : List AV},
  fillA place cells ps = some r → Reps N μ cells cs.toList → ps.map (·.1) = qs.map (·.1) → (∀ (i : Nat) (p : Nat × AV) (q : Nat × Value), ps[i]? = some p → qs[i]? = some q → Rep N μ p.2 q.2) →
  (∀ p ∈ ps, p.2.cells.all AV.one = true) →
  ∃ out, Instr.fill place cs qs = some out ∧ Reps N μ r out.toList
 | [], [], cells, cs, r, h, hr, _, _, _ => by cases h; exact ⟨cs, rfl, hr⟩
 | [], _ :: _, _, _, _, _, _, hk, _, _ => by simp at hk
 | _ :: _, [], _, _, _, _, _, hk, _, _ => by simp at hk
 | (i, v) :: ps, (i', v') :: qs, cells, cs, r, h, hr, hk, hp, ho => by
  simp only [List.map_cons, List.cons.injEq] at hk
  obtain ⟨rfl, hk⟩ := hk
  unfold fillA at h
  unfold Instr.fill
  cases hpl : place i with
  | none => rw [hpl] at h; cases h
  | some y =>
   obtain ⟨off, size⟩ := y
   rw [hpl] at h
   simp only at h ⊢
   cases hq : (Nat.beq v.cells.length size && decide (off + size ≤ cells.length)) with
   | false => rw [hq] at h; cases h
   | true =>
    rw [hq, cond_true] at h
    simp only [Bool.and_eq_true, decide_eq_true_eq] at hq
    have hl := Nat.eq_of_beq_eq_true hq.1
    have hv := (hp 0 (i, v) (i, v') rfl rfl).cells (ho (i, v) (by simp))
    have hvl : v'.cells.size = size := by rw [← hl, ← hv.1.length, Array.length_toList]
    have hcl : cs.size = cells.length := by rw [← hr.length, Array.length_toList]
    have hbad : (v'.cells.size ≠ size || decide (off + v'.cells.size > cs.size)) = false := by
     simp [hvl, hcl]; omega
    simp only [hbad, Bool.false_eq_true, if_false]
    have hf : (v'.cells.zipIdx.foldl (fun cs x => match x with | (c, j) => cs.setIfInBounds (off + j) c) cs).toList = cs.toList.take off ++ v'.cells.toList ++ cs.toList.drop (off + v'.cells.toList.length) := by
     have := foldl_set off v'.cells.toList 0 cs (by simp; omega)
     rw [← Array.foldl_toList, Array.toList_zipIdx]
     simpa using this
    refine fill_ok h ?_ hk (fun j p q h1 h2 => hp (j + 1) p q (by simpa using h1) (by simpa using h2)) fun p hm => ho p (by simp [hm])
    rw [hf]
    unfold splice
    have e : v.cells.length = v'.cells.toList.length := hv.1.length.symm
    rw [e]
    exact ((hr.take off).append hv.1).append (hr.drop _)
theorem placesOf_some {P : Program} : ∀ {fs : List Field} {ps : List (Nat × Nat)}, placesOf P fs = some ps → fs.mapM (fun f => (P.info? f.type).map fun i => (f.offset, i.size)) = some ps
 | [], ps, h => by cases h; rfl
 | f :: fs, ps, h => by
  unfold placesOf at h
  split at h
  ·rename_i y r hy hr
   cases h
   obtain ⟨i, d, hi, _, e, _⟩ := lay_some hy
   simp [List.mapM_cons, hi, placesOf_some hr, e]
  ·cases h
def PartsOk (N : Nat) (μ : MM) (ps : List (Nat × AV)) (qs : List (Nat × Value)) : Prop :=
 ps.map (·.1) = qs.map (·.1) ∧ ∀ (i : Nat) (p : Nat × AV) (q : Nat × Value), ps[i]? = some p → qs[i]? = some q → Rep N μ p.2 q.2
theorem ofVal1_cells (u : Value) : (Sx.ofVal1 u).cells = [Sx.ofVal1 u] := by
 unfold Sx.ofVal1
 split <;> first | rfl | skip
 ·rename_i b
  by_cases h : b < 18446744073709551616 <;> simp [h, AV.cells]
 ·rename_i a b
  by_cases h : a < 18446744073709551616 ∧ b < 18446744073709551616
  ·rw [decide_eq_true h]; rfl
  ·rw [decide_eq_false h]; rfl
theorem Rep.ofVal_cells (N : Nat) (μ : MM) (u : Value) : Reps N μ (Sx.ofVal u).cells u.cells.toList := by
 have h1 : ∀ {x : AV} {c : Value}, Rep N μ x c → Reps N μ [x] [c] := fun hr => by simp only [Reps]; exact ⟨_, [], rfl, hr, rfl⟩
 have hs : ∀ u : Value, Sx.ofVal u = Sx.ofVal1 u → u.cells = #[u] → Reps N μ (Sx.ofVal u).cells u.cells.toList := fun u e1 e2 => by
  rw [e1, e2, ofVal1_cells]; exact h1 (Rep.ofVal1 N μ u)
 cases u with
 | agg cs =>
  have hrep := Rep.ofVal N μ (.agg cs)
  simp only [Sx.ofVal, Rep] at hrep
  obtain ⟨cs', e, hr⟩ := hrep
  cases e; exact hr
 | tuple cs => exact h1 (Rep.ofVal N μ (.tuple cs))
 | _ => exact hs _ rfl rfl
theorem buildA_sound {P : Program} {t : TypeId} {ps : List (Nat × AV)} {v : AV} {g g' : G} (h : buildA P t ps g = .done v g') :
  g = g' ∧ ∀ N μ w (qs : Array (Nat × Value)), PartsOk N μ ps qs.toList → ∃ c, (Instr.build t qs).run P w = .ok c w ∧ Rep N μ v c := by
 unfold buildA at h
 obtain ⟨_, g1, a1, h1⟩ := done_of h
 obtain ⟨hone, rfl⟩ := okIf_done a1
 obtain ⟨z, g2, a2, h2⟩ := done_of h1
 obtain ⟨hz, rfl⟩ := ofOpt_done a2
 obtain ⟨it, zv, hit, hzv, rfl⟩ := zeroOf_some hz
 have hall : ∀ p ∈ ps, p.2.cells.all AV.one = true := List.all_eq_true.1 hone
 obtain ⟨place, g3, a3, h3⟩ := done_of h2
 obtain ⟨hpl, rfl⟩ := ofOpt_done a3
 obtain ⟨cs, g4, a4, h4⟩ := done_of h3
 obtain ⟨hcs, rfl⟩ := ofOpt_done a4
 obtain ⟨rfl, rfl⟩ := ret_done h4
 refine ⟨rfl, fun N μ w qs hq => ?_⟩
 obtain ⟨out, ho, hr⟩ := fill_ok hcs (Rep.ofVal_cells N μ zv) hq.1 hq.2 hall
 refine ⟨.agg out, run_build w t qs out ?_, by simp only [Rep]; exact ⟨out, rfl, hr⟩⟩
 unfold placeOf at hpl
 split at hpl
 ·rename_i fs hfs
  cases hps : placesOf P fs.toList with
  | none => rw [hps] at hpl; cases hpl
  | some pl =>
   rw [hps] at hpl; cases hpl
   unfold Program.built
   simp only [hit, hfs, hzv, placesOf_some hps]
   simpa using ho
 ·rename_i n e hfs
  cases hy : lay P e with
  | none => rw [hy] at hpl; cases hpl
  | some y =>
   rw [hy] at hpl; cases hpl
   obtain ⟨ie, d, hie, _, e1, _⟩ := lay_some hy
   unfold Program.built
   simp only [hit, hfs, hzv, hie, e1]
   exact ho
 ·cases hpl
theorem manyOf_length (z : List AV) : ∀ n, (manyOf z n).length = n * z.length
 | 0 => by simp [manyOf]
 | n + 1 => by simp [manyOf, manyOf_length z n, Nat.add_mul]; omega
theorem manyOf_get (z : List AV) (hz : 0 < z.length) : ∀ n p, p < n * z.length → (manyOf z n)[p]? = z[p % z.length]?
 | 0, p, h => by simp at h
 | n + 1, p, h => by
  simp only [manyOf]
  by_cases hp : p < z.length
  ·rw [List.getElem?_append_left hp, Nat.mod_eq_of_lt hp]
  ·rw [List.getElem?_append_right (by omega), manyOf_get z hz n (p - z.length) (by rw [Nat.add_mul] at h; omega), ← Nat.mod_eq_sub_mod (by omega)]
theorem chop_get (sz : Nat) : ∀ (n : Nat) (l : List AV) (t : T (List AV)) (i j : Nat), (chop sz n l t i).get j = if i ≤ j ∧ j < i + n then some ((l.drop ((j - i) * sz)).take sz) else t.get j
 | 0, l, t, i, j => by simp only [chop]; rw [if_neg (by omega)]
 | n + 1, l, t, i, j => by
  simp only [chop]
  rw [chop_get sz n, T.get_upd]
  by_cases h : j = i
  ·subst h; rw [if_neg (by omega), if_pos rfl, if_pos (by omega)]; simp
  ·rw [if_neg h]
   by_cases h2 : i + 1 ≤ j ∧ j < i + 1 + n
   ·rw [if_pos h2, if_pos (by omega), List.drop_drop]
    have e : (j - i) * sz = sz + (j - (i + 1)) * sz := by
     rw [Nat.add_comm, ← Nat.succ_mul]; congr 1; omega
    rw [e]
   ·rw [if_neg h2, if_neg (by omega)]
theorem buildSliceA_sound {P : Program} {t : TypeId} {len : Nat} {ps : List (Nat × AV)} {v : AV} {g g' : G} (h : buildSliceA P t len ps g = .done v g') :
  (g'.cs → g.cs) ∧ ∀ μ w (qs : Array (Nat × Value)), GOk g.nx μ w.heap g.H → PartsOk g.nx μ ps qs.toList → Gives g μ w g' v ((Instr.buildSlice t len qs).run P w) := by
 unfold buildSliceA at h
 obtain ⟨e, g1, a1, h1⟩ := done_of h
 obtain ⟨ht, rfl⟩ := ofOpt_done a1
 obtain ⟨z, g2, a2, h2⟩ := done_of h1
 obtain ⟨hz, rfl⟩ := ofOpt_done a2
 obtain ⟨i, zv, hi, hzv, hby, hsz, hpos, hzl, hone, hzr⟩ := zeroRow_some hz
 obtain ⟨_, g3, a3, h3⟩ := done_of h2
 obtain ⟨hq, rfl⟩ := okIf_done a3
 simp only [Bool.and_eq_true, decide_eq_true_eq] at hq
 obtain ⟨h24, hall⟩ := hq
 obtain ⟨cs, g4, a4, h4⟩ := done_of h3
 obtain ⟨hcs, rfl⟩ := ofOpt_done a4
 obtain ⟨_, g5, a5, h5⟩ := done_of h4
 obtain ⟨hcone, rfl⟩ := okIf_done a5
 obtain ⟨nm, g6, a6, h6⟩ := done_of h5
 obtain ⟨rfl, rfl⟩ := ret_done h6
 obtain ⟨hnm, hH, hnx, hcs'⟩ := newB_done a6
 refine ⟨fun hc => by rw [hcs'] at hc; exact hc, fun μ w qs hg hp => ?_⟩
 have hmade : Reps g.nx μ (manyOf z.1 len) (madeCells zv.cells (len * z.1.length)).toList := by
  refine .of_get (by simp [madeCells, manyOf_length]) fun p x hx => ?_
  have hpl : p < len * z.1.length := by have := (List.getElem?_eq_some_iff.1 hx).1; rwa [manyOf_length] at this
  rw [manyOf_get z.1 hpos len p hpl] at hx
  obtain ⟨c', h1, h2⟩ := (hzr g.nx μ).get hx
  refine ⟨c', ?_, h2⟩
  have h1' : zv.cells[p % z.1.length]? = some c' := by simpa using h1
  rw [Array.getElem?_toList]
  simp only [madeCells, Array.getElem?_map, Array.getElem?_range, hpl, if_true, Option.map_some, hzl]
  rw [getElem!_def, h1']
 obtain ⟨out, ho, hr⟩ := fill_ok hcs hmade hp.1 hp.2 (List.all_eq_true.1 hall)
 have hcl : cs.length = out.size := by rw [← hr.length, Array.length_toList]
 have hfl : ∀ {place : Nat → Option (Nat × Nat)} {qs : List (Nat × AV)} {a b : List AV}, fillA place a qs = some b → b.length = a.length := by
  intro place qs
  induction qs with
  | nil => intro a b h; cases h; rfl
  | cons q qs ih =>
   intro a b h
   unfold fillA at h
   split at h
   ·cases h
   ·rename_i off size _
    cases hq : (Nat.beq q.2.cells.length size && decide (off + size ≤ a.length)) with
    | false => simp only [hq, cond_false] at h; cases h
    | true =>
     simp only [hq, cond_true] at h
     simp only [Bool.and_eq_true, decide_eq_true_eq] at hq
     have := Nat.eq_of_beq_eq_true hq.1
     rw [ih h, splice_length _ _ _ (by omega)]
 have hcs2 : cs.length = len * z.1.length := by rw [hfl hcs, manyOf_length]
 obtain ⟨hg', he⟩ := newB_ok a6 hg hpos (w' := w.alloc (.cells out e (0, 0))) (.alloc _ _) len (by omega) (Nat.le_refl _) (by
  intro j hj
  have hje := row_fits hj (Nat.le_refl (len * z.1.length))
  have hrow : (Cont.lit z.1 (chop z.1.length len cs T.e 0)).row j = (cs.drop (j * z.1.length)).take z.1.length := by
   simp only [Cont.row, chop_get]
   rw [if_pos (by omega), Nat.sub_zero]; rfl
  rw [hrow]
  refine ⟨by simp; omega, fun o x hx => ?_⟩
  rw [List.getElem?_take] at hx
  split at hx
  ·rw [List.getElem?_drop] at hx
   obtain ⟨c', h1, h2⟩ := hr.get hx
   exact ⟨List.all_eq_true.1 hcone _ (List.mem_of_getElem? hx), c', by simpa using h1, h2⟩
  ·cases hx)
 refine ⟨.slice (some ⟨w.heap.size, 0, none⟩) len len, w.alloc (.cells out e (0, 0)), _, ?_, ?_, hg', he⟩
 ·have n1 : ¬ (16777216 < len * i.size) := by rw [hsz]; omega
  by_cases hz0 : len * i.size = 0
  ·have hm : (madeCells zv.cells (len * z.1.length)) = #[] := by rw [← hsz, hz0]; exact Array.eq_empty_of_size_eq_zero (size_madeCells _ _)
   rw [hm] at ho
   have ho' : Instr.fill (fun x => some (x * i.size, i.size)) #[] qs.toList = some out := by rw [hsz]; exact ho
   simp [Instr.buildSlice, run_underlying (sliceE_some ht), run_sizeOf hi, n1, hz0, Array.range_zero', ho', newRow, newObj, Sem.run, World.alloc_eq]
  ·have ho' : Instr.fill (fun x => some (x * i.size, i.size)) (Array.map (fun x => zv.cells[x % zv.cells.size]!) (Array.range (len * i.size))) qs.toList = some out := by rw [hsz]; exact ho
   simp [Instr.buildSlice, run_underlying (sliceE_some ht), run_sizeOf hi, n1, hz0, zeroValue, typeInfo, hi, hzv, ho', newRow, newObj, Sem.run, World.alloc_eq]
 ·simp only [Rep]
  refine ⟨by omega, _, _, rfl, Nat.le_refl _, fun _ => ?_, fun _ => rfl, fun _ => ⟨rfl, rfl, .inr ⟨?_, ?_⟩⟩⟩
  ·rw [hnm]; simp [MM.addr, MM.set_base, MM.set_blk]
  ·rw [hnm, MM.set_blk]
  ·rw [hnm, MM.set_cap]
end Go.Sx
namespace Go.Sx
open M
theorem run_farith_lt {P : Program} {op : BinOp} (hop : isArith op = true) (w : World) {x y a b : Nat} (ha : FB x a) (hb : FB y b) : ∃ r n, (Op.floatArith op .f64 a b).run P w = .ok (.float .f64 r) { w with drawn := n } ∧ FB (fop op x y) r := by
 obtain ⟨r, n, h1, h2⟩ := run_farith (P := P) w hop a b
 refine ⟨r, n, h1, by rw [h2, ha.1, hb.1], ?_⟩
 -- the bits fit: a valid result by the kit's law, a NaN by its making
 cases hf : floatBits op .f64 a b with
 | some r' =>
  have := run_floatArith (P := P) w hf
  rw [this] at h1
  simp only [Result.ok.injEq, Value.float.injEq, true_and] at h1
  obtain ⟨rfl, _⟩ := h1
  have hw := floatBits_wf hf
  simpa [Lit.wf] using hw
 | none =>
  have : ∃ n', (Op.floatArith op .f64 a b).run P w = .ok (.float .f64 (Question.cut (.nanBits .f64 a b) (w.tape w.drawn (.nanBits .f64 a b)))) { w with drawn := n' } := by
   refine ⟨w.drawn + 1, ?_⟩
   unfold floatBits at hf
   cases op <;> simp only [isArith, Bool.false_eq_true] at hop <;> simp only at hf <;> simp [Op.floatArith, hf, Question.forced, choose, Sem.run]
  obtain ⟨n', h3⟩ := this
  rw [h3] at h1
  simp only [Result.ok.injEq, Value.float.injEq, true_and] at h1
  obtain ⟨rfl, _⟩ := h1
  simp only [Question.cut]
  omega
theorem forder_of {x y a b : Nat} (ha : FB x a) (hb : FB y b) : FloatKind.f64.format.order a b = forder x y := by
 rw [← ha.1, ← hb.1]; exact (order_cn a b).symm
theorem fltBin_sound {P : Program} {s : Bool} {op : BinOp} {x y : Nat} {g g' : G} {v : AV} {t : TypeId} (h : fltBin s op x y g = .done v g') :
  g = g' ∧ ∀ N μ (w : World) a b, FB x a → FB y b → ∃ c n, (binOp op t (.float .f64 a) (.float .f64 b)).run P w = .ok c { w with drawn := n } ∧ Rep N μ v c := by
 have arith : ∀ {op : BinOp}, isArith op = true → ∀ N μ (w : World) a b, FB x a → FB y b → ∃ c n, (Op.floatArith op .f64 a b).run P w = .ok c { w with drawn := n } ∧ Rep N μ (.flt s (fop op x y)) c := by
  intro op hop N μ w a b ha hb
  obtain ⟨r, n, h1, h2⟩ := run_farith_lt (P := P) hop w ha hb
  exact ⟨_, n, h1, by simp only [Rep]; exact ⟨r, rfl, h2⟩⟩
 have cmp : ∀ {op : BinOp} {q : Nat → Nat → Bool}, (∀ a b, FB x a → FB y b → (binOp op t (.float .f64 a) (.float .f64 b)) = pure (.bool (q x y))) → ∀ N μ (w : World) a b, FB x a → FB y b →
   ∃ c n, (binOp op t (.float .f64 a) (.float .f64 b)).run P w = .ok c { w with drawn := n } ∧ Rep N μ (cmpB s (q x y)) c := by
  intro op q hq N μ w a b ha hb
  refine ⟨_, w.drawn, by rw [hq a b ha hb]; rfl, ?_⟩
  cases s <;> simp [cmpB, Rep]
 unfold fltBin at h
 cases op <;> first | exact (no_done h).elim | skip
 all_goals obtain ⟨rfl, rfl⟩ := ret_done h
 all_goals refine ⟨rfl, ?_⟩
 ·intro N μ w a b ha hb; simpa [binOp, fop] using arith (op := .add) rfl N μ w a b ha hb
 ·intro N μ w a b ha hb; simpa [binOp, fop] using arith (op := .sub) rfl N μ w a b ha hb
 ·intro N μ w a b ha hb; simpa [binOp, fop] using arith (op := .mul) rfl N μ w a b ha hb
 ·intro N μ w a b ha hb; simpa [binOp, fop] using arith (op := .quo) rfl N μ w a b ha hb
 ·exact cmp (q := feq) fun a b ha hb => by rw [binOp_float_cmp_eql, forder_of ha hb]; rfl
 ·exact cmp (q := fun x y => !feq x y) fun a b ha hb => by rw [binOp_float_cmp_neq, forder_of ha hb]; rfl
 ·exact cmp (q := Sx.flt) fun a b ha hb => by rw [binOp_float_cmp_lss, forder_of ha hb]; rfl
 ·exact cmp (q := fle) fun a b ha hb => by rw [binOp_float_cmp_leq, forder_of ha hb]; rfl
 ·exact cmp (q := fgt) fun a b ha hb => by rw [binOp_float_cmp_gtr, forder_of ha hb]; rfl
 ·exact cmp (q := fge) fun a b ha hb => by rw [binOp_float_cmp_geq, forder_of ha hb]; rfl
theorem run_carith_lt {P : Program} {op : BinOp} (hop : isArith op = true) (w : World) {x y a b : Nat} (ha : FB x a) (hb : FB y b) : ∃ r n, (Op.Complex.arith op .f64 a b).run P w = .ok r { w with drawn := n } ∧ FB (fop op x y) r := by
 obtain ⟨r, n, h1, h2⟩ := run_farith_lt (P := P) hop w ha hb
 exact ⟨r, n, by simp [Op.Complex.arith, h1], h2⟩
theorem run_ccmp {P : Program} (w : World) {x y a b : Nat} (ha : FB x a) (hb : FB y b) : (Op.Complex.cmp .eql .f64 a b).run P w = .ok (feq x y) w := by
 simp [Op.Complex.cmp, Op.floatCmp, asBool, forder_of ha hb, feq]
theorem cpxBin_sound {P : Program} {s : Bool} {op : BinOp} {x y z u : Nat} {g g' : G} {v : AV} {t : TypeId} (h : cpxBin s op x y z u g = .done v g') :
  g = g' ∧ ∀ N μ (w : World) a b c d, FB x a → FB y b → FB z c → FB u d → ∃ r n, (binOp op t (.complex .f64 a b) (.complex .f64 c d)).run P w = .ok r { w with drawn := n } ∧ Rep N μ v r := by
 unfold cpxBin at h
 cases op <;> first | exact (no_done h).elim | skip
 all_goals obtain ⟨rfl, rfl⟩ := ret_done h
 all_goals refine ⟨rfl, fun N μ w a b c d ha hb hc hd => ?_⟩
 ·obtain ⟨r1, n1, h1, f1⟩ := run_carith_lt (P := P) (op := .add) rfl w ha hc
  obtain ⟨r2, n2, h2, f2⟩ := run_carith_lt (P := P) (op := .add) rfl { w with drawn := n1 } hb hd
  exact ⟨.complex .f64 r1 r2, n2, by simp [binOp, Op.complexOp, h1, h2], by simp only [Rep]; exact ⟨r1, r2, rfl, f1, f2⟩⟩
 ·obtain ⟨r1, n1, h1, f1⟩ := run_carith_lt (P := P) (op := .sub) rfl w ha hc
  obtain ⟨r2, n2, h2, f2⟩ := run_carith_lt (P := P) (op := .sub) rfl { w with drawn := n1 } hb hd
  exact ⟨.complex .f64 r1 r2, n2, by simp [binOp, Op.complexOp, h1, h2], by simp only [Rep]; exact ⟨r1, r2, rfl, f1, f2⟩⟩
 ·refine ⟨.bool (feq x z && feq y u), w.drawn, ?_, by cases s <;> simp [cmpB, Rep]⟩
  cases h1 : feq x z <;> simp [binOp, Op.complexOp, run_ccmp w ha hc, run_ccmp w hb hd, h1]
 ·refine ⟨.bool (!(feq x z && feq y u)), w.drawn, ?_, by cases s <;> simp [cmpB, Rep]⟩
  cases h1 : feq x z <;> simp [binOp, Op.complexOp, run_ccmp w ha hc, run_ccmp w hb hd, h1]
theorem arithR_sound {s : Bool} {k : IntKind} {r : Int} {g g' : G} {v : AV} (h : arithR s k r g = .done v g') : ∃ p, Keep g g' p ∧ (p → ∀ N μ, Rep N μ v (.int k (k.wrap r))) := by
 unfold arithR at h
 cases hq : (s && isI64 k) with
 | true =>
  rw [hq, cond_true] at h
  obtain ⟨_, g1, a1, h1⟩ := done_of h
  obtain ⟨rfl, rfl⟩ := ret_done h1
  refine ⟨_, req_done a1, fun hp N μ => ?_⟩
  rw [Bool.and_eq_true] at hq
  have hk : k = .i64 := by cases k <;> simp [isI64] at hq; rfl
  subst hk
  have e : IntKind.i64.wrap r = r := by rw [IntKind.wrap_i64]; omega
  simp only [Rep, e]
 | false =>
  rw [hq, cond_false] at h
  obtain ⟨rfl, rfl⟩ := ret_done h
  exact ⟨_, Keep.refl _, fun _ N μ => by simp only [Rep]⟩
theorem Rep.cmpB (N : Nat) (μ : MM) (s b : Bool) : Rep N μ (cmpB s b) (.bool b) := by cases s <;> simp [Sx.cmpB, Rep]
theorem intBin_sound {P : Program} {s : Bool} {k : IntKind} {op : BinOp} {a b : Int} {g g' : G} {v : AV} {t : TypeId} (h : intBin s k op a b g = .done v g') :
  ∃ p, Keep g g' p ∧ (p → ∀ N μ (w : World), ∃ c, (binOp op t (.int k a) (.int k b)).run P w = .ok c w ∧ Rep N μ v c) := by
 unfold intBin at h
 cases op <;> simp only at h <;> first | exact (no_done h).elim | skip
 ·obtain ⟨p, k1, h1⟩ := arithR_sound h
  exact ⟨p, k1, fun hp N μ w => ⟨_, by simp [binOp, Op.intArith], h1 hp N μ⟩⟩
 ·obtain ⟨p, k1, h1⟩ := arithR_sound h
  exact ⟨p, k1, fun hp N μ w => ⟨_, by simp [binOp, Op.intArith], h1 hp N μ⟩⟩
 ·obtain ⟨p, k1, h1⟩ := arithR_sound h
  exact ⟨p, k1, fun hp N μ w => ⟨_, by simp [binOp, Op.intArith], h1 hp N μ⟩⟩
 ·obtain ⟨_, g1, a1, h1⟩ := done_of h
  obtain ⟨p, k1, h2⟩ := arithR_sound h1
  exact ⟨_, (ck_done a1).trans k1, fun hp N μ w => ⟨_, by simp [binOp, Op.intDiv, hp.1], h2 hp.2 N μ⟩⟩
 ·obtain ⟨_, g1, a1, h1⟩ := done_of h
  obtain ⟨rfl, rfl⟩ := ret_done h1
  exact ⟨_, ck_done a1, fun hp N μ w => ⟨.int k (a.tmod b), by simp [binOp, Op.intDiv, hp], by simp only [Rep]⟩⟩
 all_goals obtain ⟨rfl, rfl⟩ := ret_done h
 all_goals refine ⟨_, Keep.refl _, fun _ N μ w => ?_⟩
 ·exact ⟨.int k (bitsV .and k a b), by simp only [binOp, ne_eq, not_true_eq_false, if_false]; rfl, by simp only [Rep]⟩
 ·exact ⟨.int k (bitsV .or k a b), by simp only [binOp, ne_eq, not_true_eq_false, if_false]; rfl, by simp only [Rep]⟩
 ·exact ⟨.int k (bitsV .xor k a b), by simp only [binOp, ne_eq, not_true_eq_false, if_false]; rfl, by simp only [Rep]⟩
 ·exact ⟨.int k (bitsV .andNot k a b), by simp only [binOp, ne_eq, not_true_eq_false, if_false]; rfl, by simp only [Rep]⟩
 ·exact ⟨.bool (a == b), by simp [binOp, Op.intCmp], .cmpB ..⟩
 ·exact ⟨.bool (a != b), by simp [binOp, Op.intCmp], .cmpB ..⟩
 ·exact ⟨_, by simp only [binOp, ne_eq, not_true_eq_false, if_false]; rfl, .cmpB ..⟩
 ·exact ⟨_, by simp only [binOp, ne_eq, not_true_eq_false, if_false]; rfl, .cmpB ..⟩
 ·exact ⟨_, by simp only [binOp, ne_eq, not_true_eq_false, if_false]; rfl, .cmpB ..⟩
 ·exact ⟨_, by simp only [binOp, ne_eq, not_true_eq_false, if_false]; rfl, .cmpB ..⟩
theorem shiftA_sound {P : Program} {s : Bool} {k k' : IntKind} {op : BinOp} {a b : Int} {g g' : G} {v : AV} {t : TypeId} (h : shiftA s k op a b g = .done v g') :
  ∃ p, Keep g g' p ∧ (p → ∀ N μ (w : World), ∃ c, (binOp op t (.int k a) (.int k' b)).run P w = .ok c w ∧ Rep N μ v c) := by
 unfold shiftA at h
 obtain ⟨_, g1, a1, h1⟩ := done_of h
 have k1 := ck_done a1
 cases op <;> simp only at h1 <;> first | exact (no_done h1).elim | skip
 ·obtain ⟨p, k2, h2⟩ := arithR_sound h1
  refine ⟨_, k1.trans k2, fun hp N μ w => ⟨_, ?_, h2 hp.2 N μ⟩⟩
  have : ¬ b < 0 := by omega
  simp [binOp, Op.shift, this]
 ·obtain ⟨rfl, rfl⟩ := ret_done h1
  refine ⟨_, k1, fun hp N μ w => ⟨.int k (a.fdiv (2 ^ min b.toNat k.bits)), ?_, by simp only [Rep]⟩⟩
  have : ¬ b < 0 := by omega
  simp [binOp, Op.shift, this]
end Go.Sx
namespace Go.Sx
open M
theorem ba_toList (l : List UInt8) : (⟨l.toArray⟩ : ByteArray).toList = l := by rw [ByteArray.toList_eq]
theorem ba_size (l : List UInt8) : (⟨l.toArray⟩ : ByteArray).size = l.length := by simp [ByteArray.size]
theorem ba_append (a b : List UInt8) : (⟨a.toArray⟩ ++ ⟨b.toArray⟩ : ByteArray) = ⟨(a ++ b).toArray⟩ := by
 apply ByteArray.ext
 rw [ByteArray.data_append]
 simp
theorem strBin_sound {P : Program} {s : Bool} {op : BinOp} {a b : List UInt8} {g g' : G} {v : AV} {t : TypeId} (h : strBin s op a b g = .done v g') :
  ∃ p, Keep g g' p ∧ (p → ∀ N μ (w : World), ∃ c, (binOp op t (.string ⟨a.toArray⟩) (.string ⟨b.toArray⟩)).run P w = .ok c w ∧ Rep N μ v c) := by
 unfold strBin at h
 cases op <;> simp only at h <;> first | exact (no_done h).elim | skip
 ·obtain ⟨_, g1, a1, h1⟩ := done_of h
  obtain ⟨rfl, rfl⟩ := ret_done h1
  refine ⟨_, ck_done a1, fun hp N μ w => ⟨.string ⟨(a ++ b).toArray⟩, ?_, by simp only [Rep]⟩⟩
  have : ¬ (9223372036854775807 < (a.length : Int) + (b.length : Int)) := by omega
  simp [binOp, Op.stringOp, ba_size, ba_append, IntKind.max, IntKind.bits, IntKind.signed, this]
 all_goals obtain ⟨rfl, rfl⟩ := ret_done h
 all_goals refine ⟨_, Keep.refl _, fun _ N μ w => ?_⟩
 ·exact ⟨.bool (a == b), by simp [binOp, Op.stringOp, ba_toList], .cmpB ..⟩
 ·exact ⟨.bool (!(a == b)), by simp [binOp, Op.stringOp, ba_toList], .cmpB ..⟩
 ·exact ⟨.bool (Op.bytesLess a b), by simp [binOp, Op.stringOp, ba_toList], .cmpB ..⟩
theorem isBoolD_some {P : Program} {t : TypeId} (h : isBoolD P t = true) : P.underlying t = some .bool := by
 unfold isBoolD at h; split at h <;> first | assumption | cases h
theorem isPtrD_some {P : Program} {t : TypeId} (h : isPtrD P t = true) : ∃ e, P.underlying t = some (.pointer e) := by
 unfold isPtrD at h; split at h <;> first | exact ⟨_, by assumption⟩ | cases h
theorem isFuncD_some {P : Program} {t : TypeId} (h : isFuncD P t = true) : ∃ a b c, P.underlying t = some (.func a b c) := by
 unfold isFuncD at h; split at h <;> first | exact ⟨_, _, _, by assumption⟩ | cases h
theorem boolEq_sound {P : Program} {s a b : Bool} {op : BinOp} {g g' : G} {v : AV} {t : TypeId} (ht : P.underlying t = some .bool) (h : boolEq op s a b g = .done v g') :
  g = g' ∧ ∀ N μ (w : World), ∃ c, (binOp op t (.bool a) (.bool b)).run P w = .ok c w ∧ Rep N μ v c := by
 unfold boolEq at h
 cases op <;> simp only at h <;> first | exact (no_done h).elim | skip
 all_goals obtain ⟨rfl, rfl⟩ := ret_done h
 all_goals refine ⟨rfl, fun N μ w => ?_⟩
 all_goals have he : (Op.equal t (.bool a) (.bool b)).run P w = .ok (a == b) w := run_equalIn_bool' w 9999 t a b ht
 ·refine ⟨.bool (a == b), ?_, .cmpB ..⟩
  show (do pure (.bool (← Op.equal t (.bool a) (.bool b))) : Sem Value).run P w = _
  simp [he]
 ·refine ⟨.bool (!(a == b)), ?_, .cmpB ..⟩
  show (do pure (.bool (!(← Op.equal t (.bool a) (.bool b)))) : Sem Value).run P w = _
  simp [he]
theorem nilEq_sound {P : Program} {b : Bool} {op : BinOp} {g g' : G} {v : AV} {t : TypeId} {x y : Value} (hx : ∀ w : World, (Op.equal t x y).run P w = .ok b w)
  (hs : binOp .eql t x y = (do pure (.bool (← Op.equal t x y))) ∧ binOp .neq t x y = (do pure (.bool (!(← Op.equal t x y))))) (h : nilEq op b g = .done v g') :
  g = g' ∧ ∀ N μ (w : World), ∃ c, (binOp op t x y).run P w = .ok c w ∧ Rep N μ v c := by
 unfold nilEq at h
 cases op <;> simp only at h <;> first | exact (no_done h).elim | skip
 all_goals obtain ⟨rfl, rfl⟩ := ret_done h
 all_goals refine ⟨rfl, fun N μ w => ?_⟩
 ·exact ⟨.bool b, by rw [hs.1]; simp [hx], by simp only [Rep]⟩
 ·exact ⟨.bool !b, by rw [hs.2]; simp [hx], by simp only [Rep]⟩
theorem cellEq_sound {P : Program} {d : TypeDesc} {ty : TypeId} (hd : P.underlying ty = some d) {v v' : AV} {x : Bool × Bool} (h : cellEq d v v' = some x) {N : Nat} {μ : MM} {c c' : Value} (hv : Rep N μ v c) (hv' : Rep N μ v' c') (k : Nat) (w : World) :
  (Op.equalIn (k + 1) ty c c').run P w = .ok x.2 w ∧ v.one = true ∧ isAggD d = false := by
 unfold cellEq at h
 split at h
 ·rename_i s k1 a s' k2 b
  by_cases hk : k1 = k2
  ·subst hk
   simp only [decide_true, cond_true, Option.some.injEq] at h
   subst h
   simp only [Rep] at hv hv'
   subst hv hv'
   refine ⟨?_, rfl, rfl⟩
   rw [run_equalIn_int w k ty k1 _ a b hd]
   rfl
  ·simp [hk] at h
 ·cases h
  simp only [Rep] at hv hv'
  obtain ⟨a', rfl, ha⟩ := hv
  obtain ⟨b', rfl, hb⟩ := hv'
  refine ⟨?_, rfl, rfl⟩
  simp [Op.equalIn, run_underlying hd, Op.floatEq, forder_of ha hb, feq]
 ·cases h
  simp only [Rep] at hv hv'
  subst hv hv'
  refine ⟨?_, rfl, rfl⟩
  rw [run_equalIn_string w k ty _ _ hd, ba_toList, ba_toList]
 ·cases h
  simp only [Rep] at hv hv'
  subst hv hv'
  exact ⟨run_equalIn_bool' w k ty _ _ hd, rfl, rfl⟩
 ·cases h
theorem run_part {P : Program} {ty : TypeId} {d : TypeDesc} (hd : P.underlying ty = some d) (ha : isAggD d = false) {cs : Array Value} {o : Nat} {c : Value} (hc : cs[o]? = some c) (w : World) : (part ty cs o).run P w = .ok c w := by
 simp [part, run_isAgg hd, ha, hc]
theorem fieldsEq_sound {P : Program} (k : Nat) (xs ys : Array Value) {N : Nat} {μ : MM} : ∀ {fs : List Field} {o : Nat} {l l' : List AV} {x : Bool × Bool}, fieldsEq P o fs l l' = some x →
  (∀ (i : Nat) v, l[i]? = some v → ∃ c, xs[o + i]? = some c ∧ Rep N μ v c) → (∀ (i : Nat) v, l'[i]? = some v → ∃ c, ys[o + i]? = some c ∧ Rep N μ v c) → ∀ w : World, (Op.eqFields (k + 1) xs ys fs).run P w = .ok x.2 w
 | [], o, l, l', x, h, _, _, w => by
  cases l <;> cases l' <;> simp [fieldsEq] at h
  subst h; rfl
 | f :: fs, o, [], l', x, h, _, _, w => by cases l' <;> simp [fieldsEq] at h
 | f :: fs, o, v :: l, [], x, h, _, _, w => by simp [fieldsEq] at h
 | f :: fs, o, v :: l, v' :: l', x, h, hx, hy, w => by
   unfold fieldsEq at h
   cases hq : (Nat.beq f.offset o && !(f.name == "_")) with
   | false => rw [hq] at h; cases h
   | true =>
    rw [hq, cond_true] at h
    simp only [Bool.and_eq_true, Bool.not_eq_true'] at hq
    have ho := Nat.eq_of_beq_eq_true hq.1
    have hn : f.name ≠ "_" := by
     intro e; rw [e] at hq; simp at hq
    split at h
    ·rename_i d hd
     split at h
     ·rename_i x1 x2 h1 h2
      cases h
      obtain ⟨c, hc, hr⟩ := hx 0 v rfl
      obtain ⟨c', hc', hr'⟩ := hy 0 v' rfl
      obtain ⟨he, _, hag⟩ := cellEq_sound hd h1 hr hr' k w
      have ih := fieldsEq_sound k xs ys h2 (fun i u hu => by have := hx (i + 1) u (by simpa using hu); rwa [show o + (i + 1) = o + 1 + i by omega] at this)
       (fun i u hu => by have := hy (i + 1) u (by simpa using hu); rwa [show o + (i + 1) = o + 1 + i by omega] at this) w
      simp only [Nat.add_zero] at hc hc'
      unfold Op.eqFields
      simp only [ne_eq, hn, not_false_eq_true, if_true, Sem.run_bind, ho, run_part hd hag hc, run_part hd hag hc', Result.andThen_ok, he]
      cases x1.2
      ·simp
      ·simp [ih]
     ·cases h
    ·cases h
theorem structEq_sound {P : Program} {t : TypeId} {l l' : List AV} {x : Bool × Bool} (h : structEq P t l l' = some x) {N : Nat} {μ : MM} {xs ys : Array Value} (hx : Reps N μ l xs.toList) (hy : Reps N μ l' ys.toList) (w : World) :
  (Op.equalIn 10000 t (.agg xs) (.agg ys)).run P w = .ok x.2 w ∧ P.eqGuardType P.depth t = false := by
 unfold structEq at h
 split at h
 ·rename_i fs hfs
  cases hq : (!P.stoodInHeld t && !P.eqGuardType P.depth t) with
  | false => rw [hq] at h; cases h
  | true =>
   rw [hq, cond_true] at h
   simp only [Bool.and_eq_true, Bool.not_eq_true'] at hq
   have hf : P.fieldsOf t = fs := by simp [Program.fieldsOf, hfs]
   refine ⟨?_, hq.2⟩
   rw [run_equalIn_struct w 9999 t xs ys (by rw [hf]; exact hfs) hq.1, hf]
   exact fieldsEq_sound 9998 xs ys h (fun i v hv => by simpa using hx.get hv) (fun i v hv => by simpa using hy.get hv) w
 ·cases h
theorem xor63_mod (b : Nat) : (b ^^^ 9223372036854775808) % 9223372036854775808 = b % 9223372036854775808 := by
 have := Nat.xor_mod_two_pow (a := b) (b := 9223372036854775808) (n := 63)
 simpa using this
theorem isnan_xor63 (b : Nat) : isnan (b ^^^ 9223372036854775808) = isnan b := by simp only [isnan, xor63_mod]
theorem FB.neg {x b : Nat} (h : FB x b) : FB (fneg x) (b ^^^ 9223372036854775808) := by
 obtain ⟨rfl, hb⟩ := h
 refine ⟨?_, Nat.xor_lt_two_pow (n := 64) (by simpa using hb) (by decide)⟩
 unfold fneg
 cases hn : isnan b with
 | false => rw [cn_of_not hn]
 | true =>
  rw [cn_of_nan hn, cn_of_nan (by rw [isnan_xor63]; exact hn), cn_of_nan (by rw [isnan_xor63]; exact isnan_qn)]
theorem isnan_mod63 (b : Nat) : isnan (b % 9223372036854775808) = isnan b := by simp only [isnan, Nat.mod_mod]
theorem FB.abs {x b : Nat} (h : FB x b) : FB (fabs x) (b % 9223372036854775808) := by
 obtain ⟨rfl, hb⟩ := h
 refine ⟨?_, by omega⟩
 unfold fabs
 cases hn : isnan b with
 | false => rw [cn_of_not hn]
 | true =>
  rw [cn_of_nan hn, cn_of_nan (by rw [isnan_mod63]; exact hn), cn_of_nan (by rw [isnan_mod63]; exact isnan_qn)]
theorem FB.eq_of_not {x b : Nat} (h : FB x b) (hn : isnan x = false) : b = x := by
 obtain ⟨rfl, _⟩ := h
 rw [isnan_cn] at hn
 exact (cn_of_not hn).symm
theorem bitsV_xor63 {b : Nat} (hb : b < 18446744073709551616) : bitsV .xor .u64 b signBit = ((b ^^^ 9223372036854775808 : Nat) : Int) := by
 have h2 : b ^^^ 9223372036854775808 < 18446744073709551616 := Nat.xor_lt_two_pow (n := 64) (by simpa using hb) (by decide)
 have e1 : BitVec.ofInt 64 (b : Int) = BitVec.ofNat 64 b := by simp
 have e2 : BitVec.ofInt 64 signBit = BitVec.ofNat 64 9223372036854775808 := by decide
 show IntKind.u64.wrap ((BitVec.ofInt 64 (b : Int) ^^^ BitVec.ofInt 64 signBit).toNat : Int) = _
 rw [e1, e2, BitVec.toNat_xor, BitVec.toNat_ofNat, BitVec.toNat_ofNat, Nat.mod_eq_of_lt (by simpa using hb), Nat.mod_eq_of_lt (by decide), IntKind.wrap_u64]
 omega
theorem bitsV_andNot63 {b : Nat} (hb : b < 18446744073709551616) : bitsV .andNot .u64 b signBit = ((b % 9223372036854775808 : Nat) : Int) := by
 have e1 : BitVec.ofInt 64 (b : Int) = BitVec.ofNat 64 b := by simp
 have e2 : ~~~ BitVec.ofInt 64 signBit = BitVec.ofNat 64 (2 ^ 63 - 1) := by decide
 show IntKind.u64.wrap ((BitVec.ofInt 64 (b : Int) &&& ~~~ BitVec.ofInt 64 signBit).toNat : Int) = _
 rw [e1, e2, BitVec.toNat_and, BitVec.toNat_ofNat, BitVec.toNat_ofNat, Nat.mod_eq_of_lt (by simpa using hb), Nat.mod_eq_of_lt (by decide), IntKind.wrap_u64, Nat.and_two_pow_sub_one_eq_mod]
 omega
end Go.Sx
namespace Go.Sx
open M
theorem eqGuard_ok {P : Program} {op : BinOp} {t : TypeId} {ox oy : Operand} {a b : Value} (h1 : a ≠ .nilIface) (h2 : ∀ xs, a ≠ .agg xs) (w : World) : (eqGuard op t ox oy a b).run P w = .ok () w := by
 unfold eqGuard
 cases op <;> first | rfl | skip
 all_goals cases a <;> first | exact absurd rfl h1 | exact absurd rfl (h2 _) | skip
 all_goals rfl
def OpIs (P : Program) (op : BinOp) (t : TypeId) (ox oy : Operand) (cx cy : Value) (N : Nat) (μ : MM) (w : World) (v : AV) : Prop :=
 ∃ c n, ((do eqGuard op t ox oy cx cy; binOp op t cx cy) : Sem Value).run P w = .ok c { w with drawn := n } ∧ Rep N μ v c
theorem OpIs.of {P : Program} {op : BinOp} {t : TypeId} {ox oy : Operand} {cx cy : Value} {N : Nat} {μ : MM} {w : World} {v : AV} (h1 : cx ≠ .nilIface) (h2 : ∀ xs, cx ≠ .agg xs)
  (h : ∃ c n, (binOp op t cx cy).run P w = .ok c { w with drawn := n } ∧ Rep N μ v c) : OpIs P op t ox oy cx cy N μ w v := by
 obtain ⟨c, n, hr, hv⟩ := h
 exact ⟨c, n, by simp only [Sem.run_bind, eqGuard_ok h1 h2 w, Result.andThen_ok, hr], hv⟩
theorem OpIs.of0 {P : Program} {op : BinOp} {t : TypeId} {ox oy : Operand} {cx cy : Value} {N : Nat} {μ : MM} {w : World} {v : AV} (h1 : cx ≠ .nilIface) (h2 : ∀ xs, cx ≠ .agg xs)
  (h : ∃ c, (binOp op t cx cy).run P w = .ok c w ∧ Rep N μ v c) : OpIs P op t ox oy cx cy N μ w v :=
 let ⟨c, hr, hv⟩ := h
 .of h1 h2 ⟨c, w.drawn, hr, hv⟩
theorem bitsBin_sound {P : Program} {s : Bool} {op : BinOp} {x : Nat} {m : Int} {g g' : G} {v : AV} {t : TypeId} (h : bitsBin s op x m g = .done v g') :
  ∃ p, Keep g g' p ∧ (p → ∀ N μ (w : World) (b : Nat), FB x b → ∃ c, (binOp op t (.int .u64 b) (.int .u64 m)).run P w = .ok c w ∧ Rep N μ v c) := by
 have plain : ∀ {op : BinOp} {g' : G} {v : AV}, ((ck s (isnan x = false)).andThen fun _ => intBin s .u64 op x m) g = .done v g' →
   ∃ p, Keep g g' p ∧ (p → ∀ N μ (w : World) (b : Nat), FB x b → ∃ c, (binOp op t (.int .u64 b) (.int .u64 m)).run P w = .ok c w ∧ Rep N μ v c) := by
  intro op g' v h
  obtain ⟨_, g1, a1, h1⟩ := done_of h
  obtain ⟨p, k, h2⟩ := intBin_sound (P := P) (t := t) h1
  exact ⟨_, (ck_done a1).trans k, fun hp N μ w b hb => by rw [hb.eq_of_not hp.1]; exact h2 hp.2 N μ w⟩
 unfold bitsBin at h
 cases op <;> simp only at h <;> first | exact plain h | skip
 ·by_cases hm : m = signBit
  ·simp only [hm, decide_true, cond_true] at h
   obtain ⟨rfl, rfl⟩ := ret_done h
   refine ⟨_, Keep.refl _, fun _ N μ w b hb => ⟨.int .u64 (bitsV .xor .u64 b signBit), ?_, ?_⟩⟩
   ·rw [hm]; simp only [binOp, ne_eq, not_true_eq_false, if_false]; rfl
   ·simp only [Rep]; exact ⟨_, by rw [bitsV_xor63 hb.2], hb.neg⟩
  ·simp only [hm, decide_false, cond_false] at h; exact plain h
 ·by_cases hm : m = signBit
  ·simp only [hm, decide_true, cond_true] at h
   obtain ⟨rfl, rfl⟩ := ret_done h
   refine ⟨_, Keep.refl _, fun _ N μ w b hb => ⟨.int .u64 (bitsV .andNot .u64 b signBit), ?_, ?_⟩⟩
   ·rw [hm]; simp only [binOp, ne_eq, not_true_eq_false, if_false]; rfl
   ·simp only [Rep]; exact ⟨_, by rw [bitsV_andNot63 hb.2], hb.abs⟩
  ·simp only [hm, decide_false, cond_false] at h; exact plain h
theorem run_eq_ptr_l {P : Program} {t e : TypeId} (he : P.underlying t = some (.pointer e)) (d : Nat) (b : Option Addr) (w : World) : (Op.equalIn (d + 1) t (.pointer none) (.pointer b)).run P w = .ok b.isNone w := by
 simp [Op.equalIn, run_underlying he]
theorem run_eq_ptr_r {P : Program} {t e : TypeId} (he : P.underlying t = some (.pointer e)) (d : Nat) (a : Addr) (w : World) : (Op.equalIn (d + 1) t (.pointer (some a)) (.pointer none)).run P w = .ok false w := by
 simp [Op.equalIn, run_underlying he]
theorem run_eq_fn_nn {P : Program} {t : TypeId} {x y z} (he : P.underlying t = some (.func x y z)) (d : Nat) (w : World) : (Op.equalIn (d + 1) t .nilFunc .nilFunc).run P w = .ok true w := by
 simp [Op.equalIn, run_underlying he]
theorem run_eq_fn_r {P : Program} {t : TypeId} {x y z} (he : P.underlying t = some (.func x y z)) (d : Nat) (f : Fn) (l c : Array Value) (w : World) : (Op.equalIn (d + 1) t (.func f l c) .nilFunc).run P w = .ok false w := by
 simp [Op.equalIn, run_underlying he]
theorem run_eq_fn_l {P : Program} {t : TypeId} {x y z} (he : P.underlying t = some (.func x y z)) (d : Nat) (f : Fn) (l c : Array Value) (w : World) : (Op.equalIn (d + 1) t .nilFunc (.func f l c)).run P w = .ok false w := by
 simp [Op.equalIn, run_underlying he]
theorem run_eq_slc_l {P : Program} {t e : TypeId} (he : P.underlying t = some (.slice e)) (d : Nat) (b : Option Addr) (n m : Nat) (w : World) : (Op.equalIn (d + 1) t (.slice none 0 0) (.slice b n m)).run P w = .ok b.isNone w := by
 simp [Op.equalIn, run_underlying he]
theorem run_eq_slc_r {P : Program} {t e : TypeId} (he : P.underlying t = some (.slice e)) (d : Nat) (a : Addr) (n m : Nat) (w : World) : (Op.equalIn (d + 1) t (.slice (some a) n m) (.slice none 0 0)).run P w = .ok false w := by
 simp [Op.equalIn, run_underlying he]
theorem ck'_done {s : Bool} {p : Prop} {u : Unit} {g g' : G} (h : ck' s p g = .done u g') : Keep g g' (s = true → p) := by
 unfold ck' at h
 cases s with
 | true => exact (req_done h).mono fun h _ => h
 | false => obtain ⟨_, rfl⟩ := ret_done h; exact (Keep.refl _).mono fun _ h => by cases h
theorem slc_some {N : Nat} {μ : MM} {s own : Bool} {a : AA} {len : Nat} {c : Value} (h : Rep N μ (.slc s own a len) c) (hs : s = true → 0 < len) : ∃ A C, c = .slice (some A) len C := by
 simp only [Rep] at h
 obtain ⟨_, A, C, rfl, _, hA, hnn, _⟩ := h
 cases s with
 | true => rw [hA (hs rfl)]; exact ⟨_, _, rfl⟩
 | false =>
  cases A with
  | none => exact absurd (hnn rfl) (by simp)
  | some A => exact ⟨_, _, rfl⟩
theorem binA_sound {P : Program} {op : BinOp} {t : TypeId} {x y v : AV} {g g' : G} (h : binA P op t x y g = .done v g') :
  ∃ p, Keep g g' p ∧ (p → ∀ N μ (w : World) ox oy cx cy, Rep N μ x cx → Rep N μ y cy → OpIs P op t ox oy cx cy N μ w v) := by
 rw [binA_eq] at h
 unfold binA0 at h
 split at h
 ·-- integers
  rename_i s k a s' k' b
  cases hs : isShift op with
  | true =>
   rw [hs, cond_true] at h
   obtain ⟨p, k1, h1⟩ := shiftA_sound (P := P) (k' := k') (t := t) h
   refine ⟨p, k1, fun hp N μ w ox oy cx cy hx hy => ?_⟩
   simp only [Rep] at hx hy; subst hx hy
   exact .of0 (by simp) (by simp) (h1 hp N μ w)
  | false =>
   rw [hs, cond_false] at h
   by_cases hk : k = k'
   ·subst hk
    simp only [decide_true, cond_true] at h
    obtain ⟨p, k1, h1⟩ := intBin_sound (P := P) (t := t) h
    refine ⟨p, k1, fun hp N μ w ox oy cx cy hx hy => ?_⟩
    simp only [Rep] at hx hy; subst hx hy
    exact .of0 (by simp) (by simp) (h1 hp N μ w)
   ·simp only [hk, decide_false, cond_false] at h; cases h
 ·obtain ⟨rfl, h1⟩ := fltBin_sound (P := P) (t := t) h
  refine ⟨_, Keep.refl _, fun _ N μ w ox oy cx cy hx hy => ?_⟩
  simp only [Rep] at hx hy
  obtain ⟨a', rfl, ha⟩ := hx
  obtain ⟨b', rfl, hb⟩ := hy
  exact .of (by simp) (by simp) (h1 N μ w a' b' ha hb)
 ·obtain ⟨rfl, h1⟩ := cpxBin_sound (P := P) (t := t) h
  refine ⟨_, Keep.refl _, fun _ N μ w ox oy cx cy hx hy => ?_⟩
  simp only [Rep] at hx hy
  obtain ⟨a', b', rfl, ha, hb⟩ := hx
  obtain ⟨c', d', rfl, hc, hd⟩ := hy
  exact .of (by simp) (by simp) (h1 N μ w a' b' c' d' ha hb hc hd)
 ·obtain ⟨p, k1, h1⟩ := strBin_sound (P := P) (t := t) h
  refine ⟨p, k1, fun hp N μ w ox oy cx cy hx hy => ?_⟩
  simp only [Rep] at hx hy; subst hx hy
  exact .of0 (by simp) (by simp) (h1 hp N μ w)
 ·-- bits
  rename_i s a m
  cases hs : isShift op with
  | true =>
   rw [hs, cond_true] at h
   obtain ⟨_, g1, a1, h0⟩ := done_of h
   obtain ⟨p, k1, h1⟩ := shiftA_sound (P := P) (k' := .u64) (t := t) h0
   refine ⟨_, (ck_done a1).trans k1, fun hp N μ w ox oy cx cy hx hy => ?_⟩
   simp only [Rep] at hx hy
   obtain ⟨b, rfl, hb⟩ := hx
   subst hy
   rw [hb.eq_of_not hp.1]
   exact .of0 (by simp) (by simp) (h1 hp.2 N μ w)
  | false =>
   rw [hs, cond_false] at h
   obtain ⟨p, k1, h1⟩ := bitsBin_sound (P := P) (t := t) h
   refine ⟨p, k1, fun hp N μ w ox oy cx cy hx hy => ?_⟩
   simp only [Rep] at hx hy
   obtain ⟨b, rfl, hb⟩ := hx
   subst hy
   exact .of0 (by simp) (by simp) (h1 hp N μ w b hb)
 ·rename_i s a m
  cases hs : isShift op with
  | true =>
   rw [hs, cond_true] at h
   obtain ⟨_, g1, a1, h0⟩ := done_of h
   obtain ⟨p, k1, h1⟩ := shiftA_sound (P := P) (k' := .i64) (t := t) h0
   refine ⟨_, (ck_done a1).trans k1, fun hp N μ w ox oy cx cy hx hy => ?_⟩
   simp only [Rep] at hx hy
   obtain ⟨b, rfl, hb⟩ := hx
   subst hy
   rw [hb.eq_of_not hp.1]
   exact .of0 (by simp) (by simp) (h1 hp.2 N μ w)
  | false => rw [hs, cond_false] at h; cases h
 ·cases hs : isShift op with
  | true => rw [hs, cond_true] at h; exact (no_done h).elim
  | false =>
   rw [hs, cond_false] at h
   obtain ⟨_, g1, a1, h0⟩ := done_of h
   obtain ⟨p, k1, h1⟩ := intBin_sound (P := P) (t := t) h0
   refine ⟨_, (ck_done a1).trans k1, fun hp N μ w ox oy cx cy hx hy => ?_⟩
   simp only [Rep] at hx hy
   obtain ⟨b, rfl, hb⟩ := hx
   subst hy
   rw [hb.eq_of_not hp.1]
   exact .of0 (by simp) (by simp) (h1 hp.2 N μ w)
 ·cases hs : isShift op with
  | true => rw [hs, cond_true] at h; exact (no_done h).elim
  | false =>
   rw [hs, cond_false] at h
   obtain ⟨_, g1, a1, h0⟩ := done_of h
   obtain ⟨p, k1, h1⟩ := intBin_sound (P := P) (t := t) h0
   refine ⟨_, (ck_done a1).trans k1, fun hp N μ w ox oy cx cy hx hy => ?_⟩
   simp only [Rep] at hx hy
   obtain ⟨b, rfl, hb⟩ := hy
   subst hx
   rw [hb.eq_of_not hp.1]
   exact .of0 (by simp) (by simp) (h1 hp.2 N μ w)
 ·cases hs : isShift op with
  | true => rw [hs, cond_true] at h; exact (no_done h).elim
  | false =>
   rw [hs, cond_false] at h
   obtain ⟨_, g1, a1, h0⟩ := done_of h
   obtain ⟨_, g2, a2, h2⟩ := done_of h0
   obtain ⟨p, k1, h1⟩ := intBin_sound (P := P) (t := t) h2
   refine ⟨_, ((ck_done a1).trans (ck_done a2)).trans k1, fun hp N μ w ox oy cx cy hx hy => ?_⟩
   simp only [Rep] at hx hy
   obtain ⟨b, rfl, hb⟩ := hx
   obtain ⟨b', rfl, hb'⟩ := hy
   rw [hb.eq_of_not hp.1.1, hb'.eq_of_not hp.1.2]
   exact .of0 (by simp) (by simp) (h1 hp.2 N μ w)
 ·obtain ⟨_, g1, a1, h0⟩ := done_of h
  obtain ⟨ht, rfl⟩ := okIf_done a1
  obtain ⟨rfl, h1⟩ := boolEq_sound (isBoolD_some ht) h0
  refine ⟨_, Keep.refl _, fun _ N μ w ox oy cx cy hx hy => ?_⟩
  simp only [Rep] at hx hy; subst hx hy
  exact .of0 (by simp) (by simp) (h1 N μ w)
 ·obtain ⟨_, g1, a1, h0⟩ := done_of h
  obtain ⟨ht, rfl⟩ := okIf_done a1
  obtain ⟨rfl, h1⟩ := boolEq_sound (isBoolD_some ht) h0
  refine ⟨_, Keep.refl _, fun _ N μ w ox oy cx cy hx hy => ?_⟩
  simp only [Rep] at hx hy; subst hx hy
  exact .of0 (by simp) (by simp) (h1 N μ w)
 ·obtain ⟨_, g1, a1, h0⟩ := done_of h
  obtain ⟨ht, rfl⟩ := okIf_done a1
  obtain ⟨rfl, h1⟩ := boolEq_sound (isBoolD_some ht) h0
  refine ⟨_, Keep.refl _, fun _ N μ w ox oy cx cy hx hy => ?_⟩
  simp only [Rep] at hx hy; subst hx hy
  exact .of0 (by simp) (by simp) (h1 N μ w)
 ·obtain ⟨_, g1, a1, h0⟩ := done_of h
  obtain ⟨ht, rfl⟩ := okIf_done a1
  obtain ⟨rfl, h1⟩ := boolEq_sound (isBoolD_some ht) h0
  refine ⟨_, Keep.refl _, fun _ N μ w ox oy cx cy hx hy => ?_⟩
  simp only [Rep] at hx hy; subst hx hy
  exact .of0 (by simp) (by simp) (h1 N μ w)
 ·obtain ⟨_, g1, a1, h0⟩ := done_of h
  obtain ⟨ht, rfl⟩ := okIf_done a1
  obtain ⟨e, he⟩ := Option.isSome_iff_exists.1 ht
  have he := sliceE_some he
  have := (nilEq_sound (P := P) (t := t) (x := .slice none 0 0) (y := .slice none 0 0) (fun w => run_eq_slc_l he 9999 none 0 0 w) ⟨rfl, rfl⟩ h0)
  obtain ⟨rfl, h1⟩ := this
  refine ⟨_, Keep.refl _, fun _ N μ w ox oy cx cy hx hy => ?_⟩
  simp only [Rep] at hx hy; subst hx hy
  exact .of0 (by simp) (by simp) (h1 N μ w)
 ·rename_i s own a len
  obtain ⟨_, g1, a1, h0⟩ := done_of h
  obtain ⟨ht, rfl⟩ := okIf_done a1
  obtain ⟨_, g2, a2, h0⟩ := done_of h0
  have k := ck'_done a2
  obtain ⟨e, he⟩ := Option.isSome_iff_exists.1 ht
  have he := sliceE_some he
  have := fun A C => (nilEq_sound (P := P) (t := t) (x := .slice (some A) len C) (y := .slice none 0 0) (fun w => run_eq_slc_r he 9999 A len C w) ⟨rfl, rfl⟩ h0)
  obtain ⟨rfl, _⟩ := this ⟨0, 0, none⟩ 0
  refine ⟨_, k, fun hp N μ w ox oy cx cy hx hy => ?_⟩
  obtain ⟨A, C, rfl⟩ := slc_some hx hp
  simp only [Rep] at hy
  subst hy
  exact .of0 (by simp) (by simp) ((this _ _).2 N μ w)
 ·rename_i s own a len
  obtain ⟨_, g1, a1, h0⟩ := done_of h
  obtain ⟨ht, rfl⟩ := okIf_done a1
  obtain ⟨_, g2, a2, h0⟩ := done_of h0
  have k := ck'_done a2
  obtain ⟨e, he⟩ := Option.isSome_iff_exists.1 ht
  have he := sliceE_some he
  have := fun A C => (nilEq_sound (P := P) (t := t) (x := .slice none 0 0) (y := .slice (some A) len C) (fun w => run_eq_slc_l he 9999 (some A) len C w) ⟨rfl, rfl⟩ h0)
  obtain ⟨rfl, _⟩ := this ⟨0, 0, none⟩ 0
  refine ⟨_, k, fun hp N μ w ox oy cx cy hx hy => ?_⟩
  obtain ⟨A, C, rfl⟩ := slc_some hy hp
  simp only [Rep] at hx
  subst hx
  exact .of0 (by simp) (by simp) ((this _ _).2 N μ w)
 ·obtain ⟨_, g1, a1, h0⟩ := done_of h
  obtain ⟨ht, rfl⟩ := okIf_done a1
  obtain ⟨e, he⟩ := isPtrD_some ht
  have := (nilEq_sound (P := P) (t := t) (x := .pointer none) (y := .pointer none) (fun w => run_eq_ptr_l he 9999 none w) ⟨rfl, rfl⟩ h0)
  obtain ⟨rfl, h1⟩ := this
  refine ⟨_, Keep.refl _, fun _ N μ w ox oy cx cy hx hy => ?_⟩
  simp only [Rep] at hx hy; subst hx hy
  exact .of0 (by simp) (by simp) (h1 N μ w)
 ·obtain ⟨_, g1, a1, h0⟩ := done_of h
  obtain ⟨ht, rfl⟩ := okIf_done a1
  obtain ⟨e, he⟩ := isPtrD_some ht
  have := fun a => (nilEq_sound (P := P) (t := t) (x := .pointer (some a)) (y := .pointer none) (fun w => run_eq_ptr_r he 9999 a w) ⟨rfl, rfl⟩ h0)
  obtain ⟨rfl, _⟩ := this ⟨0, 0, none⟩
  refine ⟨_, Keep.refl _, fun _ N μ w ox oy cx cy hx hy => ?_⟩
  simp only [Rep] at hx hy
  obtain ⟨_, rfl⟩ := hx; subst hy
  exact .of0 (by simp) (by simp) ((this _).2 N μ w)
 ·obtain ⟨_, g1, a1, h0⟩ := done_of h
  obtain ⟨ht, rfl⟩ := okIf_done a1
  obtain ⟨e, he⟩ := isPtrD_some ht
  have := fun a => (nilEq_sound (P := P) (t := t) (x := .pointer none) (y := .pointer (some a)) (fun w => run_eq_ptr_l he 9999 (some a) w) ⟨rfl, rfl⟩ h0)
  obtain ⟨rfl, _⟩ := this ⟨0, 0, none⟩
  refine ⟨_, Keep.refl _, fun _ N μ w ox oy cx cy hx hy => ?_⟩
  simp only [Rep] at hx hy
  obtain ⟨_, rfl⟩ := hy; subst hx
  exact .of0 (by simp) (by simp) ((this _).2 N μ w)
 ·obtain ⟨_, g1, a1, h0⟩ := done_of h
  obtain ⟨ht, rfl⟩ := okIf_done a1
  obtain ⟨e1, e2, e3, he⟩ := isFuncD_some ht
  have := (nilEq_sound (P := P) (t := t) (x := .nilFunc) (y := .nilFunc) (fun w => run_eq_fn_nn he 9999 w) ⟨rfl, rfl⟩ h0)
  obtain ⟨rfl, h1⟩ := this
  refine ⟨_, Keep.refl _, fun _ N μ w ox oy cx cy hx hy => ?_⟩
  simp only [Rep] at hx hy; subst hx hy
  exact .of0 (by simp) (by simp) (h1 N μ w)
 ·obtain ⟨_, g1, a1, h0⟩ := done_of h
  obtain ⟨ht, rfl⟩ := okIf_done a1
  obtain ⟨e1, e2, e3, he⟩ := isFuncD_some ht
  have := fun f fs cs => (nilEq_sound (P := P) (t := t) (x := .func f fs cs) (y := .nilFunc) (fun w => run_eq_fn_r he 9999 f fs cs w) ⟨rfl, rfl⟩ h0)
  obtain ⟨rfl, _⟩ := this (.func 0) #[] #[]
  refine ⟨_, Keep.refl _, fun _ N μ w ox oy cx cy hx hy => ?_⟩
  simp only [Rep] at hx hy
  obtain ⟨_, _, rfl, _⟩ := hx; subst hy
  exact .of0 (by simp) (by simp) ((this _ _ _).2 N μ w)
 ·obtain ⟨_, g1, a1, h0⟩ := done_of h
  obtain ⟨ht, rfl⟩ := okIf_done a1
  obtain ⟨e1, e2, e3, he⟩ := isFuncD_some ht
  have := fun f fs cs => (nilEq_sound (P := P) (t := t) (x := .nilFunc) (y := .func f fs cs) (fun w => run_eq_fn_l he 9999 f fs cs w) ⟨rfl, rfl⟩ h0)
  obtain ⟨rfl, _⟩ := this (.func 0) #[] #[]
  refine ⟨_, Keep.refl _, fun _ N μ w ox oy cx cy hx hy => ?_⟩
  simp only [Rep] at hx hy
  obtain ⟨_, _, rfl, _⟩ := hy; subst hx
  exact .of0 (by simp) (by simp) ((this _ _ _).2 N μ w)
 ·-- structs
  rename_i l l'
  obtain ⟨x, g1, a1, h0⟩ := done_of h
  obtain ⟨hx, rfl⟩ := ofOpt_done a1
  have fin : ∀ {op : BinOp} {b : Bool}, (∀ w xs ys, (Op.equalIn 10000 t (.agg xs) (.agg ys)).run P w = .ok x.2 w → (binOp op t (.agg xs) (.agg ys)).run P w = .ok (.bool b) w) →
    ∀ N μ (w : World) ox oy cx cy, Rep N μ (.agg l) cx → Rep N μ (.agg l') cy → OpIs P op t ox oy cx cy N μ w (cmpB x.1 b) := by
   intro op b hb N μ w ox oy cx cy h1 h2
   simp only [Rep] at h1 h2
   obtain ⟨xs, rfl, hr1⟩ := h1
   obtain ⟨ys, rfl, hr2⟩ := h2
   obtain ⟨he, hgd⟩ := structEq_sound hx hr1 hr2 w
   exact ⟨.bool b, w.drawn, by simp only [Sem.run_bind, run_eqGuard_agg w op t ox oy xs ys hgd, Result.andThen_ok, hb w xs ys he], .cmpB ..⟩
  cases op <;> simp only at h0 <;> first | exact (no_done h0).elim | skip
  all_goals obtain ⟨rfl, rfl⟩ := ret_done h0
  all_goals refine ⟨_, Keep.refl _, fun _ => fin fun w xs ys he => ?_⟩
  ·rw [run_eql_struct, he]; rfl
  ·rw [run_neq_struct, he]; rfl
 ·cases h
end Go.Sx
