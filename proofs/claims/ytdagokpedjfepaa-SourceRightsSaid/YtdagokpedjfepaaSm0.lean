/- THE ENGINE, part 0: an interpreter of the program's code over abstract values, and its proof. -/
import Derived.Laws.FloatArith
import Derived.Laws.ComplexArith
import Derived.Laws.World
import Derived.WalkKit
import Derived.MapKept
import Derived.Laws.RangeAny
import Derived.Laws.BytesString
import Derived.Laws.StructEq
import Derived.Laws.Cover1
import Derived.Lib.Strings
noncomputable section
set_option linter.unusedSimpArgs false
set_option linter.unusedVariables false
namespace Go.Sx
def isnan (b : Nat) : Bool := decide (9218868437227405312 < b % 9223372036854775808)
def qn : Nat := 9221120237041090561
def cn (b : Nat) : Nat := bif isnan b then qn else b
theorem fH : isnan qn = true := by decide
theorem J9 (b : Nat) : (Ieee.double.read b).isNaN = isnan b := by
 have hs : Ieee.double.signWeight = 9223372036854775808 := by decide
 have hb : Ieee.double.binade = 4503599627370496 := by decide
 have hi : Ieee.double.infRung = 9218868437227405312 := by decide
 unfold Ieee.Format.read isnan
 simp only [hs, hb, hi]
 have hlt : b % 9223372036854775808 < 9223372036854775808 := Nat.mod_lt _ (by decide)
 generalize b % 9223372036854775808 = r at hlt ⊢
 by_cases h1 : r < 4503599627370496
 ·simp [h1, Ieee.Datum.isNaN]
  omega
 ·by_cases h2 : r < 9218868437227405312
  ·simp [h1, h2, Ieee.Datum.isNaN]
   omega
  ·by_cases h3 : r = 9218868437227405312
   ·simp [h3, Ieee.Datum.isNaN]
   ·simp [h1, h2, h3, Ieee.Datum.isNaN]
    omega
theorem afs (b : Nat) : cn (cn b) = cn b := by
 unfold cn
 cases h : isnan b
 ·simp [h]
 ·simp [fH]
theorem UD (b : Nat) : isnan (cn b) = isnan b := by
 unfold cn
 cases h : isnan b
 ·simp [h]
 ·simp [fH]
theorem iC {b : Nat} (h : isnan b = false) : cn b = b := by simp [cn, h]
theorem gu {b : Nat} (h : isnan b = true) : cn b = qn := by simp [cn, h]
theorem aZ {b : Nat} (h : isnan b = true) : ∃ s t, Ieee.double.read b = .nan s t := by
 have h' := J9 b
 rw [h] at h'
 cases hr : Ieee.double.read b <;> simp [hr, Ieee.Datum.isNaN] at h'
 exact ⟨_, _, rfl⟩
def jG (x y : Nat) : Nat := (Ieee.double.add x y).getD qn
def jo (x y : Nat) : Nat := (Ieee.double.sub x y).getD qn
def qH (x y : Nat) : Nat := (Ieee.double.mul x y).getD qn
def fdiv (x y : Nat) : Nat := (Ieee.double.div x y).getD qn
def iQ (x y : Nat) : Option Ordering := Ieee.double.order x y
def vP (x y : Nat) : Bool := iQ x y == some .eq
def flt (x y : Nat) : Bool := iQ x y == some .lt
def Us (x y : Nat) : Bool := iQ x y == some .lt || iQ x y == some .eq
def Ut (x y : Nat) : Bool := iQ x y == some .gt
def fge (x y : Nat) : Bool := iQ x y == some .gt || iQ x y == some .eq
def BP (x : Nat) : Nat := cn (x ^^^ 9223372036854775808)
def fabs (x : Nat) : Nat := cn (x % 9223372036854775808)
theorem acD (a b : Nat) : Ieee.double.add (cn a) (cn b) = Ieee.double.add a b := by
 unfold cn Ieee.Format.add
 cases ha : isnan a <;> cases hb : isnan b <;> simp
 ·obtain ⟨s, t, h1⟩ := aZ hb
  obtain ⟨s', t', h2⟩ := aZ fH
  rw [h1, h2]; cases Ieee.double.read a <;> simp [Ieee.Datum.sum]
 ·obtain ⟨s, t, h1⟩ := aZ ha
  obtain ⟨s', t', h2⟩ := aZ fH
  rw [h1, h2]; cases Ieee.double.read b <;> simp [Ieee.Datum.sum]
 ·obtain ⟨s, t, h1⟩ := aZ ha
  obtain ⟨s', t', h2⟩ := aZ fH
  rw [h1, h2]; simp [Ieee.Datum.sum]
theorem acE (a b : Nat) : Ieee.double.sub (cn a) (cn b) = Ieee.double.sub a b := by
 unfold cn Ieee.Format.sub
 cases ha : isnan a <;> cases hb : isnan b <;> simp
 ·obtain ⟨s, t, h1⟩ := aZ hb
  obtain ⟨s', t', h2⟩ := aZ fH
  rw [h1, h2]; cases Ieee.double.read a <;> simp [Ieee.Datum.sum, Ieee.Datum.opposite]
 ·obtain ⟨s, t, h1⟩ := aZ ha
  obtain ⟨s', t', h2⟩ := aZ fH
  rw [h1, h2]; cases Ieee.double.read b <;> simp [Ieee.Datum.sum, Ieee.Datum.opposite]
 ·obtain ⟨s, t, h1⟩ := aZ ha
  obtain ⟨s', t', h2⟩ := aZ fH
  rw [h1, h2]; simp [Ieee.Datum.sum, Ieee.Datum.opposite]
theorem acF (a b : Nat) : Ieee.double.mul (cn a) (cn b) = Ieee.double.mul a b := by
 unfold cn Ieee.Format.mul
 cases ha : isnan a <;> cases hb : isnan b <;> simp
 ·obtain ⟨s, t, h1⟩ := aZ hb
  obtain ⟨s', t', h2⟩ := aZ fH
  rw [h1, h2]; cases Ieee.double.read a <;> simp [Ieee.Datum.product]
 ·obtain ⟨s, t, h1⟩ := aZ ha
  obtain ⟨s', t', h2⟩ := aZ fH
  rw [h1, h2]; cases Ieee.double.read b <;> simp [Ieee.Datum.product]
 ·obtain ⟨s, t, h1⟩ := aZ ha
  obtain ⟨s', t', h2⟩ := aZ fH
  rw [h1, h2]; simp [Ieee.Datum.product]
theorem acG (a b : Nat) : Ieee.double.div (cn a) (cn b) = Ieee.double.div a b := by
 unfold cn Ieee.Format.div
 cases ha : isnan a <;> cases hb : isnan b <;> simp
 ·obtain ⟨s, t, h1⟩ := aZ hb
  obtain ⟨s', t', h2⟩ := aZ fH
  rw [h1, h2]; cases Ieee.double.read a <;> simp [Ieee.Datum.quotient]
 ·obtain ⟨s, t, h1⟩ := aZ ha
  obtain ⟨s', t', h2⟩ := aZ fH
  rw [h1, h2]; cases Ieee.double.read b <;> simp [Ieee.Datum.quotient]
 ·obtain ⟨s, t, h1⟩ := aZ ha
  obtain ⟨s', t', h2⟩ := aZ fH
  rw [h1, h2]; simp [Ieee.Datum.quotient]
theorem Ko (a b : Nat) : Ieee.double.order (cn a) (cn b) = Ieee.double.order a b := by
 unfold cn Ieee.Format.order
 cases ha : isnan a <;> cases hb : isnan b <;> simp
 ·obtain ⟨s, t, h1⟩ := aZ hb
  obtain ⟨s', t', h2⟩ := aZ fH
  rw [h1, h2]; cases Ieee.double.read a <;> simp [Ieee.Datum.order]
 ·obtain ⟨s, t, h1⟩ := aZ ha
  obtain ⟨s', t', h2⟩ := aZ fH
  rw [h1, h2]; cases Ieee.double.read b <;> simp [Ieee.Datum.order]
 ·obtain ⟨s, t, h1⟩ := aZ ha
  obtain ⟨s', t', h2⟩ := aZ fH
  rw [h1, h2]; simp [Ieee.Datum.order]
theorem wR (neg : Bool) (m : Nat) (p : Int) : isnan (Ieee.double.nearest neg m p) = false := by
 have hs : Ieee.double.signWeight = 9223372036854775808 := by decide
 have hi : Ieee.double.infRung = 9218868437227405312 := by decide
 have key : ∀ r : Nat, r ≤ 9218868437227405312 → isnan (Ieee.double.word neg r) = false := by
  intro r hr
  unfold Ieee.Format.word isnan
  rw [hs]
  cases neg <;> simp <;> omega
 unfold Ieee.Format.nearest
 dsimp only
 split
 ·exact key 0 (by omega)
 ·rw [hi]; exact key _ (Nat.min_le_right ..)
theorem CS (neg : Bool) : isnan (Ieee.double.word neg Ieee.double.infRung) = false := by
 cases neg <;> decide
theorem Kq {d : Ieee.Datum} (h : d.isNaN = false) : isnan (Ieee.double.write d) = false := by
 cases d with
 | number s m e => exact wR s m e
 | infinity s => exact CS s
 | nan s t => simp [Ieee.Datum.isNaN] at h
theorem CU {a b d : Ieee.Datum} (h : a.sum b = some d) : d.isNaN = false := by
 cases a <;> cases b <;> simp [Ieee.Datum.sum] at h
 ·subst h; rfl
 ·subst h; rfl
 ·subst h; rfl
 ·obtain ⟨_, rfl⟩ := h; rfl
theorem CV {a b d : Ieee.Datum} (h : a.product b = some d) : d.isNaN = false := by
 cases a <;> cases b <;> simp [Ieee.Datum.product] at h
 ·subst h; rfl
 ·obtain ⟨_, rfl⟩ := h; rfl
 ·obtain ⟨_, rfl⟩ := h; rfl
 ·subst h; rfl
theorem BQ {k : Nat} {a b d : Ieee.Datum} (h : a.quotient k b = some d) : d.isNaN = false := by
 cases a <;> cases b <;> simp [Ieee.Datum.quotient] at h
 ·split at h
  ·split at h
   ·cases h
   ·cases h; rfl
  ·cases h; rfl
 ·subst h; rfl
 ·subst h; rfl
theorem jT {o : Option Ieee.Datum} {r : Nat} (h : o.map Ieee.double.write = some r) (hn : ∀ d, o = some d → d.isNaN = false) : isnan r = false := by
 cases o with
 | none => cases h
 | some d => cases h; exact Kq (hn d rfl)
theorem xq {o : Option Nat} (h : ∀ r, o = some r → isnan r = false) : cn (o.getD qn) = o.getD qn := by
 cases o with
 | none => rfl
 | some r => exact iC (h r rfl)
theorem CW {a b r : Nat} (h : Ieee.double.add a b = some r) : isnan r = false := jT h fun _ => CU
theorem CX {a b r : Nat} (h : Ieee.double.sub a b = some r) : isnan r = false := jT h fun _ => CU
theorem CY {a b r : Nat} (h : Ieee.double.mul a b = some r) : isnan r = false := jT h fun _ => CV
theorem NQ {a b r : Nat} (h : Ieee.double.div a b = some r) : isnan r = false := jT h fun _ => BQ
theorem Yl (x y : Nat) : cn (jG x y) = jG x y := xq fun _ => CW
theorem Ym (x y : Nat) : cn (jo x y) = jo x y := xq fun _ => CX
theorem Yn (x y : Nat) : cn (qH x y) = qH x y := xq fun _ => CY
theorem Gn (x y t : Nat) : isnan (Question.cut (.nanBits .f64 x y) t) = true := by
 have h1 : (t / 2) % (2 ^ 52 - 1) < 4503599627370495 := Nat.mod_lt _ (by decide)
 have h2 : t % 2 < 2 := Nat.mod_lt _ (by decide)
 have e : (2 : Nat) ^ 63 = 9223372036854775808 := by decide
 have e2 : (2 : Nat) ^ 52 - 1 = 4503599627370495 := by decide
 simp only [Question.cut, isnan, decide_eq_true_eq, e]
 rw [e2] at h1 ⊢
 generalize (t / 2) % 4503599627370495 = u at h1 ⊢
 rcases (by omega : t % 2 = 0 ∨ t % 2 = 1) with h | h <;> rw [h] <;> omega
theorem yB (m : Bool) (x y t : Nat) : isnan (Question.cut (.nanMinMax .f64 m x y) t) = true := Gn x y t
def FY : BinOp → Nat → Nat → Nat
 | .add, x, y => jG x y
 | .sub, x, y => jo x y
 | .mul, x, y => qH x y
 | .quo, x, y => fdiv x y
 | _, _, _ => 0
def vS : BinOp → Bool
 | .add | .sub | .mul | .quo => true
 | _ => false
section
variable {P : Program} (w : World)
theorem CZ {op : BinOp} (hop : vS op = true) (a b : Nat) : ∃ r n, (Op.floatArith op .f64 a b).run P w = .ok (.float .f64 r) { w with drawn := n } ∧ cn r = FY op (cn a) (cn b) := by
 have vT : ∀ {o : Option Nat}, o = none → ∃ r n, (do let result ← (pure o : Sem (Option Nat)); match result with | some r => pure (Value.float FloatKind.f64 r) | none => pure (.float .f64 (← choose (.nanBits .f64 a b))) : Sem Value).run P w = .ok (.float .f64 r) { w with drawn := n } ∧ cn r = qn := by
  rintro _ rfl
  refine ⟨_, w.drawn + 1, rfl, gu (Gn a b _)⟩
 have vU : ∀ {o : Option Nat} {r : Nat}, o = some r → isnan r = false → ∃ r' n, (do let result ← (pure o : Sem (Option Nat)); match result with | some r => pure (Value.float FloatKind.f64 r) | none => pure (.float .f64 (← choose (.nanBits .f64 a b))) : Sem Value).run P w = .ok (.float .f64 r') { w with drawn := n } ∧ cn r' = r := by
  rintro _ r rfl hr
  exact ⟨r, w.drawn, rfl, iC hr⟩
 cases op <;> simp only [vS, Bool.false_eq_true] at hop <;> simp only [FY]
 ·unfold jG; rw [acD]
  cases h : Ieee.double.add a b with
  | none => exact vT h
  | some r => exact vU h (CW h)
 ·unfold jo; rw [acE]
  cases h : Ieee.double.sub a b with
  | none => exact vT h
  | some r => exact vU h (CX h)
 ·unfold qH; rw [acF]
  cases h : Ieee.double.mul a b with
  | none => exact vT h
  | some r => exact vU h (CY h)
 ·unfold fdiv; rw [acG]
  cases h : Ieee.double.div a b with
  | none => exact vT h
  | some r => exact vU h (NQ h)
end
#print axioms CZ
end Go.Sx
namespace Go.Sx
inductive T (α : Type) : Type where
 | e
 | n (l : T α) (v : Option α) (r : T α)
namespace T
variable {α : Type}
noncomputable def get (t : T α) : Nat → Option α :=
 T.rec (fun _ => none) (fun _ v _ ihl ihr i => Nat.rec v (fun j _ => bif Nat.beq (j % 2) 0 then ihl (j / 2) else ihr (j / 2)) i) t
noncomputable def Kr (o : Option α) (f : Nat) : Nat → T α :=
 Nat.rec (fun _ => e) (fun _ ih i => Nat.rec (n e o e) (fun j _ => bif Nat.beq (j % 2) 0 then n (ih (j / 2)) none e else n e none (ih (j / 2))) i) f
noncomputable def upd (t : T α) (i : Nat) (o : Option α) : T α :=
 T.rec (fun i => Kr o (i + 1) i) (fun l v r ihl ihr i => Nat.rec (n l o r) (fun j _ => bif Nat.beq (j % 2) 0 then n (ihl (j / 2)) v r else n l v (ihr (j / 2))) i) t i
theorem uH (i : Nat) : (e : T α).get i = none := rfl
theorem qI (l r : T α) (v : Option α) : (n l v r).get 0 = v := rfl
theorem qJ (l r : T α) (v : Option α) (i : Nat) : (n l v r).get (i + 1) = bif Nat.beq (i % 2) 0 then l.get (i / 2) else r.get (i / 2) := rfl
theorem Qe (o : Option α) (f : Nat) : Kr o (f + 1) 0 = n e o e := rfl
theorem Ce (o : Option α) (f i : Nat) : Kr o (f + 1) (i + 1) = bif Nat.beq (i % 2) 0 then n (Kr o f (i / 2)) none e else n e none (Kr o f (i / 2)) := rfl
theorem aft (i : Nat) (o : Option α) : (e : T α).upd i o = Kr o (i + 1) i := rfl
theorem UE (l r : T α) (v o : Option α) : (n l v r).upd 0 o = n l o r := rfl
theorem Ii (l r : T α) (v o : Option α) (i : Nat) : (n l v r).upd (i + 1) o = bif Nat.beq (i % 2) 0 then n (l.upd (i / 2) o) v r else n l v (r.upd (i / 2) o) := rfl
theorem UF (o : Option α) : ∀ f i j, i < f → (Kr o f i).get j = if j = i then o else none := by
 intro f
 induction f with
 | zero => intro i j h; omega
 | succ f ih =>
  intro i j h
  cases i with
  | zero =>
   cases j with
   | zero => simp [Qe, qI, qJ, uH]
   | succ j => simp [Qe, qI, qJ, uH]
  | succ i =>
   cases hp : Nat.beq (i % 2) 0 with
   | true =>
    have hp' : i % 2 = 0 := Nat.eq_of_beq_eq_true hp
    cases j with
    | zero => simp [Ce, hp, qI]
    | succ j =>
     simp only [Ce, hp, cond_true, qJ, uH, ih _ _ (show i / 2 < f by omega)]
     cases hq : Nat.beq (j % 2) 0 with
     | true =>
      have hq' : j % 2 = 0 := Nat.eq_of_beq_eq_true hq
      simp only [cond_true]
      by_cases e : j = i
      ·subst e; simp
      ·rw [if_neg (by omega), if_neg (by omega)]
     | false =>
      have hq' : ¬ j % 2 = 0 := Nat.ne_of_beq_eq_false hq
      simp only [cond_false]
      rw [if_neg (by omega)]
   | false =>
    have hp' : ¬ i % 2 = 0 := Nat.ne_of_beq_eq_false hp
    cases j with
    | zero => simp [Ce, hp, qI]
    | succ j =>
     simp only [Ce, hp, cond_false, qJ, uH, ih _ _ (show i / 2 < f by omega)]
     cases hq : Nat.beq (j % 2) 0 with
     | true =>
      have hq' : j % 2 = 0 := Nat.eq_of_beq_eq_true hq
      simp only [cond_true]
      rw [if_neg (by omega)]
     | false =>
      have hq' : ¬ j % 2 = 0 := Nat.ne_of_beq_eq_false hq
      simp only [cond_false]
      by_cases e : j = i
      ·subst e; simp
      ·rw [if_neg (by omega), if_neg (by omega)]
theorem bP (o : Option α) (t : T α) : ∀ i j, (t.upd i o).get j = if j = i then o else t.get j := by
 induction t with
 | e => intro i j; simp only [aft, UF o _ _ _ (Nat.lt_succ_self i), uH]
 | n l v r ihl ihr =>
  intro i j
  cases i with
  | zero =>
   cases j with
   | zero => simp [UE, qI, qJ]
   | succ j => simp [UE, qI, qJ]
  | succ i =>
   cases hp : Nat.beq (i % 2) 0 with
   | true =>
    have hp' : i % 2 = 0 := Nat.eq_of_beq_eq_true hp
    cases j with
    | zero => simp [Ii, hp, qI]
    | succ j =>
     simp only [Ii, hp, cond_true, qJ, ihl]
     cases hq : Nat.beq (j % 2) 0 with
     | true =>
      have hq' : j % 2 = 0 := Nat.eq_of_beq_eq_true hq
      simp only [cond_true]
      by_cases e : j = i
      ·subst e; simp
      ·rw [if_neg (by omega), if_neg (by omega)]
     | false =>
      have hq' : ¬ j % 2 = 0 := Nat.ne_of_beq_eq_false hq
      simp only [cond_false]
      rw [if_neg (by omega)]
   | false =>
    have hp' : ¬ i % 2 = 0 := Nat.ne_of_beq_eq_false hp
    cases j with
    | zero => simp [Ii, hp, qI]
    | succ j =>
     simp only [Ii, hp, cond_false, qJ, ihr]
     cases hq : Nat.beq (j % 2) 0 with
     | true =>
      have hq' : j % 2 = 0 := Nat.eq_of_beq_eq_true hq
      simp only [cond_true]
      rw [if_neg (by omega)]
     | false =>
      have hq' : ¬ j % 2 = 0 := Nat.ne_of_beq_eq_false hq
      simp only [cond_false]
      by_cases e : j = i
      ·subst e; simp
      ·rw [if_neg (by omega), if_neg (by omega)]
end T
structure AA where
 s : Bool
 g : Nat
 i : Nat
 o : Nat
inductive AV where
 | top
 | bool (b : Bool)
 | aP (b : Bool)
 | int (s : Bool) (k : IntKind) (n : Int)
 | flt (s : Bool) (x : Nat)
 | raw (s : Bool) (x : Nat)
 | bits (s : Bool) (x : Nat)
 | dD (s : Bool) (x y : Nat)
 | str (s : Bool) (l : List UInt8)
 | ptr (a : AA)
 | bG
 | slc (s own : Bool) (a : AA) (len : Nat)
 | aX
 | mp (g : Nat)
 | zS
 | fn (f : Fn) (first cap : List AV)
 | xu
 | C9
 | agg (l : List AV)
 | iD (l : List AV)
def AV.ql : AV → AV
 | .raw s x => .flt s (cn x)
 | v => v
def AV.fl : AV → AV
 | .raw s x => .flt s (cn x)
 | .agg l => .agg (l.map AV.ql)
 | v => v
def AV.one : AV → Bool
 | .top | .agg _ | .iD _ => false
 | _ => true
def AV.cells : AV → List AV
 | .agg l => l
 | v => [v]
inductive Cont where
 | lit (d : List AV) (t : T (List AV))
 | fn (f : Nat → List AV)
def Cont.row : Cont → Nat → List AV
 | .lit d t, i => (t.get i).getD d
 | .fn f, i => f i
def Cont.put : Cont → Nat → List AV → Cont
 | .lit d t, i, r => .lit d (t.upd i (some r))
 | .fn f, i, r => .fn fun j => bif Nat.beq j i then r else f j
def Cont.more (src : Nat → List AV) (n : Nat) : Nat → Cont → Cont
 | 0, c => c
 | m + 1, c => (more src n m c).put (n + m) (src m)
inductive aF where
 | cells (own : Bool) (sz n : Nat) (c : Cont)
 | aW (s : Bool) (l : List (List UInt8 × Int))
 | RZ (s : Bool) (l : List (Int × Int))
 | sit (s : Bool) (l : List UInt8) (pos : Nat)
structure G where
 H : T aF
 nx : Nat
 uG : List Nat
 path : List Bool
 cs : Prop
inductive BU (α : Type) : Type where
 | done (a : α) (g : G)
 | need (b : Bool)
 | fail
abbrev M (α : Type) := G → BU α
namespace M
variable {α β : Type}
def ret (a : α) : M α := fun g => .done a g
def no : M α := fun _ => .fail
def andThen (x : M α) (f : α → M β) : M β := fun g =>
 match x g with
 | .done a g' => f a g'
 | .need b => .need b
 | .fail => .fail
def bF : Option α → M α
 | some a => ret a
 | none => no
def req (p : Prop) : M Unit := fun g => .done () { g with cs := g.cs ∧ p }
def ck (s : Bool) (p : Prop) [Decidable p] : M Unit := bif s then req p else bif decide p then ret () else no
def dec (b : Bool) : M Bool := fun g =>
 match g.path with
 | [] => .need b
 | d :: ds => .done d { g with path := ds, cs := g.cs ∧ b = d }
def qm (nm : Nat) : M aF := fun g =>
 match g.H.get nm with
 | some b => .done b g
 | none => .fail
def setB (nm : Nat) (b : aF) : M Unit := fun g => .done () { g with H := g.H.upd nm (some b), uG := nm :: g.uG }
def yC (nm : Nat) : M Unit := fun g => .done () { g with H := g.H.upd nm none, uG := nm :: g.uG }
def iR (b : aF) : M Nat := fun g => .done g.nx { g with H := g.H.upd g.nx (some b), nx := g.nx + 1 }
def dn (b : Bool) : M Unit := bif b then ret () else no
end M
open M
def asInt : AV → Option (Bool × Int)
 | .int s _ n => some (s, n)
 | _ => none
def Gp : AV → Option AA
 | .ptr a => some a
 | _ => none
def asAgg : AV → Option (List AV)
 | .agg l => some l
 | _ => none
def Qg : aF → Option (Bool × Nat × Nat × Cont)
 | .cells own sz n c => some (own, sz, n, c)
 | _ => none
def jU (nm : Nat) : M (Bool × Nat × Nat × Cont) := (qm nm).andThen fun b => bF (Qg b)
def mM (P : Program) (t : TypeId) : Option TypeId :=
 match P.underlying t with
 | some (.slice e) => some e
 | _ => none
def Dc (P : Program) (t : TypeId) : Option (Nat × TypeId) :=
 match P.underlying t with
 | some (.array n e) => some (n, e)
 | _ => none
def kG : Value → AV
 | .bool b => .bool b
 | .int k n => .int false k n
 | .float .f64 b => bif decide (b < 18446744073709551616) then .flt false (cn b) else .top
 | .complex .f64 a b => bif decide (a < 18446744073709551616 ∧ b < 18446744073709551616) then .dD false (cn a) (cn b) else .top
 | .string s => .str false s.data.toList
 | .pointer none => .bG
 | .slice none 0 0 => .aX
 | .map none => .zS
 | .nilFunc => .xu
 | .nilIface => .C9
 | _ => .top
def gZ : Value → AV
 | .agg cs => .agg (cs.toList.map kG)
 | .tuple cs => .iD (cs.toList.map kG)
 | v => kG v
def qK : TypeDesc → Bool
 | .struct _ | .array _ _ => true
 | _ => false
def lay (P : Program) (t : TypeId) : Option (Nat × Bool) :=
 match P.info? t, P.underlying t with
 | some i, some d => some (i.size, qK d)
 | _, _ => none
def zeroOf (P : Program) (t : TypeId) : Option AV :=
 match P.info? t with
 | some i => i.zero.map gZ
 | none => none
def wS (P : Program) (t : TypeId) (a : AA) : M AV :=
 (bF (lay P t)).andThen fun y =>
 (jU a.g).andThen fun b =>
 (ck a.s (a.i < b.2.2.1)).andThen fun _ =>
 bif y.2 then (ck a.s (a.o + y.1 ≤ b.2.1)).andThen fun _ => ret (.agg (((b.2.2.2.row a.i).drop a.o).take y.1))
 else bF ((b.2.2.2.row a.i)[a.o]?)
def splice (row : List AV) (o : Nat) (vs : List AV) : List AV := row.take o ++ vs ++ row.drop (o + vs.length)
def Ij (sz : Nat) (row : List AV) (o : Nat) (vs : List AV) : List AV := bif Nat.beq sz vs.length then vs else splice row o vs
def xA (P : Program) (t : TypeId) (a : AA) (v : AV) : M Unit :=
 (bF (lay P t)).andThen fun y =>
 (jU a.g).andThen fun b =>
 (dn (b.1 && Nat.beq v.cells.length y.1 && v.cells.all AV.one)).andThen fun _ =>
 (ck a.s (a.i < b.2.2.1)).andThen fun _ =>
 (ck a.s (a.o + y.1 ≤ b.2.1)).andThen fun _ =>
 setB a.g (.cells true b.2.1 b.2.2.1 (b.2.2.2.put a.i (Ij b.2.1 (b.2.2.2.row a.i) a.o v.cells)))
def Kt (v : AV) : M AV :=
 (dn (v.cells.all AV.one && !v.cells.isEmpty)).andThen fun _ =>
 (iR (.cells true v.cells.length 1 (.lit [] (T.Kr (some v.cells) 1 0)))).andThen fun nm => ret (.ptr ⟨false, nm, 0, 0⟩)
def dH (s b : Bool) : AV := bif s then .aP b else .bool b
def uI (op : BinOp) (k : IntKind) (x y : Int) : Int :=
 let a := BitVec.ofInt k.bits x
 let b := BitVec.ofInt k.bits y
 match op with
 | .and => k.wrap (a &&& b).toNat
 | .or => k.wrap (a ||| b).toNat
 | .xor => k.wrap (a ^^^ b).toNat
 | _ => k.wrap (a &&& ~~~b).toNat
def yD : IntKind → Bool
 | .i64 => true
 | _ => false
def lM (s : Bool) (k : IntKind) (r : Int) : M AV :=
 bif s && yD k then (req (-9223372036854775808 ≤ r ∧ r ≤ 9223372036854775807)).andThen fun _ => ret (.int s k r)
 else ret (.int s k (k.wrap r))
def jK (s : Bool) (k : IntKind) (op : BinOp) (a b : Int) : M AV :=
 match op with
 | .add => lM s k (a + b)
 | .sub => lM s k (a - b)
 | .mul => lM s k (a * b)
 | .quo => (ck s (b ≠ 0)).andThen fun _ => lM s k (a.tdiv b)
 | .rem => (ck s (b ≠ 0)).andThen fun _ => ret (.int s k (a.tmod b))
 | .and | .or | .xor | .andNot => ret (.int s k (uI op k a b))
 | .eql => ret (dH s (decide (a = b)))
 | .neq => ret (dH s (!decide (a = b)))
 | .lss => ret (dH s (decide (a < b)))
 | .leq => ret (dH s (decide (a ≤ b)))
 | .gtr => ret (dH s (decide (b < a)))
 | .geq => ret (dH s (decide (b ≤ a)))
 | _ => no
def o8 (s : Bool) (k : IntKind) (op : BinOp) (a b : Int) : M AV :=
 (ck s (0 ≤ b)).andThen fun _ =>
 match op with
 | .shl => lM s k (a * 2 ^ (min b.toNat k.bits))
 | .shr => ret (.int s k (a.fdiv (2 ^ (min b.toNat k.bits))))
 | _ => no
def rE (s : Bool) (op : BinOp) (x y : Nat) : M AV :=
 match op with
 | .add => ret (.flt s (jG x y))
 | .sub => ret (.flt s (jo x y))
 | .mul => ret (.flt s (qH x y))
 | .quo => ret (.flt s (fdiv x y))
 | .eql => ret (dH s (vP x y))
 | .neq => ret (dH s (!vP x y))
 | .lss => ret (dH s (flt x y))
 | .leq => ret (dH s (Us x y))
 | .gtr => ret (dH s (Ut x y))
 | .geq => ret (dH s (fge x y))
 | _ => no
def xB (s : Bool) (op : BinOp) (a b c d : Nat) : M AV :=
 match op with
 | .add => ret (.dD s (jG a c) (jG b d))
 | .sub => ret (.dD s (jo a c) (jo b d))
 | .eql => ret (dH s (vP a c && vP b d))
 | .neq => ret (dH s (!(vP a c && vP b d)))
 | _ => no
def xC (s : Bool) (op : BinOp) (a b : List UInt8) : M AV :=
 match op with
 | .add => (ck s (a.length + b.length ≤ 9223372036854775807)).andThen fun _ => ret (.str s (a ++ b))
 | .eql => ret (dH s (a == b))
 | .neq => ret (dH s (!(a == b)))
 | .lss => ret (dH s (Op.bytesLess a b))
 | _ => no
def qL (op : BinOp) (s a b : Bool) : M AV :=
 match op with
 | .eql => ret (dH s (a == b))
 | .neq => ret (dH s (!(a == b)))
 | _ => no
def o9 (op : BinOp) (b : Bool) : M AV :=
 match op with
 | .eql => ret (.bool b)
 | .neq => ret (.bool !b)
 | _ => no
def NR (d : TypeDesc) (v v' : AV) : Option (Bool × Bool) :=
 match d, v, v' with
 | .int _, .int s k a, .int s' k' b => bif decide (k = k') then some (s || s', decide (a = b)) else none
 | .float _, .flt s a, .flt s' b => some (s || s', vP a b)
 | .string, .str s a, .str s' b => some (s || s', a == b)
 | .bool, .bool a, .bool b => some (false, a == b)
 | _, _, _ => none
def pq (P : Program) : Nat → List Field → List AV → List AV → Option (Bool × Bool)
 | _, [], [], [] => some (false, true)
 | o, f :: fs, v :: l, v' :: l' =>
  bif Nat.beq f.offset o && !(f.name == "_") then
   match P.underlying f.type with
   | some d =>
    match NR d v v', pq P (o + 1) fs l l' with
    | some x, some y => some (x.1 || y.1, x.2 && y.2)
    | _, _ => none
   | none => none
  else none
 | _, _, _, _ => none
def structEq (P : Program) (t : TypeId) (l l' : List AV) : Option (Bool × Bool) :=
 match P.underlying t with
 | some (.struct fs) => bif !P.stoodInHeld t && !P.eqGuardType P.depth t then pq P 0 fs.toList l l' else none
 | _ => none
def vV (P : Program) (t : TypeId) : Bool :=
 match P.underlying t with
 | some .bool => true
 | _ => false
def Df (P : Program) (t : TypeId) : Bool :=
 match P.underlying t with
 | some (.pointer _) => true
 | _ => false
def yE (P : Program) (t : TypeId) : Bool :=
 match P.underlying t with
 | some (.func _ _ _) => true
 | _ => false
def kV : Int := 9223372036854775808
def rF (s : Bool) (op : BinOp) (x : Nat) (m : Int) : M AV :=
 match op with
 | .xor => bif decide (m = kV) then ret (.bits s (BP x)) else (ck s (isnan x = false)).andThen fun _ => jK s .u64 op x m
 | .andNot => bif decide (m = kV) then ret (.bits s (fabs x)) else (ck s (isnan x = false)).andThen fun _ => jK s .u64 op x m
 | _ => (ck s (isnan x = false)).andThen fun _ => jK s .u64 op x m
def jV : BinOp → Bool
 | .shl | .shr => true
 | _ => false
def Yf (s : Bool) (p : Prop) : M Unit := bif s then req p else ret ()
def uJ (P : Program) (op : BinOp) (t : TypeId) (x y : AV) : M AV :=
 match x, y with
 | .int s k a, .int s' k' b => bif jV op then o8 (s || s') k op a b else bif decide (k = k') then jK (s || s') k op a b else no
 | .flt s a, .flt s' b => rE (s || s') op a b
 | .dD s a b, .dD s' c d => xB (s || s') op a b c d
 | .str s a, .str s' b => xC (s || s') op a b
 | .bits s a, .int false .u64 m => bif jV op then (ck s (isnan a = false)).andThen fun _ => o8 s .u64 op a m else rF s op a m
 | .bits s a, .int false .i64 m => bif jV op then (ck s (isnan a = false)).andThen fun _ => o8 s .u64 op a m else no
 | .bits s a, .int s' .u64 m => bif jV op then no else (ck s (isnan a = false)).andThen fun _ => jK (s || s') .u64 op a m
 | .int s .u64 n, .bits s' b => bif jV op then no else (ck s' (isnan b = false)).andThen fun _ => jK (s || s') .u64 op n b
 | .bits s a, .bits s' b => bif jV op then no else (ck s (isnan a = false)).andThen fun _ => (ck s' (isnan b = false)).andThen fun _ => jK (s || s') .u64 op a b
 | .bool a, .bool b => (dn (vV P t)).andThen fun _ => qL op false a b
 | .aP a, .bool b => (dn (vV P t)).andThen fun _ => qL op true a b
 | .bool a, .aP b => (dn (vV P t)).andThen fun _ => qL op true a b
 | .aP a, .aP b => (dn (vV P t)).andThen fun _ => qL op true a b
 | .aX, .aX => (dn (mM P t).isSome).andThen fun _ => o9 op true
 | .slc s _ _ len, .aX => (dn (mM P t).isSome).andThen fun _ => (Yf s (0 < len)).andThen fun _ => o9 op false
 | .aX, .slc s _ _ len => (dn (mM P t).isSome).andThen fun _ => (Yf s (0 < len)).andThen fun _ => o9 op false
 | .bG, .bG => (dn (Df P t)).andThen fun _ => o9 op true
 | .ptr _, .bG => (dn (Df P t)).andThen fun _ => o9 op false
 | .bG, .ptr _ => (dn (Df P t)).andThen fun _ => o9 op false
 | .xu, .xu => (dn (yE P t)).andThen fun _ => o9 op true
 | .fn .., .xu => (dn (yE P t)).andThen fun _ => o9 op false
 | .xu, .fn .. => (dn (yE P t)).andThen fun _ => o9 op false
 | .agg l, .agg l' =>
  (bF (structEq P t l l')).andThen fun x =>
  match op with
  | .eql => ret (dH x.1 x.2)
  | .neq => ret (dH x.1 (!x.2))
  | _ => no
 | _, _ => no
def Si (P : Program) (op : BinOp) (t : TypeId) (s : Bool) (k : IntKind) (a : Int) (y : AV) : M AV :=
 match y with
 | .int s' k' b => bif jV op then o8 (s || s') k op a b else bif decide (k = k') then jK (s || s') k op a b else no
 | y => uJ P op t (.int s k a) y
def Sj (P : Program) (op : BinOp) (t : TypeId) (s : Bool) (a : Nat) (y : AV) : M AV :=
 match y with
 | .flt s' b => rE (s || s') op a b
 | y => uJ P op t (.flt s a) y
def Ku (P : Program) (op : BinOp) (t : TypeId) (x y : AV) : M AV :=
 match x with
 | .int s k a => Si P op t s k a y
 | .flt s a => Sj P op t s a y
 | x => uJ P op t x y
theorem Yo (P : Program) (op : BinOp) (t : TypeId) (x y : AV) : Ku P op t x y = uJ P op t x y := by
 unfold Ku
 split
 ·unfold Si; split
  ·rfl
  ·rfl
 ·unfold Sj; split
  ·rfl
  ·rfl
 ·rfl
def unA (op : UnOp) (x : AV) : M AV :=
 match op, x with
 | .neg, .int s k n => lM s k (0 - n)
 | .neg, .flt s x => ret (.flt s (BP x))
 | .neg, .dD s x y => ret (.dD s (BP x) (BP y))
 | .not, .bool b => ret (.bool !b)
 | .not, .aP b => ret (.aP !b)
 | _, _ => no
def ofInt (n : Int) : Nat := floatOfInt .f64 n
def Ik (x : Nat) (k : IntKind) : Option Int := floatToIntVal .f64 x k
def rowsOf (a : AA) (dL sz : Nat) (c : Cont) (j : Nat) : List AV :=
 bif Nat.beq dL sz && Nat.beq a.o 0 then c.row (a.i + j) else ((c.row a.i).drop (a.o + j * dL)).take dL
def xE (s : Bool) (a : AA) (dL sz n m : Nat) : M Unit :=
 bif Nat.beq dL sz && Nat.beq a.o 0 then ck (s || a.s) (a.i + m ≤ n)
 else (ck (s || a.s) (a.i < n)).andThen fun _ => ck (s || a.s) (a.o + m * dL ≤ sz)
def Gq (d : TypeDesc) (x : AV) : M AV :=
 match d, x with
 | .int k, .int s _ n => bif s && yD k then (req (-9223372036854775808 ≤ n ∧ n ≤ 9223372036854775807)).andThen fun _ => ret (.int s k n) else ret (.int s k (k.wrap n))
 | .int k, .bits s x => (ck s (isnan x = false)).andThen fun _ => bif s && yD k then (req ((x : Int) ≤ 9223372036854775807)).andThen fun _ => ret (.int s k x) else ret (.int s k (k.wrap x))
 | .float .f64, .int s _ n => ret (.flt s (ofInt n))
 | .float .f64, .flt s x => ret (.flt s x)
 | .int k, .flt s x => (ck s ((Ik x k).isSome = true)).andThen fun _ => ret (.int s k ((Ik x k).getD 0))
 | _, _ => no
def Dh (P : Program) (src dst : TypeId) (x : AV) : M AV :=
 (bF (P.underlying src)).andThen fun _ => (bF (P.underlying dst)).andThen fun d => Gq d x
def rG (P : Program) (t : TypeId) : Bool :=
 match P.underlying t with
 | some .string => true
 | _ => false
def NS (P : Program) (t : TypeId) : AV → M AV
 | .slc s _ _ len => (dn (mM P t).isSome).andThen fun _ => ret (.int s .i64 len)
 | .aX => (dn (mM P t).isSome).andThen fun _ => ret (.int false .i64 0)
 | .str s l => (dn (rG P t)).andThen fun _ => ret (.int s .i64 l.length)
 | _ => no
def qM (d : Nat) : Option AV → Option (Bool × Int)
 | none => some (false, d)
 | some v => asInt v
def Gs (a : AA) (s : Bool) (dL sz n : Nat) : AA :=
 bif Nat.beq dL sz && Nat.beq a.o 0 then ⟨s, a.g, a.i + n, 0⟩ else ⟨s, a.g, a.i, a.o + n * dL⟩
def xG (P : Program) (t : TypeId) (x : AV) (lo hi mx : Option AV) : M AV :=
 (dn mx.isNone).andThen fun _ =>
 match x with
 | .slc s own a len =>
  (bF (mM P t)).andThen fun e =>
  (bF (lay P e)).andThen fun y =>
  (bF (qM 0 lo)).andThen fun l =>
  (bF (qM len hi)).andThen fun h =>
  (ck (s || l.1 || h.1) (0 ≤ l.2 ∧ l.2 ≤ h.2 ∧ h.2 ≤ len)).andThen fun _ =>
  bif lo.isNone then ret (.slc (s || h.1) own a h.2.toNat)
  else (jU a.g).andThen fun b => ret (.slc (s || l.1 || h.1) false (Gs a (a.s || l.1) y.1 b.2.1 l.2.toNat) (h.2.toNat - l.2.toNat))
 | .str s cs =>
  (dn (rG P t)).andThen fun _ =>
  (bF (qM 0 lo)).andThen fun l =>
  (bF (qM cs.length hi)).andThen fun h =>
  (ck (s || l.1 || h.1) (0 ≤ l.2 ∧ l.2 ≤ h.2 ∧ h.2 ≤ cs.length)).andThen fun _ => ret (.str (s || l.1 || h.1) ((cs.drop l.2.toNat).take (h.2.toNat - l.2.toNat)))
 | .ptr a =>
  (bF (Dc P t)).andThen fun ne =>
  (bF (lay P ne.2)).andThen fun _ =>
  (dn lo.isNone).andThen fun _ =>
  (bF (qM ne.1 hi)).andThen fun h =>
  (ck h.1 (0 ≤ h.2 ∧ h.2 ≤ ne.1)).andThen fun _ => ret (.slc (a.s || h.1) false a h.2.toNat)
 | _ => no
def kY (P : Program) (t : TypeId) (x ix : AV) : M AV :=
 (bF (asInt ix)).andThen fun i =>
 match x with
 | .slc s _ a len =>
  (bF (mM P t)).andThen fun e =>
  (ck (i.1 || s) (0 ≤ i.2 ∧ i.2 < len)).andThen fun _ =>
  (bF (lay P e)).andThen fun y =>
  (jU a.g).andThen fun b => ret (.ptr (Gs a (a.s || i.1 || s) y.1 b.2.1 i.2.toNat))
 | .ptr a =>
  (bF (Dc P t)).andThen fun ne =>
  (ck i.1 (0 ≤ i.2 ∧ i.2 < ne.1)).andThen fun _ =>
  (bF (lay P ne.2)).andThen fun y => ret (.ptr ⟨a.s || i.1, a.g, a.i, a.o + i.2.toNat * y.1⟩)
 | _ => no
def yF (y : Nat × Bool) (cs : List AV) (off : Nat) : M AV :=
 bif y.2 then (dn (decide (off + y.1 ≤ cs.length))).andThen fun _ => ret (.agg ((cs.drop off).take y.1)) else bF cs[off]?
def xH (P : Program) (t : TypeId) (x ix : AV) : M AV :=
 (bF (asInt ix)).andThen fun i =>
 match x with
 | .str s l => (dn (rG P t)).andThen fun _ => (ck (i.1 || s) (0 ≤ i.2 ∧ i.2 < l.length)).andThen fun _ => ret (.int (i.1 || s) .u8 (l.getD i.2.toNat 0).toNat)
 | .agg cs =>
  (bF (Dc P t)).andThen fun ne =>
  (ck i.1 (0 ≤ i.2 ∧ i.2 < ne.1)).andThen fun _ =>
  (bF (lay P ne.2)).andThen fun y => yF y cs (i.2.toNat * y.1)
 | _ => no
def Ci (P : Program) (t : TypeId) (f : Nat) : Option Field :=
 match P.underlying t with
 | some (.struct fs) => fs[f]?
 | _ => none
def kZ (P : Program) (t : TypeId) (x : AV) (f : Nat) : M AV :=
 (bF (Gp x)).andThen fun a =>
 (bF (Ci P t f)).andThen fun fd =>
 (bF (lay P fd.type)).andThen fun y =>
 (dn (!Nat.beq y.1 0)).andThen fun _ => ret (.ptr ⟨a.s, a.g, a.i, a.o + fd.offset⟩)
def xI (P : Program) (t : TypeId) (x : AV) (f : Nat) : M AV :=
 (bF (asAgg x)).andThen fun cs =>
 (bF (Ci P t f)).andThen fun fd =>
 (bF (lay P fd.type)).andThen fun y => yF y cs fd.offset
def yG (P : Program) (e : TypeId) : Option (List AV × Nat) :=
 match P.info? e, zeroOf P e with
 | some i, some z => bif Nat.beq z.cells.length i.size && z.cells.all AV.one && !Nat.beq i.size 0 then some (z.cells, i.bytes) else none
 | _, _ => none
def lu (P : Program) (t : TypeId) (l c : AV) : M AV :=
 (bF (asInt l)).andThen fun n =>
 (bF (asInt c)).andThen fun m =>
 (bF (mM P t)).andThen fun e =>
 (bF (yG P e)).andThen fun z =>
 (ck (n.1 || m.1) (0 ≤ n.2 ∧ n.2 ≤ m.2 ∧ z.2 * m.2 ≤ 140737488355328 ∧ m.2 ≤ 9223372036854775807)).andThen fun _ =>
 (iR (.cells true z.1.length n.2.toNat (bif n.1 then .fn fun _ => z.1 else .lit z.1 .e))).andThen fun nm =>
 ret (.slc n.1 true ⟨false, nm, 0, 0⟩ n.2.toNat)
def Di (place : Nat → Option (Nat × Nat)) (cells : List AV) : List (Nat × AV) → Option (List AV)
 | [] => some cells
 | (i, v) :: rest =>
  match place i with
  | none => none
  | some (off, size) =>
   bif Nat.beq v.cells.length size && decide (off + size ≤ cells.length) then Di place (splice cells off v.cells) rest else none
def placesOf (P : Program) : List Field → Option (List (Nat × Nat))
 | [] => some []
 | f :: l =>
  match lay P f.type, placesOf P l with
  | some y, some r => some ((f.offset, y.1) :: r)
  | _, _ => none
def placeOf (P : Program) (t : TypeId) : Option (Nat → Option (Nat × Nat)) :=
 match P.underlying t with
 | some (.struct fs) => (placesOf P fs.toList).map fun ps i => ps[i]?
 | some (.array _ e) => (lay P e).map fun y i => some (i * y.1, y.1)
 | _ => none
def xJ (P : Program) (t : TypeId) (parts : List (Nat × AV)) : M AV :=
 (dn (parts.all fun p => p.2.cells.all AV.one)).andThen fun _ =>
 (bF (zeroOf P t)).andThen fun z =>
 (bF (placeOf P t)).andThen fun place =>
 (bF (Di place z.cells parts)).andThen fun cs => ret (.agg cs)
def chop (sz : Nat) : Nat → List AV → T (List AV) → Nat → T (List AV)
 | 0, _, t, _ => t
 | n + 1, l, t, i => chop sz n (l.drop sz) (t.upd i (some (l.take sz))) (i + 1)
def uK (z : List AV) : Nat → List AV
 | 0 => []
 | n + 1 => z ++ uK z n
def jL (P : Program) (t : TypeId) (len : Nat) (parts : List (Nat × AV)) : M AV :=
 (bF (mM P t)).andThen fun e =>
 (bF (yG P e)).andThen fun z =>
 (dn (decide (len * z.1.length ≤ 16777216) && parts.all fun p => p.2.cells.all AV.one)).andThen fun _ =>
 (bF (Di (fun i => some (i * z.1.length, z.1.length)) (uK z.1 len) parts)).andThen fun cs =>
 (dn (cs.all AV.one)).andThen fun _ =>
 (iR (.cells true z.1.length len (.lit z.1 (chop z.1.length len cs .e 0)))).andThen fun nm => ret (.slc false true ⟨false, nm, 0, 0⟩ len)
def pz (dL : Nat) : AV → M (Bool × Nat × (Nat → List AV))
 | .aX => ret (false, 0, fun _ => [])
 | .slc s _ a len => (jU a.g).andThen fun b => (xE s a dL b.2.1 b.2.2.1 len).andThen fun _ => ret (s, len, rowsOf a dL b.2.1 b.2.2.2)
 | _ => no
def nD (P : Program) (t u : TypeId) (x y : AV) : M AV :=
 (bF (mM P t)).andThen fun e =>
 (dn (Nat.beq t u)).andThen fun _ =>
 (bF (yG P e)).andThen fun z =>
 (pz z.1.length y).andThen fun src =>
 match x with
 | .aX =>
  bif !src.1 && Nat.beq src.2.1 0 then ret .aX else
  (ck src.1 (src.2.1 * z.2 ≤ 140737488355328 ∧ src.2.1 ≤ 9223372036854775807)).andThen fun _ =>
  (iR (.cells true z.1.length src.2.1 (bif src.1 then .fn src.2.2 else Cont.more src.2.2 0 src.2.1 (.lit [] .e)))).andThen fun nm =>
  ret (.slc src.1 true ⟨false, nm, 0, 0⟩ src.2.1)
 | .slc s own a len =>
  (jU a.g).andThen fun b =>
  (dn (own && b.1 && Nat.beq b.2.1 z.1.length)).andThen fun _ =>
  (ck (s || src.1) (len ≤ b.2.2.1 ∧ (len + src.2.1) * z.2 ≤ 140737488355328 ∧ len + src.2.1 ≤ 9223372036854775807)).andThen fun _ =>
  (yC a.g).andThen fun _ =>
  (iR (.cells true z.1.length (len + src.2.1) (bif s || src.1 then .fn (fun j => bif decide (j < len) then b.2.2.2.row j else (bif Nat.beq src.2.1 1 then src.2.2 0 else src.2.2 (j - len))) else Cont.more src.2.2 len src.2.1 b.2.2.2))).andThen fun nm =>
  ret (.slc (s || src.1) true ⟨false, nm, 0, 0⟩ (len + src.2.1))
 | _ => no
def UG (x y : Nat) : Nat :=
 match iQ x y with
 | none => qn
 | some .lt => y
 | some .gt => x
 | some .eq => bif decide (9223372036854775808 ≤ x) then y else x
def UH (x y : Nat) : Nat :=
 match iQ x y with
 | none => qn
 | some .lt => x
 | some .gt => y
 | some .eq => bif decide (9223372036854775808 ≤ x) then x else y
def Kv (x y : AV) : M AV :=
 match x, y with
 | .int s k a, .int s' k' b => bif decide (k = k') then ret (.int (s || s') k (if b > a then b else a)) else no
 | .flt s a, .flt s' b => ret (.flt (s || s') (UG a b))
 | _, _ => no
def Kw (x y : AV) : M AV :=
 match x, y with
 | .int s k a, .int s' k' b => bif decide (k = k') then ret (.int (s || s') k (if b < a then b else a)) else no
 | .flt s a, .flt s' b => ret (.flt (s || s') (UH a b))
 | _, _ => no
def wU (f : AV → AV → M AV) : AV → List AV → M AV
 | x, [] => ret x
 | x, y :: l => (f x y).andThen fun z => wU f z l
def pF (P : Program) (b : Builtin) (ts : List TypeId) (args : List AV) : M AV :=
 match b, ts, args with
 | .len, [t], [x] => NS P t x
 | .real, _, [.dD s x _] => ret (.flt s x)
 | .imag, _, [.dD s _ y] => ret (.flt s y)
 | .complex, _, [.flt s x, .flt s' y] => ret (.dD (s || s') x y)
 | .append, [t, u], [x, y] => nD P t u x y
 | .max, _, x :: l => wU Kv x l
 | .min, _, x :: l => wU Kw x l
 | _, _, _ => no
inductive MK where
 | si
 | ii
def isZ : Option AV → Bool
 | some (.int false .i64 0) => true
 | _ => false
def Ky (P : Program) (t : TypeId) : Option MK :=
 match P.underlying t with
 | some (.map k e) =>
  bif isZ (zeroOf P e) then
   match P.underlying k with
   | some .string => some .si
   | some (.int .i64) => some .ii
   | _ => none
  else none
 | _ => none
def dG {α : Type} (eq : α → α → Bool) (x : α) : List (α × Int) → Option Int
 | [] => none
 | p :: l => bif eq x p.1 then some p.2 else dG eq x l
def rH {α : Type} (eq : α → α → Bool) (x : α) (v : Int) : List (α × Int) → List (α × Int)
 | [] => [(x, v)]
 | p :: l => bif eq x p.1 then (x, v) :: l else p :: rH eq x v l
def seq (a b : List UInt8) : Bool := a == b
def ieq (a b : Int) : Bool := a == b
def oh (ok s : Bool) (r : Option Int) : AV := bif ok then .iD [.int s .i64 (r.getD 0), dH s r.isSome] else .int s .i64 (r.getD 0)
def Kz : aF → Option (Bool × List (List UInt8 × Int))
 | .aW s l => some (s, l)
 | _ => none
def Yp : aF → Option (Bool × List (Int × Int))
 | .RZ s l => some (s, l)
 | _ => none
def UJ : aF → Option (Bool × List UInt8 × Nat)
 | .sit s l n => some (s, l, n)
 | _ => none
def lookA (P : Program) (t : TypeId) (x ix : AV) (ok : Bool) : M AV :=
 (bF (Ky P t)).andThen fun mk =>
 match mk, x, ix with
 | .si, .zS, .str s _ => ret (oh ok s none)
 | .ii, .zS, .int s .i64 _ => ret (oh ok s none)
 | .si, .mp g, .str s k => (qm g).andThen fun b => (bF (Kz b)).andThen fun y => ret (oh ok (s || y.1) (dG seq k y.2))
 | .ii, .mp g, .int s .i64 k => (qm g).andThen fun b => (bF (Yp b)).andThen fun y => ret (oh ok (s || y.1) (dG ieq k y.2))
 | _, _, _ => no
def qx (P : Program) (t : TypeId) (m k v : AV) : M Unit :=
 (bF (Ky P t)).andThen fun mk =>
 match mk, m, k, v with
 | .si, .mp g, .str s k, .int s' .i64 v => (qm g).andThen fun b => (bF (Kz b)).andThen fun y => setB g (.aW (s || s' || y.1) (rH seq k v y.2))
 | .ii, .mp g, .int s .i64 k, .int s' .i64 v => (qm g).andThen fun b => (bF (Yp b)).andThen fun y => setB g (.RZ (s || s' || y.1) (rH ieq k v y.2))
 | _, _, _, _ => no
def afv : MK → aF
 | .si => .aW false []
 | .ii => .RZ false []
def UK : Option AV → Bool
 | none => true
 | some v => (asInt v).isSome
def pG (P : Program) (t : TypeId) (r : Option AV) : M AV :=
 (bF (Ky P t)).andThen fun mk => (dn (UK r)).andThen fun _ => (iR (afv mk)).andThen fun nm => ret (.mp nm)
def UL : AV → Option (Bool × List UInt8)
 | .str s l => some (s, l)
 | _ => none
def xK (P : Program) (t : TypeId) (x : AV) : M AV :=
 (bF (UL x)).andThen fun y => (dn (rG P t)).andThen fun _ => (iR (.sit y.1 y.2 0)).andThen fun nm => ret (.ptr ⟨false, nm, 0, 0⟩)
def NT (s b : Bool) : M Bool := bif s then dec b else ret b
def Dj (it : AV) (isString : Bool) : M AV :=
 (dn isString).andThen fun _ =>
 (bF (Gp it)).andThen fun a =>
 (dn (Nat.beq a.i 0 && Nat.beq a.o 0)).andThen fun _ =>
 (qm a.g).andThen fun b =>
 (bF (UJ b)).andThen fun y =>
 (NT y.1 (decide (y.2.2 < y.2.1.length))).andThen fun d =>
 bif d then (setB a.g (.sit y.1 y.2.1 (y.2.2 + (Utf8.decode ⟨y.2.1.toArray⟩ y.2.2).2))).andThen fun _ => ret (.iD [.bool true, .int y.1 .i64 y.2.2, .int y.1 .i32 (Utf8.decode ⟨y.2.1.toArray⟩ y.2.2).1])
 else ret (.iD [.bool false])
def byteOf : List AV → Option Int
 | [.int _ .u8 n] => some n
 | _ => none
def afw : List AV → Bool
 | [.int s .u8 _] => s
 | _ => false
def bytesOf (rows : Nat → List AV) : Nat → Nat → Option (List Int)
 | _, 0 => some []
 | i, n + 1 =>
  match byteOf (rows i), bytesOf rows (i + 1) n with
  | some x, some l => some (x :: l)
  | _, _ => none
def UM (rows : Nat → List AV) : Nat → Nat → Bool
 | _, 0 => false
 | i, n + 1 => afw (rows i) || UM rows (i + 1) n
def isBytes (P : Program) (t : TypeId) : Bool :=
 match mM P t with
 | some e =>
  match P.underlying e with
  | some (.int .u8) => true
  | _ => false
 | none => false
def A8 (P : Program) (src dst : TypeId) (x : AV) : M AV :=
 (dn (isBytes P src && rG P dst)).andThen fun _ =>
 (pz 1 x).andThen fun y =>
 (dn !y.1).andThen fun _ =>
 (bF (bytesOf y.2.2 0 y.2.1)).andThen fun l => ret (.str (UM y.2.2 0 y.2.1) (l.map fun n => UInt8.ofNat n.toNat))
def rJ (P : Program) (src dst : TypeId) (x : AV) : M AV :=
 match x with
 | .slc s own a len => A8 P src dst (.slc s own a len)
 | .aX => A8 P src dst .aX
 | x => Dh P src dst x
abbrev Fr := T AV
def bZ (fr : Fr) : Operand → AV
 | .tmp t => (fr.get t).getD .top
 | .const v => gZ v
 | .global _ => .top
 | .func f => .fn (.func f) [] []
abbrev Calls' := FuncId → List AV → M AV
def NU (P : Program) (call : Calls') (fr : Fr) (o : Oper) : M AV :=
 match o.op with
 | .move x => ret (bZ fr x)
 | .assign x => ret (bZ fr x)
 | .pick c a b =>
  match bZ fr c with
  | .bool t => ret (bif t then bZ fr a else bZ fr b)
  | .aP t => (dec t).andThen fun d => ret (bif d then bZ fr a else bZ fr b)
  | _ => no
 | .alloc e => (bF (zeroOf P e)).andThen fun z => Kt z
 | .box e x => Kt (bZ fr x)
 | .build t ps => xJ P t (ps.toList.map fun p => (p.1, bZ fr p.2))
 | .buildSlice t len ps => jL P t len (ps.toList.map fun p => (p.1, bZ fr p.2))
 | .load t x => (bF (Gp (bZ fr x))).andThen fun a => wS P t a
 | .store t x v => (bF (Gp (bZ fr x))).andThen fun a => (xA P t a (bZ fr v)).andThen fun _ => ret .top
 | .nilCheck x =>
  match bZ fr x with
  | .ptr a => ret (.ptr a)
  | .fn (.func f) l c => ret (.fn (.func f) l c)
  | _ => no
 | .binOp op t x y _ => Ku P op t (bZ fr x).fl (bZ fr y).fl
 | .unOp op _ x => unA op (bZ fr x).fl
 | .convert s d x => rJ P s d (bZ fr x).fl
 | .lookup t x i ok => lookA P t (bZ fr x) (bZ fr i) ok
 | .mapUpdate t m k x => (qx P t (bZ fr m) (bZ fr k) (bZ fr x)).andThen fun _ => ret .top
 | .insert t m k x => (qx P t (bZ fr m) (bZ fr k) (bZ fr x)).andThen fun _ => ret .top
 | .makeMap t r => pG P t (r.map (bZ fr))
 | .range t x => xK P t (bZ fr x)
 | .next it s => Dj (bZ fr it) s
 | .makeFunc f l c => ret (.fn f (l.toList.map (bZ fr)) (c.toList.map (bZ fr)))
 | .makeSlice t l c => lu P t (bZ fr l) (bZ fr c)
 | .slice t x lo hi mx => xG P t (bZ fr x) (lo.map (bZ fr)) (hi.map (bZ fr)) (mx.map (bZ fr))
 | .fieldAddr t x f => kZ P t (bZ fr x) f
 | .field t x f => xI P t (bZ fr x) f
 | .indexAddr t x i => kY P t (bZ fr x) (bZ fr i)
 | .index t x i => xH P t (bZ fr x) (bZ fr i)
 | .extract x i =>
  match bZ fr x with
  | .iD l => bF l[i]?
  | _ => no
 | .call c =>
  match c.callee with
  | .value f =>
   match bZ fr f with
   | .fn (.func k) l cap => call k (l ++ c.args.toList.map (bZ fr) ++ cap)
   | _ => no
  | .builtin b => pF P b c.argTypes.toList (c.args.toList.map fun x => (bZ fr x).fl)
  | .invoke _ _ => no
 | _ => no
def uM (n : Nat) (fr : Fr) (dst : Option Tmp) (v : AV) : M Fr :=
 match dst with
 | some d => bif Nat.blt d n then ret (fr.upd d (some v)) else no
 | none => ret fr
def kF (P : Program) (call : Calls') (n : Nat) (all : List Oper) : List Oper → Fr → M Fr
 | [], fr => ret fr
 | o :: rest, fr =>
  match o.guard with
  | none => (NU P call fr o).andThen fun v => (uM n fr o.dst v).andThen fun fr' => kF P call n all rest fr'
  | some (j, want) =>
   match (all[j]?).bind (·.dst) with
   | none => no
   | some d =>
    match fr.get d with
    | some (.bool b) =>
     bif b == want then (NU P call fr o).andThen fun v => (uM n fr o.dst v).andThen fun fr' => kF P call n all rest fr'
     else (uM n fr o.dst (.iD [])).andThen fun fr' => kF P call n all rest fr'
    | some (.aP b) =>
     (dec b).andThen fun t =>
     bif t == want then (NU P call (fr.upd d (some (.bool t))) o).andThen fun v => (uM n (fr.upd d (some (.bool t))) o.dst v).andThen fun fr' => kF P call n all rest fr'
     else (uM n (fr.upd d (some (.bool t))) o.dst (.iD [])).andThen fun fr' => kF P call n all rest fr'
    | some (.iD _) => (uM n fr o.dst (.iD [])).andThen fun fr' => kF P call n all rest fr'
    | _ => no
def Yg (P : Program) (call : Calls') (n : Nat) (fr : Fr) (o : Oper) : M Fr := (NU P call fr o).andThen fun v => uM n fr o.dst v
def Ba (n : Nat) (fr : Fr) (o : Oper) : M Fr := uM n fr o.dst (.iD [])
def oV (P : Program) (call : Calls') (n : Nat) (all : List Oper) (o : Oper) (fr : Fr) (p : Nat × Bool) : M Fr :=
 match (all[p.1]?).bind (·.dst) with
 | none => no
 | some d =>
  match fr.get d with
  | some (.bool b) => bif b == p.2 then Yg P call n fr o else Ba n fr o
  | some (.aP b) => (dec b).andThen fun t => bif t == p.2 then Yg P call n (fr.upd d (some (.bool t))) o else Ba n (fr.upd d (some (.bool t))) o
  | some (.iD _) => Ba n fr o
  | _ => no
def Dk (P : Program) (call : Calls') (n : Nat) (all : List Oper) (o : Oper) (fr : Fr) : M Fr :=
 match o.guard with
 | none => Yg P call n fr o
 | some p => oV P call n all o fr p
def zT (P : Program) (call : Calls') (n : Nat) (all : List Oper) (l : List Oper) : Fr → M Fr :=
 List.rec (fun fr => ret fr) (fun o _ ih fr => (Dk P call n all o fr).andThen ih) l
theorem M.assoc {α β γ : Type} (x : M α) (f : α → M β) (k : β → M γ) : (x.andThen f).andThen k = x.andThen fun a => (f a).andThen k := by
 funext g
 unfold M.andThen
 cases x g <;> rfl
theorem M.Yq {α β : Type} (k : α → M β) : (M.no : M α).andThen k = M.no := rfl
theorem Sl {α β : Type} (b : Bool) (x y : M α) (k : α → M β) : (bif b then x else y).andThen k = bif b then x.andThen k else y.andThen k := by cases b <;> rfl
theorem Sm (P : Program) (call : Calls') (n : Nat) (all : List Oper) (o : Oper) (l : List Oper) (fr : Fr) : zT P call n all (o :: l) fr = (Dk P call n all o fr).andThen (zT P call n all l) := rfl
theorem rM (P : Program) (call : Calls') (n : Nat) (all : List Oper) : ∀ (l : List Oper) (fr : Fr), zT P call n all l fr = kF P call n all l fr
 | [], fr => rfl
 | o :: l, fr => by
  have ih : zT P call n all l = kF P call n all l := by funext fr; exact rM P call n all l fr
  rw [Sm, ih]
  unfold kF Dk
  cases o.guard with
  | none => simp only [Yg, M.assoc]
  | some p =>
   obtain ⟨j, want⟩ := p
   simp only [oV]
   cases (all[j]?).bind (·.dst) with
   | none => rfl
   | some d =>
    simp only
    cases fr.get d with
    | none => rfl
    | some v => cases v <;> simp only [Yg, Ba, M.assoc, Sl, M.Yq]
inductive Ex where
 | normal
 | exit (id : Nat)
 | ret
def loopA (body : Fr → M (Ex × Fr)) : Nat → Fr → M (Ex × Fr)
 | 0, _ => no
 | n + 1, fr => (body fr).andThen fun r =>
  match r.1 with
  | .normal => loopA body n r.2
  | e => M.ret (e, r.2)
abbrev Loops := Nat → Option (Fr → M (Ex × Fr))
def lQ : Loops := fun _ => none
def cu (P : Program) (call : Calls') (region : List Oper → Fr → M Fr) (loops : Loops) (n rounds : Nat) : Code → Fr → M (Ex × Fr)
 | .skip, fr => ret (.normal, fr)
 | .region _ ops false, fr => (zT P call n ops.toList ops.toList fr).andThen fun fr => ret (.normal, fr)
 | .region _ ops true, fr => (region ops.toList fr).andThen fun fr => ret (.normal, fr)
 | .seq a b, fr => (cu P call region loops n rounds a fr).andThen fun r =>
  match r.1 with
  | .normal => cu P call region loops n rounds b r.2
  | e => ret (e, r.2)
 | .cond c x y, fr =>
  match bZ fr c with
  | .bool t => bif t then cu P call region loops n rounds x fr else cu P call region loops n rounds y fr
  | .aP t => (dec t).andThen fun d => bif d then cu P call region loops n rounds x fr else cu P call region loops n rounds y fr
  | _ => no
 | .block id c, fr =>
  match loops id with
  | some S => S fr
  | none => (cu P call region loops n rounds c fr).andThen fun r =>
   match r.1 with
   | .exit id' => bif Nat.beq id' id then ret (.normal, r.2) else ret r
   | _ => ret r
 | .loop c, fr => loopA (cu P call region loops n rounds c) rounds fr
 | .exit id, fr => ret (.exit id, fr)
 | .ret, fr => ret (.ret, fr)
 | _, _ => no
def lS (P : Program) (fr : Fr) : ResultVar → M AV
 | .tmp t => ret ((fr.get t).getD .top)
 | .cell a t =>
  match (fr.get a).getD .top with
  | .ptr ad => wS P t ad
  | _ => no
def dA (P : Program) (fr : Fr) : List ResultVar → M (List AV)
 | [] => ret []
 | r :: l => (lS P fr r).andThen fun v => (dA P fr l).andThen fun vs => ret (v :: vs)
def bJ : List AV → Nat → Fr → Fr
 | [], _, fr => fr
 | v :: l, i, fr => bJ l (i + 1) (fr.upd i (some v))
abbrev Known := FuncId → Option (List AV → M AV)
def FZ (P : Program) (Γ : Known) (Λ : FuncId → Loops) (region : Calls' → Nat → List Oper → Fr → M Fr) (rounds : Nat) : Nat → FuncId → List AV → M AV
 | 0, _, _ => no
 | n + 1, f, args =>
  match Γ f with
  | some s => s args
  | none =>
   match P.funcs[f]? with
   | none => no
   | some fn =>
    match fn.body with
    | none => no
    | some c =>
     (cu P (FZ P Γ Λ region rounds n) (region (FZ P Γ Λ region rounds n) fn.ntmps) (Λ f) fn.ntmps rounds c (bJ args 0 .e)).andThen fun r =>
     match r.1 with
     | .exit _ => no
     | _ => (dA P r.2 fn.results.toList).andThen fun vs =>
      match vs with
      | [v] => ret v
      | _ => ret (.iD vs)
end Go.Sx
namespace Go.Sx
open M
structure MM where
 blk : Nat → Nat
 cap : Nat → Nat
 sz : Nat → Nat
 base : Nat → Nat
def MM.addr (μ : MM) (a : AA) : Addr := ⟨μ.blk a.g, μ.base a.g + a.i * μ.sz a.g + a.o, none⟩
def FB (x b : Nat) : Prop := cn b = x ∧ b < 18446744073709551616
def yH (μ : MM) (s own : Bool) (a : AA) (len : Nat) (c : Value) : Prop :=
 ∃ A C, c = .slice A len C ∧ len ≤ C ∧ (0 < len → A = some (μ.addr a)) ∧ (s = false → A.isSome = true) ∧
  (own = true → a.i = 0 ∧ a.o = 0 ∧ ((A = none ∧ C = 0 ∧ len = 0) ∨ (A = some ⟨μ.blk a.g, 0, none⟩ ∧ C = μ.cap a.g)))
mutual
def Rep (N : Nat) (μ : MM) : AV → Value → Prop
 | .top, _ => True
 | .bool b, c => c = .bool b
 | .aP b, c => c = .bool b
 | .int _ k n, c => c = .int k n
 | .flt _ x, c => ∃ b, c = .float .f64 b ∧ FB x b
 | .raw _ x, c => c = .float .f64 x ∧ x < 18446744073709551616
 | .bits _ x, c => ∃ b : Nat, c = .int .u64 b ∧ FB x b
 | .dD _ x y, c => ∃ a b, c = .complex .f64 a b ∧ FB x a ∧ FB y b
 | .str _ l, c => c = .string ⟨l.toArray⟩
 | .ptr a, c => a.g < N ∧ c = .pointer (some (μ.addr a))
 | .bG, c => c = .pointer none
 | .slc s own a len, c => a.g < N ∧ yH μ s own a len c
 | .aX, c => c = .slice none 0 0
 | .mp g, c => g < N ∧ c = .map (some (μ.blk g))
 | .zS, c => c = .map none
 | .fn f l cap, c => ∃ fs cs, c = .func f fs cs ∧ aI N μ l fs.toList ∧ aI N μ cap cs.toList
 | .xu, c => c = .nilFunc
 | .C9, c => c = .nilIface
 | .agg l, c => ∃ cs, c = .agg cs ∧ aI N μ l cs.toList
 | .iD l, c => ∃ cs, c = .tuple cs ∧ aI N μ l cs.toList
def aI (N : Nat) (μ : MM) : List AV → List Value → Prop
 | [], cs => cs = []
 | v :: l, cs => ∃ c r, cs = c :: r ∧ Rep N μ v c ∧ aI N μ l r
end
theorem aI.length {N : Nat} {μ : MM} : ∀ {l : List AV} {cs : List Value}, aI N μ l cs → cs.length = l.length
 | [], cs, h => by simp only [aI] at h; simp [h]
 | v :: l, cs, h => by
  simp only [aI] at h
  obtain ⟨c, r, rfl, _, h⟩ := h
  simp [aI.length h]
theorem aI.get {N : Nat} {μ : MM} : ∀ {l : List AV} {cs : List Value}, aI N μ l cs → ∀ {i : Nat} {v : AV}, l[i]? = some v → ∃ c, cs[i]? = some c ∧ Rep N μ v c
 | [], cs, h, i, v, hv => by simp at hv
 | u :: l, cs, h, i, v, hv => by
  simp only [aI] at h
  obtain ⟨c, r, rfl, hu, h⟩ := h
  cases i with
  | zero => simp at hv; subst hv; exact ⟨c, rfl, hu⟩
  | succ i => simpa using aI.get h (by simpa using hv)
theorem aI.Dl {N : Nat} {μ : MM} : ∀ {l : List AV} {cs : List Value}, cs.length = l.length → (∀ (i : Nat) (v : AV), l[i]? = some v → ∃ c, cs[i]? = some c ∧ Rep N μ v c) → aI N μ l cs
 | [], cs, hl, _ => by simp only [aI]; exact List.eq_nil_of_length_eq_zero hl
 | v :: l, [], hl, _ => by simp at hl
 | v :: l, c :: r, hl, h => by
  simp only [aI]
  obtain ⟨c', hc, hv⟩ := h 0 v rfl
  simp at hc
  subst hc
  exact ⟨c, r, rfl, hv, aI.Dl (by simpa using hl) fun i u hu => by simpa using h (i + 1) u (by simpa using hu)⟩
theorem aI.drop {N : Nat} {μ : MM} {l : List AV} {cs : List Value} (h : aI N μ l cs) (n : Nat) : aI N μ (l.drop n) (cs.drop n) :=
 .Dl (by simp [h.length]) fun i v hv => by
  rw [List.getElem?_drop] at hv ⊢; exact h.get hv
theorem aI.take {N : Nat} {μ : MM} {l : List AV} {cs : List Value} (h : aI N μ l cs) (n : Nat) : aI N μ (l.take n) (cs.take n) :=
 .Dl (by simp [h.length]) fun i v hv => by
  rw [List.getElem?_take] at hv ⊢
  split at hv
  ·rename_i hi; rw [if_pos hi]; exact h.get hv
  ·cases hv
theorem aI.append {N : Nat} {μ : MM} : ∀ {l : List AV} {cs : List Value} {l' : List AV} {cs' : List Value}, aI N μ l cs → aI N μ l' cs' → aI N μ (l ++ l') (cs ++ cs')
 | [], cs, l', cs', h, h' => by simp only [aI] at h; subst h; exact h'
 | v :: l, cs, l', cs', h, h' => by
  simp only [aI] at h
  obtain ⟨c, r, rfl, hv, h⟩ := h
  simp only [List.cons_append, aI]
  exact ⟨c, r ++ cs', rfl, hv, h.append h'⟩
theorem aI.map {N : Nat} {μ : MM} {α : Type} (f : α → AV) (f' : α → Value) : ∀ (l : List α), (∀ x, x ∈ l → Rep N μ (f x) (f' x)) → aI N μ (l.map f) (l.map f')
 | [], _ => by simp [aI]
 | x :: l, h => by
  simp only [List.map_cons, aI]
  exact ⟨_, _, rfl, h x (by simp), aI.map f f' l fun y hy => h y (by simp [hy])⟩
structure MM.upto (N : Nat) (μ μ' : MM) : Prop where
 blk : ∀ g, g < N → μ'.blk g = μ.blk g
 cap : ∀ g, g < N → μ'.cap g = μ.cap g
 sz : ∀ g, g < N → μ'.sz g = μ.sz g
 base : ∀ g, g < N → μ'.base g = μ.base g
theorem MM.upto.refl (N : Nat) (μ : MM) : MM.upto N μ μ := ⟨fun _ _ => rfl, fun _ _ => rfl, fun _ _ => rfl, fun _ _ => rfl⟩
theorem MM.upto.trans {N N' : Nat} {a b c : MM} (h : MM.upto N a b) (k : MM.upto N' b c) (hN : N ≤ N') : MM.upto N a c :=
 ⟨fun g hg => (k.blk g (by omega)).trans (h.blk g hg), fun g hg => (k.cap g (by omega)).trans (h.cap g hg), fun g hg => (k.sz g (by omega)).trans (h.sz g hg), fun g hg => (k.base g (by omega)).trans (h.base g hg)⟩
theorem MM.upto.addr {N : Nat} {μ μ' : MM} (h : MM.upto N μ μ') {a : AA} (ha : a.g < N) : μ'.addr a = μ.addr a := by
 simp [MM.addr, h.blk _ ha, h.sz _ ha, h.base _ ha]
mutual
theorem Rep.later {N N' : Nat} {μ μ' : MM} (h : MM.upto N μ μ') (hN : N ≤ N') : ∀ {v : AV} {c : Value}, Rep N μ v c → Rep N' μ' v c
 | .top, _, _ => by simp [Rep]
 | .bool _, _, r => by simpa [Rep] using r
 | .aP _, _, r => by simpa [Rep] using r
 | .int .., _, r => by simpa [Rep] using r
 | .flt .., _, r => by simpa [Rep] using r
 | .raw .., _, r => by simpa [Rep] using r
 | .bits .., _, r => by simpa [Rep] using r
 | .dD .., _, r => by simpa [Rep] using r
 | .str .., _, r => by simpa [Rep] using r
 | .ptr a, _, r => by
  simp only [Rep] at r ⊢
  exact ⟨by omega, by rw [h.addr r.1]; exact r.2⟩
 | .bG, _, r => by simpa [Rep] using r
 | .slc _ own a len, _, r => by
  simp only [Rep, yH] at r ⊢
  obtain ⟨hg, A, C, rfl, hl, h1, h3, h2⟩ := r
  exact ⟨by omega, A, C, rfl, hl, by rw [h.addr hg]; exact h1, h3, by rw [h.blk _ hg, h.cap _ hg]; exact h2⟩
 | .aX, _, r => by simpa [Rep] using r
 | .mp g, _, r => by
  simp only [Rep] at r ⊢
  exact ⟨by omega, by rw [h.blk _ r.1]; exact r.2⟩
 | .zS, _, r => by simpa [Rep] using r
 | .fn f l cap, _, r => by
  simp only [Rep] at r ⊢
  obtain ⟨fs, cs, rfl, h1, h2⟩ := r
  exact ⟨fs, cs, rfl, aI.later h hN h1, aI.later h hN h2⟩
 | .xu, _, r => by simpa [Rep] using r
 | .C9, _, r => by simpa [Rep] using r
 | .agg l, _, r => by
  simp only [Rep] at r ⊢
  obtain ⟨cs, rfl, h1⟩ := r
  exact ⟨cs, rfl, aI.later h hN h1⟩
 | .iD l, _, r => by
  simp only [Rep] at r ⊢
  obtain ⟨cs, rfl, h1⟩ := r
  exact ⟨cs, rfl, aI.later h hN h1⟩
theorem aI.later {N N' : Nat} {μ μ' : MM} (h : MM.upto N μ μ') (hN : N ≤ N') : ∀ {l : List AV} {cs : List Value}, aI N μ l cs → aI N' μ' l cs
 | [], _, r => by simpa [aI] using r
 | v :: l, _, r => by
  simp only [aI] at r ⊢
  obtain ⟨c, t, rfl, h1, h2⟩ := r
  exact ⟨c, t, rfl, Rep.later h hN h1, aI.later h hN h2⟩
end
theorem Rep.ql {N : Nat} {μ : MM} {v : AV} {c : Value} (h : Rep N μ v c) : Rep N μ v.ql c := by
 cases v with
 | raw s x => simp only [Rep] at h; simp only [AV.ql, Rep]; exact ⟨x, h.1, rfl, h.2⟩
 | _ => exact h
theorem aI.ql {N : Nat} {μ : MM} : ∀ {l : List AV} {cs : List Value}, aI N μ l cs → aI N μ (l.map AV.ql) cs
 | [], _, h => h
 | v :: l, _, h => by
  simp only [aI, List.map_cons] at h ⊢
  obtain ⟨c, r, rfl, h1, h2⟩ := h
  exact ⟨c, r, rfl, h1.ql, aI.ql h2⟩
theorem Rep.fl {N : Nat} {μ : MM} {v : AV} {c : Value} (h : Rep N μ v c) : Rep N μ v.fl c := by
 cases v with
 | raw s x => exact Rep.ql h
 | agg l =>
  simp only [Rep, AV.fl] at h ⊢
  obtain ⟨cs, rfl, h1⟩ := h
  exact ⟨cs, rfl, h1.ql⟩
 | _ => exact h
def jv (N : Nat) (μ : MM) (row : List AV) (sz : Nat) (cur : Array Value) (base : Nat) : Prop :=
 row.length = sz ∧ ∀ (o : Nat) (v : AV), row[o]? = some v → v.one = true ∧ ∃ c, cur[base + o]? = some c ∧ Rep N μ v c
def aF.owned : aF → Bool
 | .cells own .. => own
 | _ => true
def aF.real (μ : MM) (g : Nat) : aF → Prop
 | .cells own _ n _ => 0 < n ∨ (own = true ∧ 0 < μ.cap g)
 | _ => True
def abB (l : List (List UInt8 × Int)) (es : List MapEntry) : Prop := es.map (fun e => (e.key, e.val)) = l.map fun p => (Value.string ⟨p.1.toArray⟩, Value.int .i64 p.2)
def abC (l : List (Int × Int)) (es : List MapEntry) : Prop := es.map (fun e => (e.key, e.val)) = l.map fun p => (Value.int .i64 p.1, Value.int .i64 p.2)
def dw (N : Nat) (μ : MM) (hp : Array Obj) (g : Nat) : aF → Prop
 | .cells own sz n c => μ.sz g = sz ∧ 0 < sz ∧ ((0 < n ∨ (own = true ∧ 0 < μ.cap g)) → ∃ cur ty fz, hp[μ.blk g]? = some (.cells cur ty fz) ∧ μ.base g + n * sz ≤ cur.size ∧
   (own = true → fz = (0, 0) ∧ cur.size = μ.cap g * sz ∧ μ.base g = 0) ∧ ∀ i, i < n → jv N μ (c.row i) sz cur (μ.base g + i * sz))
 | .aW _ l => ∃ es clock, hp[μ.blk g]? = some (.map es clock) ∧ abB l es.toList
 | .RZ _ l => ∃ es clock, hp[μ.blk g]? = some (.map es clock) ∧ abC l es.toList
 | .sit _ l pos => hp[μ.blk g]? = some (.stringIter ⟨l.toArray⟩ pos) ∧ μ.base g = 0
structure eX (N : Nat) (μ : MM) (hp : Array Obj) (H : T aF) : Prop where
 lt : ∀ g b, H.get g = some b → g < N
 ok : ∀ g b, H.get g = some b → dw N μ hp g b
 sep : ∀ g b g' b', H.get g = some b → H.get g' = some b' → b.owned = true → b.real μ g → b'.real μ g' → μ.blk g = μ.blk g' → g = g'
def May (μ : MM) (H : T aF) (B : Nat) : Prop := ∃ g b, H.get g = some b ∧ b.owned = true ∧ b.real μ g ∧ μ.blk g = B
structure Ext (g : G) (μ : MM) (w : World) (g' : G) (μ' : MM) (w' : World) : Prop where
 nx : g.nx ≤ g'.nx
 names : MM.upto g.nx μ μ'
 os : w'.os = w.os
 tape : w'.tape = w.tape
 output : w'.output = w.output
 size : w.heap.size ≤ w'.heap.size
 block : ∀ B, B < w.heap.size → ¬ May μ g.H B → w'.heap[B]? = w.heap[B]?
 may : ∀ B, B < w.heap.size → May μ' g'.H B → May μ g.H B
theorem Ext.trans {g g' g'' : G} {μ μ' μ'' : MM} {w w' w'' : World} (h : Ext g μ w g' μ' w') (k : Ext g' μ' w' g'' μ'' w'') : Ext g μ w g'' μ'' w'' where
 nx := Nat.le_trans h.nx k.nx
 names := h.names.trans k.names h.nx
 os := k.os.trans h.os
 tape := k.tape.trans h.tape
 output := k.output.trans h.output
 size := Nat.le_trans h.size k.size
 block := fun B hB hn => (k.block B (Nat.lt_of_lt_of_le hB h.size) fun hm => hn (h.may B hB hm)).trans (h.block B hB hn)
 may := fun B hB hm => h.may B hB (k.may B (Nat.lt_of_lt_of_le hB h.size) hm)
theorem Ext.drawn {g g' : G} (μ : MM) (w : World) (n : Nat) (hH : g'.H = g.H) (hn : g'.nx = g.nx) : Ext g μ w g' μ { w with drawn := n } where
 nx := by rw [hn]; exact Nat.le_refl _
 names := .refl _ _
 os := rfl
 tape := rfl
 output := rfl
 size := Nat.le_refl _
 block := fun _ _ _ => rfl
 may := fun B _ hm => by rw [hH] at hm; exact hm
theorem Ext.same {g g' : G} (μ : MM) (w : World) (hH : g'.H = g.H) (hn : g'.nx = g.nx) : Ext g μ w g' μ w := Ext.drawn μ w w.drawn hH hn
theorem jv.later {N N' : Nat} {μ μ' : MM} (h : MM.upto N μ μ') (hN : N ≤ N') {row : List AV} {sz : Nat} {cur : Array Value} {base : Nat} (r : jv N μ row sz cur base) : jv N' μ' row sz cur base :=
 ⟨r.1, fun o v hv => let ⟨h0, c, h1, h2⟩ := r.2 o v hv; ⟨h0, c, h1, Rep.later h hN h2⟩⟩
theorem aF.bH {N : Nat} {μ μ' : MM} (h : MM.upto N μ μ') {g : Nat} (hg : g < N) (b : aF) : b.real μ' g ↔ b.real μ g := by
 cases b <;> simp [aF.real, h.cap g hg]
theorem dw.later {N N' : Nat} {μ μ' : MM} (h : MM.upto N μ μ') (hN : N ≤ N') {hp hp' : Array Obj} {g : Nat} (hg : g < N) {b : aF} (hB : b.real μ g → hp'[μ.blk g]? = hp[μ.blk g]?) (r : dw N μ hp g b) : dw N' μ' hp' g b := by
 cases b with
 | cells own sz n c =>
  simp only [dw, h.blk g hg, h.cap g hg, h.sz g hg, h.base g hg] at r ⊢
  refine ⟨r.1, r.2.1, fun hr => ?_⟩
  obtain ⟨cur, ty, fz, h1, h2, h3, h4⟩ := r.2.2 hr
  exact ⟨cur, ty, fz, (hB hr).trans h1, h2, h3, fun i hi => (h4 i hi).later h hN⟩
 | aW s l =>
  simp only [dw, h.blk g hg] at r ⊢
  obtain ⟨es, cl, h1, h2⟩ := r
  exact ⟨es, cl, (hB trivial).trans h1, h2⟩
 | RZ s l =>
  simp only [dw, h.blk g hg] at r ⊢
  obtain ⟨es, cl, h1, h2⟩ := r
  exact ⟨es, cl, (hB trivial).trans h1, h2⟩
 | sit s l pos =>
  simp only [dw, h.blk g hg, h.base g hg] at r ⊢
  exact ⟨(hB trivial).trans r.1, r.2⟩
theorem dw.lt_size {N : Nat} {μ : MM} {hp : Array Obj} {g : Nat} {b : aF} (r : dw N μ hp g b) (hr : b.real μ g) : μ.blk g < hp.size := by
 have key : ∀ {o : Obj}, hp[μ.blk g]? = some o → μ.blk g < hp.size := fun h => (Array.getElem?_eq_some_iff.1 h).1
 cases b with
 | cells own sz n c => obtain ⟨cur, ty, fz, h1, _⟩ := r.2.2 hr; exact key h1
 | aW s l => obtain ⟨es, cl, h1, _⟩ := r; exact key h1
 | RZ s l => obtain ⟨es, cl, h1, _⟩ := r; exact key h1
 | sit s l pos => exact key r.1
end Go.Sx
namespace Go.Sx
open M
def Keep (g g' : G) (p : Prop) : Prop := g'.H = g.H ∧ g'.nx = g.nx ∧ (g'.cs → g.cs ∧ p)
theorem Keep.refl (g : G) : Keep g g True := ⟨rfl, rfl, fun h => ⟨h, trivial⟩⟩
theorem Keep.trans {a b c : G} {p q : Prop} (h : Keep a b p) (k : Keep b c q) : Keep a c (p ∧ q) :=
 ⟨k.1.trans h.1, k.2.1.trans h.2.1, fun hc => ⟨(h.2.2 (k.2.2 hc).1).1, (h.2.2 (k.2.2 hc).1).2, (k.2.2 hc).2⟩⟩
theorem Keep.mono {a b : G} {p q : Prop} (h : Keep a b p) (k : p → q) : Keep a b q := ⟨h.1, h.2.1, fun hc => ⟨(h.2.2 hc).1, k (h.2.2 hc).2⟩⟩
theorem au {α β : Type} {x : M α} {f : α → M β} {g g'' : G} {b : β} (h : x.andThen f g = .done b g'') : ∃ a g', x g = .done a g' ∧ f a g' = .done b g'' := by
 unfold M.andThen at h
 cases hx : x g with
 | done a g' => rw [hx] at h; exact ⟨a, g', rfl, h⟩
 | need b => rw [hx] at h; cases h
 | fail => rw [hx] at h; cases h
theorem aA {α : Type} {a b : α} {g g' : G} (h : ret a g = .done b g') : b = a ∧ g = g' := by
 unfold ret at h; cases h; exact ⟨rfl, rfl⟩
theorem aJ {α : Type} {o : Option α} {b : α} {g g' : G} (h : bF o g = .done b g') : o = some b ∧ g = g' := by
 cases o with
 | none => cases h
 | some a => obtain ⟨rfl, rfl⟩ := aA h; exact ⟨rfl, rfl⟩
theorem dR {p : Prop} {u : Unit} {g g' : G} (h : req p g = .done u g') : Keep g g' p := by
 unfold req at h; cases h; exact ⟨rfl, rfl, id⟩
theorem dI {s : Bool} {p : Prop} [Decidable p] {u : Unit} {g g' : G} (h : ck s p g = .done u g') : Keep g g' p := by
 unfold ck at h
 cases s with
 | true => exact dR h
 | false =>
  by_cases hp : p
  ·simp only [cond_false, hp, decide_true, cond_true] at h
   obtain ⟨_, rfl⟩ := aA h
   exact (Keep.refl _).mono fun _ => hp
  ·simp only [cond_false, hp, decide_false] at h; cases h
theorem jc {b d : Bool} {g g' : G} (h : dec b g = .done d g') : Keep g g' (b = d) := by
 unfold dec at h
 split at h
 ·cases h
 ·cases h; exact ⟨rfl, rfl, id⟩
theorem jd {nm : Nat} {b : aF} {g g' : G} (h : qm nm g = .done b g') : g.H.get nm = some b ∧ g = g' := by
 unfold qm at h
 split at h
 ·rename_i b' hb; cases h; exact ⟨hb, rfl⟩
 ·cases h
theorem lI {nm : Nat} {b : aF} {u : Unit} {g g' : G} (h : setB nm b g = .done u g') : g'.H = g.H.upd nm (some b) ∧ g'.nx = g.nx ∧ g'.cs = g.cs := by
 unfold setB at h; cases h; exact ⟨rfl, rfl, rfl⟩
theorem mO {nm : Nat} {u : Unit} {g g' : G} (h : yC nm g = .done u g') : g'.H = g.H.upd nm none ∧ g'.nx = g.nx ∧ g'.cs = g.cs := by
 unfold yC at h; cases h; exact ⟨rfl, rfl, rfl⟩
theorem iE {b : aF} {nm : Nat} {g g' : G} (h : iR b g = .done nm g') : nm = g.nx ∧ g'.H = g.H.upd g.nx (some b) ∧ g'.nx = g.nx + 1 ∧ g'.cs = g.cs := by
 unfold iR at h; cases h; exact ⟨rfl, rfl, rfl, rfl⟩
theorem aU {b : Bool} {u : Unit} {g g' : G} (h : dn b g = .done u g') : b = true ∧ g = g' := by
 unfold dn at h
 cases b with
 | true => exact ⟨rfl, (aA h).2⟩
 | false => cases h
theorem mP {v : AV} {y : Bool × Int} (h : asInt v = some y) : ∃ k, v = .int y.1 k y.2 := by
 unfold asInt at h; split at h <;> cases h; exact ⟨_, rfl⟩
theorem pI {v : AV} {a : AA} (h : Gp v = some a) : v = .ptr a := by
 unfold Gp at h; split at h <;> cases h; rfl
theorem NV {v : AV} {l : List AV} (h : asAgg v = some l) : v = .agg l := by
 unfold Sx.asAgg at h; split at h <;> cases h; rfl
theorem fJ {P : Program} {t e : TypeId} (h : mM P t = some e) : P.underlying t = some (.slice e) := by
 unfold mM at h; split at h <;> cases h; assumption
theorem uN {P : Program} {t : TypeId} {ne : Nat × TypeId} (h : Dc P t = some ne) : P.underlying t = some (.array ne.1 ne.2) := by
 unfold Dc at h; split at h <;> cases h; assumption
theorem fK {nm : Nat} {b : Bool × Nat × Nat × Cont} {g g' : G} (h : jU nm g = .done b g') : g.H.get nm = some (.cells b.1 b.2.1 b.2.2.1 b.2.2.2) ∧ g = g' := by
 unfold jU at h
 obtain ⟨x, g1, a1, h1⟩ := au h
 obtain ⟨hx, rfl⟩ := jd a1
 obtain ⟨hy, rfl⟩ := aJ h1
 refine ⟨?_, rfl⟩
 rw [hx]
 unfold Qg at hy
 split at hy <;> cases hy
 rfl
theorem aY {α : Type} {a : α} {g g' : G} (h : (no : M α) g = .done a g') : False := by cases h
theorem eX.upd {N N' : Nat} {μ μ' : MM} {hp hp' : Array Obj} {H : T aF} {nm : Nat} {ob : Option aF} (h : eX N μ hp H) (hu : MM.upto N μ μ') (hN : N ≤ N') (hnm : nm < N')
  (hb : ∀ b, ob = some b → dw N' μ' hp' nm b)
  (hkeep : ∀ g b, H.get g = some b → g ≠ nm → b.real μ g → hp'[μ.blk g]? = hp[μ.blk g]?)
  (hsep : ∀ b, ob = some b → b.real μ' nm → ∀ g b', H.get g = some b' → g ≠ nm → b'.real μ g → (b.owned = true ∨ b'.owned = true) → μ'.blk nm ≠ μ.blk g) : eX N' μ' hp' (H.upd nm ob) where
 lt := fun g b hg => by
  rw [T.bP] at hg
  split at hg
  ·subst_vars; exact hnm
  ·exact Nat.lt_of_lt_of_le (h.lt g b hg) hN
 ok := fun g b hg => by
  rw [T.bP] at hg
  split at hg
  ·subst_vars; exact hb b rfl
  ·rename_i hne; exact (h.ok g b hg).later hu hN (h.lt g b hg) (hkeep g b hg hne)
 sep := fun g b g' b' hg hg' ho hr hr' he => by
  rw [T.bP] at hg hg'
  split at hg
  ·rename_i e1
   split at hg'
   ·rename_i e2; rw [e1, e2]
   ·rename_i e2
    rw [e1] at hr he
    rw [aF.bH hu (h.lt _ _ hg')] at hr'
    rw [hu.blk g' (h.lt _ _ hg')] at he
    exact absurd he (hsep b hg hr g' b' hg' e2 hr' (.inl ho))
  ·rename_i e1
   rw [aF.bH hu (h.lt _ _ hg)] at hr
   split at hg'
   ·rename_i e2
    rw [e2] at hr' he
    rw [hu.blk g (h.lt _ _ hg)] at he
    exact absurd he.symm (hsep b' hg' hr' g b hg e1 hr (.inr ho))
   ·rename_i e2
    rw [aF.bH hu (h.lt _ _ hg')] at hr'
    rw [hu.blk g (h.lt _ _ hg), hu.blk g' (h.lt _ _ hg')] at he
    exact h.sep g b g' b' hg hg' ho hr hr' he
theorem eX.sub {N : Nat} {μ : MM} {hp : Array Obj} {H H' : T aF} (h : eX N μ hp H) (hs : ∀ g b, H'.get g = some b → H.get g = some b) : eX N μ hp H' :=
 ⟨fun g b hg => h.lt g b (hs g b hg), fun g b hg => h.ok g b (hs g b hg), fun g b g' b' hg hg' => h.sep g b g' b' (hs _ _ hg) (hs _ _ hg')⟩
def MM.set (μ : MM) (nm blk cap sz : Nat) : MM :=
 ⟨fun g => if g = nm then blk else μ.blk g, fun g => if g = nm then cap else μ.cap g, fun g => if g = nm then sz else μ.sz g, fun g => if g = nm then 0 else μ.base g⟩
theorem MM.yI (μ : MM) {N nm blk cap sz : Nat} (h : N ≤ nm) : MM.upto N μ (μ.set nm blk cap sz) :=
 ⟨fun g hg => if_neg (by omega), fun g hg => if_neg (by omega), fun g hg => if_neg (by omega), fun g hg => if_neg (by omega)⟩
theorem MM.dZ (μ : MM) (nm blk cap sz : Nat) : (μ.set nm blk cap sz).blk nm = blk := if_pos rfl
theorem MM.lT (μ : MM) (nm blk cap sz : Nat) : (μ.set nm blk cap sz).cap nm = cap := if_pos rfl
theorem MM.NW (μ : MM) (nm blk cap sz : Nat) : (μ.set nm blk cap sz).sz nm = sz := if_pos rfl
theorem MM.iF (μ : MM) (nm blk cap sz : Nat) : (μ.set nm blk cap sz).base nm = 0 := if_pos rfl
theorem jM {P : Program} {t : TypeId} {y : Nat × Bool} (h : lay P t = some y) : ∃ i d, P.info? t = some i ∧ P.underlying t = some d ∧ i.size = y.1 ∧ qK d = y.2 := by
 unfold lay at h
 split at h
 ·rename_i i d hi hd; cases h; exact ⟨i, d, hi, hd, rfl, rfl⟩
 ·cases h
theorem run_sizeOf {P : Program} {t : TypeId} {i : TypeInfo} (hi : P.info? t = some i) (w : World) : (sizeOf t).run P w = .ok i.size w := by simp [sizeOf, typeInfo, hi]
theorem vW {P : Program} {t : TypeId} {d : TypeDesc} (hd : P.underlying t = some d) (w : World) : (isAgg t).run P w = .ok (qK d) w := by
 cases d <;> simp [isAgg, run_underlying hd, qK]
theorem cell_of {w : World} {B o : Nat} {cur : Array Value} {ty : TypeId} {fz : Nat × Nat} (h : w.heap[B]? = some (.cells cur ty fz)) : w.cell? ⟨B, o, none⟩ = cur[o]? := cell_of_row w B o cur ty fz h
theorem KA {P : Program} {w : World} {a : Addr} {c : Value} (h : w.cell? a = some c) : (load a).run P w = .ok c w := by simp [load, Sem.run, h]
theorem Dn {P : Program} {w : World} {t : TypeId} {i : TypeInfo} {d : TypeDesc} (hi : P.info? t = some i) (hd : P.underlying t = some d) {B o : Nat} {cur : Array Value} {ty : TypeId} {fz : Nat × Nat}
  (h : w.heap[B]? = some (.cells cur ty fz)) (hfit : qK d = true → o + i.size ≤ cur.size) (h1 : qK d = false → o < cur.size) :
  (loadVar t ⟨B, o, none⟩).run P w = .ok (if qK d then .agg ((cur.toList.drop o).take i.size).toArray else cur.getD o undef) w := by
 unfold loadVar
 cases hA : qK d with
 | true =>
  have hl : ((cur.toList.drop o).take i.size).length = i.size := by
   have := hfit hA
   simp; omega
  have hrun := run_loadCells_list (P := P) w ⟨B, o, none⟩ ((cur.toList.drop o).take i.size) fun j v hv => by
   rw [Addr.add_lit, cell_of h]
   rw [List.getElem?_take] at hv
   split at hv
   ·rw [List.getElem?_drop] at hv; simpa using hv
   ·cases hv
  rw [hl] at hrun
  simp [vW hd, hA, run_sizeOf hi, hrun]
 | false =>
  have hc : w.cell? ⟨B, o, none⟩ = some (cur.getD o undef) := by
   rw [cell_of h]; simp [h1 hA]
  simp only [Sem.run_bind, vW hd, hA, Result.andThen_ok, KA hc, if_neg Bool.false_ne_true]
theorem jv.ahI {N : Nat} {μ : MM} {row : List AV} {sz : Nat} {cur : Array Value} {base : Nat} (h : jv N μ row sz cur base) (hf : base + sz ≤ cur.size) : aI N μ row ((cur.toList.drop base).take sz) :=
 .Dl (by simp [h.1]; omega) fun i v hv => by
  obtain ⟨_, c, hc, hr⟩ := h.2 i v hv
  refine ⟨c, ?_, hr⟩
  have hi : i < sz := by
   have := (List.getElem?_eq_some_iff.1 hv).1
   rw [h.1] at this; exact this
  rw [List.getElem?_take, if_pos hi, List.getElem?_drop]
  simpa using hc
theorem kK {n sz i size : Nat} (hi : i < n) (h : n * sz ≤ size) : i * sz + sz ≤ size := by
 have : (i + 1) * sz ≤ n * sz := Nat.mul_le_mul_right _ hi
 rw [Nat.add_mul] at this; omega
theorem Bc {P : Program} {t : TypeId} {a : AA} {g g' : G} {v : AV} (h : wS P t a g = .done v g') :
  Keep g g' True ∧ (g'.cs → ∀ N μ w, eX N μ w.heap g.H → ∃ c, (loadVar t (μ.addr a)).run P w = .ok c w ∧ Rep N μ v c) := by
 unfold wS at h
 obtain ⟨y, g1, a1, h1⟩ := au h
 obtain ⟨hy, rfl⟩ := aJ a1
 obtain ⟨i, d, hi, hd, e1, e2⟩ := jM hy
 obtain ⟨⟨own, sz, n, c⟩, g2, a2, h2⟩ := au h1
 obtain ⟨hb, rfl⟩ := fK a2
 simp only at h2 hb
 obtain ⟨u, g3, a3, h3⟩ := au h2
 have k3 := dI a3
 cases hA : y.2 with
 | true =>
  rw [hA, cond_true] at h3
  obtain ⟨u, g4, a4, h4⟩ := au h3
  have k4 := dI a4
  obtain ⟨rfl, rfl⟩ := aA h4
  refine ⟨(k3.trans k4).mono fun _ => trivial, fun hc N μ w hg => ?_⟩
  have hq := (k3.trans k4).2.2 hc
  have hn := hq.2.1
  have hf := hq.2.2
  obtain ⟨hsz, _, hcur⟩ := hg.ok _ _ hb
  obtain ⟨cur, ty, fz, hB, hfit, _, hrows⟩ := hcur (.inl (by omega))
  have hrf : μ.base a.g + a.i * sz + sz ≤ cur.size := by have := kK hn (Nat.le_refl (n * sz)); omega
  have hrun := Dn (P := P) (t := t) hi hd (o := μ.base a.g + a.i * sz + a.o) hB (fun _ => by omega) (fun hx => by rw [e2, hA] at hx; cases hx)
  rw [e2, hA, if_pos rfl] at hrun
  refine ⟨_, by unfold MM.addr; rw [hsz]; exact hrun, ?_⟩
  simp only [Rep]
  refine ⟨_, rfl, ?_⟩
  have hr := ((hrows a.i hn).ahI hrf).drop a.o
  have hr2 := hr.take i.size
  rw [← e1]
  have : (((cur.toList.drop (μ.base a.g + a.i * sz)).take sz).drop a.o).take i.size = (cur.toList.drop (μ.base a.g + a.i * sz + a.o)).take i.size := by
   apply List.ext_getElem?
   intro j
   simp only [List.getElem?_take, List.getElem?_drop]
   by_cases hj : j < i.size
   ·rw [if_pos hj, if_pos (by omega), if_pos hj]; congr 1; omega
   ·rw [if_neg hj, if_neg hj]
  rw [this] at hr2
  simpa using hr2
 | false =>
  rw [hA, cond_false] at h3
  obtain ⟨hv, rfl⟩ := aJ h3
  refine ⟨k3.mono fun _ => trivial, fun hc N μ w hg => ?_⟩
  have hn := (k3.2.2 hc).2
  obtain ⟨hsz, _, hcur⟩ := hg.ok _ _ hb
  obtain ⟨cur, ty, fz, hB, hfit, _, hrows⟩ := hcur (.inl (by omega))
  obtain ⟨_, c', hc', hrep⟩ := (hrows a.i hn).2 _ _ hv
  have hlt : μ.base a.g + a.i * sz + a.o < cur.size := (Array.getElem?_eq_some_iff.1 hc').1
  have hrun := Dn (P := P) (t := t) hi hd (o := μ.base a.g + a.i * sz + a.o) hB (fun hx => by rw [e2, hA] at hx; cases hx) (fun _ => hlt)
  rw [e2, hA] at hrun
  have : cur.getD (μ.base a.g + a.i * sz + a.o) undef = c' := by
   have := (Array.getElem?_eq_some_iff.1 hc').2
   simp [Array.getD, hlt, this]
  simp only [this] at hrun
  exact ⟨c', by unfold MM.addr; rw [hsz]; simpa using hrun, hrep⟩
end Go.Sx
namespace Go.Sx
open M
theorem rO {α : Type} (l : List α) (o : Nat) (vs : List α) (h : o + vs.length ≤ l.length) (m : Nat) :
  (l.take o ++ vs ++ l.drop (o + vs.length))[m]? = if m < o then l[m]? else if m < o + vs.length then vs[m - o]? else l[m]? := by
 have ht : (l.take o).length = o := by simp; omega
 by_cases h1 : m < o
 ·rw [if_pos h1, List.append_assoc, List.getElem?_append_left (by omega), List.getElem?_take, if_pos h1]
 ·rw [if_neg h1, List.append_assoc, List.getElem?_append_right (by omega), ht]
  by_cases h2 : m < o + vs.length
  ·rw [if_pos h2, List.getElem?_append_left (by omega)]
  ·rw [if_neg h2, List.getElem?_append_right (by omega), List.getElem?_drop]
   congr 1; omega
theorem qN (l : List AV) (o : Nat) (vs : List AV) (h : o + vs.length ≤ l.length) : (splice l o vs).length = l.length := by
 simp [splice]; omega
theorem Rep.oneCell {N : Nat} {μ : MM} {v : AV} {c : Value} (h : Rep N μ v c) (h1 : v.one = true) : c.oneCell' = true := by
 cases v <;> simp [AV.one] at h1 <;> simp only [Rep] at h
 case slc s own a len => obtain ⟨_, A, C, rfl, _⟩ := h; rfl
 case flt => obtain ⟨b, rfl, _⟩ := h; rfl
 case raw => obtain ⟨rfl, _⟩ := h; rfl
 case bits => obtain ⟨b, rfl, _⟩ := h; rfl
 case dD => obtain ⟨a, b, rfl, _⟩ := h; rfl
 case ptr => obtain ⟨_, rfl⟩ := h; rfl
 case mp => obtain ⟨_, rfl⟩ := h; rfl
 case fn => obtain ⟨_, _, rfl, _⟩ := h; rfl
 all_goals (subst h; rfl)
theorem Rep.cells {N : Nat} {μ : MM} {v : AV} {c : Value} (h : Rep N μ v c) (h1 : v.cells.all AV.one = true) : aI N μ v.cells c.cells.toList ∧ ∀ x ∈ c.cells.toList, x.oneCell' = true := by
 have key : ∀ {l : List AV} {cs : List Value}, aI N μ l cs → l.all AV.one = true → ∀ x ∈ cs, x.oneCell' = true := by
  intro l cs hr ha x hx
  obtain ⟨i, hi, rfl⟩ := List.getElem_of_mem hx
  have hil : i < l.length := by rw [← hr.length]; exact hi
  obtain ⟨c', hc', hrep⟩ := hr.get (List.getElem?_eq_getElem hil)
  rw [List.getElem?_eq_getElem hi] at hc'
  cases hc'
  exact hrep.oneCell (List.all_eq_true.1 ha _ (List.getElem_mem hil))
 cases v with
 | agg l =>
  simp only [Rep] at h
  obtain ⟨cs, rfl, hr⟩ := h
  exact ⟨hr, key hr h1⟩
 | _ =>
  simp only [AV.cells, List.all_cons, List.all_nil, Bool.and_true] at h1
  have ho := h.oneCell h1
  have hc : c.cells = #[c] := by cases c <;> first | rfl | simp [Value.oneCell'] at ho
  rw [hc]
  refine ⟨by simp only [AV.cells, aI]; exact ⟨c, [], rfl, h, rfl⟩, fun x hx => ?_⟩
  simp at hx
  subst hx; exact ho
theorem Cont.Il (c : Cont) (i : Nat) (r : List AV) (j : Nat) : (c.put i r).row j = if j = i then r else c.row j := by
 cases c with
 | lit d t =>
  simp only [Cont.put, Cont.row, T.bP]
  split <;> rfl
 | fn f =>
  simp only [Cont.put, Cont.row]
  cases h : Nat.beq j i with
  | true => simp [Nat.eq_of_beq_eq_true h]
  | false => simp [Nat.ne_of_beq_eq_false h]
theorem Cont.Dp (src : Nat → List AV) (n : Nat) (c : Cont) : ∀ m j, (Cont.more src n m c).row j = if n ≤ j ∧ j < n + m then src (j - n) else c.row j
 | 0, j => by simp only [Cont.more]; rw [if_neg (by omega)]
 | m + 1, j => by
  simp only [Cont.more, Cont.Il, Cont.Dp src n c m]
  by_cases h : j = n + m
  ·subst h; rw [if_pos rfl, if_pos (by omega)]; congr 1; omega
  ·rw [if_neg h]
   by_cases h2 : n ≤ j ∧ j < n + m
   ·rw [if_pos h2, if_pos (by omega)]
   ·rw [if_neg h2, if_neg (by omega)]
theorem May.of {μ : MM} {H : T aF} {g : Nat} {b : aF} (hg : H.get g = some b) (ho : b.owned = true) (hr : b.real μ g) : May μ H (μ.blk g) := ⟨g, b, hg, ho, hr, rfl⟩
theorem Io {P : Program} {t : TypeId} {i : TypeInfo} (hi : P.info? t = some i) {w : World} {B o : Nat} {cur : Array Value} {ty : TypeId} (hB : w.heap[B]? = some (.cells cur ty (0, 0))) {v : Value}
  (hs : v.cells.size = i.size) (hf : o + i.size ≤ cur.size) (h1 : ∀ x ∈ v.cells.toList, x.oneCell' = true) :
  (storeVar t ⟨B, o, none⟩ v).run P w = .ok () (w.setRow B (cur.toList.take o ++ v.cells.toList ++ cur.toList.drop (o + v.cells.toList.length)).toArray) := by
 have hst := run_storeCells_at P B o ty v.cells.toList 0 cur w hB (by simp; omega) h1
 simp only [Nat.add_zero] at hst
 simp [storeVar, run_sizeOf hi, hs, hst]
theorem NY {sz : Nat} {row : List AV} {o : Nat} {vs : List AV} (h : row.length = sz) (ho : o + vs.length ≤ sz) : Ij sz row o vs = splice row o vs := by
 unfold Ij
 cases e : Nat.beq sz vs.length with
 | false => rfl
 | true =>
  have e := Nat.eq_of_beq_eq_true e
  have o0 : o = 0 := by omega
  subst o0
  unfold splice
  rw [List.drop_eq_nil_of_le (by omega)]
  simp
theorem Ip {P : Program} {t : TypeId} {a : AA} {v : AV} {g g' : G} {u : Unit} (h : xA P t a v g = .done u g') :
  (g'.cs → g.cs) ∧ (g'.cs → ∀ μ w cv, eX g.nx μ w.heap g.H → Rep g.nx μ v cv → ∃ w', (storeVar t (μ.addr a) cv).run P w = .ok () w' ∧ eX g'.nx μ w'.heap g'.H ∧ Ext g μ w g' μ w') := by
 unfold xA at h
 obtain ⟨y, g1, a1, h1⟩ := au h
 obtain ⟨hy, rfl⟩ := aJ a1
 obtain ⟨i, d, hi, hd, e1, e2⟩ := jM hy
 obtain ⟨⟨own, sz, n, c⟩, g2, a2, h2⟩ := au h1
 obtain ⟨hb, rfl⟩ := fK a2
 simp only at h2 hb
 obtain ⟨_, g3, a3, h3⟩ := au h2
 obtain ⟨hq, rfl⟩ := aU a3
 simp only [Bool.and_eq_true] at hq
 obtain ⟨⟨rfl, hlen⟩, hone⟩ := hq
 have hlen' := Nat.eq_of_beq_eq_true hlen
 obtain ⟨u3, g4, a4, h4⟩ := au h3
 obtain ⟨u4, g5, a5, h5⟩ := au h4
 have k4 := (dI a4).trans (dI a5)
 obtain ⟨hH, hnx, hcs⟩ := lI h5
 have hc0 : g'.cs → g.cs ∧ a.i < n ∧ a.o + y.1 ≤ sz := fun hc => by rw [hcs] at hc; exact k4.2.2 hc
 refine ⟨fun hc => (hc0 hc).1, fun hc μ w cv hg hv => ?_⟩
 obtain ⟨_, hn, hf⟩ := hc0 hc
 obtain ⟨hsz, hpos, hcur⟩ := hg.ok _ _ hb
 obtain ⟨cur, ty, fz, hB, hfit, hown, hrows⟩ := hcur (.inl (by omega))
 obtain ⟨hfz, hcap, hb0⟩ := hown rfl
 simp only [hb0, Nat.zero_add] at hfit hrows
 rw [hfz] at hB
 rw [NY (hrows _ hn).1 (by omega)] at hH
 obtain ⟨KC, hone'⟩ := hv.cells hone
 have hcl : cv.cells.toList.length = y.1 := by rw [KC.length, hlen']
 have hcz : cv.cells.size = y.1 := by rw [← hcl, Array.length_toList]
 have hrf := kK hn hfit
 have hrun := Io (P := P) (t := t) hi hB (o := a.i * sz + a.o) (v := cv) (by omega) (by omega) hone'
 have hgc := fun m => rO cur.toList (a.i * sz + a.o) cv.cells.toList (by simp only [Array.length_toList]; omega) m
 refine ⟨_, by unfold MM.addr; rw [hsz, hb0, Nat.zero_add]; exact hrun, ?_, ?_⟩
 ·rw [hH, hnx, k4.2.1, k4.1]
  refine hg.upd (.refl _ _) (Nat.le_refl _) (hg.lt _ _ hb) ?_ ?_ ?_
  ·rintro _ ⟨⟩
   refine ⟨hsz, hpos, fun _ => ⟨_, ty, (0, 0), setRow_heap w _ cur _ ty _ hB, ?_, fun _ => ⟨rfl, ?_, hb0⟩, fun j hj => ?_⟩⟩
   rotate_left 2
   rw [hb0, Nat.zero_add]
   rotate_right 2
   ·simp; omega
   ·rw [← hcap]; simp; omega
   ·rw [Cont.Il]
    have hjf := kK hj hfit
    obtain ⟨rl, rc⟩ := hrows j hj
    split
    ·rename_i e; rw [e] at rl rc hjf ⊢
     refine ⟨by rw [qN _ _ _ (by omega)]; exact rl, fun o x hx => ?_⟩
     have ho : o < sz := by
      have := (List.getElem?_eq_some_iff.1 hx).1
      rw [qN _ _ _ (by omega), rl] at this; exact this
     rw [List.getElem?_toArray, hgc]
     unfold splice at hx
     rw [rO _ _ _ (by omega)] at hx
     split at hx
     ·rw [if_pos (by omega)]
      obtain ⟨h0, c', h1, h2⟩ := rc _ _ hx
      exact ⟨h0, c', by simpa using h1, h2⟩
     ·split at hx
      ·rw [if_neg (by omega), if_pos (by omega)]
       obtain ⟨c', h1, h2⟩ := KC.get hx
       exact ⟨List.all_eq_true.1 hone _ (List.mem_of_getElem? hx), c', by rw [← h1]; congr 1; omega, h2⟩
      ·rw [if_neg (by omega), if_neg (by omega)]
       obtain ⟨h0, c', h1, h2⟩ := rc _ _ hx
       exact ⟨h0, c', by simpa using h1, h2⟩
    ·rename_i hne
     refine ⟨rl, fun o x hx => ?_⟩
     have ho : o < sz := by
      have := (List.getElem?_eq_some_iff.1 hx).1
      rw [rl] at this; exact this
     obtain ⟨h0, c', h1, h2⟩ := rc _ _ hx
     refine ⟨h0, c', ?_, h2⟩
     rw [List.getElem?_toArray, hgc]
     have hdis : j * sz + o < a.i * sz + a.o ∨ a.i * sz + a.o + cv.cells.toList.length ≤ j * sz + o := by
      rcases Nat.lt_or_gt_of_ne hne with hlt | hgt
      ·left
       have : (j + 1) * sz ≤ a.i * sz := Nat.mul_le_mul_right _ hlt
       rw [Nat.add_mul] at this; omega
      ·right
       have : (a.i + 1) * sz ≤ j * sz := Nat.mul_le_mul_right _ hgt
       rw [Nat.add_mul] at this; omega
     rcases hdis with hd1 | hd1
     ·rw [if_pos hd1]; simpa using h1
     ·rw [if_neg (by omega), if_neg (by omega)]; simpa using h1
  ·intro g1 b1 hg1 hne hr1
   refine setRow_other w _ _ _ fun e => hne ?_
   exact (hg.sep _ _ _ _ hb hg1 rfl (.inl (by omega)) hr1 e.symm).symm
  ·rintro _ ⟨⟩ hr1 g1 b1 hg1 hne hr2 _ e
   exact hne (hg.sep _ _ _ _ hb hg1 rfl (.inl (by omega)) hr2 e).symm
 ·have hgB : ∀ B, B ≠ μ.blk a.g → (w.setRow (μ.blk a.g) (cur.toList.take (a.i * sz + a.o) ++ cv.cells.toList ++ cur.toList.drop (a.i * sz + a.o + cv.cells.toList.length)).toArray).heap[B]? = w.heap[B]? := fun B hne => setRow_other w _ _ _ hne
  refine ⟨by rw [hnx, k4.2.1]; exact Nat.le_refl _, .refl _ _, rfl, rfl, rfl, by simp, fun B _ hnm => hgB B fun e => hnm ?_, fun B hB hm => ?_⟩
  ·rw [e]; exact May.of hb rfl (.inl (by omega))
  ·obtain ⟨g1, b1, hg1, ho1, hr1, rfl⟩ := hm
   rw [hH, T.bP, k4.1] at hg1
   split at hg1
   ·rename_i e; rw [e]; exact May.of hb rfl (.inl (by omega))
   ·exact May.of hg1 ho1 hr1
end Go.Sx
namespace Go.Sx
open M
theorem Rep.kG (N : Nat) (μ : MM) (v : Value) : Rep N μ (kG v) v := by
 unfold Sx.kG
 split
 ·simp [Rep]
 ·simp [Rep]
 ·rename_i b
  by_cases h : b < 18446744073709551616
  ·simp only [h, decide_true, cond_true, Rep]; exact ⟨b, rfl, rfl, h⟩
  ·simp [h, Rep]
 ·rename_i a b
  by_cases h : a < 18446744073709551616 ∧ b < 18446744073709551616
  ·simp only [h, and_self, decide_true, cond_true, Rep]; exact ⟨a, b, rfl, ⟨rfl, h.1⟩, ⟨rfl, h.2⟩⟩
  ·simp [h, Rep]
 ·simp only [Rep, Array.toArray_toList]
 all_goals simp [Rep]
theorem Rep.gZ (N : Nat) (μ : MM) (v : Value) : Rep N μ (gZ v) v := by
 unfold Sx.gZ
 split
 ·rename_i cs
  simp only [Rep]
  exact ⟨cs, rfl, by have := aI.map (N := N) (μ := μ) Sx.kG id cs.toList fun x _ => Rep.kG N μ x; simpa using this⟩
 ·rename_i cs
  simp only [Rep]
  exact ⟨cs, rfl, by have := aI.map (N := N) (μ := μ) Sx.kG id cs.toList fun x _ => Rep.kG N μ x; simpa using this⟩
 ·exact Rep.kG N μ v
theorem qy {P : Program} {t : TypeId} {z : AV} (h : zeroOf P t = some z) : ∃ i v, P.info? t = some i ∧ i.zero = some v ∧ z = gZ v := by
 unfold zeroOf at h
 split at h
 ·rename_i i hi
  cases hz : i.zero with
  | none => rw [hz] at h; cases h
  | some v => rw [hz] at h; cases h; exact ⟨i, v, hi, hz, rfl⟩
 ·cases h
structure Pushed (w w' : World) (o : Obj) : Prop where
 heap : w'.heap = w.heap.push o
 os : w'.os = w.os
 tape : w'.tape = w.tape
 output : w'.output = w.output
theorem Pushed.alloc (w : World) (o : Obj) : Pushed w (w.alloc o) o := ⟨rfl, rfl, rfl, rfl⟩
theorem Pushed.drew (w : World) (o : Obj) : Pushed w (w.drew.alloc o) o := ⟨rfl, rfl, rfl, rfl⟩
theorem Pushed.new {w w' : World} {o : Obj} (h : Pushed w w' o) : w'.heap[w.heap.size]? = some o := by rw [h.heap]; simp
theorem Pushed.old {w w' : World} {o : Obj} (h : Pushed w w' o) {B : Nat} (hB : B < w.heap.size) : w'.heap[B]? = w.heap[B]? := by
 rw [h.heap, Array.getElem?_push, if_neg (by omega)]
theorem vX {g g' : G} {nm sz n : Nat} {c : Cont} (h : iR (.cells true sz n c) g = .done nm g') {μ : MM} {w w' : World} (hg : eX g.nx μ w.heap g.H) (hpos : 0 < sz) {cur : Array Value} {ty : TypeId}
  (hw : Pushed w w' (.cells cur ty (0, 0))) (cap : Nat) (hcap : cur.size = cap * sz) (hn : n ≤ cap) (hrows : ∀ i, i < n → jv g.nx μ (c.row i) sz cur (i * sz)) :
  eX g'.nx (μ.set g.nx w.heap.size cap sz) w'.heap g'.H ∧ Ext g μ w g' (μ.set g.nx w.heap.size cap sz) w' := by
 obtain ⟨_, hH, hnx, _⟩ := iE h
 have hu : MM.upto g.nx μ (μ.set g.nx w.heap.size cap sz) := MM.yI μ (Nat.le_refl _)
 constructor
 ·rw [hH, hnx]
  refine hg.upd hu (by omega) (by omega) ?_ ?_ ?_
  ·rintro _ ⟨⟩
   simp only [dw, MM.NW, MM.dZ, MM.lT, MM.iF, Nat.zero_add]
   refine ⟨trivial, hpos, fun _ => ⟨cur, ty, (0, 0), hw.new, ?_, fun _ => ⟨rfl, hcap, trivial⟩, fun i hi => (hrows i hi).later hu (by omega)⟩⟩
   rw [hcap]; exact Nat.mul_le_mul_right _ hn
  ·intro g1 b1 hg1 _ hr1
   exact hw.old ((hg.ok _ _ hg1).lt_size hr1)
  ·rintro _ ⟨⟩ _ g1 b1 hg1 _ hr1 _ e
   have := (hg.ok _ _ hg1).lt_size hr1
   rw [MM.dZ] at e; omega
 ·refine ⟨by omega, hu, hw.os, hw.tape, hw.output, by rw [hw.heap]; simp, fun B hB _ => hw.old hB, fun B hB hm => ?_⟩
  obtain ⟨g1, b1, hg1, ho1, hr1, e⟩ := hm
  rw [hH, T.bP] at hg1
  split at hg1
  ·rename_i e1
   rw [e1, MM.dZ] at e; omega
  ·have hlt := hg.lt _ _ hg1
   rw [aF.bH hu hlt] at hr1
   rw [hu.blk _ hlt] at e
   exact ⟨g1, b1, hg1, ho1, hr1, e⟩
def Gives (g : G) (μ : MM) (w : World) (g' : G) (v : AV) (r : Result Value) : Prop :=
 ∃ c w' μ', r = .ok c w' ∧ Rep g'.nx μ' v c ∧ eX g'.nx μ' w'.heap g'.H ∧ Ext g μ w g' μ' w'
theorem Gives.keep {g g' : G} {μ : MM} {w : World} {v : AV} {c : Value} {n : Nat} {p : Prop} (k : Keep g g' p) (hg : eX g.nx μ w.heap g.H) (hv : Rep g.nx μ v c) : Gives g μ w g' v (.ok c { w with drawn := n }) :=
 ⟨c, _, μ, rfl, by rw [k.2.1]; exact hv, by rw [k.1, k.2.1]; exact hg, Ext.drawn μ w n k.1 k.2.1⟩
theorem Gives.iG {g g' : G} {μ : MM} {w : World} {v : AV} {c : Value} {p : Prop} (k : Keep g g' p) (hg : eX g.nx μ w.heap g.H) (hv : Rep g.nx μ v c) : Gives g μ w g' v (.ok c w) :=
 Gives.keep (n := w.drawn) k hg hv
theorem Dq {P : Program} {t : TypeId} {v r : AV} {g g' : G} (h : Kt v g = .done r g') :
  (g'.cs → g.cs) ∧ ∀ μ w cv, eX g.nx μ w.heap g.H → Rep g.nx μ v cv → Gives g μ w g' r ((do pure (.pointer (some (← newVar t cv))) : Sem Value).run P w) := by
 unfold Kt at h
 obtain ⟨_, g1, a1, h1⟩ := au h
 obtain ⟨hq, rfl⟩ := aU a1
 rw [Bool.and_eq_true] at hq
 obtain ⟨nm, g2, a2, h2⟩ := au h1
 obtain ⟨rfl, rfl⟩ := aA h2
 obtain ⟨hnm, hH, hnx, hcs⟩ := iE a2
 refine ⟨fun hc => by rw [hcs] at hc; exact hc, fun μ w cv hg hv => ?_⟩
 obtain ⟨KC, _⟩ := hv.cells hq.1
 have hl : cv.cells.size = v.cells.length := by rw [← KC.length, Array.length_toList]
 have hpos : 0 < v.cells.length := by
  cases hvc : v.cells with
  | nil => simp [hvc] at hq
  | cons => simp
 obtain ⟨hg', he⟩ := vX a2 hg hpos (w' := w.alloc (.cells cv.cells t (0, 0))) (.alloc _ _) 1 (by omega) (Nat.le_refl _) (by
  intro i hi
  obtain rfl : i = 0 := by omega
  refine ⟨rfl, fun o x hx => ?_⟩
  obtain ⟨c', h1, h2⟩ := KC.get hx
  exact ⟨List.all_eq_true.1 hq.1 _ (List.mem_of_getElem? hx), c', by simpa using h1, h2⟩)
 refine ⟨.pointer (some ⟨w.heap.size, 0, none⟩), w.alloc (.cells cv.cells t (0, 0)), _, rfl, ?_, hg', he⟩
 simp only [Rep]
 refine ⟨by omega, ?_⟩
 rw [hnm]
 simp [MM.addr, MM.dZ, MM.iF]
theorem Keep.Cj {g g1 g2 : G} {p : Prop} (k : Keep g g1 p) (hcs : g2.cs = g1.cs) : g2.cs → g.cs ∧ p := fun hc => k.2.2 (hcs ▸ hc)
theorem Ext.oJ {g g1 g2 : G} {μ μ' : MM} {w w' : World} {p : Prop} (k : Keep g g1 p) (h : Ext g1 μ w g2 μ' w') : Ext g μ w g2 μ' w' :=
 (Ext.same μ w k.1 k.2.1).trans h
theorem oK {P : Program} {e : TypeId} {z : List AV × Nat} (h : yG P e = some z) : ∃ i v, P.info? e = some i ∧ i.zero = some v ∧ i.bytes = z.2 ∧ i.size = z.1.length ∧ 0 < z.1.length ∧ v.cells.size = z.1.length ∧
  z.1.all AV.one = true ∧ ∀ N μ, aI N μ z.1 v.cells.toList := by
 unfold yG at h
 split at h
 ·rename_i i zv hi hz
  obtain ⟨i', v, hi', hzv, rfl⟩ := qy hz
  rw [hi] at hi'; cases hi'
  cases hq : (Nat.beq (gZ v).cells.length i.size && (gZ v).cells.all AV.one && !Nat.beq i.size 0) with
  | false => rw [hq] at h; cases h
  | true =>
   rw [hq] at h; cases h
   simp only [Bool.and_eq_true, Bool.not_eq_true'] at hq
   obtain ⟨⟨hl, hone⟩, hpos⟩ := hq
   have hl' := Nat.eq_of_beq_eq_true hl
   have hpos' : 0 < i.size := Nat.pos_of_ne_zero (Nat.ne_of_beq_eq_false hpos)
   have hr := fun N μ => ((Rep.gZ N μ v).cells hone).1
   refine ⟨i, v, hi, hzv, rfl, hl'.symm, by rw [hl']; exact hpos', ?_, hone, hr⟩
   have := (hr 0 ⟨fun _ => 0, fun _ => 0, fun _ => 0, fun _ => 0⟩).length
   rw [Array.length_toList] at this; exact this
 ·cases h
theorem zU {P : Program} {t : TypeId} {l c v : AV} {g g' : G} (h : lu P t l c g = .done v g') :
  (g'.cs → g.cs) ∧ (g'.cs → ∀ μ w cl cc, eX g.nx μ w.heap g.H → Rep g.nx μ l cl → Rep g.nx μ c cc → Gives g μ w g' v ((Instr.makeSlice t cl cc).run P w)) := by
 unfold lu at h
 obtain ⟨⟨s, n⟩, g1, a1, h1⟩ := au h
 obtain ⟨hl, rfl⟩ := aJ a1
 obtain ⟨⟨s', m⟩, g2, a2, h2⟩ := au h1
 obtain ⟨hm, rfl⟩ := aJ a2
 obtain ⟨k, rfl⟩ := mP hl
 obtain ⟨k', rfl⟩ := mP hm
 obtain ⟨e, g3, a3, h3⟩ := au h2
 obtain ⟨ht, rfl⟩ := aJ a3
 obtain ⟨z, g4, a4, h4⟩ := au h3
 obtain ⟨hz, rfl⟩ := aJ a4
 obtain ⟨i, zv, hi, hzv, hby, hsz, hpos, hzl, hone, hzr⟩ := oK hz
 obtain ⟨u, g5, a5, h5⟩ := au h4
 have k1 := dI a5
 obtain ⟨nm, g6, a6, h6⟩ := au h5
 obtain ⟨rfl, rfl⟩ := aA h6
 obtain ⟨hnm, hH, hnx, hcs⟩ := iE a6
 have hk := Keep.Cj k1 hcs
 refine ⟨fun hc => (hk hc).1, fun hc μ w cl cc hg hcl hcc => ?_⟩
 obtain ⟨h0, hnm', hb, h63⟩ := (hk hc).2
 simp only [Rep] at hcl hcc
 subst hcl hcc
 simp only at h0 hnm' hb h63
 have hrun := run_make (P := P) w t e i zv (fJ ht) hi hzv k k' n m h0 hnm' (by rw [hby]; omega) h63
 rw [hsz] at hrun
 rw [← k1.1, ← k1.2.1] at hg
 obtain ⟨hg', he⟩ := vX a6 hg hpos (w' := w.alloc (.cells (madeCells zv.cells (m.toNat * z.1.length)) e (0, 0))) (.alloc _ _) m.toNat (size_madeCells _ _) (by omega) (by
  intro j hj
  have hrow : (bif s then Cont.fn fun _ => z.1 else Cont.lit z.1 T.e).row j = z.1 := by cases s <;> simp [Cont.row, T.get]
  simp only
  rw [hrow]
  refine ⟨rfl, fun o x hx => ?_⟩
  have ho : o < z.1.length := (List.getElem?_eq_some_iff.1 hx).1
  obtain ⟨c', h1, h2⟩ := (hzr g.nx μ).get hx
  refine ⟨List.all_eq_true.1 hone _ (List.mem_of_getElem? hx), c', ?_, by rw [k1.2.1]; exact h2⟩
  have hjm : j * z.1.length + o < m.toNat * z.1.length := by
   have : (j + 1) * z.1.length ≤ m.toNat * z.1.length := Nat.mul_le_mul_right _ (by omega)
   rw [Nat.add_mul] at this; omega
  have hmod : (j * z.1.length + o) % zv.cells.size = o := by rw [hzl, Nat.mul_comm, Nat.mul_add_mod]; exact Nat.mod_eq_of_lt ho
  have h1' : zv.cells[o]? = some c' := by simpa using h1
  simp only [madeCells, Array.getElem?_map, Array.getElem?_range, hjm, if_true, Option.map_some, hmod]
  rw [getElem!_def, h1'])
 refine ⟨_, _, _, hrun, ?_, hg', Ext.oJ k1 he⟩
 simp only [Rep]
 refine ⟨by omega, some ⟨w.heap.size, 0, none⟩, m.toNat, rfl, by omega, fun _ => ?_, fun _ => rfl, fun _ => ⟨rfl, rfl, .inr ⟨?_, ?_⟩⟩⟩
 ·rw [hnm]; simp [MM.addr, MM.dZ, MM.iF]
 ·rw [hnm, MM.dZ]
 ·rw [hnm, MM.lT]
end Go.Sx
namespace Go.Sx
open M
def RC (a : AA) (dL sz n m : Nat) : Prop := if dL = sz ∧ a.o = 0 then a.i + m ≤ n else a.i < n ∧ a.o + m * dL ≤ sz
theorem yJ {dL sz : Nat} {a : AA} : (Nat.beq dL sz && Nat.beq a.o 0) = true ↔ dL = sz ∧ a.o = 0 := by
 simp [Bool.and_eq_true, Nat.beq_eq_true_eq]
theorem Bd {s : Bool} {a : AA} {dL sz n m : Nat} {u : Unit} {g g' : G} (h : xE s a dL sz n m g = .done u g') : Keep g g' (RC a dL sz n m) := by
 unfold xE at h
 cases hq : (Nat.beq dL sz && Nat.beq a.o 0) with
 | true =>
  rw [hq, cond_true] at h
  exact (dI h).mono fun hp => by unfold RC; rw [if_pos (yJ.1 hq)]; exact hp
 | false =>
  rw [hq, cond_false] at h
  obtain ⟨_, g1, a1, h1⟩ := au h
  refine ((dI a1).trans (dI h1)).mono fun hp => ?_
  unfold RC
  rw [if_neg fun e => by rw [yJ.2 e] at hq; cases hq]
  exact hp
theorem Gt {N : Nat} {μ : MM} {hp : Array Obj} {a : AA} {own : Bool} {dL sz n m : Nat} {c : Cont} (hb : dw N μ hp a.g (.cells own sz n c)) (he : 0 < dL) (hr : RC a dL sz n m) (hm : 0 < m) :
  ∃ cur ty fz, hp[μ.blk a.g]? = some (.cells cur ty fz) ∧ μ.base a.g + a.i * sz + a.o + m * dL ≤ cur.size ∧ ∀ j, j < m → jv N μ (rowsOf a dL sz c j) dL cur (μ.base a.g + a.i * sz + a.o + j * dL) := by
 obtain ⟨hsz, hpos, hcur⟩ := hb
 unfold RC at hr
 by_cases hq : dL = sz ∧ a.o = 0
 ·rw [if_pos hq] at hr
  obtain ⟨cur, ty, fz, hB, hfit, _, hrows⟩ := hcur (.inl (by omega))
  refine ⟨cur, ty, fz, hB, ?_, fun j hj => ?_⟩
  ·have := kK (n := n) (sz := sz) (i := a.i + m - 1) (by omega) (Nat.le_refl _)
   rw [hq.1, hq.2]
   have e : (a.i + m - 1) * sz + sz = a.i * sz + m * sz := by
    rw [← Nat.succ_mul, ← Nat.add_mul]; congr 1; omega
   omega
  ·have := hrows (a.i + j) (by omega)
   unfold rowsOf
   rw [yJ.2 hq, cond_true, hq.1, hq.2, Nat.add_zero, Nat.add_assoc, ← Nat.add_mul]
   exact this
 ·rw [if_neg hq] at hr
  obtain ⟨cur, ty, fz, hB, hfit, _, hrows⟩ := hcur (.inl (by omega))
  have hrf : μ.base a.g + a.i * sz + sz ≤ cur.size := by have := kK hr.1 (Nat.le_refl (n * sz)); omega
  refine ⟨cur, ty, fz, hB, by omega, fun j hj => ?_⟩
  obtain ⟨rl, rc⟩ := hrows a.i hr.1
  have hqf : (Nat.beq dL sz && Nat.beq a.o 0) = false := by
   cases h : (Nat.beq dL sz && Nat.beq a.o 0) with
   | false => rfl
   | true => exact absurd (yJ.1 h) hq
  have hje : j * dL + dL ≤ m * dL := kK hj (Nat.le_refl _)
  unfold rowsOf
  rw [hqf, cond_false]
  refine ⟨by simp [rl]; omega, fun o v hv => ?_⟩
  rw [List.getElem?_take] at hv
  split at hv
  ·rw [List.getElem?_drop] at hv
   obtain ⟨h0, c', h1, h2⟩ := rc _ _ hv
   exact ⟨h0, c', by rw [← h1]; congr 1; omega, h2⟩
  ·cases hv
def afy (N : Nat) (μ : MM) (w : World) (dL m : Nat) (r : Nat → List AV) (cy : Value) : Prop :=
 ∃ B C, cy = .slice B m C ∧ (0 < m → ∃ (ad : Addr) (news : List Value), B = some ad ∧ news.length = m * dL ∧ (∀ (j : Nat) v, news[j]? = some v → w.cell? (ad.add j) = some v) ∧ (∀ u ∈ news, u.oneCell' = true) ∧
  ∀ j, j < m → jv N μ (r j) dL news.toArray (j * dL))
theorem uO {dL : Nat} {y : AV} {x : Bool × Nat × (Nat → List AV)} {g g' : G} (h : pz dL y g = .done x g') (he : 0 < dL) :
  ∃ p, Keep g g' p ∧ (p → ∀ N μ w cy, eX N μ w.heap g.H → Rep N μ y cy → afy N μ w dL x.2.1 x.2.2 cy) := by
 unfold pz at h
 split at h
 ·obtain ⟨rfl, rfl⟩ := aA h
  refine ⟨True, Keep.refl _, fun _ N μ w cy _ hy => ?_⟩
  simp only [Rep] at hy
  exact ⟨none, 0, hy, fun h0 => absurd h0 (by simp)⟩
 ·rename_i s own a len
  obtain ⟨⟨bo, sz, n, c⟩, g1, a1, h1⟩ := au h
  obtain ⟨hb, rfl⟩ := fK a1
  simp only at h1 hb
  obtain ⟨_, g2, a2, h2⟩ := au h1
  obtain ⟨rfl, rfl⟩ := aA h2
  refine ⟨_, Bd a2, fun hp N μ w cy hg hy => ?_⟩
  simp only [Rep] at hy
  obtain ⟨_, A, C, rfl, hlen, hA, _⟩ := hy
  refine ⟨A, C, rfl, fun h0 => ?_⟩
  simp only at h0
  obtain ⟨cur, ty, fz, hB, hfit, hrows⟩ := Gt (hg.ok _ _ hb) he hp h0
  have hsz : μ.sz a.g = sz := (hg.ok _ _ hb).1
  have hnl : ((cur.toList.drop (μ.base a.g + a.i * sz + a.o)).take (len * dL)).length = len * dL := by simp; omega
  have hrow' : ∀ j, j < len → jv N μ (rowsOf a dL sz c j) dL ((cur.toList.drop (μ.base a.g + a.i * sz + a.o)).take (len * dL)).toArray (j * dL) := by
   intro j hj
   obtain ⟨rl, rc⟩ := hrows j hj
   refine ⟨rl, fun o v hv => ?_⟩
   obtain ⟨h0, c', h1, h2⟩ := rc o v hv
   refine ⟨h0, c', ?_, h2⟩
   have ho : o < dL := by have := (List.getElem?_eq_some_iff.1 hv).1; omega
   have hje : j * dL + dL ≤ len * dL := kK hj (Nat.le_refl _)
   rw [List.getElem?_toArray, List.getElem?_take, if_pos (by omega), List.getElem?_drop, ← Nat.add_assoc]
   simpa using h1
  refine ⟨_, _, hA h0, hnl, ?_, ?_, hrow'⟩
  ·intro j v hv
   unfold MM.addr
   rw [hsz, Addr.add_lit, cell_of hB]
   rw [List.getElem?_take] at hv
   split at hv
   ·rw [List.getElem?_drop] at hv; simpa using hv
   ·cases hv
  ·intro u hu
   obtain ⟨p, hp', rfl⟩ := List.getElem_of_mem hu
   rw [hnl] at hp'
   have hj : p / dL < len := Nat.div_lt_of_lt_mul (by rw [Nat.mul_comm]; exact hp')
   obtain ⟨rl, rc⟩ := hrow' (p / dL) hj
   have ho : p % dL < dL := Nat.mod_lt _ he
   obtain ⟨h0, c', h1, h2⟩ := rc (p % dL) _ (List.getElem?_eq_getElem (by rw [rl]; exact ho))
   have e : p / dL * dL + p % dL = p := by rw [Nat.mul_comm]; exact Nat.div_add_mod p dL
   rw [e, List.getElem?_toArray, List.getElem?_eq_getElem (by rw [hnl]; exact hp')] at h1
   cases h1
   exact h2.oneCell h0
 ·cases h
theorem Yr {g g1 : G} {old : Nat} {u : Unit} (h : yC old g = .done u g1) {μ : MM} {w : World} (hg : eX g.nx μ w.heap g.H) : eX g1.nx μ w.heap g1.H ∧ Ext g μ w g1 μ w := by
 obtain ⟨hH, hnx, _⟩ := mO h
 have hs : ∀ k b, g1.H.get k = some b → g.H.get k = some b := fun k b hk => by
  rw [hH, T.bP] at hk
  split at hk
  ·cases hk
  ·exact hk
 refine ⟨by rw [hnx]; exact hg.sub hs, ⟨by omega, .refl _ _, rfl, rfl, rfl, Nat.le_refl _, fun _ _ _ => rfl, fun B _ hm => ?_⟩⟩
 obtain ⟨k, b, hk, r⟩ := hm
 exact ⟨k, b, hs k b hk, r⟩
theorem Dt {g g' : G} {nm sz : Nat} {c : Cont} (h : iR (.cells true sz 0 c) g = .done nm g') {μ : MM} {w : World} (hg : eX g.nx μ w.heap g.H) (hpos : 0 < sz) (bk : Nat) :
  eX g'.nx (μ.set g.nx bk 0 sz) w.heap g'.H ∧ Ext g μ w g' (μ.set g.nx bk 0 sz) w := by
 obtain ⟨_, hH, hnx, _⟩ := iE h
 have hu : MM.upto g.nx μ (μ.set g.nx bk 0 sz) := MM.yI μ (Nat.le_refl _)
 have hnr : ¬ (aF.cells true sz 0 c).real (μ.set g.nx bk 0 sz) g.nx := by simp [aF.real, MM.lT]
 constructor
 ·rw [hH, hnx]
  refine hg.upd hu (by omega) (by omega) ?_ (fun _ _ _ _ _ => rfl) ?_
  ·rintro _ ⟨⟩
   exact ⟨MM.NW .., hpos, fun hr => absurd hr hnr⟩
  ·rintro _ ⟨⟩ hr; exact absurd hr hnr
 ·refine ⟨by omega, hu, rfl, rfl, rfl, Nat.le_refl _, fun _ _ _ => rfl, fun B hB hm => ?_⟩
  obtain ⟨g1, b1, hg1, ho1, hr1, e⟩ := hm
  rw [hH, T.bP] at hg1
  split at hg1
  ·rename_i e1; cases hg1; rw [e1] at hr1; exact absurd hr1 hnr
  ·have hlt := hg.lt _ _ hg1
   rw [aF.bH hu hlt] at hr1
   rw [hu.blk _ hlt] at e
   exact ⟨g1, b1, hg1, ho1, hr1, e⟩
theorem KD {g g1 g2 : G} {old nm sz n n' : Nat} {c c' : Cont} {u : Unit} (h1 : yC old g = .done u g1) (h2 : iR (.cells true sz n' c') g1 = .done nm g2) {μ : MM} {w w' : World} (hg : eX g.nx μ w.heap g.H)
  (hb : g.H.get old = some (.cells true sz n c)) (yK : 0 < n ∨ 0 < μ.cap old) (hos : w'.os = w.os) (htape : w'.tape = w.tape) (hout : w'.output = w.output) (hsize : w'.heap.size = w.heap.size)
  (hoth : ∀ B, B ≠ μ.blk old → w'.heap[B]? = w.heap[B]?) {cur : Array Value} {ty : TypeId} (hB : w'.heap[μ.blk old]? = some (.cells cur ty (0, 0))) (hcap : cur.size = μ.cap old * sz) (hn : n' * sz ≤ cur.size)
  (hrows : ∀ i, i < n' → jv g.nx μ (c'.row i) sz cur (i * sz)) :
  eX g2.nx (μ.set g.nx (μ.blk old) (μ.cap old) sz) w'.heap g2.H ∧ Ext g μ w g2 (μ.set g.nx (μ.blk old) (μ.cap old) sz) w' := by
 obtain ⟨hH1, hnx1, _⟩ := mO h1
 obtain ⟨_, hH, hnx, _⟩ := iE h2
 rw [hnx1] at hH hnx
 have hu : MM.upto g.nx μ (μ.set g.nx (μ.blk old) (μ.cap old) sz) := MM.yI μ (Nat.le_refl _)
 have hs : ∀ k b, g1.H.get k = some b → g.H.get k = some b ∧ k ≠ old := fun k b hk => by
  rw [hH1, T.bP] at hk
  split at hk
  ·cases hk
  ·exact ⟨hk, by assumption⟩
 have hpos : 0 < sz := (hg.ok _ _ hb).2.1
 have NZ : (aF.cells true sz n c).real μ old := by
  rcases yK with h | h
  ·exact .inl h
  ·exact .inr ⟨rfl, h⟩
 have hdis : ∀ k b, g1.H.get k = some b → b.real μ k → μ.blk k ≠ μ.blk old := fun k b hk hr e =>
  (hs k b hk).2 (hg.sep _ _ _ _ hb (hs k b hk).1 rfl NZ hr e.symm).symm
 have hg1 : eX g.nx μ w.heap g1.H := hg.sub fun k b hk => (hs k b hk).1
 constructor
 ·rw [hH, hnx]
  refine hg1.upd hu (by omega) (by omega) ?_ ?_ ?_
  ·rintro _ ⟨⟩
   refine ⟨MM.NW .., hpos, fun _ => ⟨cur, ty, (0, 0), by rw [MM.dZ]; exact hB, by rw [MM.iF, Nat.zero_add]; exact hn, fun _ => ⟨rfl, by rw [MM.lT]; exact hcap, MM.iF ..⟩, fun i hi => by rw [MM.iF, Nat.zero_add]; exact (hrows i hi).later hu (by omega)⟩⟩
  ·intro k b hk _ hr
   exact hoth _ (hdis k b hk hr)
  ·rintro _ ⟨⟩ _ k b hk _ hr _ e
   rw [MM.dZ] at e
   exact hdis k b hk hr e.symm
 ·refine ⟨by omega, hu, hos, htape, hout, by rw [hsize]; exact Nat.le_refl _, fun B hB' hnm => hoth B fun e => hnm ?_, fun B hB' hm => ?_⟩
  ·rw [e]; exact May.of hb rfl NZ
  ·obtain ⟨k, b, hk, ho, hr, e⟩ := hm
   rw [hH, T.bP] at hk
   split at hk
   ·rename_i e1
    rw [e1, MM.dZ] at e
    rw [← e]; exact May.of hb rfl NZ
   ·have hlt := hg1.lt _ _ hk
    rw [aF.bH hu hlt] at hr
    rw [hu.blk _ hlt] at e
    exact ⟨k, b, (hs k b hk).1, ho, hr, e⟩
theorem kW {P : Program} {t e : TypeId} {i : TypeInfo} (ht : P.underlying t = some (.slice e)) (hi : P.info? e = some i) (ty : TypeId) (w : World) (A B : Option Addr) (n C D : Nat) (hC : n ≤ C) :
  (Builtin.append_ #[t, t] ty #[.slice A n C, .slice B 0 D]).run P w = .ok (.slice A n C) w := by
 have hf : (Builtin.firstCells i.size 0 (.slice B 0 D)).run P w = .ok #[] w := by
  cases B with
  | none => simp [Builtin.firstCells]
  | some b => simp [Builtin.firstCells, loadCells, loadCellsFrom]
 cases A with
 | none => simp [Builtin.append_, run_underlying ht, sizeOf, typeInfo, hi, Builtin.lenOf, hC, hf]
 | some a => simp [Builtin.append_, run_underlying ht, sizeOf, typeInfo, hi, Builtin.lenOf, hC, hf, storeCells]
theorem wV {N : Nat} {μ : MM} {dL len m : Nat} {olds news : List Value} {ro rn c' : Nat → List AV} {tail : Array Value} (hlo : olds.length = len * dL)
  (ho : ∀ j, j < len → jv N μ (ro j) dL olds.toArray (j * dL)) (hn : ∀ j, j < m → jv N μ (rn j) dL news.toArray (j * dL))
  (hc : ∀ j, j < len + m → c' j = if j < len then ro j else rn (j - len)) (j : Nat) (hj : j < len + m) : jv N μ (c' j) dL (olds.toArray ++ news.toArray ++ tail) (j * dL) := by
 rw [hc j hj]
 split
 ·rename_i h
  obtain ⟨rl, rc⟩ := ho j h
  refine ⟨rl, fun o v hv => ?_⟩
  obtain ⟨h0, c1, h1, h2⟩ := rc o v hv
  refine ⟨h0, c1, ?_, h2⟩
  have hlt := (Array.getElem?_eq_some_iff.1 h1).1
  rw [Array.append_assoc, Array.getElem?_append_left hlt]; exact h1
 ·rename_i h
  obtain ⟨rl, rc⟩ := hn (j - len) (by omega)
  refine ⟨rl, fun o v hv => ?_⟩
  obtain ⟨h0, c1, h1, h2⟩ := rc o v hv
  refine ⟨h0, c1, ?_, h2⟩
  have hlt := (Array.getElem?_eq_some_iff.1 h1).1
  have e : j * dL + o = len * dL + ((j - len) * dL + o) := by
   rw [← Nat.add_assoc, ← Nat.add_mul]; congr 2; omega
  rw [Array.append_assoc, e, Array.getElem?_append_right (by simp; omega)]
  have e2 : len * dL + ((j - len) * dL + o) - olds.toArray.size = (j - len) * dL + o := by simp [hlo]
  rw [e2, Array.getElem?_append_left hlt]; exact h1
end Go.Sx
namespace Go.Sx
open M
theorem run_append_fits {P : Program} {w : World} {t ty e : TypeId} {i : TypeInfo} (ht : P.underlying t = some (.slice e)) (hi : P.info? e = some i)
  {g sLen sCap : Nat} {cur : Array Value} {ty' : TypeId} (hg : w.heap[g]? = some (.cells cur ty' (0, 0)))
  {a : Addr} {m c : Nat} {news : List Value} (hl : news.length = m * i.size) (hnews : ∀ (j : Nat) u, news[j]? = some u → w.cell? (a.add j) = some u) (h1 : ∀ u ∈ news, u.oneCell' = true)
  (hroom : sLen + m ≤ sCap) (hfit : sLen * i.size + news.length ≤ cur.size) :
  (Builtin.append_ #[t, t] ty #[.slice (some ⟨g, 0, none⟩) sLen sCap, .slice (some a) m c]).run P w =
   .ok (.slice (some ⟨g, 0, none⟩) (sLen + m) sCap) (w.setRow g (cur.toList.take (sLen * i.size) ++ news ++ cur.toList.drop (sLen * i.size + news.length)).toArray) := by
 have hf := run_firstCells_some (P := P) w i.size m a m c news hl hnews
 have hst := run_storeCells_at P g (sLen * i.size) ty' news 0 cur w hg (by simpa using hfit) h1
 simp only [Nat.add_zero] at hst
 simp [Builtin.append_, run_underlying ht, sizeOf, typeInfo, hi, Builtin.lenOf, hroom, hf, Addr.add_lit, hst]
theorem Qh {N : Nat} {μ : MM} {w : World} {nm : Nat} {own : Bool} {sz n len : Nat} {c : Cont} (hb : dw N μ w.heap nm (.cells own sz n c)) (hown : own = true) (hlen : len ≤ n) :
  ∃ olds : List Value, olds.length = len * sz ∧ (∀ (j : Nat) v, olds[j]? = some v → w.cell? ((⟨μ.blk nm, 0, none⟩ : Addr).add j) = some v) ∧ ∀ j, j < len → jv N μ (c.row j) sz olds.toArray (j * sz) := by
 obtain ⟨_, _, hcur⟩ := hb
 rcases Nat.eq_zero_or_pos len with rfl | hpos
 ·exact ⟨[], by simp, fun j v h => by simp at h, fun j hj => absurd hj (by omega)⟩
 ·obtain ⟨cur, ty, fz, hB, hfit, hfz, hrows⟩ := hcur (.inl (by omega))
  obtain ⟨_, _, hb0⟩ := hfz hown
  simp only [hb0, Nat.zero_add] at hfit hrows
  have hls : len * sz ≤ n * sz := Nat.mul_le_mul_right _ hlen
  refine ⟨cur.toList.take (len * sz), by simp; omega, fun j v hv => ?_, fun j hj => ?_⟩
  ·rw [Addr.add_lit, cell_of hB]
   rw [List.getElem?_take] at hv
   split at hv
   ·simpa using hv
   ·cases hv
  ·obtain ⟨rl, rc⟩ := hrows j (by omega)
   refine ⟨rl, fun o v hv => ?_⟩
   obtain ⟨h0, c', h1, h2⟩ := rc o v hv
   have ho : o < sz := by have := (List.getElem?_eq_some_iff.1 hv).1; omega
   have := kK hj (Nat.le_refl (len * sz))
   refine ⟨h0, c', ?_, h2⟩
   rw [List.getElem?_toArray, List.getElem?_take, if_pos (by omega)]
   simpa using h1
theorem Du {src : Nat → List AV} {s : Bool} {len m : Nat} {c : Cont} (j : Nat) (hj : j < len + m) :
  (bif s then Cont.fn (fun j => bif decide (j < len) then c.row j else (bif Nat.beq m 1 then src 0 else src (j - len))) else Cont.more src len m c).row j = if j < len then c.row j else src (j - len) := by
 cases s with
 | true =>
  simp only [cond_true, Cont.row]
  by_cases h : j < len
  ·simp [h]
  ·simp only [decide_eq_false h, cond_false, if_neg h]
   cases hm : Nat.beq m 1 with
   | true =>
    have := Nat.eq_of_beq_eq_true hm
    rw [cond_true, show j - len = 0 by omega]
   | false => rfl
 | false =>
  simp only [cond_false, Cont.Dp]
  by_cases h : j < len
  ·rw [if_neg (by omega), if_pos h]
  ·rw [if_pos (by omega), if_neg h]
theorem wW {P : Program} {t u ty : TypeId} {x y v : AV} {g g' : G} (h : nD P t u x y g = .done v g') :
  (g'.cs → g.cs) ∧ (g'.cs → ∀ μ w cx cy, eX g.nx μ w.heap g.H → Rep g.nx μ x cx → Rep g.nx μ y cy → Gives g μ w g' v ((Builtin.append_ #[t, u] ty #[cx, cy]).run P w)) := by
 unfold nD at h
 obtain ⟨e, g1, a1, h1⟩ := au h
 obtain ⟨ht, rfl⟩ := aJ a1
 obtain ⟨_, g2, a2, h2⟩ := au h1
 obtain ⟨htu, rfl⟩ := aU a2
 obtain rfl := Nat.eq_of_beq_eq_true htu
 obtain ⟨z, g3, a3, h3⟩ := au h2
 obtain ⟨hz, rfl⟩ := aJ a3
 obtain ⟨i, zv, hi, hzv, hby, hsz, hpos, hzl, hone, hzr⟩ := oK hz
 have ht' := fJ ht
 obtain ⟨⟨ss, m, r⟩, g4, a4, h4⟩ := au h3
 obtain ⟨p, k4, hsrc⟩ := uO a4 hpos
 simp only at h4 hsrc
 split at h4
 ·-- onto nil
  cases hz0 : (!ss && Nat.beq m 0) with
  | true =>
   rw [hz0, cond_true] at h4
   obtain ⟨rfl, rfl⟩ := aA h4
   simp only [Bool.and_eq_true, Bool.not_eq_true', Bool.not_eq_true] at hz0
   obtain rfl : m = 0 := Nat.eq_of_beq_eq_true hz0.2
   refine ⟨fun hc => (k4.2.2 hc).1, fun hc μ w cx cy hg hx hy => ?_⟩
   obtain ⟨B, C, rfl, _⟩ := hsrc (k4.2.2 hc).2 g.nx μ w cy hg hy
   simp only [Rep] at hx
   subst hx
   rw [kW ht' hi ty w none B 0 0 C (Nat.le_refl _)]
   exact Gives.iG k4 hg (by simp [Rep])
  | false =>
  rw [hz0, cond_false] at h4
  obtain ⟨_, g5, a5, h5⟩ := au h4
  have k5 := k4.trans (dI a5)
  obtain ⟨nm, g6, a6, h6⟩ := au h5
  obtain ⟨rfl, rfl⟩ := aA h6
  obtain ⟨hnm, hH, hnx, hcs⟩ := iE a6
  have hk := Keep.Cj k5 hcs
  refine ⟨fun hc => (hk hc).1, fun hc μ w cx cy hg hx hy => ?_⟩
  obtain ⟨hp, hb48, afz⟩ := (hk hc).2
  obtain ⟨B, C, rfl, hnews⟩ := hsrc hp g.nx μ w cy hg hy
  simp only [Rep] at hx
  subst hx
  have hg5 : eX g5.nx μ w.heap g5.H := by rw [k5.1, k5.2.1]; exact hg
  rcases Nat.eq_zero_or_pos m with rfl | hm
  ·obtain ⟨hg', he⟩ := Dt a6 hg5 hpos 0
   refine ⟨_, w, _, kW ht' hi ty w none B 0 0 C (Nat.le_refl _), ?_, hg', Ext.oJ k5 he⟩
   simp only [Rep]
   exact ⟨by omega, none, 0, rfl, Nat.le_refl _, fun h0 => absurd h0 (by omega), (fun hs => by rw [hs] at hz0; simp at hz0), fun _ => ⟨rfl, rfl, .inl ⟨rfl, rfl, rfl⟩⟩⟩
  ·obtain ⟨ad, news, rfl, hnl, hcell, h1c, hrow⟩ := hnews hm
   have hrun := run_append_nil (P := P) w t ty e i zv ht' hi hzv ad m C news (by rw [hsz]; exact hnl) hcell hm (by omega) (by rw [hby]; omega)
   have hge := grownCap_ge w m 0 e
   obtain ⟨hg', he⟩ := vX a6 hg5 hpos (w' := w.drew.alloc (.cells (news.toArray ++ Builtin.zeroCells zv.cells (grownCap w m 0 e - m)) e)) (.drew _ _) (grownCap w m 0 e) (by
    simp only [Array.size_append, List.size_toArray, size_zeroCells, hnl, hzl, ← Nat.add_mul]; congr 1; omega) hge (by
    intro j hj
    have := wV (N := g.nx) (μ := μ) (dL := z.1.length) (len := 0) (m := m) (olds := []) (news := news) (ro := fun _ => []) (rn := r)
     (c' := (bif ss then Cont.fn r else Cont.more r 0 m (.lit [] .e)).row) (tail := Builtin.zeroCells zv.cells (grownCap w m 0 e - m)) (by simp) (fun j hj => absurd hj (by omega)) hrow
     (fun j hj => by
      rw [if_neg (by omega), Nat.sub_zero]
      cases ss with
      | true => rfl
      | false => simp only [cond_false, Cont.Dp]; rw [if_pos (by omega), Nat.sub_zero]) j (by omega)
    rw [k5.2.1]
    simpa using this)
   refine ⟨_, _, _, hrun, ?_, hg', Ext.oJ k5 he⟩
   simp only [Rep]
   refine ⟨by omega, _, _, rfl, hge, fun _ => ?_, fun _ => rfl, fun _ => ⟨rfl, rfl, .inr ⟨?_, ?_⟩⟩⟩
   ·rw [hnm]; simp [MM.addr, MM.iF, MM.dZ]
   ·rw [hnm, MM.dZ]
   ·rw [hnm, MM.lT]
 ·-- onto a slice of the call's own
  rename_i s own a len
  obtain ⟨⟨bo, sz, n, c⟩, g5, a5, h5⟩ := au h4
  obtain ⟨hb, rfl⟩ := fK a5
  simp only at h5 hb
  obtain ⟨_, g6, a6, h6⟩ := au h5
  obtain ⟨hq, rfl⟩ := aU a6
  simp only [Bool.and_eq_true] at hq
  obtain ⟨⟨rfl, rfl⟩, acI⟩ := hq
  obtain rfl := Nat.eq_of_beq_eq_true acI
  obtain ⟨_, g7, a7, h7⟩ := au h6
  have k7 := k4.trans (dI a7)
  obtain ⟨_, g8, a8, h8⟩ := au h7
  obtain ⟨nm, g9, a9, h9⟩ := au h8
  obtain ⟨rfl, rfl⟩ := aA h9
  obtain ⟨hnm, hH, hnx, hcs⟩ := iE a9
  obtain ⟨hH8, N7, acJ⟩ := mO a8
  have hk := Keep.Cj k7 (hcs.trans acJ)
  refine ⟨fun hc => (hk hc).1, fun hc μ w cx cy hg hx hy => ?_⟩
  obtain ⟨hp, hlen, hb48, afz⟩ := (hk hc).2
  obtain ⟨B, D, rfl, hnews⟩ := hsrc hp g.nx μ w cy hg hy
  have Yt : eX g7.nx μ w.heap g7.H := by rw [k7.1, k7.2.1]; exact hg
  have hb7 : g7.H.get a.g = some (.cells true z.1.length n c) := by rw [k7.1, ← k4.1]; exact hb
  obtain ⟨hg8, he8⟩ := Yr a8 Yt
  simp only [Rep] at hx
  obtain ⟨hag, A, C, rfl, hlC, hA, hnn, hown⟩ := hx
  obtain ⟨hai, hao, hAC⟩ := hown rfl
  obtain ⟨olds, hol, hoc, abD⟩ := Qh (Yt.ok _ _ hb7) rfl hlen
  have afC : g8.nx = g.nx := N7.trans k7.2.1
  have hrows : ∀ (news : List Value) (tail : Array Value), (∀ j, j < m → jv g.nx μ (r j) z.1.length news.toArray (j * z.1.length)) → ∀ j, j < len + m →
    jv g.nx μ ((bif s || ss then Cont.fn (fun j => bif decide (j < len) then c.row j else (bif Nat.beq m 1 then r 0 else r (j - len))) else Cont.more r len m c).row j) z.1.length (olds.toArray ++ news.toArray ++ tail) (j * z.1.length) :=
   fun news tail hr j hj => wV hol (by rw [← k7.2.1]; exact abD) hr (fun j hj => Du j hj) j hj
  rcases Nat.eq_zero_or_pos m with rfl | hm
  ·have hrun := kW (P := P) ht' hi ty w A B len C D hlC
   simp only [Nat.add_zero] at *
   by_cases yK : 0 < n ∨ 0 < μ.cap a.g
   ·-- the block goes on
    obtain ⟨_, _, hcur⟩ := Yt.ok _ _ hb7
    obtain ⟨cur, ty', fz, hB, hfit, hfz, hro⟩ := hcur (yK.imp id fun h => ⟨rfl, h⟩)
    obtain ⟨rfl, hcap, hb0⟩ := hfz rfl
    simp only [hb0, Nat.zero_add] at hfit hro
    have hls : len * z.1.length ≤ n * z.1.length := Nat.mul_le_mul_right _ hlen
    obtain ⟨hg', he⟩ := KD a8 a9 Yt hb7 yK (w' := w) rfl rfl rfl rfl (fun _ _ => rfl) hB hcap (by omega) (by
     intro j hj
     have e := Du (src := r) (s := s || ss) (len := len) (m := 0) (c := c) j (by omega)
     rw [if_pos hj] at e
     rw [e]; exact hro j (by omega))
    refine ⟨_, _, _, hrun, ?_, hg', Ext.oJ k7 he⟩
    simp only [Rep]
    refine ⟨by omega, A, C, rfl, hlC, fun h0 => ?_, fun hs => hnn (by simpa using (Bool.or_eq_false_iff.1 hs).1), fun _ => ⟨rfl, rfl, ?_⟩⟩
    ·rw [hA h0, hnm, N7]; simp [MM.addr, MM.iF, MM.dZ, hai, hao]
    ·rw [hnm, N7, MM.dZ, MM.lT]; exact hAC
   ·-- there was none
    obtain rfl : n = 0 := by omega
    obtain rfl : len = 0 := by omega
    obtain ⟨hg', he⟩ := Dt a9 hg8 hpos (μ.blk a.g)
    refine ⟨_, _, _, hrun, ?_, hg', Ext.oJ k7 (he8.trans he)⟩
    simp only [Rep]
    refine ⟨by omega, A, C, rfl, hlC, fun h0 => absurd h0 (by omega), fun hs => hnn (Bool.or_eq_false_iff.1 hs).1, fun _ => ⟨rfl, rfl, ?_⟩⟩
    rw [hnm, MM.dZ, MM.lT]
    rcases hAC with hq | ⟨hq, hq2⟩
    ·exact .inl hq
    ·exact .inr ⟨hq, by omega⟩
  ·obtain ⟨ad, news, rfl, hnl, hcell, h1c, hrow⟩ := hnews hm
   rcases hAC with ⟨rfl, rfl, rfl⟩ | ⟨rfl, rfl⟩
   ·-- nil
    have hrun := run_append_nil (P := P) w t ty e i zv ht' hi hzv ad m D news (by rw [hsz]; exact hnl) hcell hm (by omega) (by rw [hby]; simp only [Nat.zero_add] at hb48; omega)
    have hge := grownCap_ge w m 0 e
    obtain rfl : olds = [] := List.eq_nil_of_length_eq_zero (by simpa using hol)
    obtain ⟨hg', he⟩ := vX a9 hg8 hpos (w' := w.drew.alloc (.cells (news.toArray ++ Builtin.zeroCells zv.cells (grownCap w m 0 e - m)) e)) (.drew _ _) (grownCap w m 0 e) (by
     simp only [Array.size_append, List.size_toArray, size_zeroCells, hnl, hzl, ← Nat.add_mul]; congr 1; omega) (by omega) (by
     intro j hj
     rw [afC]
     have := hrows news (Builtin.zeroCells zv.cells (grownCap w m 0 e - m)) hrow j hj
     simpa using this)
    refine ⟨_, _, _, hrun, ?_, hg', Ext.oJ k7 (he8.trans he)⟩
    simp only [Rep]
    refine ⟨by omega, _, _, by rw [Nat.zero_add], by omega, fun _ => ?_, fun _ => rfl, fun _ => ⟨rfl, rfl, .inr ⟨?_, ?_⟩⟩⟩
    ·rw [hnm]; simp [MM.addr, MM.iF, MM.dZ]
    ·rw [hnm, MM.dZ]
    ·rw [hnm, MM.lT]
   ·by_cases hroom : len + m ≤ μ.cap a.g
    ·-- there is room
     have yK : 0 < n ∨ 0 < μ.cap a.g := .inr (by omega)
     obtain ⟨_, _, hcur⟩ := Yt.ok _ _ hb7
     obtain ⟨cur, ty', fz, hB, hfit, hfz, hro⟩ := hcur (yK.imp id fun h => ⟨rfl, h⟩)
     obtain ⟨rfl, hcap, hb0⟩ := hfz rfl
     simp only [hb0, Nat.zero_add] at hfit hro
     have hlm : (len + m) * z.1.length ≤ μ.cap a.g * z.1.length := Nat.mul_le_mul_right _ hroom
     rw [Nat.add_mul] at hlm
     have Bf : len * z.1.length + news.length ≤ cur.toList.length := by rw [hnl, Array.length_toList, hcap]; exact hlm
     have hrun := run_append_fits (P := P) (ty := ty) (c := D) ht' hi hB (by rw [hsz]; exact hnl) hcell h1c hroom (by rw [hsz]; simpa using Bf)
     rw [hsz] at hrun
     have hget := fun p => rO cur.toList (len * z.1.length) news Bf p
     obtain ⟨hg', he⟩ := KD a8 a9 Yt hb7 yK (w' := w.setRow (μ.blk a.g) (cur.toList.take (len * z.1.length) ++ news ++ cur.toList.drop (len * z.1.length + news.length)).toArray) rfl rfl rfl (by simp)
      (fun B hne => setRow_other w _ _ _ hne) (setRow_heap w _ cur _ ty' _ hB) (by rw [← hcap]; simp at Bf ⊢; omega) (by rw [Nat.add_mul]; simp at Bf ⊢; omega) (by
      intro j hj
      rw [Du j hj]
      split
      ·rename_i hjl
       obtain ⟨rl, rc⟩ := hro j (by omega)
       refine ⟨rl, fun o v hv => ?_⟩
       obtain ⟨h0, c', h1, h2⟩ := rc o v hv
       have ho : o < z.1.length := by have := (List.getElem?_eq_some_iff.1 hv).1; omega
       have := kK hjl (Nat.le_refl (len * z.1.length))
       refine ⟨h0, c', ?_, h2⟩
       rw [List.getElem?_toArray, hget, if_pos (by omega)]
       simpa using h1
      ·rename_i hjl
       obtain ⟨rl, rc⟩ := hrow (j - len) (by omega)
       refine ⟨rl, fun o v hv => ?_⟩
       obtain ⟨h0, c', h1, h2⟩ := rc o v hv
       have hlt : (j - len) * z.1.length + o < news.length := by have := (Array.getElem?_eq_some_iff.1 h1).1; simpa using this
       have e3 : j * z.1.length + o = len * z.1.length + ((j - len) * z.1.length + o) := by
        rw [← Nat.add_assoc, ← Nat.add_mul]; congr 2; omega
       refine ⟨h0, c', ?_, by rw [k7.2.1]; exact h2⟩
       rw [List.getElem?_toArray, e3, hget, if_neg (by omega), if_pos (by omega), Nat.add_sub_cancel_left]
       simpa using h1)
     refine ⟨_, _, _, hrun, ?_, hg', Ext.oJ k7 he⟩
     simp only [Rep]
     refine ⟨by omega, _, _, rfl, hroom, fun _ => ?_, fun _ => rfl, fun _ => ⟨rfl, rfl, .inr ⟨?_, ?_⟩⟩⟩
     ·rw [hnm, N7]; simp [MM.addr, MM.iF, MM.dZ]
     ·rw [hnm, N7, MM.dZ]
     ·rw [hnm, N7, MM.lT]
    ·-- it grows
     have hrun := run_append_grow (P := P) w t ty e i zv ht' hi hzv ⟨μ.blk a.g, 0, none⟩ len (μ.cap a.g) olds (by rw [hsz]; exact hol) hoc ad m D news (by rw [hsz]; exact hnl) hcell (by omega) (by omega)
      (growslice_fits (by omega) (by rw [hby]; exact hb48))
     have hge := grownCap_ge w (len + m) (μ.cap a.g) e
     obtain ⟨hg', he⟩ := vX a9 hg8 hpos (w' := w.drew.alloc (.cells (olds.toArray ++ news.toArray ++ Builtin.zeroCells zv.cells (grownCap w (len + m) (μ.cap a.g) e - (len + m))) e)) (.drew _ _) (grownCap w (len + m) (μ.cap a.g) e) (by
      simp only [Array.size_append, List.size_toArray, size_zeroCells, hnl, hol, hzl, ← Nat.add_mul]; congr 1; omega) hge (by
      intro j hj
      rw [afC]
      exact hrows news _ hrow j hj)
     refine ⟨_, _, _, hrun, ?_, hg', Ext.oJ k7 (he8.trans he)⟩
     simp only [Rep]
     refine ⟨by omega, _, _, rfl, hge, fun _ => ?_, fun _ => rfl, fun _ => ⟨rfl, rfl, .inr ⟨?_, ?_⟩⟩⟩
     ·rw [hnm]; simp [MM.addr, MM.iF, MM.dZ]
     ·rw [hnm, MM.dZ]
     ·rw [hnm, MM.lT]
 ·cases h4
end Go.Sx
namespace Go.Sx
open M
theorem foldl_set (off : Nat) : ∀ (l : List Value) (k : Nat) (cs : Array Value), off + k + l.length ≤ cs.size →
  ((l.zipIdx k).foldl (fun cs p => cs.setIfInBounds (off + p.2) p.1) cs).toList = cs.toList.take (off + k) ++ l ++ cs.toList.drop (off + k + l.length)
 | [], k, cs, _ => by simp
 | v :: l, k, cs, h => by
  simp only [List.length_cons] at h
  simp only [List.zipIdx_cons, List.foldl_cons]
  rw [foldl_set off l (k + 1) (cs.setIfInBounds (off + k) v) (by simp; omega)]
  have e := list_seg_step cs.toList (off + k) v l (by simp; omega)
  simpa [Array.toList_setIfInBounds, Nat.add_assoc] using e
theorem Iq {N : Nat} {μ : MM} {place : Nat → Option (Nat × Nat)} : ∀ {ps : List (Nat × AV)} {qs : List (Nat × Value)} {cells : List AV} {cs : Array Value} {r : List AV},
  Di place cells ps = some r → aI N μ cells cs.toList → ps.map (·.1) = qs.map (·.1) → (∀ (i : Nat) (p : Nat × AV) (q : Nat × Value), ps[i]? = some p → qs[i]? = some q → Rep N μ p.2 q.2) →
  (∀ p ∈ ps, p.2.cells.all AV.one = true) →
  ∃ out, Instr.fill place cs qs = some out ∧ aI N μ r out.toList
 | [], [], cells, cs, r, h, hr, _, _, _ => by cases h; exact ⟨cs, rfl, hr⟩
 | [], _ :: _, _, _, _, _, _, hk, _, _ => by simp at hk
 | _ :: _, [], _, _, _, _, _, hk, _, _ => by simp at hk
 | (i, v) :: ps, (i', v') :: qs, cells, cs, r, h, hr, hk, hp, ho => by
  simp only [List.map_cons, List.cons.injEq] at hk
  obtain ⟨rfl, hk⟩ := hk
  unfold Di at h
  unfold Instr.fill
  cases hpl : place i with
  | none => rw [hpl] at h; cases h
  | some y =>
   obtain ⟨off, size⟩ := y
   rw [hpl] at h
   simp only at h ⊢
   cases hq : (Nat.beq v.cells.length size && decide (off + size ≤ cells.length)) with
   | false => rw [hq] at h; cases h
   | true =>
    rw [hq, cond_true] at h
    simp only [Bool.and_eq_true, decide_eq_true_eq] at hq
    have hl := Nat.eq_of_beq_eq_true hq.1
    have hv := (hp 0 (i, v) (i, v') rfl rfl).cells (ho (i, v) (by simp))
    have hvl : v'.cells.size = size := by rw [← hl, ← hv.1.length, Array.length_toList]
    have hcl : cs.size = cells.length := by rw [← hr.length, Array.length_toList]
    have hbad : (v'.cells.size ≠ size || decide (off + v'.cells.size > cs.size)) = false := by
     simp [hvl, hcl]; omega
    simp only [hbad, Bool.false_eq_true, if_false]
    have hf : (v'.cells.zipIdx.foldl (fun cs x => match x with | (c, j) => cs.setIfInBounds (off + j) c) cs).toList = cs.toList.take off ++ v'.cells.toList ++ cs.toList.drop (off + v'.cells.toList.length) := by
     have := foldl_set off v'.cells.toList 0 cs (by simp; omega)
     rw [← Array.foldl_toList, Array.toList_zipIdx]
     simpa using this
    refine Iq h ?_ hk (fun j p q h1 h2 => hp (j + 1) p q (by simpa using h1) (by simpa using h2)) fun p hm => ho p (by simp [hm])
    rw [hf]
    unfold splice
    have e : v.cells.length = v'.cells.toList.length := hv.1.length.symm
    rw [e]
    exact ((hr.take off).append hv.1).append (hr.drop _)
theorem wX {P : Program} : ∀ {fs : List Field} {ps : List (Nat × Nat)}, placesOf P fs = some ps → fs.mapM (fun f => (P.info? f.type).map fun i => (f.offset, i.size)) = some ps
 | [], ps, h => by cases h; rfl
 | f :: fs, ps, h => by
  unfold placesOf at h
  split at h
  ·rename_i y r hy hr
   cases h
   obtain ⟨i, d, hi, _, e, _⟩ := jM hy
   simp [List.mapM_cons, hi, wX hr, e]
  ·cases h
def vY (N : Nat) (μ : MM) (ps : List (Nat × AV)) (qs : List (Nat × Value)) : Prop :=
 ps.map (·.1) = qs.map (·.1) ∧ ∀ (i : Nat) (p : Nat × AV) (q : Nat × Value), ps[i]? = some p → qs[i]? = some q → Rep N μ p.2 q.2
theorem Ir (u : Value) : (Sx.kG u).cells = [Sx.kG u] := by
 unfold Sx.kG
 split <;> first | rfl | skip
 ·rename_i b
  by_cases h : b < 18446744073709551616 <;> simp [h, AV.cells]
 ·rename_i a b
  by_cases h : a < 18446744073709551616 ∧ b < 18446744073709551616
  ·rw [decide_eq_true h]; rfl
  ·rw [decide_eq_false h]; rfl
theorem Rep.KE (N : Nat) (μ : MM) (u : Value) : aI N μ (Sx.gZ u).cells u.cells.toList := by
 have h1 : ∀ {x : AV} {c : Value}, Rep N μ x c → aI N μ [x] [c] := fun hr => by simp only [aI]; exact ⟨_, [], rfl, hr, rfl⟩
 have hs : ∀ u : Value, Sx.gZ u = Sx.kG u → u.cells = #[u] → aI N μ (Sx.gZ u).cells u.cells.toList := fun u e1 e2 => by
  rw [e1, e2, Ir]; exact h1 (Rep.kG N μ u)
 cases u with
 | agg cs =>
  have hrep := Rep.gZ N μ (.agg cs)
  simp only [Sx.gZ, Rep] at hrep
  obtain ⟨cs', e, hr⟩ := hrep
  cases e; exact hr
 | tuple cs => exact h1 (Rep.gZ N μ (.tuple cs))
 | _ => exact hs _ rfl rfl
theorem Iu {P : Program} {t : TypeId} {ps : List (Nat × AV)} {v : AV} {g g' : G} (h : xJ P t ps g = .done v g') :
  g = g' ∧ ∀ N μ w (qs : Array (Nat × Value)), vY N μ ps qs.toList → ∃ c, (Instr.build t qs).run P w = .ok c w ∧ Rep N μ v c := by
 unfold xJ at h
 obtain ⟨_, g1, a1, h1⟩ := au h
 obtain ⟨hone, rfl⟩ := aU a1
 obtain ⟨z, g2, a2, h2⟩ := au h1
 obtain ⟨hz, rfl⟩ := aJ a2
 obtain ⟨it, zv, hit, hzv, rfl⟩ := qy hz
 have hall : ∀ p ∈ ps, p.2.cells.all AV.one = true := List.all_eq_true.1 hone
 obtain ⟨place, g3, a3, h3⟩ := au h2
 obtain ⟨hpl, rfl⟩ := aJ a3
 obtain ⟨cs, g4, a4, h4⟩ := au h3
 obtain ⟨hcs, rfl⟩ := aJ a4
 obtain ⟨rfl, rfl⟩ := aA h4
 refine ⟨rfl, fun N μ w qs hq => ?_⟩
 obtain ⟨out, ho, hr⟩ := Iq hcs (Rep.KE N μ zv) hq.1 hq.2 hall
 refine ⟨.agg out, run_build w t qs out ?_, by simp only [Rep]; exact ⟨out, rfl, hr⟩⟩
 unfold placeOf at hpl
 split at hpl
 ·rename_i fs hfs
  cases hps : placesOf P fs.toList with
  | none => rw [hps] at hpl; cases hpl
  | some pl =>
   rw [hps] at hpl; cases hpl
   unfold Program.built
   simp only [hit, hfs, hzv, wX hps]
   simpa using ho
 ·rename_i n e hfs
  cases hy : lay P e with
  | none => rw [hy] at hpl; cases hpl
  | some y =>
   rw [hy] at hpl; cases hpl
   obtain ⟨ie, d, hie, _, e1, _⟩ := jM hy
   unfold Program.built
   simp only [hit, hfs, hzv, hie, e1]
   exact ho
 ·cases hpl
theorem nG (z : List AV) : ∀ n, (uK z n).length = n * z.length
 | 0 => by simp [uK]
 | n + 1 => by simp [uK, nG z n, Nat.add_mul]; omega
theorem Dv (z : List AV) (hz : 0 < z.length) : ∀ n p, p < n * z.length → (uK z n)[p]? = z[p % z.length]?
 | 0, p, h => by simp at h
 | n + 1, p, h => by
  simp only [uK]
  by_cases hp : p < z.length
  ·rw [List.getElem?_append_left hp, Nat.mod_eq_of_lt hp]
  ·rw [List.getElem?_append_right (by omega), Dv z hz n (p - z.length) (by rw [Nat.add_mul] at h; omega), ← Nat.mod_eq_sub_mod (by omega)]
theorem KF (sz : Nat) : ∀ (n : Nat) (l : List AV) (t : T (List AV)) (i j : Nat), (chop sz n l t i).get j = if i ≤ j ∧ j < i + n then some ((l.drop ((j - i) * sz)).take sz) else t.get j
 | 0, l, t, i, j => by simp only [chop]; rw [if_neg (by omega)]
 | n + 1, l, t, i, j => by
  simp only [chop]
  rw [KF sz n, T.bP]
  by_cases h : j = i
  ·subst h; rw [if_neg (by omega), if_pos rfl, if_pos (by omega)]; simp
  ·rw [if_neg h]
   by_cases h2 : i + 1 ≤ j ∧ j < i + 1 + n
   ·rw [if_pos h2, if_pos (by omega), List.drop_drop]
    have e : (j - i) * sz = sz + (j - (i + 1)) * sz := by
     rw [Nat.add_comm, ← Nat.succ_mul]; congr 1; omega
    rw [e]
   ·rw [if_neg h2, if_neg (by omega)]
theorem yL {P : Program} {t : TypeId} {len : Nat} {ps : List (Nat × AV)} {v : AV} {g g' : G} (h : jL P t len ps g = .done v g') :
  (g'.cs → g.cs) ∧ ∀ μ w (qs : Array (Nat × Value)), eX g.nx μ w.heap g.H → vY g.nx μ ps qs.toList → Gives g μ w g' v ((Instr.buildSlice t len qs).run P w) := by
 unfold jL at h
 obtain ⟨e, g1, a1, h1⟩ := au h
 obtain ⟨ht, rfl⟩ := aJ a1
 obtain ⟨z, g2, a2, h2⟩ := au h1
 obtain ⟨hz, rfl⟩ := aJ a2
 obtain ⟨i, zv, hi, hzv, hby, hsz, hpos, hzl, hone, hzr⟩ := oK hz
 obtain ⟨_, g3, a3, h3⟩ := au h2
 obtain ⟨hq, rfl⟩ := aU a3
 simp only [Bool.and_eq_true, decide_eq_true_eq] at hq
 obtain ⟨h24, hall⟩ := hq
 obtain ⟨cs, g4, a4, h4⟩ := au h3
 obtain ⟨hcs, rfl⟩ := aJ a4
 obtain ⟨_, g5, a5, h5⟩ := au h4
 obtain ⟨afD, rfl⟩ := aU a5
 obtain ⟨nm, g6, a6, h6⟩ := au h5
 obtain ⟨rfl, rfl⟩ := aA h6
 obtain ⟨hnm, hH, hnx, hcs'⟩ := iE a6
 refine ⟨fun hc => by rw [hcs'] at hc; exact hc, fun μ w qs hg hp => ?_⟩
 have afE : aI g.nx μ (uK z.1 len) (madeCells zv.cells (len * z.1.length)).toList := by
  refine .Dl (by simp [madeCells, nG]) fun p x hx => ?_
  have hpl : p < len * z.1.length := by have := (List.getElem?_eq_some_iff.1 hx).1; rwa [nG] at this
  rw [Dv z.1 hpos len p hpl] at hx
  obtain ⟨c', h1, h2⟩ := (hzr g.nx μ).get hx
  refine ⟨c', ?_, h2⟩
  have h1' : zv.cells[p % z.1.length]? = some c' := by simpa using h1
  rw [Array.getElem?_toList]
  simp only [madeCells, Array.getElem?_map, Array.getElem?_range, hpl, if_true, Option.map_some, hzl]
  rw [getElem!_def, h1']
 obtain ⟨out, ho, hr⟩ := Iq hcs afE hp.1 hp.2 (List.all_eq_true.1 hall)
 have hcl : cs.length = out.size := by rw [← hr.length, Array.length_toList]
 have hfl : ∀ {place : Nat → Option (Nat × Nat)} {qs : List (Nat × AV)} {a b : List AV}, Di place a qs = some b → b.length = a.length := by
  intro place qs
  induction qs with
  | nil => intro a b h; cases h; rfl
  | cons q qs ih =>
   intro a b h
   unfold Di at h
   split at h
   ·cases h
   ·rename_i off size _
    cases hq : (Nat.beq q.2.cells.length size && decide (off + size ≤ a.length)) with
    | false => simp only [hq, cond_false] at h; cases h
    | true =>
     simp only [hq, cond_true] at h
     simp only [Bool.and_eq_true, decide_eq_true_eq] at hq
     have := Nat.eq_of_beq_eq_true hq.1
     rw [ih h, qN _ _ _ (by omega)]
 have hcs2 : cs.length = len * z.1.length := by rw [hfl hcs, nG]
 obtain ⟨hg', he⟩ := vX a6 hg hpos (w' := w.alloc (.cells out e (0, 0))) (.alloc _ _) len (by omega) (Nat.le_refl _) (by
  intro j hj
  have hje := kK hj (Nat.le_refl (len * z.1.length))
  have hrow : (Cont.lit z.1 (chop z.1.length len cs T.e 0)).row j = (cs.drop (j * z.1.length)).take z.1.length := by
   simp only [Cont.row, KF]
   rw [if_pos (by omega), Nat.sub_zero]; rfl
  rw [hrow]
  refine ⟨by simp; omega, fun o x hx => ?_⟩
  rw [List.getElem?_take] at hx
  split at hx
  ·rw [List.getElem?_drop] at hx
   obtain ⟨c', h1, h2⟩ := hr.get hx
   exact ⟨List.all_eq_true.1 afD _ (List.mem_of_getElem? hx), c', by simpa using h1, h2⟩
  ·cases hx)
 refine ⟨.slice (some ⟨w.heap.size, 0, none⟩) len len, w.alloc (.cells out e (0, 0)), _, ?_, ?_, hg', he⟩
 ·have n1 : ¬ (16777216 < len * i.size) := by rw [hsz]; omega
  by_cases hz0 : len * i.size = 0
  ·have hm : (madeCells zv.cells (len * z.1.length)) = #[] := by rw [← hsz, hz0]; exact Array.eq_empty_of_size_eq_zero (size_madeCells _ _)
   rw [hm] at ho
   have ho' : Instr.fill (fun x => some (x * i.size, i.size)) #[] qs.toList = some out := by rw [hsz]; exact ho
   simp [Instr.buildSlice, run_underlying (fJ ht), run_sizeOf hi, n1, hz0, Array.range_zero', ho', newRow, newObj, Sem.run, World.alloc_eq]
  ·have ho' : Instr.fill (fun x => some (x * i.size, i.size)) (Array.map (fun x => zv.cells[x % zv.cells.size]!) (Array.range (len * i.size))) qs.toList = some out := by rw [hsz]; exact ho
   simp [Instr.buildSlice, run_underlying (fJ ht), run_sizeOf hi, n1, hz0, zeroValue, typeInfo, hi, hzv, ho', newRow, newObj, Sem.run, World.alloc_eq]
 ·simp only [Rep]
  refine ⟨by omega, _, _, rfl, Nat.le_refl _, fun _ => ?_, fun _ => rfl, fun _ => ⟨rfl, rfl, .inr ⟨?_, ?_⟩⟩⟩
  ·rw [hnm]; simp [MM.addr, MM.iF, MM.dZ]
  ·rw [hnm, MM.dZ]
  ·rw [hnm, MM.lT]
end Go.Sx
namespace Go.Sx
open M
theorem wY {P : Program} {op : BinOp} (hop : vS op = true) (w : World) {x y a b : Nat} (ha : FB x a) (hb : FB y b) : ∃ r n, (Op.floatArith op .f64 a b).run P w = .ok (.float .f64 r) { w with drawn := n } ∧ FB (FY op x y) r := by
 obtain ⟨r, n, h1, h2⟩ := CZ (P := P) w hop a b
 refine ⟨r, n, h1, by rw [h2, ha.1, hb.1], ?_⟩
 -- the bits fit: a valid result by the kit's law, a NaN by its making
 cases hf : floatBits op .f64 a b with
 | some r' =>
  have := run_floatArith (P := P) w hf
  rw [this] at h1
  simp only [Result.ok.injEq, Value.float.injEq, true_and] at h1
  obtain ⟨rfl, _⟩ := h1
  have hw := floatBits_wf hf
  simpa [Lit.wf] using hw
 | none =>
  have : ∃ n', (Op.floatArith op .f64 a b).run P w = .ok (.float .f64 (Question.cut (.nanBits .f64 a b) (w.tape w.drawn (.nanBits .f64 a b)))) { w with drawn := n' } := by
   refine ⟨w.drawn + 1, ?_⟩
   unfold floatBits at hf
   cases op <;> simp only [vS, Bool.false_eq_true] at hop <;> simp only at hf <;> simp [Op.floatArith, hf, Question.forced, choose, Sem.run]
  obtain ⟨n', h3⟩ := this
  rw [h3] at h1
  simp only [Result.ok.injEq, Value.float.injEq, true_and] at h1
  obtain ⟨rfl, _⟩ := h1
  simp only [Question.cut]
  omega
theorem jB {x y a b : Nat} (ha : FB x a) (hb : FB y b) : FloatKind.f64.format.order a b = iQ x y := by
 rw [← ha.1, ← hb.1]; exact (Ko a b).symm
theorem Iw {P : Program} {s : Bool} {op : BinOp} {x y : Nat} {g g' : G} {v : AV} {t : TypeId} (h : rE s op x y g = .done v g') :
  g = g' ∧ ∀ N μ (w : World) a b, FB x a → FB y b → ∃ c n, (binOp op t (.float .f64 a) (.float .f64 b)).run P w = .ok c { w with drawn := n } ∧ Rep N μ v c := by
 have arith : ∀ {op : BinOp}, vS op = true → ∀ N μ (w : World) a b, FB x a → FB y b → ∃ c n, (Op.floatArith op .f64 a b).run P w = .ok c { w with drawn := n } ∧ Rep N μ (.flt s (FY op x y)) c := by
  intro op hop N μ w a b ha hb
  obtain ⟨r, n, h1, h2⟩ := wY (P := P) hop w ha hb
  exact ⟨_, n, h1, by simp only [Rep]; exact ⟨r, rfl, h2⟩⟩
 have cmp : ∀ {op : BinOp} {q : Nat → Nat → Bool}, (∀ a b, FB x a → FB y b → (binOp op t (.float .f64 a) (.float .f64 b)) = pure (.bool (q x y))) → ∀ N μ (w : World) a b, FB x a → FB y b →
   ∃ c n, (binOp op t (.float .f64 a) (.float .f64 b)).run P w = .ok c { w with drawn := n } ∧ Rep N μ (dH s (q x y)) c := by
  intro op q hq N μ w a b ha hb
  refine ⟨_, w.drawn, by rw [hq a b ha hb]; rfl, ?_⟩
  cases s <;> simp [dH, Rep]
 unfold rE at h
 cases op <;> first | exact (aY h).elim | skip
 all_goals obtain ⟨rfl, rfl⟩ := aA h
 all_goals refine ⟨rfl, ?_⟩
 ·intro N μ w a b ha hb; simpa [binOp, FY] using arith (op := .add) rfl N μ w a b ha hb
 ·intro N μ w a b ha hb; simpa [binOp, FY] using arith (op := .sub) rfl N μ w a b ha hb
 ·intro N μ w a b ha hb; simpa [binOp, FY] using arith (op := .mul) rfl N μ w a b ha hb
 ·intro N μ w a b ha hb; simpa [binOp, FY] using arith (op := .quo) rfl N μ w a b ha hb
 ·exact cmp (q := vP) fun a b ha hb => by rw [binOp_float_cmp_eql, jB ha hb]; rfl
 ·exact cmp (q := fun x y => !vP x y) fun a b ha hb => by rw [binOp_float_cmp_neq, jB ha hb]; rfl
 ·exact cmp (q := Sx.flt) fun a b ha hb => by rw [binOp_float_cmp_lss, jB ha hb]; rfl
 ·exact cmp (q := Us) fun a b ha hb => by rw [binOp_float_cmp_leq, jB ha hb]; rfl
 ·exact cmp (q := Ut) fun a b ha hb => by rw [binOp_float_cmp_gtr, jB ha hb]; rfl
 ·exact cmp (q := fge) fun a b ha hb => by rw [binOp_float_cmp_geq, jB ha hb]; rfl
theorem nH {P : Program} {op : BinOp} (hop : vS op = true) (w : World) {x y a b : Nat} (ha : FB x a) (hb : FB y b) : ∃ r n, (Op.Complex.arith op .f64 a b).run P w = .ok r { w with drawn := n } ∧ FB (FY op x y) r := by
 obtain ⟨r, n, h1, h2⟩ := wY (P := P) hop w ha hb
 exact ⟨r, n, by simp [Op.Complex.arith, h1], h2⟩
theorem yM {P : Program} (w : World) {x y a b : Nat} (ha : FB x a) (hb : FB y b) : (Op.Complex.cmp .eql .f64 a b).run P w = .ok (vP x y) w := by
 simp [Op.Complex.cmp, Op.floatCmp, asBool, jB ha hb, vP]
theorem Iy {P : Program} {s : Bool} {op : BinOp} {x y z u : Nat} {g g' : G} {v : AV} {t : TypeId} (h : xB s op x y z u g = .done v g') :
  g = g' ∧ ∀ N μ (w : World) a b c d, FB x a → FB y b → FB z c → FB u d → ∃ r n, (binOp op t (.complex .f64 a b) (.complex .f64 c d)).run P w = .ok r { w with drawn := n } ∧ Rep N μ v r := by
 unfold xB at h
 cases op <;> first | exact (aY h).elim | skip
 all_goals obtain ⟨rfl, rfl⟩ := aA h
 all_goals refine ⟨rfl, fun N μ w a b c d ha hb hc hd => ?_⟩
 ·obtain ⟨r1, n1, h1, f1⟩ := nH (P := P) (op := .add) rfl w ha hc
  obtain ⟨r2, n2, h2, f2⟩ := nH (P := P) (op := .add) rfl { w with drawn := n1 } hb hd
  exact ⟨.complex .f64 r1 r2, n2, by simp [binOp, Op.complexOp, h1, h2], by simp only [Rep]; exact ⟨r1, r2, rfl, f1, f2⟩⟩
 ·obtain ⟨r1, n1, h1, f1⟩ := nH (P := P) (op := .sub) rfl w ha hc
  obtain ⟨r2, n2, h2, f2⟩ := nH (P := P) (op := .sub) rfl { w with drawn := n1 } hb hd
  exact ⟨.complex .f64 r1 r2, n2, by simp [binOp, Op.complexOp, h1, h2], by simp only [Rep]; exact ⟨r1, r2, rfl, f1, f2⟩⟩
 ·refine ⟨.bool (vP x z && vP y u), w.drawn, ?_, by cases s <;> simp [dH, Rep]⟩
  cases h1 : vP x z <;> simp [binOp, Op.complexOp, yM w ha hc, yM w hb hd, h1]
 ·refine ⟨.bool (!(vP x z && vP y u)), w.drawn, ?_, by cases s <;> simp [dH, Rep]⟩
  cases h1 : vP x z <;> simp [binOp, Op.complexOp, yM w ha hc, yM w hb hd, h1]
theorem jW {s : Bool} {k : IntKind} {r : Int} {g g' : G} {v : AV} (h : lM s k r g = .done v g') : ∃ p, Keep g g' p ∧ (p → ∀ N μ, Rep N μ v (.int k (k.wrap r))) := by
 unfold lM at h
 cases hq : (s && yD k) with
 | true =>
  rw [hq, cond_true] at h
  obtain ⟨_, g1, a1, h1⟩ := au h
  obtain ⟨rfl, rfl⟩ := aA h1
  refine ⟨_, dR a1, fun hp N μ => ?_⟩
  rw [Bool.and_eq_true] at hq
  have hk : k = .i64 := by cases k <;> simp [yD] at hq; rfl
  subst hk
  have e : IntKind.i64.wrap r = r := by rw [IntKind.wrap_i64]; omega
  simp only [Rep, e]
 | false =>
  rw [hq, cond_false] at h
  obtain ⟨rfl, rfl⟩ := aA h
  exact ⟨_, Keep.refl _, fun _ N μ => by simp only [Rep]⟩
theorem Rep.dH (N : Nat) (μ : MM) (s b : Bool) : Rep N μ (dH s b) (.bool b) := by cases s <;> simp [Sx.dH, Rep]
theorem lU {P : Program} {s : Bool} {k : IntKind} {op : BinOp} {a b : Int} {g g' : G} {v : AV} {t : TypeId} (h : jK s k op a b g = .done v g') :
  ∃ p, Keep g g' p ∧ (p → ∀ N μ (w : World), ∃ c, (binOp op t (.int k a) (.int k b)).run P w = .ok c w ∧ Rep N μ v c) := by
 unfold jK at h
 cases op <;> simp only at h <;> first | exact (aY h).elim | skip
 ·obtain ⟨p, k1, h1⟩ := jW h
  exact ⟨p, k1, fun hp N μ w => ⟨_, by simp [binOp, Op.intArith], h1 hp N μ⟩⟩
 ·obtain ⟨p, k1, h1⟩ := jW h
  exact ⟨p, k1, fun hp N μ w => ⟨_, by simp [binOp, Op.intArith], h1 hp N μ⟩⟩
 ·obtain ⟨p, k1, h1⟩ := jW h
  exact ⟨p, k1, fun hp N μ w => ⟨_, by simp [binOp, Op.intArith], h1 hp N μ⟩⟩
 ·obtain ⟨_, g1, a1, h1⟩ := au h
  obtain ⟨p, k1, h2⟩ := jW h1
  exact ⟨_, (dI a1).trans k1, fun hp N μ w => ⟨_, by simp [binOp, Op.intDiv, hp.1], h2 hp.2 N μ⟩⟩
 ·obtain ⟨_, g1, a1, h1⟩ := au h
  obtain ⟨rfl, rfl⟩ := aA h1
  exact ⟨_, dI a1, fun hp N μ w => ⟨.int k (a.tmod b), by simp [binOp, Op.intDiv, hp], by simp only [Rep]⟩⟩
 all_goals obtain ⟨rfl, rfl⟩ := aA h
 all_goals refine ⟨_, Keep.refl _, fun _ N μ w => ?_⟩
 ·exact ⟨.int k (uI .and k a b), by simp only [binOp, ne_eq, not_true_eq_false, if_false]; rfl, by simp only [Rep]⟩
 ·exact ⟨.int k (uI .or k a b), by simp only [binOp, ne_eq, not_true_eq_false, if_false]; rfl, by simp only [Rep]⟩
 ·exact ⟨.int k (uI .xor k a b), by simp only [binOp, ne_eq, not_true_eq_false, if_false]; rfl, by simp only [Rep]⟩
 ·exact ⟨.int k (uI .andNot k a b), by simp only [binOp, ne_eq, not_true_eq_false, if_false]; rfl, by simp only [Rep]⟩
 ·exact ⟨.bool (a == b), by simp [binOp, Op.intCmp], .dH ..⟩
 ·exact ⟨.bool (a != b), by simp [binOp, Op.intCmp], .dH ..⟩
 ·exact ⟨_, by simp only [binOp, ne_eq, not_true_eq_false, if_false]; rfl, .dH ..⟩
 ·exact ⟨_, by simp only [binOp, ne_eq, not_true_eq_false, if_false]; rfl, .dH ..⟩
 ·exact ⟨_, by simp only [binOp, ne_eq, not_true_eq_false, if_false]; rfl, .dH ..⟩
 ·exact ⟨_, by simp only [binOp, ne_eq, not_true_eq_false, if_false]; rfl, .dH ..⟩
theorem rP {P : Program} {s : Bool} {k k' : IntKind} {op : BinOp} {a b : Int} {g g' : G} {v : AV} {t : TypeId} (h : o8 s k op a b g = .done v g') :
  ∃ p, Keep g g' p ∧ (p → ∀ N μ (w : World), ∃ c, (binOp op t (.int k a) (.int k' b)).run P w = .ok c w ∧ Rep N μ v c) := by
 unfold o8 at h
 obtain ⟨_, g1, a1, h1⟩ := au h
 have k1 := dI a1
 cases op <;> simp only at h1 <;> first | exact (aY h1).elim | skip
 ·obtain ⟨p, k2, h2⟩ := jW h1
  refine ⟨_, k1.trans k2, fun hp N μ w => ⟨_, ?_, h2 hp.2 N μ⟩⟩
  have : ¬ b < 0 := by omega
  simp [binOp, Op.shift, this]
 ·obtain ⟨rfl, rfl⟩ := aA h1
  refine ⟨_, k1, fun hp N μ w => ⟨.int k (a.fdiv (2 ^ min b.toNat k.bits)), ?_, by simp only [Rep]⟩⟩
  have : ¬ b < 0 := by omega
  simp [binOp, Op.shift, this]
end Go.Sx
namespace Go.Sx
open M
theorem qR (l : List UInt8) : (⟨l.toArray⟩ : ByteArray).toList = l := by rw [ByteArray.toList_eq]
theorem rQ (l : List UInt8) : (⟨l.toArray⟩ : ByteArray).size = l.length := by simp [ByteArray.size]
theorem Sr (a b : List UInt8) : (⟨a.toArray⟩ ++ ⟨b.toArray⟩ : ByteArray) = ⟨(a ++ b).toArray⟩ := by
 apply ByteArray.ext
 rw [ByteArray.data_append]
 simp
theorem Iz {P : Program} {s : Bool} {op : BinOp} {a b : List UInt8} {g g' : G} {v : AV} {t : TypeId} (h : xC s op a b g = .done v g') :
  ∃ p, Keep g g' p ∧ (p → ∀ N μ (w : World), ∃ c, (binOp op t (.string ⟨a.toArray⟩) (.string ⟨b.toArray⟩)).run P w = .ok c w ∧ Rep N μ v c) := by
 unfold xC at h
 cases op <;> simp only at h <;> first | exact (aY h).elim | skip
 ·obtain ⟨_, g1, a1, h1⟩ := au h
  obtain ⟨rfl, rfl⟩ := aA h1
  refine ⟨_, dI a1, fun hp N μ w => ⟨.string ⟨(a ++ b).toArray⟩, ?_, by simp only [Rep]⟩⟩
  have : ¬ (9223372036854775807 < (a.length : Int) + (b.length : Int)) := by omega
  simp [binOp, Op.stringOp, rQ, Sr, IntKind.max, IntKind.bits, IntKind.signed, this]
 all_goals obtain ⟨rfl, rfl⟩ := aA h
 all_goals refine ⟨_, Keep.refl _, fun _ N μ w => ?_⟩
 ·exact ⟨.bool (a == b), by simp [binOp, Op.stringOp, qR], .dH ..⟩
 ·exact ⟨.bool (!(a == b)), by simp [binOp, Op.stringOp, qR], .dH ..⟩
 ·exact ⟨.bool (Op.bytesLess a b), by simp [binOp, Op.stringOp, qR], .dH ..⟩
theorem oM {P : Program} {t : TypeId} (h : vV P t = true) : P.underlying t = some .bool := by
 unfold vV at h; split at h <;> first | assumption | cases h
theorem uP {P : Program} {t : TypeId} (h : Df P t = true) : ∃ e, P.underlying t = some (.pointer e) := by
 unfold Df at h; split at h <;> first | exact ⟨_, by assumption⟩ | cases h
theorem rU {P : Program} {t : TypeId} (h : yE P t = true) : ∃ a b c, P.underlying t = some (.func a b c) := by
 unfold yE at h; split at h <;> first | exact ⟨_, _, _, by assumption⟩ | cases h
theorem oN {P : Program} {s a b : Bool} {op : BinOp} {g g' : G} {v : AV} {t : TypeId} (ht : P.underlying t = some .bool) (h : qL op s a b g = .done v g') :
  g = g' ∧ ∀ N μ (w : World), ∃ c, (binOp op t (.bool a) (.bool b)).run P w = .ok c w ∧ Rep N μ v c := by
 unfold qL at h
 cases op <;> simp only at h <;> first | exact (aY h).elim | skip
 all_goals obtain ⟨rfl, rfl⟩ := aA h
 all_goals refine ⟨rfl, fun N μ w => ?_⟩
 all_goals have he : (Op.equal t (.bool a) (.bool b)).run P w = .ok (a == b) w := run_equalIn_bool' w 9999 t a b ht
 ·refine ⟨.bool (a == b), ?_, .dH ..⟩
  show (do pure (.bool (← Op.equal t (.bool a) (.bool b))) : Sem Value).run P w = _
  simp [he]
 ·refine ⟨.bool (!(a == b)), ?_, .dH ..⟩
  show (do pure (.bool (!(← Op.equal t (.bool a) (.bool b)))) : Sem Value).run P w = _
  simp [he]
theorem iH {P : Program} {b : Bool} {op : BinOp} {g g' : G} {v : AV} {t : TypeId} {x y : Value} (hx : ∀ w : World, (Op.equal t x y).run P w = .ok b w)
  (hs : binOp .eql t x y = (do pure (.bool (← Op.equal t x y))) ∧ binOp .neq t x y = (do pure (.bool (!(← Op.equal t x y))))) (h : o9 op b g = .done v g') :
  g = g' ∧ ∀ N μ (w : World), ∃ c, (binOp op t x y).run P w = .ok c w ∧ Rep N μ v c := by
 unfold o9 at h
 cases op <;> simp only at h <;> first | exact (aY h).elim | skip
 all_goals obtain ⟨rfl, rfl⟩ := aA h
 all_goals refine ⟨rfl, fun N μ w => ?_⟩
 ·exact ⟨.bool b, by rw [hs.1]; simp [hx], by simp only [Rep]⟩
 ·exact ⟨.bool !b, by rw [hs.2]; simp [hx], by simp only [Rep]⟩
theorem IB {P : Program} {d : TypeDesc} {ty : TypeId} (hd : P.underlying ty = some d) {v v' : AV} {x : Bool × Bool} (h : NR d v v' = some x) {N : Nat} {μ : MM} {c c' : Value} (hv : Rep N μ v c) (hv' : Rep N μ v' c') (k : Nat) (w : World) :
  (Op.equalIn (k + 1) ty c c').run P w = .ok x.2 w ∧ v.one = true ∧ qK d = false := by
 unfold NR at h
 split at h
 ·rename_i s k1 a s' k2 b
  by_cases hk : k1 = k2
  ·subst hk
   simp only [decide_true, cond_true, Option.some.injEq] at h
   subst h
   simp only [Rep] at hv hv'
   subst hv hv'
   refine ⟨?_, rfl, rfl⟩
   rw [run_equalIn_int w k ty k1 _ a b hd]
   rfl
  ·simp [hk] at h
 ·cases h
  simp only [Rep] at hv hv'
  obtain ⟨a', rfl, ha⟩ := hv
  obtain ⟨b', rfl, hb⟩ := hv'
  refine ⟨?_, rfl, rfl⟩
  simp [Op.equalIn, run_underlying hd, Op.floatEq, jB ha hb, vP]
 ·cases h
  simp only [Rep] at hv hv'
  subst hv hv'
  refine ⟨?_, rfl, rfl⟩
  rw [run_equalIn_string w k ty _ _ hd, qR, qR]
 ·cases h
  simp only [Rep] at hv hv'
  subst hv hv'
  exact ⟨run_equalIn_bool' w k ty _ _ hd, rfl, rfl⟩
 ·cases h
theorem Dw {P : Program} {ty : TypeId} {d : TypeDesc} (hd : P.underlying ty = some d) (ha : qK d = false) {cs : Array Value} {o : Nat} {c : Value} (hc : cs[o]? = some c) (w : World) : (part ty cs o).run P w = .ok c w := by
 simp [part, vW hd, ha, hc]
theorem uQ {P : Program} (k : Nat) (xs ys : Array Value) {N : Nat} {μ : MM} : ∀ {fs : List Field} {o : Nat} {l l' : List AV} {x : Bool × Bool}, pq P o fs l l' = some x →
  (∀ (i : Nat) v, l[i]? = some v → ∃ c, xs[o + i]? = some c ∧ Rep N μ v c) → (∀ (i : Nat) v, l'[i]? = some v → ∃ c, ys[o + i]? = some c ∧ Rep N μ v c) → ∀ w : World, (Op.eqFields (k + 1) xs ys fs).run P w = .ok x.2 w
 | [], o, l, l', x, h, _, _, w => by
  cases l <;> cases l' <;> simp [pq] at h
  subst h; rfl
 | f :: fs, o, [], l', x, h, _, _, w => by cases l' <;> simp [pq] at h
 | f :: fs, o, v :: l, [], x, h, _, _, w => by simp [pq] at h
 | f :: fs, o, v :: l, v' :: l', x, h, hx, hy, w => by
   unfold pq at h
   cases hq : (Nat.beq f.offset o && !(f.name == "_")) with
   | false => rw [hq] at h; cases h
   | true =>
    rw [hq, cond_true] at h
    simp only [Bool.and_eq_true, Bool.not_eq_true'] at hq
    have ho := Nat.eq_of_beq_eq_true hq.1
    have hn : f.name ≠ "_" := by
     intro e; rw [e] at hq; simp at hq
    split at h
    ·rename_i d hd
     split at h
     ·rename_i x1 x2 h1 h2
      cases h
      obtain ⟨c, hc, hr⟩ := hx 0 v rfl
      obtain ⟨c', hc', hr'⟩ := hy 0 v' rfl
      obtain ⟨he, _, hag⟩ := IB hd h1 hr hr' k w
      have ih := uQ k xs ys h2 (fun i u hu => by have := hx (i + 1) u (by simpa using hu); rwa [show o + (i + 1) = o + 1 + i by omega] at this)
       (fun i u hu => by have := hy (i + 1) u (by simpa using hu); rwa [show o + (i + 1) = o + 1 + i by omega] at this) w
      simp only [Nat.add_zero] at hc hc'
      unfold Op.eqFields
      simp only [ne_eq, hn, not_false_eq_true, if_true, Sem.run_bind, ho, Dw hd hag hc, Dw hd hag hc', Result.andThen_ok, he]
      cases x1.2
      ·simp
      ·simp [ih]
     ·cases h
    ·cases h
theorem Dx {P : Program} {t : TypeId} {l l' : List AV} {x : Bool × Bool} (h : structEq P t l l' = some x) {N : Nat} {μ : MM} {xs ys : Array Value} (hx : aI N μ l xs.toList) (hy : aI N μ l' ys.toList) (w : World) :
  (Op.equalIn 10000 t (.agg xs) (.agg ys)).run P w = .ok x.2 w ∧ P.eqGuardType P.depth t = false := by
 unfold structEq at h
 split at h
 ·rename_i fs hfs
  cases hq : (!P.stoodInHeld t && !P.eqGuardType P.depth t) with
  | false => rw [hq] at h; cases h
  | true =>
   rw [hq, cond_true] at h
   simp only [Bool.and_eq_true, Bool.not_eq_true'] at hq
   have hf : P.fieldsOf t = fs := by simp [Program.fieldsOf, hfs]
   refine ⟨?_, hq.2⟩
   rw [run_equalIn_struct w 9999 t xs ys (by rw [hf]; exact hfs) hq.1, hf]
   exact uQ 9998 xs ys h (fun i v hv => by simpa using hx.get hv) (fun i v hv => by simpa using hy.get hv) w
 ·cases h
theorem Sv (b : Nat) : (b ^^^ 9223372036854775808) % 9223372036854775808 = b % 9223372036854775808 := by
 have := Nat.xor_mod_two_pow (a := b) (b := 9223372036854775808) (n := 63)
 simpa using this
theorem Bg (b : Nat) : isnan (b ^^^ 9223372036854775808) = isnan b := by simp only [isnan, Sv]
theorem FB.neg {x b : Nat} (h : FB x b) : FB (BP x) (b ^^^ 9223372036854775808) := by
 obtain ⟨rfl, hb⟩ := h
 refine ⟨?_, Nat.xor_lt_two_pow (n := 64) (by simpa using hb) (by decide)⟩
 unfold BP
 cases hn : isnan b with
 | false => rw [iC hn]
 | true =>
  rw [gu hn, gu (by rw [Bg]; exact hn), gu (by rw [Bg]; exact fH)]
theorem Bh (b : Nat) : isnan (b % 9223372036854775808) = isnan b := by simp only [isnan, Nat.mod_mod]
theorem FB.abs {x b : Nat} (h : FB x b) : FB (fabs x) (b % 9223372036854775808) := by
 obtain ⟨rfl, hb⟩ := h
 refine ⟨?_, by omega⟩
 unfold fabs
 cases hn : isnan b with
 | false => rw [iC hn]
 | true =>
  rw [gu hn, gu (by rw [Bh]; exact hn), gu (by rw [Bh]; exact fH)]
theorem FB.gB {x b : Nat} (h : FB x b) (hn : isnan x = false) : b = x := by
 obtain ⟨rfl, _⟩ := h
 rw [UD] at hn
 exact (iC hn).symm
theorem KG {b : Nat} (hb : b < 18446744073709551616) : uI .xor .u64 b kV = ((b ^^^ 9223372036854775808 : Nat) : Int) := by
 have h2 : b ^^^ 9223372036854775808 < 18446744073709551616 := Nat.xor_lt_two_pow (n := 64) (by simpa using hb) (by decide)
 have e1 : BitVec.ofInt 64 (b : Int) = BitVec.ofNat 64 b := by simp
 have e2 : BitVec.ofInt 64 kV = BitVec.ofNat 64 9223372036854775808 := by decide
 show IntKind.u64.wrap ((BitVec.ofInt 64 (b : Int) ^^^ BitVec.ofInt 64 kV).toNat : Int) = _
 rw [e1, e2, BitVec.toNat_xor, BitVec.toNat_ofNat, BitVec.toNat_ofNat, Nat.mod_eq_of_lt (by simpa using hb), Nat.mod_eq_of_lt (by decide), IntKind.wrap_u64]
 omega
theorem Dy {b : Nat} (hb : b < 18446744073709551616) : uI .andNot .u64 b kV = ((b % 9223372036854775808 : Nat) : Int) := by
 have e1 : BitVec.ofInt 64 (b : Int) = BitVec.ofNat 64 b := by simp
 have e2 : ~~~ BitVec.ofInt 64 kV = BitVec.ofNat 64 (2 ^ 63 - 1) := by decide
 show IntKind.u64.wrap ((BitVec.ofInt 64 (b : Int) &&& ~~~ BitVec.ofInt 64 kV).toNat : Int) = _
 rw [e1, e2, BitVec.toNat_and, BitVec.toNat_ofNat, BitVec.toNat_ofNat, Nat.mod_eq_of_lt (by simpa using hb), Nat.mod_eq_of_lt (by decide), IntKind.wrap_u64, Nat.and_two_pow_sub_one_eq_mod]
 omega
end Go.Sx
namespace Go.Sx
open M
theorem N8 {P : Program} {op : BinOp} {t : TypeId} {ox oy : Operand} {a b : Value} (h1 : a ≠ .nilIface) (h2 : ∀ xs, a ≠ .agg xs) (w : World) : (eqGuard op t ox oy a b).run P w = .ok () w := by
 unfold eqGuard
 cases op <;> first | rfl | skip
 all_goals cases a <;> first | exact absurd rfl h1 | exact absurd rfl (h2 _) | skip
 all_goals rfl
def Sz (P : Program) (op : BinOp) (t : TypeId) (ox oy : Operand) (cx cy : Value) (N : Nat) (μ : MM) (w : World) (v : AV) : Prop :=
 ∃ c n, ((do eqGuard op t ox oy cx cy; binOp op t cx cy) : Sem Value).run P w = .ok c { w with drawn := n } ∧ Rep N μ v c
theorem Sz.of {P : Program} {op : BinOp} {t : TypeId} {ox oy : Operand} {cx cy : Value} {N : Nat} {μ : MM} {w : World} {v : AV} (h1 : cx ≠ .nilIface) (h2 : ∀ xs, cx ≠ .agg xs)
  (h : ∃ c n, (binOp op t cx cy).run P w = .ok c { w with drawn := n } ∧ Rep N μ v c) : Sz P op t ox oy cx cy N μ w v := by
 obtain ⟨c, n, hr, hv⟩ := h
 exact ⟨c, n, by simp only [Sem.run_bind, N8 h1 h2 w, Result.andThen_ok, hr], hv⟩
theorem Sz.FV {P : Program} {op : BinOp} {t : TypeId} {ox oy : Operand} {cx cy : Value} {N : Nat} {μ : MM} {w : World} {v : AV} (h1 : cx ≠ .nilIface) (h2 : ∀ xs, cx ≠ .agg xs)
  (h : ∃ c, (binOp op t cx cy).run P w = .ok c w ∧ Rep N μ v c) : Sz P op t ox oy cx cy N μ w v :=
 let ⟨c, hr, hv⟩ := h
 .of h1 h2 ⟨c, w.drawn, hr, hv⟩
theorem F5 {P : Program} {s : Bool} {op : BinOp} {x : Nat} {m : Int} {g g' : G} {v : AV} {t : TypeId} (h : rF s op x m g = .done v g') :
  ∃ p, Keep g g' p ∧ (p → ∀ N μ (w : World) (b : Nat), FB x b → ∃ c, (binOp op t (.int .u64 b) (.int .u64 m)).run P w = .ok c w ∧ Rep N μ v c) := by
 have plain : ∀ {op : BinOp} {g' : G} {v : AV}, ((ck s (isnan x = false)).andThen fun _ => jK s .u64 op x m) g = .done v g' →
   ∃ p, Keep g g' p ∧ (p → ∀ N μ (w : World) (b : Nat), FB x b → ∃ c, (binOp op t (.int .u64 b) (.int .u64 m)).run P w = .ok c w ∧ Rep N μ v c) := by
  intro op g' v h
  obtain ⟨_, g1, a1, h1⟩ := au h
  obtain ⟨p, k, h2⟩ := lU (P := P) (t := t) h1
  exact ⟨_, (dI a1).trans k, fun hp N μ w b hb => by rw [hb.gB hp.1]; exact h2 hp.2 N μ w⟩
 unfold rF at h
 cases op <;> simp only at h <;> first | exact plain h | skip
 ·by_cases hm : m = kV
  ·simp only [hm, decide_true, cond_true] at h
   obtain ⟨rfl, rfl⟩ := aA h
   refine ⟨_, Keep.refl _, fun _ N μ w b hb => ⟨.int .u64 (uI .xor .u64 b kV), ?_, ?_⟩⟩
   ·rw [hm]; simp only [binOp, ne_eq, not_true_eq_false, if_false]; rfl
   ·simp only [Rep]; exact ⟨_, by rw [KG hb.2], hb.neg⟩
  ·simp only [hm, decide_false, cond_false] at h; exact plain h
 ·by_cases hm : m = kV
  ·simp only [hm, decide_true, cond_true] at h
   obtain ⟨rfl, rfl⟩ := aA h
   refine ⟨_, Keep.refl _, fun _ N μ w b hb => ⟨.int .u64 (uI .andNot .u64 b kV), ?_, ?_⟩⟩
   ·rw [hm]; simp only [binOp, ne_eq, not_true_eq_false, if_false]; rfl
   ·simp only [Rep]; exact ⟨_, by rw [Dy hb.2], hb.abs⟩
  ·simp only [hm, decide_false, cond_false] at h; exact plain h
theorem yN {P : Program} {t e : TypeId} (he : P.underlying t = some (.pointer e)) (d : Nat) (b : Option Addr) (w : World) : (Op.equalIn (d + 1) t (.pointer none) (.pointer b)).run P w = .ok b.isNone w := by
 simp [Op.equalIn, run_underlying he]
theorem IC {P : Program} {t e : TypeId} (he : P.underlying t = some (.pointer e)) (d : Nat) (a : Addr) (w : World) : (Op.equalIn (d + 1) t (.pointer (some a)) (.pointer none)).run P w = .ok false w := by
 simp [Op.equalIn, run_underlying he]
theorem IE {P : Program} {t : TypeId} {x y z} (he : P.underlying t = some (.func x y z)) (d : Nat) (w : World) : (Op.equalIn (d + 1) t .nilFunc .nilFunc).run P w = .ok true w := by
 simp [Op.equalIn, run_underlying he]
theorem KH {P : Program} {t : TypeId} {x y z} (he : P.underlying t = some (.func x y z)) (d : Nat) (f : Fn) (l c : Array Value) (w : World) : (Op.equalIn (d + 1) t (.func f l c) .nilFunc).run P w = .ok false w := by
 simp [Op.equalIn, run_underlying he]
theorem KI {P : Program} {t : TypeId} {x y z} (he : P.underlying t = some (.func x y z)) (d : Nat) (f : Fn) (l c : Array Value) (w : World) : (Op.equalIn (d + 1) t .nilFunc (.func f l c)).run P w = .ok false w := by
 simp [Op.equalIn, run_underlying he]
theorem yO {P : Program} {t e : TypeId} (he : P.underlying t = some (.slice e)) (d : Nat) (b : Option Addr) (n m : Nat) (w : World) : (Op.equalIn (d + 1) t (.slice none 0 0) (.slice b n m)).run P w = .ok b.isNone w := by
 simp [Op.equalIn, run_underlying he]
theorem IG {P : Program} {t e : TypeId} (he : P.underlying t = some (.slice e)) (d : Nat) (a : Addr) (n m : Nat) (w : World) : (Op.equalIn (d + 1) t (.slice (some a) n m) (.slice none 0 0)).run P w = .ok false w := by
 simp [Op.equalIn, run_underlying he]
theorem KJ {s : Bool} {p : Prop} {u : Unit} {g g' : G} (h : Yf s p g = .done u g') : Keep g g' (s = true → p) := by
 unfold Yf at h
 cases s with
 | true => exact (dR h).mono fun h _ => h
 | false => obtain ⟨_, rfl⟩ := aA h; exact (Keep.refl _).mono fun _ h => by cases h
theorem KL {N : Nat} {μ : MM} {s own : Bool} {a : AA} {len : Nat} {c : Value} (h : Rep N μ (.slc s own a len) c) (hs : s = true → 0 < len) : ∃ A C, c = .slice (some A) len C := by
 simp only [Rep] at h
 obtain ⟨_, A, C, rfl, _, hA, hnn, _⟩ := h
 cases s with
 | true => rw [hA (hs rfl)]; exact ⟨_, _, rfl⟩
 | false =>
  cases A with
  | none => exact absurd (hnn rfl) (by simp)
  | some A => exact ⟨_, _, rfl⟩
theorem N9 {P : Program} {op : BinOp} {t : TypeId} {x y v : AV} {g g' : G} (h : Ku P op t x y g = .done v g') :
  ∃ p, Keep g g' p ∧ (p → ∀ N μ (w : World) ox oy cx cy, Rep N μ x cx → Rep N μ y cy → Sz P op t ox oy cx cy N μ w v) := by
 rw [Yo] at h
 unfold uJ at h
 split at h
 ·-- integers
  rename_i s k a s' k' b
  cases hs : jV op with
  | true =>
   rw [hs, cond_true] at h
   obtain ⟨p, k1, h1⟩ := rP (P := P) (k' := k') (t := t) h
   refine ⟨p, k1, fun hp N μ w ox oy cx cy hx hy => ?_⟩
   simp only [Rep] at hx hy; subst hx hy
   exact .FV (by simp) (by simp) (h1 hp N μ w)
  | false =>
   rw [hs, cond_false] at h
   by_cases hk : k = k'
   ·subst hk
    simp only [decide_true, cond_true] at h
    obtain ⟨p, k1, h1⟩ := lU (P := P) (t := t) h
    refine ⟨p, k1, fun hp N μ w ox oy cx cy hx hy => ?_⟩
    simp only [Rep] at hx hy; subst hx hy
    exact .FV (by simp) (by simp) (h1 hp N μ w)
   ·simp only [hk, decide_false, cond_false] at h; cases h
 ·obtain ⟨rfl, h1⟩ := Iw (P := P) (t := t) h
  refine ⟨_, Keep.refl _, fun _ N μ w ox oy cx cy hx hy => ?_⟩
  simp only [Rep] at hx hy
  obtain ⟨a', rfl, ha⟩ := hx
  obtain ⟨b', rfl, hb⟩ := hy
  exact .of (by simp) (by simp) (h1 N μ w a' b' ha hb)
 ·obtain ⟨rfl, h1⟩ := Iy (P := P) (t := t) h
  refine ⟨_, Keep.refl _, fun _ N μ w ox oy cx cy hx hy => ?_⟩
  simp only [Rep] at hx hy
  obtain ⟨a', b', rfl, ha, hb⟩ := hx
  obtain ⟨c', d', rfl, hc, hd⟩ := hy
  exact .of (by simp) (by simp) (h1 N μ w a' b' c' d' ha hb hc hd)
 ·obtain ⟨p, k1, h1⟩ := Iz (P := P) (t := t) h
  refine ⟨p, k1, fun hp N μ w ox oy cx cy hx hy => ?_⟩
  simp only [Rep] at hx hy; subst hx hy
  exact .FV (by simp) (by simp) (h1 hp N μ w)
 ·-- bits
  rename_i s a m
  cases hs : jV op with
  | true =>
   rw [hs, cond_true] at h
   obtain ⟨_, g1, a1, h0⟩ := au h
   obtain ⟨p, k1, h1⟩ := rP (P := P) (k' := .u64) (t := t) h0
   refine ⟨_, (dI a1).trans k1, fun hp N μ w ox oy cx cy hx hy => ?_⟩
   simp only [Rep] at hx hy
   obtain ⟨b, rfl, hb⟩ := hx
   subst hy
   rw [hb.gB hp.1]
   exact .FV (by simp) (by simp) (h1 hp.2 N μ w)
  | false =>
   rw [hs, cond_false] at h
   obtain ⟨p, k1, h1⟩ := F5 (P := P) (t := t) h
   refine ⟨p, k1, fun hp N μ w ox oy cx cy hx hy => ?_⟩
   simp only [Rep] at hx hy
   obtain ⟨b, rfl, hb⟩ := hx
   subst hy
   exact .FV (by simp) (by simp) (h1 hp N μ w b hb)
 ·rename_i s a m
  cases hs : jV op with
  | true =>
   rw [hs, cond_true] at h
   obtain ⟨_, g1, a1, h0⟩ := au h
   obtain ⟨p, k1, h1⟩ := rP (P := P) (k' := .i64) (t := t) h0
   refine ⟨_, (dI a1).trans k1, fun hp N μ w ox oy cx cy hx hy => ?_⟩
   simp only [Rep] at hx hy
   obtain ⟨b, rfl, hb⟩ := hx
   subst hy
   rw [hb.gB hp.1]
   exact .FV (by simp) (by simp) (h1 hp.2 N μ w)
  | false => rw [hs, cond_false] at h; cases h
 ·cases hs : jV op with
  | true => rw [hs, cond_true] at h; exact (aY h).elim
  | false =>
   rw [hs, cond_false] at h
   obtain ⟨_, g1, a1, h0⟩ := au h
   obtain ⟨p, k1, h1⟩ := lU (P := P) (t := t) h0
   refine ⟨_, (dI a1).trans k1, fun hp N μ w ox oy cx cy hx hy => ?_⟩
   simp only [Rep] at hx hy
   obtain ⟨b, rfl, hb⟩ := hx
   subst hy
   rw [hb.gB hp.1]
   exact .FV (by simp) (by simp) (h1 hp.2 N μ w)
 ·cases hs : jV op with
  | true => rw [hs, cond_true] at h; exact (aY h).elim
  | false =>
   rw [hs, cond_false] at h
   obtain ⟨_, g1, a1, h0⟩ := au h
   obtain ⟨p, k1, h1⟩ := lU (P := P) (t := t) h0
   refine ⟨_, (dI a1).trans k1, fun hp N μ w ox oy cx cy hx hy => ?_⟩
   simp only [Rep] at hx hy
   obtain ⟨b, rfl, hb⟩ := hy
   subst hx
   rw [hb.gB hp.1]
   exact .FV (by simp) (by simp) (h1 hp.2 N μ w)
 ·cases hs : jV op with
  | true => rw [hs, cond_true] at h; exact (aY h).elim
  | false =>
   rw [hs, cond_false] at h
   obtain ⟨_, g1, a1, h0⟩ := au h
   obtain ⟨_, g2, a2, h2⟩ := au h0
   obtain ⟨p, k1, h1⟩ := lU (P := P) (t := t) h2
   refine ⟨_, ((dI a1).trans (dI a2)).trans k1, fun hp N μ w ox oy cx cy hx hy => ?_⟩
   simp only [Rep] at hx hy
   obtain ⟨b, rfl, hb⟩ := hx
   obtain ⟨b', rfl, hb'⟩ := hy
   rw [hb.gB hp.1.1, hb'.gB hp.1.2]
   exact .FV (by simp) (by simp) (h1 hp.2 N μ w)
 ·obtain ⟨_, g1, a1, h0⟩ := au h
  obtain ⟨ht, rfl⟩ := aU a1
  obtain ⟨rfl, h1⟩ := oN (oM ht) h0
  refine ⟨_, Keep.refl _, fun _ N μ w ox oy cx cy hx hy => ?_⟩
  simp only [Rep] at hx hy; subst hx hy
  exact .FV (by simp) (by simp) (h1 N μ w)
 ·obtain ⟨_, g1, a1, h0⟩ := au h
  obtain ⟨ht, rfl⟩ := aU a1
  obtain ⟨rfl, h1⟩ := oN (oM ht) h0
  refine ⟨_, Keep.refl _, fun _ N μ w ox oy cx cy hx hy => ?_⟩
  simp only [Rep] at hx hy; subst hx hy
  exact .FV (by simp) (by simp) (h1 N μ w)
 ·obtain ⟨_, g1, a1, h0⟩ := au h
  obtain ⟨ht, rfl⟩ := aU a1
  obtain ⟨rfl, h1⟩ := oN (oM ht) h0
  refine ⟨_, Keep.refl _, fun _ N μ w ox oy cx cy hx hy => ?_⟩
  simp only [Rep] at hx hy; subst hx hy
  exact .FV (by simp) (by simp) (h1 N μ w)
 ·obtain ⟨_, g1, a1, h0⟩ := au h
  obtain ⟨ht, rfl⟩ := aU a1
  obtain ⟨rfl, h1⟩ := oN (oM ht) h0
  refine ⟨_, Keep.refl _, fun _ N μ w ox oy cx cy hx hy => ?_⟩
  simp only [Rep] at hx hy; subst hx hy
  exact .FV (by simp) (by simp) (h1 N μ w)
 ·obtain ⟨_, g1, a1, h0⟩ := au h
  obtain ⟨ht, rfl⟩ := aU a1
  obtain ⟨e, he⟩ := Option.isSome_iff_exists.1 ht
  have he := fJ he
  have := (iH (P := P) (t := t) (x := .slice none 0 0) (y := .slice none 0 0) (fun w => yO he 9999 none 0 0 w) ⟨rfl, rfl⟩ h0)
  obtain ⟨rfl, h1⟩ := this
  refine ⟨_, Keep.refl _, fun _ N μ w ox oy cx cy hx hy => ?_⟩
  simp only [Rep] at hx hy; subst hx hy
  exact .FV (by simp) (by simp) (h1 N μ w)
 ·rename_i s own a len
  obtain ⟨_, g1, a1, h0⟩ := au h
  obtain ⟨ht, rfl⟩ := aU a1
  obtain ⟨_, g2, a2, h0⟩ := au h0
  have k := KJ a2
  obtain ⟨e, he⟩ := Option.isSome_iff_exists.1 ht
  have he := fJ he
  have := fun A C => (iH (P := P) (t := t) (x := .slice (some A) len C) (y := .slice none 0 0) (fun w => IG he 9999 A len C w) ⟨rfl, rfl⟩ h0)
  obtain ⟨rfl, _⟩ := this ⟨0, 0, none⟩ 0
  refine ⟨_, k, fun hp N μ w ox oy cx cy hx hy => ?_⟩
  obtain ⟨A, C, rfl⟩ := KL hx hp
  simp only [Rep] at hy
  subst hy
  exact .FV (by simp) (by simp) ((this _ _).2 N μ w)
 ·rename_i s own a len
  obtain ⟨_, g1, a1, h0⟩ := au h
  obtain ⟨ht, rfl⟩ := aU a1
  obtain ⟨_, g2, a2, h0⟩ := au h0
  have k := KJ a2
  obtain ⟨e, he⟩ := Option.isSome_iff_exists.1 ht
  have he := fJ he
  have := fun A C => (iH (P := P) (t := t) (x := .slice none 0 0) (y := .slice (some A) len C) (fun w => yO he 9999 (some A) len C w) ⟨rfl, rfl⟩ h0)
  obtain ⟨rfl, _⟩ := this ⟨0, 0, none⟩ 0
  refine ⟨_, k, fun hp N μ w ox oy cx cy hx hy => ?_⟩
  obtain ⟨A, C, rfl⟩ := KL hy hp
  simp only [Rep] at hx
  subst hx
  exact .FV (by simp) (by simp) ((this _ _).2 N μ w)
 ·obtain ⟨_, g1, a1, h0⟩ := au h
  obtain ⟨ht, rfl⟩ := aU a1
  obtain ⟨e, he⟩ := uP ht
  have := (iH (P := P) (t := t) (x := .pointer none) (y := .pointer none) (fun w => yN he 9999 none w) ⟨rfl, rfl⟩ h0)
  obtain ⟨rfl, h1⟩ := this
  refine ⟨_, Keep.refl _, fun _ N μ w ox oy cx cy hx hy => ?_⟩
  simp only [Rep] at hx hy; subst hx hy
  exact .FV (by simp) (by simp) (h1 N μ w)
 ·obtain ⟨_, g1, a1, h0⟩ := au h
  obtain ⟨ht, rfl⟩ := aU a1
  obtain ⟨e, he⟩ := uP ht
  have := fun a => (iH (P := P) (t := t) (x := .pointer (some a)) (y := .pointer none) (fun w => IC he 9999 a w) ⟨rfl, rfl⟩ h0)
  obtain ⟨rfl, _⟩ := this ⟨0, 0, none⟩
  refine ⟨_, Keep.refl _, fun _ N μ w ox oy cx cy hx hy => ?_⟩
  simp only [Rep] at hx hy
  obtain ⟨_, rfl⟩ := hx; subst hy
  exact .FV (by simp) (by simp) ((this _).2 N μ w)
 ·obtain ⟨_, g1, a1, h0⟩ := au h
  obtain ⟨ht, rfl⟩ := aU a1
  obtain ⟨e, he⟩ := uP ht
  have := fun a => (iH (P := P) (t := t) (x := .pointer none) (y := .pointer (some a)) (fun w => yN he 9999 (some a) w) ⟨rfl, rfl⟩ h0)
  obtain ⟨rfl, _⟩ := this ⟨0, 0, none⟩
  refine ⟨_, Keep.refl _, fun _ N μ w ox oy cx cy hx hy => ?_⟩
  simp only [Rep] at hx hy
  obtain ⟨_, rfl⟩ := hy; subst hx
  exact .FV (by simp) (by simp) ((this _).2 N μ w)
 ·obtain ⟨_, g1, a1, h0⟩ := au h
  obtain ⟨ht, rfl⟩ := aU a1
  obtain ⟨e1, e2, e3, he⟩ := rU ht
  have := (iH (P := P) (t := t) (x := .nilFunc) (y := .nilFunc) (fun w => IE he 9999 w) ⟨rfl, rfl⟩ h0)
  obtain ⟨rfl, h1⟩ := this
  refine ⟨_, Keep.refl _, fun _ N μ w ox oy cx cy hx hy => ?_⟩
  simp only [Rep] at hx hy; subst hx hy
  exact .FV (by simp) (by simp) (h1 N μ w)
 ·obtain ⟨_, g1, a1, h0⟩ := au h
  obtain ⟨ht, rfl⟩ := aU a1
  obtain ⟨e1, e2, e3, he⟩ := rU ht
  have := fun f fs cs => (iH (P := P) (t := t) (x := .func f fs cs) (y := .nilFunc) (fun w => KH he 9999 f fs cs w) ⟨rfl, rfl⟩ h0)
  obtain ⟨rfl, _⟩ := this (.func 0) #[] #[]
  refine ⟨_, Keep.refl _, fun _ N μ w ox oy cx cy hx hy => ?_⟩
  simp only [Rep] at hx hy
  obtain ⟨_, _, rfl, _⟩ := hx; subst hy
  exact .FV (by simp) (by simp) ((this _ _ _).2 N μ w)
 ·obtain ⟨_, g1, a1, h0⟩ := au h
  obtain ⟨ht, rfl⟩ := aU a1
  obtain ⟨e1, e2, e3, he⟩ := rU ht
  have := fun f fs cs => (iH (P := P) (t := t) (x := .nilFunc) (y := .func f fs cs) (fun w => KI he 9999 f fs cs w) ⟨rfl, rfl⟩ h0)
  obtain ⟨rfl, _⟩ := this (.func 0) #[] #[]
  refine ⟨_, Keep.refl _, fun _ N μ w ox oy cx cy hx hy => ?_⟩
  simp only [Rep] at hx hy
  obtain ⟨_, _, rfl, _⟩ := hy; subst hx
  exact .FV (by simp) (by simp) ((this _ _ _).2 N μ w)
 ·-- structs
  rename_i l l'
  obtain ⟨x, g1, a1, h0⟩ := au h
  obtain ⟨hx, rfl⟩ := aJ a1
  have fin : ∀ {op : BinOp} {b : Bool}, (∀ w xs ys, (Op.equalIn 10000 t (.agg xs) (.agg ys)).run P w = .ok x.2 w → (binOp op t (.agg xs) (.agg ys)).run P w = .ok (.bool b) w) →
    ∀ N μ (w : World) ox oy cx cy, Rep N μ (.agg l) cx → Rep N μ (.agg l') cy → Sz P op t ox oy cx cy N μ w (dH x.1 b) := by
   intro op b hb N μ w ox oy cx cy h1 h2
   simp only [Rep] at h1 h2
   obtain ⟨xs, rfl, hr1⟩ := h1
   obtain ⟨ys, rfl, hr2⟩ := h2
   obtain ⟨he, hgd⟩ := Dx hx hr1 hr2 w
   exact ⟨.bool b, w.drawn, by simp only [Sem.run_bind, run_eqGuard_agg w op t ox oy xs ys hgd, Result.andThen_ok, hb w xs ys he], .dH ..⟩
  cases op <;> simp only at h0 <;> first | exact (aY h0).elim | skip
  all_goals obtain ⟨rfl, rfl⟩ := aA h0
  all_goals refine ⟨_, Keep.refl _, fun _ => fin fun w xs ys he => ?_⟩
  ·rw [run_eql_struct, he]; rfl
  ·rw [run_neq_struct, he]; rfl
 ·cases h
end Go.Sx
namespace Go.Sx
open M
theorem SA {P : Program} {op : UnOp} {x v : AV} {g g' : G} (h : unA op x g = .done v g') :
  ∃ p, Keep g g' p ∧ (p → ∀ N μ (w : World) cx, Rep N μ x cx → ∃ c, (Op.unary op cx).run P w = .ok c w ∧ Rep N μ v c) := by
 unfold unA at h
 split at h
 ·obtain ⟨p, k, h1⟩ := jW h
  refine ⟨p, k, fun hp N μ w cx hx => ?_⟩
  simp only [Rep] at hx; subst hx
  exact ⟨_, rfl, h1 hp N μ⟩
 all_goals try (obtain ⟨rfl, rfl⟩ := aA h; refine ⟨_, Keep.refl _, fun _ N μ w cx hx => ?_⟩; simp only [Rep] at hx)
 ·obtain ⟨b, rfl, hb⟩ := hx
  exact ⟨.float .f64 (b ^^^ 9223372036854775808), rfl, by simp only [Rep]; exact ⟨_, rfl, hb.neg⟩⟩
 ·obtain ⟨a, b, rfl, ha, hb⟩ := hx
  exact ⟨.complex .f64 (a ^^^ 9223372036854775808) (b ^^^ 9223372036854775808), rfl, by simp only [Rep]; exact ⟨_, _, rfl, ha.neg, hb.neg⟩⟩
 ·subst hx; exact ⟨_, rfl, by simp only [Rep]⟩
 ·subst hx; exact ⟨_, rfl, by simp only [Rep]⟩
 ·cases h
theorem UN (n : Int) : FB (ofInt n) (floatOfInt .f64 n) := by
 refine ⟨iC (wR _ _ _), ?_⟩
 have := floatOfInt_wf .f64 n
 simpa [Lit.wf] using this
theorem F6 {x : Nat} {k : IntKind} (h : (Ik x k).isSome = true) : isnan x = false := by
 cases hn : isnan x with
 | false => rfl
 | true =>
  obtain ⟨s, t, hr⟩ := aZ hn
  unfold Ik floatToIntVal at h
  have : (FloatKind.f64.decode x).toInt .zero = none := by
   show (Ieee.double.read x).toInt .zero = none
   rw [hr]; rfl
  rw [this] at h
  cases h
theorem KN {P : Program} {src dst : TypeId} {x v : AV} {g g' : G} (h : Dh P src dst x g = .done v g') :
  ∃ p, Keep g g' p ∧ (p → ∀ N μ (w : World) cx, Rep N μ x cx → ∃ c, (convert src dst cx).run P w = .ok c w ∧ Rep N μ v c) := by
 unfold Dh at h
 obtain ⟨d, g1, a1, h1⟩ := au h
 obtain ⟨hs, rfl⟩ := aJ a1
 obtain ⟨dd, g2, a2, h2⟩ := au h1
 obtain ⟨hd, rfl⟩ := aJ a2
 clear h h1
 have h := h2
 clear h2
 unfold Gq at h
 split at h
 ·rename_i k s k0 n
  have run : ∀ w : World, (convert src dst (.int k0 n)).run P w = .ok (.int k (k.wrap n)) w := fun w => by
   cases d <;> simp [convert, run_underlying hs, run_underlying hd, Conv.intToInt]
  cases hq : (s && yD k) with
  | true =>
   rw [hq, cond_true] at h
   obtain ⟨_, g1, a1, h1⟩ := au h
   obtain ⟨rfl, rfl⟩ := aA h1
   refine ⟨_, dR a1, fun hp N μ w cx hx => ?_⟩
   rw [Bool.and_eq_true] at hq
   have hk : k = .i64 := by cases k <;> simp [yD] at hq; rfl
   subst hk
   simp only [Rep] at hx; subst hx
   have e : IntKind.i64.wrap n = n := by rw [IntKind.wrap_i64]; omega
   exact ⟨_, run w, by rw [e]; simp only [Rep]⟩
  | false =>
   rw [hq, cond_false] at h
   obtain ⟨rfl, rfl⟩ := aA h
   refine ⟨_, Keep.refl _, fun _ N μ w cx hx => ?_⟩
   simp only [Rep] at hx; subst hx
   exact ⟨_, run w, by simp only [Rep]⟩
 ·rename_i k s x
  have run : ∀ (b : Nat) (w : World), (convert src dst (.int .u64 b)).run P w = .ok (.int k (k.wrap b)) w := fun b w => by
   cases d <;> simp [convert, run_underlying hs, run_underlying hd, Conv.intToInt]
  obtain ⟨_, g1, a1, h1⟩ := au h
  cases hq : (s && yD k) with
  | true =>
   rw [hq, cond_true] at h1
   obtain ⟨_, g2, a2, h2⟩ := au h1
   obtain ⟨rfl, rfl⟩ := aA h2
   refine ⟨_, (dI a1).trans (dR a2), fun hp N μ w cx hx => ?_⟩
   rw [Bool.and_eq_true] at hq
   have hk : k = .i64 := by cases k <;> simp [yD] at hq; rfl
   subst hk
   simp only [Rep] at hx
   obtain ⟨b, rfl, hb⟩ := hx
   have hbx := hb.gB hp.1
   subst hbx
   have e : IntKind.i64.wrap (b : Int) = b := by rw [IntKind.wrap_i64]; omega
   exact ⟨_, run b w, by rw [e]; simp only [Rep]⟩
  | false =>
   rw [hq, cond_false] at h1
   obtain ⟨rfl, rfl⟩ := aA h1
   refine ⟨_, dI a1, fun hp N μ w cx hx => ?_⟩
   simp only [Rep] at hx
   obtain ⟨b, rfl, hb⟩ := hx
   have hbx := hb.gB hp
   subst hbx
   exact ⟨_, run b w, by simp only [Rep]⟩
 ·rename_i s k0 n
  obtain ⟨rfl, rfl⟩ := aA h
  refine ⟨_, Keep.refl _, fun _ N μ w cx hx => ?_⟩
  simp only [Rep] at hx; subst hx
  exact ⟨_, run_convert_int_float w src dst k0 .f64 n (by rw [hs]; rfl) hd, by simp only [Rep]; exact ⟨_, rfl, UN n⟩⟩
 ·rename_i s x
  obtain ⟨rfl, rfl⟩ := aA h
  refine ⟨_, Keep.refl _, fun _ N μ w cx hx => ?_⟩
  simp only [Rep] at hx
  obtain ⟨b, rfl, hb⟩ := hx
  exact ⟨_, run_convert_float_float w src dst .f64 .f64 b b (by rw [hs]; rfl) hd (by simp [floatToFloatBits]), by simp only [Rep]; exact ⟨_, rfl, hb⟩⟩
 ·rename_i k s x
  obtain ⟨_, g1, a1, h1⟩ := au h
  obtain ⟨rfl, rfl⟩ := aA h1
  refine ⟨_, dI a1, fun hp N μ w cx hx => ?_⟩
  simp only [Rep] at hx
  obtain ⟨b, rfl, hb⟩ := hx
  have hbx := hb.gB (F6 hp)
  subst hbx
  obtain ⟨n, hn⟩ := Option.isSome_iff_exists.1 hp
  refine ⟨_, run_convert_float_int w src dst .f64 k b n (by rw [hs]; rfl) hd hn, ?_⟩
  simp only [Rep, hn, Option.getD_some]
 ·cases h
theorem uS {P : Program} {t : TypeId} (h : rG P t = true) : P.underlying t = some .string := by
 unfold rG at h; split at h <;> first | assumption | cases h
theorem Oa {P : Program} {t ty : TypeId} {x v : AV} {g g' : G} (h : NS P t x g = .done v g') :
  g = g' ∧ ∀ N μ (w : World) cx, Rep N μ x cx → ∃ c, (Builtin.len_ #[t] ty #[cx]).run P w = .ok c w ∧ Rep N μ v c := by
 unfold NS at h
 split at h
 ·rename_i s own a len
  obtain ⟨_, g1, a1, h1⟩ := au h
  obtain ⟨hq, rfl⟩ := aU a1
  obtain ⟨rfl, rfl⟩ := aA h1
  obtain ⟨e, he⟩ := Option.isSome_iff_exists.1 hq
  refine ⟨rfl, fun N μ w cx hx => ?_⟩
  simp only [Rep] at hx
  obtain ⟨_, A, C, rfl, _⟩ := hx
  exact ⟨.int .i64 len, by simp [Builtin.len_, run_underlying (fJ he), goInt], by simp only [Rep]⟩
 ·obtain ⟨_, g1, a1, h1⟩ := au h
  obtain ⟨hq, rfl⟩ := aU a1
  obtain ⟨rfl, rfl⟩ := aA h1
  obtain ⟨e, he⟩ := Option.isSome_iff_exists.1 hq
  refine ⟨rfl, fun N μ w cx hx => ?_⟩
  simp only [Rep] at hx; subst hx
  exact ⟨.int .i64 0, by simp [Builtin.len_, run_underlying (fJ he), goInt], by simp only [Rep]⟩
 ·rename_i s l
  obtain ⟨_, g1, a1, h1⟩ := au h
  obtain ⟨hq, rfl⟩ := aU a1
  obtain ⟨rfl, rfl⟩ := aA h1
  refine ⟨rfl, fun N μ w cx hx => ?_⟩
  simp only [Rep] at hx; subst hx
  exact ⟨.int .i64 l.length, by simp [Builtin.len_, run_underlying (uS hq), goInt, rQ], by simp only [Rep]⟩
 ·cases h
theorem Dz {μ : MM} {a : AA} {s : Bool} {dL sz n : Nat} (hsz : μ.sz a.g = sz) : (μ.addr a).add (n * dL) = μ.addr (Gs a s dL sz n) := by
 unfold Gs MM.addr
 rw [Addr.add_lit]
 cases hq : (Nat.beq dL sz && Nat.beq a.o 0) with
 | true =>
  obtain ⟨e1, e2⟩ := yJ.1 hq
  simp only [cond_true, hsz, e1, e2, Nat.add_mul, Nat.add_zero, Nat.add_assoc]
 | false => simp only [cond_false, hsz, Nat.add_assoc]
theorem Qi {a : AA} {s : Bool} {dL sz n : Nat} : (Gs a s dL sz n).g = a.g := by
 unfold Gs; cases (Nat.beq dL sz && Nat.beq a.o 0) <;> rfl
theorem Addr.add_zero' (a : Addr) : a.add 0 = a := by simp [Addr.add]
def zV (N : Nat) (μ : MM) : Option AV → Option Value → Prop
 | none, none => True
 | some v, some c => Rep N μ v c
 | _, _ => False
theorem Gu {P : Program} {d y : Nat} {o : Option AV} {l : Bool × Int} (h : qM d o = some l) {N : Nat} {μ : MM} {co : Option Value} (ho : zV N μ o co) (h0 : 0 ≤ l.2) (hy : l.2 ≤ y) (code : BoundsCode) (w : World) :
  (co = none ∧ l.2 = d) ∨ ∃ c, co = some c ∧ (Instr.sliceBound c y code).run P w = .ok l.2.toNat w := by
 cases o with
 | none =>
  cases co with
  | none => simp only [qM, Option.some.injEq] at h; subst h; exact .inl ⟨rfl, rfl⟩
  | some c => exact ho.elim
 | some v =>
  cases co with
  | none => exact ho.elim
  | some c =>
   obtain ⟨k, rfl⟩ := mP h
   simp only [zV, Rep] at ho
   subst ho
   exact .inr ⟨_, rfl, by simp [Instr.sliceBound, asIntOf, h0, hy]⟩
theorem xM {P : Program} {b : Bool} {len cap : Nat} {lo hi : Option AV} {l h : Bool × Int} (hl : qM 0 lo = some l) (hh : qM len hi = some h) {N : Nat} {μ : MM} {clo chi : Option Value}
  (h1 : zV N μ lo clo) (h2 : zV N μ hi chi) (h0 : 0 ≤ l.2) (hlh : l.2 ≤ h.2) (hhl : h.2 ≤ len) (hcap : len ≤ cap) (w : World) :
  (Instr.sliceBounds b len cap clo chi none).run P w = .ok (l.2.toNat, h.2.toNat, cap) w := by
 have hH := Gu (P := P) (y := cap) hh h2 (by omega) (by omega) (if b then .sliceAcap else .sliceAlen) w
 have hL := Gu (P := P) (y := h.2.toNat) hl h1 h0 (by omega) .sliceB w
 rcases hH with ⟨rfl, e⟩ | ⟨c, rfl, hc⟩
 ·rcases hL with ⟨rfl, e'⟩ | ⟨c', rfl, hc'⟩
  ·simp [Instr.sliceBounds, e, e']
  ·have : h.2.toNat = len := by omega
   rw [this] at hc' ⊢
   simp [Instr.sliceBounds, hc']
 ·rcases hL with ⟨rfl, e'⟩ | ⟨c', rfl, hc'⟩
  ·cases b <;> simp at hc <;> simp [Instr.sliceBounds, hc, e']
  ·cases b <;> simp at hc <;> simp [Instr.sliceBounds, hc, hc']
theorem II {P : Program} {t : TypeId} {x v : AV} {lo hi mx : Option AV} {g g' : G} (h : xG P t x lo hi mx g = .done v g') :
  ∃ p, Keep g g' p ∧ (p → ∀ μ (w : World) cx clo chi Yh, eX g.nx μ w.heap g.H → Rep g.nx μ x cx → zV g.nx μ lo clo → zV g.nx μ hi chi → zV g.nx μ mx Yh →
   ∃ c, (Instr.sliceAt t cx clo chi Yh).run P w = .ok c w ∧ Rep g.nx μ v c) := by
 unfold xG at h
 obtain ⟨_, g0, a0, h0⟩ := au h
 obtain ⟨hm, rfl⟩ := aU a0
 have hmx : mx = none := by cases mx <;> simp at hm; rfl
 subst hmx
 split at h0
 ·rename_i s own a len
  obtain ⟨e, g1, a1, h1⟩ := au h0
  obtain ⟨he, rfl⟩ := aJ a1
  obtain ⟨y, g2, a2, h2⟩ := au h1
  obtain ⟨hy, rfl⟩ := aJ a2
  obtain ⟨l, g3, a3, h3⟩ := au h2
  obtain ⟨hl, rfl⟩ := aJ a3
  obtain ⟨hb, g4, a4, h4⟩ := au h3
  obtain ⟨hh, rfl⟩ := aJ a4
  obtain ⟨_, g5, a5, h5⟩ := au h4
  have k5 := dI a5
  obtain ⟨i, d, hi', hd, e1, e2⟩ := jM hy
  have ht := fJ he
  have run : ∀ {N : Nat} {μ : MM} {w : World} {A : Option Addr} {C : Nat} {clo chi : Option Value}, len ≤ C → (0 ≤ l.2 ∧ l.2 ≤ hb.2 ∧ hb.2 ≤ len) → zV N μ lo clo → zV N μ hi chi →
    (Instr.sliceAt t (.slice A len C) clo chi none).run P w = .ok (.slice (if C = l.2.toNat then A else A.map (·.add (l.2.toNat * i.size))) (hb.2.toNat - l.2.toNat) (C - l.2.toNat)) w := by
   intro N μ w A C clo chi hC hp r1 r2
   have := xM (P := P) (b := true) hl hh r1 r2 hp.1 hp.2.1 hp.2.2 hC w
   simp [Instr.sliceAt, Instr.slice, run_underlying ht, this, run_sizeOf hi']
  cases hlo : lo with
  | none =>
   rw [hlo] at h5 hl
   simp only [Option.isNone_none, cond_true] at h5
   obtain ⟨rfl, rfl⟩ := aA h5
   simp only [qM, Option.some.injEq] at hl
   subst hl
   refine ⟨_, k5, fun hp μ w cx clo chi Yh hg hx r1 r2 r3 => ?_⟩
   cases Yh with
   | some => exact r3.elim
   | none =>
   simp only [Rep] at hx
   obtain ⟨hag, A, C, rfl, hC, hA, hnn, hown⟩ := hx
   rw [hlo] at run
   refine ⟨_, run hC hp r1 r2, ?_⟩
   simp only at hp
   simp only [Rep]
   refine ⟨hag, A, C, ?_, by omega, fun hq => hA (by omega), fun hs => hnn (by simp only [Bool.or_eq_false_iff] at hs; exact hs.1), fun ho => ?_⟩
   ·simp [Addr.add_zero']
   ·obtain ⟨q1, q2, q3⟩ := hown ho
    exact ⟨q1, q2, q3.imp (fun q => ⟨q.1, q.2.1, by omega⟩) id⟩
  | some lv =>
   rw [hlo] at h5
   simp only [Option.isNone_some, cond_false] at h5
   obtain ⟨b, g6, a6, h6⟩ := au h5
   obtain ⟨hbk, rfl⟩ := fK a6
   obtain ⟨rfl, rfl⟩ := aA h6
   rw [k5.1] at hbk
   refine ⟨_, k5, fun hp μ w cx clo chi Yh hg hx r1 r2 r3 => ?_⟩
   cases Yh with
   | some => exact r3.elim
   | none =>
   simp only [Rep] at hx
   obtain ⟨hag, A, C, rfl, hC, hA, hnn, hown⟩ := hx
   rw [hlo] at run
   refine ⟨_, run hC hp r1 r2, ?_⟩
   simp only [Rep]
   refine ⟨by rw [Qi]; exact hag, _, _, rfl, by omega, fun hq => ?_, fun hs => ?_, fun ho => by cases ho⟩
   rotate_left
   ·have := hnn (by simp only [Bool.or_eq_false_iff] at hs; exact hs.1.1)
    split
    ·exact this
    ·rw [Option.isSome_map]; exact this
   have hsz : μ.sz a.g = b.2.1 := (hg.ok _ _ hbk).1
   rw [if_neg (by omega), hA (by omega), Option.map_some, e1, Dz hsz]
 ·rename_i s cs
  obtain ⟨_, g1, a1, h1⟩ := au h0
  obtain ⟨hs, rfl⟩ := aU a1
  obtain ⟨l, g3, a3, h3⟩ := au h1
  obtain ⟨hl, rfl⟩ := aJ a3
  obtain ⟨hb, g4, a4, h4⟩ := au h3
  obtain ⟨hh, rfl⟩ := aJ a4
  obtain ⟨_, g5, a5, h5⟩ := au h4
  obtain ⟨rfl, rfl⟩ := aA h5
  refine ⟨_, dI a5, fun hp μ w cx clo chi Yh hg hx r1 r2 r3 => ?_⟩
  cases Yh with
  | some => exact r3.elim
  | none =>
  simp only [Rep] at hx
  subst hx
  have := xM (P := P) (b := false) (cap := cs.length) hl hh r1 r2 hp.1 hp.2.1 hp.2.2 (Nat.le_refl _) w
  refine ⟨_, by simp [Instr.sliceAt, Instr.slice, run_underlying (uS hs), rQ, this]; rfl, ?_⟩
  simp only [Rep]
  rw [Lib.extract_eq]
 ·rename_i a
  obtain ⟨ne, g1, a1, h1⟩ := au h0
  obtain ⟨hne, rfl⟩ := aJ a1
  obtain ⟨y, g2, a2, h2⟩ := au h1
  obtain ⟨hy, rfl⟩ := aJ a2
  obtain ⟨_, g3, a3, h3⟩ := au h2
  obtain ⟨hlo, rfl⟩ := aU a3
  have ahL : lo = none := by cases lo <;> simp at hlo; rfl
  subst ahL
  obtain ⟨hb, g4, a4, h4⟩ := au h3
  obtain ⟨hh, rfl⟩ := aJ a4
  obtain ⟨_, g5, a5, h5⟩ := au h4
  obtain ⟨rfl, rfl⟩ := aA h5
  obtain ⟨i, d, hi', hd, e1, e2⟩ := jM hy
  refine ⟨_, dI a5, fun hp μ w cx clo chi Yh hg hx r1 r2 r3 => ?_⟩
  cases Yh with
  | some => exact r3.elim
  | none =>
  simp only [Rep] at hx
  obtain ⟨hag, rfl⟩ := hx
  have hb' := xM (P := P) (b := false) (cap := ne.1) (l := (false, 0)) (lo := none) rfl hh r1 r2 (Int.le_refl _) hp.1 hp.2 (Nat.le_refl _) w
  refine ⟨.slice (some (μ.addr a)) hb.2.toNat ne.1, ?_, ?_⟩
  ·simp only [Int.toNat_zero] at hb'
   simp [Instr.sliceAt, run_underlying (uN hne), Instr.sureAddr, hb', run_sizeOf hi', Addr.add_zero']
  ·simp only [Rep]
   exact ⟨hag, _, _, rfl, by omega, fun _ => rfl, fun _ => rfl, fun ho => by cases ho⟩
 ·cases h0
end Go.Sx
namespace Go.Sx
open M
theorem zW {P : Program} {t : TypeId} {x ix v : AV} {g g' : G} (h : kY P t x ix g = .done v g') :
  ∃ p, Keep g g' p ∧ (p → ∀ μ (w : World) cx ci, eX g.nx μ w.heap g.H → Rep g.nx μ x cx → Rep g.nx μ ix ci → ∃ c, (Instr.indexAt t cx ci).run P w = .ok c w ∧ Rep g.nx μ v c) := by
 unfold kY at h
 obtain ⟨n, g0, a0, h0⟩ := au h
 obtain ⟨hix, rfl⟩ := aJ a0
 obtain ⟨k, rfl⟩ := mP hix
 split at h0
 ·rename_i s own a len
  obtain ⟨e, g1, a1, h1⟩ := au h0
  obtain ⟨he, rfl⟩ := aJ a1
  obtain ⟨_, g2, a2, h2⟩ := au h1
  have k2 := dI a2
  obtain ⟨y, g3, a3, h3⟩ := au h2
  obtain ⟨hy, rfl⟩ := aJ a3
  obtain ⟨b, g4, a4, h4⟩ := au h3
  obtain ⟨hb, rfl⟩ := fK a4
  obtain ⟨rfl, rfl⟩ := aA h4
  obtain ⟨i, d, hi', hd, e1, e2⟩ := jM hy
  rw [k2.1] at hb
  refine ⟨_, k2, fun hp μ w cx ci hg hx hi => ?_⟩
  simp only [Rep] at hx hi
  obtain ⟨hag, A, C, rfl, hC, hA, _⟩ := hx
  subst hi
  have hA' := hA (by omega)
  subst hA'
  refine ⟨.pointer (some ((μ.addr a).add (n.2.toNat * i.size))), ?_, ?_⟩
  ·have hp' : (0 ≤ n.2 ∧ n.2 < (len : Int)) := hp
   simp [Instr.indexAt, asIntOf, run_underlying (fJ he), hp', run_sizeOf hi']
  ·simp only [Rep]
   rw [Qi, e1, Dz (hg.ok _ _ hb).1]
   exact ⟨hag, rfl⟩
 ·rename_i a
  obtain ⟨ne, g1, a1, h1⟩ := au h0
  obtain ⟨hne, rfl⟩ := aJ a1
  obtain ⟨_, g2, a2, h2⟩ := au h1
  obtain ⟨y, g3, a3, h3⟩ := au h2
  obtain ⟨hy, rfl⟩ := aJ a3
  obtain ⟨rfl, rfl⟩ := aA h3
  obtain ⟨i, d, hi', hd, e1, e2⟩ := jM hy
  refine ⟨_, dI a2, fun hp μ w cx ci hg hx hi => ?_⟩
  simp only [Rep] at hx hi
  obtain ⟨hag, rfl⟩ := hx
  subst hi
  refine ⟨.pointer (some ((μ.addr a).add (n.2.toNat * i.size))), ?_, ?_⟩
  ·have hp' : (0 ≤ n.2 ∧ n.2 < (ne.1 : Int)) := hp
   simp [Instr.indexAt, asIntOf, run_underlying (uN hne), Instr.sureAddr, hp', run_sizeOf hi']
  ·simp only [Rep]
   refine ⟨hag, ?_⟩
   unfold MM.addr
   rw [Addr.add_lit, e1, Nat.add_assoc]
 ·cases h0
theorem Bj {P : Program} {ty : TypeId} {y : Nat × Bool} (hy : lay P ty = some y) {cs : List AV} {off : Nat} {v : AV} {g g' : G} (h : yF y cs off g = .done v g') :
  g = g' ∧ ∀ N μ (w : World) (xs : Array Value), aI N μ cs xs.toList → ∃ c, (part ty xs off).run P w = .ok c w ∧ Rep N μ v c := by
 obtain ⟨i, d, hi', hd, e1, e2⟩ := jM hy
 unfold yF at h
 cases hA : y.2 with
 | true =>
  rw [hA, cond_true] at h
  obtain ⟨_, g1, a1, h1⟩ := au h
  obtain ⟨hq, rfl⟩ := aU a1
  obtain ⟨rfl, rfl⟩ := aA h1
  refine ⟨rfl, fun N μ w xs hr => ⟨.agg (xs.extract off (off + i.size)), by simp [part, vW hd, e2, hA, run_sizeOf hi'], ?_⟩⟩
  simp only [Rep]
  refine ⟨_, rfl, ?_⟩
  have e : (xs.extract off (off + i.size)).toList = (xs.toList.drop off).take y.1 := by
   rw [Array.toList_extract, ← e1, List.extract_eq_take_drop]
   congr 1; omega
  rw [e]
  exact (hr.drop off).take _
 | false =>
  rw [hA, cond_false] at h
  obtain ⟨hv, rfl⟩ := aJ h
  refine ⟨rfl, fun N μ w xs hr => ?_⟩
  obtain ⟨c, hc, hrep⟩ := hr.get hv
  exact ⟨c, Dw hd (by rw [e2, hA]) (by simpa using hc) w, hrep⟩
theorem IJ {P : Program} {t : TypeId} {x ix v : AV} {g g' : G} (h : xH P t x ix g = .done v g') :
  ∃ p, Keep g g' p ∧ (p → ∀ N μ (w : World) cx ci, Rep N μ x cx → Rep N μ ix ci → ∃ c, (Instr.index t cx ci).run P w = .ok c w ∧ Rep N μ v c) := by
 unfold xH at h
 obtain ⟨n, g0, a0, h0⟩ := au h
 obtain ⟨hix, rfl⟩ := aJ a0
 obtain ⟨k, rfl⟩ := mP hix
 split at h0
 ·rename_i s l
  obtain ⟨_, g1, a1, h1⟩ := au h0
  obtain ⟨hs, rfl⟩ := aU a1
  obtain ⟨_, g2, a2, h2⟩ := au h1
  obtain ⟨rfl, rfl⟩ := aA h2
  refine ⟨_, dI a2, fun hp N μ w cx ci hx hi => ?_⟩
  simp only [Rep] at hx hi
  subst hx hi
  have hlt : n.2.toNat < l.length := by omega
  refine ⟨.int .u8 (l.getD n.2.toNat 0).toNat, ?_, by simp only [Rep]⟩
  have hget : (⟨l.toArray⟩ : ByteArray)[n.2.toNat]? = some (l.getD n.2.toNat 0) := by
   have hsz : n.2.toNat < (⟨l.toArray⟩ : ByteArray).size := by rw [rQ]; exact hlt
   rw [getElem?_pos (⟨l.toArray⟩ : ByteArray) n.2.toNat hsz]
   congr 1
   show l.toArray[n.2.toNat] = _
   simp [List.getD, hlt]
  simp [Instr.index, asIntOf, run_underlying (uS hs), hp.1, hget]
 ·rename_i cs
  obtain ⟨ne, g1, a1, h1⟩ := au h0
  obtain ⟨hne, rfl⟩ := aJ a1
  obtain ⟨_, g2, a2, h2⟩ := au h1
  have k2 := dI a2
  obtain ⟨y, g3, a3, h3⟩ := au h2
  obtain ⟨hy, rfl⟩ := aJ a3
  obtain ⟨rfl, hpart⟩ := Bj hy h3
  obtain ⟨i, d, hi', hd, e1, e2⟩ := jM hy
  refine ⟨_, k2, fun hp N μ w cx ci hx hi => ?_⟩
  simp only [Rep] at hx hi
  obtain ⟨xs, rfl, hr⟩ := hx
  subst hi
  obtain ⟨c, hc, hrep⟩ := hpart N μ w xs hr
  refine ⟨c, ?_, hrep⟩
  have hp' : (0 ≤ n.2 ∧ n.2 < (ne.1 : Int)) := hp
  rw [← e1] at hc
  simp [Instr.index, asIntOf, run_underlying (uN hne), hp', run_sizeOf hi', hc]
 ·cases h0
theorem yP {P : Program} {t : TypeId} {f : Nat} {fd : Field} (h : Ci P t f = some fd) : ∃ fs, P.underlying t = some (.struct fs) ∧ fs[f]? = some fd := by
 unfold Ci at h
 split at h
 ·exact ⟨_, by assumption, h⟩
 ·cases h
theorem zX {P : Program} {t : TypeId} {x v : AV} {f : Nat} {g g' : G} (h : kZ P t x f g = .done v g') :
  g = g' ∧ ∀ N μ (w : World) cx, Rep N μ x cx → ∃ c, (Instr.fieldAt t cx f).run P w = .ok c w ∧ Rep N μ v c := by
 unfold kZ at h
 obtain ⟨a, g0, a0, h0⟩ := au h
 obtain ⟨hx, rfl⟩ := aJ a0
 obtain rfl := pI hx
 obtain ⟨fd, g1, a1, h1⟩ := au h0
 obtain ⟨hfd, rfl⟩ := aJ a1
 obtain ⟨y, g2, a2, h2⟩ := au h1
 obtain ⟨hy, rfl⟩ := aJ a2
 obtain ⟨_, g3, a3, h3⟩ := au h2
 obtain ⟨hq, rfl⟩ := aU a3
 obtain ⟨rfl, rfl⟩ := aA h3
 obtain ⟨i, d, hi', hd, e1, e2⟩ := jM hy
 obtain ⟨fs, hfs, hf⟩ := yP hfd
 refine ⟨rfl, fun N μ w cx hx => ?_⟩
 simp only [Rep] at hx
 obtain ⟨hag, rfl⟩ := hx
 have hn : i.size ≠ 0 := by
  rw [e1]; intro e0; rw [e0] at hq; simp at hq
 refine ⟨.pointer (some ((μ.addr a).add fd.offset)), by simp [Instr.fieldAt, run_underlying hfs, hf, Instr.sureAddr, fieldPlace, run_sizeOf hi', hn], ?_⟩
 simp only [Rep]
 refine ⟨hag, ?_⟩
 unfold MM.addr
 rw [Addr.add_lit, Nat.add_assoc]
theorem IK {P : Program} {t : TypeId} {x v : AV} {f : Nat} {g g' : G} (h : xI P t x f g = .done v g') :
  g = g' ∧ ∀ N μ (w : World) cx, Rep N μ x cx → ∃ c, (Instr.field t cx f).run P w = .ok c w ∧ Rep N μ v c := by
 unfold xI at h
 obtain ⟨cs, g0, a0, h0⟩ := au h
 obtain ⟨hx, rfl⟩ := aJ a0
 obtain rfl := NV hx
 obtain ⟨fd, g1, a1, h1⟩ := au h0
 obtain ⟨hfd, rfl⟩ := aJ a1
 obtain ⟨y, g2, a2, h2⟩ := au h1
 obtain ⟨hy, rfl⟩ := aJ a2
 obtain ⟨rfl, hpart⟩ := Bj hy h2
 obtain ⟨fs, hfs, hf⟩ := yP hfd
 refine ⟨rfl, fun N μ w cx hx => ?_⟩
 simp only [Rep] at hx
 obtain ⟨xs, rfl, hr⟩ := hx
 obtain ⟨c, hc, hrep⟩ := hpart N μ w xs hr
 exact ⟨c, by simp [Instr.field, run_underlying hfs, hf, Go.asAgg, hc], hrep⟩
theorem Bl {x y : Nat} {o : Ordering} (h : iQ x y = some o) : isnan x = false ∧ isnan y = false := by
 constructor
 ·cases hn : isnan x with
  | false => rfl
  | true =>
   obtain ⟨s, t, hr⟩ := aZ hn
   unfold iQ Ieee.Format.order at h
   rw [hr] at h; simp [Ieee.Datum.order] at h
 ·cases hn : isnan y with
  | false => rfl
  | true =>
   obtain ⟨s, t, hr⟩ := aZ hn
   unfold iQ Ieee.Format.order at h
   rw [hr] at h; cases hx : Ieee.double.read x <;> rw [hx] at h <;> simp [Ieee.Datum.order] at h
theorem DC {b : Nat} (hb : b < 18446744073709551616) : (FloatKind.f64.decode b).neg = decide (9223372036854775808 ≤ b) := by
 have hs : Ieee.double.signWeight = 9223372036854775808 := by decide
 have e : (b / 9223372036854775808 % 2 == 1) = decide (9223372036854775808 ≤ b) := by
  rw [Bool.eq_iff_iff]; simp; omega
 show (Ieee.double.read b).neg = _
 unfold Ieee.Format.read
 rw [hs, ← e]
 dsimp only
 split
 ·rfl
 ·split
  ·rfl
  ·split <;> rfl
theorem DF {P : Program} {isMax : Bool} {f2 : Value → Value → Sem Value} {fA : AV → AV → M AV}
  (hf : ∀ {x y v : AV} {g g' : G}, fA x y g = .done v g' → g = g' ∧ ∀ N μ (w : World) cx cy, Rep N μ x cx → Rep N μ y cy → ∃ c n, (f2 cx cy).run P w = .ok c { w with drawn := n } ∧ Rep N μ v c) :
  ∀ {l : List AV} {x v : AV} {g g' : G}, wU fA x l g = .done v g' → g = g' ∧ ∀ N μ (w : World) cx cl, Rep N μ x cx → aI N μ l cl → ∃ c n, (cl.foldlM f2 cx).run P w = .ok c { w with drawn := n } ∧ Rep N μ v c
 | [], x, v, g, g', h => by
  obtain ⟨rfl, rfl⟩ := aA h
  refine ⟨rfl, fun N μ w cx cl hx hl => ?_⟩
  simp only [aI] at hl; subst hl
  exact ⟨cx, w.drawn, rfl, hx⟩
 | y :: l, x, v, g, g', h => by
  unfold wU at h
  obtain ⟨z, g1, a1, h1⟩ := au h
  obtain ⟨rfl, k1⟩ := hf a1
  obtain ⟨rfl, k2⟩ := DF (isMax := isMax) hf h1
  refine ⟨rfl, fun N μ w cx cl hx hl => ?_⟩
  simp only [aI] at hl
  obtain ⟨cy, r, rfl, hy, hr⟩ := hl
  obtain ⟨c, n, e1, hc⟩ := k1 N μ w cx cy hx hy
  obtain ⟨c', n', e2, hc'⟩ := k2 N μ { w with drawn := n } c r hc hr
  exact ⟨c', n', by simp [e1, e2], hc'⟩
theorem Ob {P : Program} {x y v : AV} {g g' : G} (h : Kv x y g = .done v g') :
  g = g' ∧ ∀ N μ (w : World) cx cy, Rep N μ x cx → Rep N μ y cy → ∃ c n, (Builtin.max2 cx cy).run P w = .ok c { w with drawn := n } ∧ Rep N μ v c := by
 unfold Kv at h
 split at h
 ·rename_i s k a s' k' b
  by_cases hk : k = k'
  ·subst hk
   simp only [decide_true, cond_true] at h
   obtain ⟨rfl, rfl⟩ := aA h
   refine ⟨rfl, fun N μ w cx cy hx hy => ?_⟩
   simp only [Rep] at hx hy; subst hx hy
   exact ⟨_, w.drawn, rfl, by simp only [Rep]⟩
  ·simp only [hk, decide_false, cond_false] at h; cases h
 ·rename_i s a s' b
  obtain ⟨rfl, rfl⟩ := aA h
  refine ⟨rfl, fun N μ w cx cy hx hy => ?_⟩
  simp only [Rep] at hx hy
  obtain ⟨a', rfl, ha⟩ := hx
  obtain ⟨b', rfl, hb⟩ := hy
  have ho := jB ha hb
  cases hq : iQ a b with
  | none =>
   refine ⟨_, w.drawn + 1, by simp [Builtin.max2, ho, hq, Question.forced, choose, Sem.run]; rfl, ?_⟩
   simp only [Rep, UG, hq]
   refine ⟨_, rfl, gu (yB _ _ _ _), ?_⟩
   simp only [Question.cut]; omega
  | some o =>
   obtain ⟨na, nb⟩ := Bl hq
   have ea := ha.gB na
   have eb := hb.gB nb
   subst ea eb
   cases o with
   | lt => exact ⟨.float .f64 b', w.drawn, by simp [Builtin.max2, ho, hq], by simp only [Rep, UG, hq]; exact ⟨b', rfl, hb⟩⟩
   | gt => exact ⟨.float .f64 a', w.drawn, by simp [Builtin.max2, ho, hq], by simp only [Rep, UG, hq]; exact ⟨a', rfl, ha⟩⟩
   | eq =>
    refine ⟨.float .f64 (if decide (9223372036854775808 ≤ a') then b' else a'), w.drawn, by simp [Builtin.max2, ho, hq, DC ha.2], ?_⟩
    simp only [Rep, UG, hq]
    by_cases h9 : 9223372036854775808 ≤ a'
    ·exact ⟨b', by simp [h9], by simpa [h9] using hb⟩
    ·exact ⟨a', by simp [h9], by simpa [h9] using ha⟩
 ·cases h
theorem Oc {P : Program} {x y v : AV} {g g' : G} (h : Kw x y g = .done v g') :
  g = g' ∧ ∀ N μ (w : World) cx cy, Rep N μ x cx → Rep N μ y cy → ∃ c n, (Builtin.min2 cx cy).run P w = .ok c { w with drawn := n } ∧ Rep N μ v c := by
 unfold Kw at h
 split at h
 ·rename_i s k a s' k' b
  by_cases hk : k = k'
  ·subst hk
   simp only [decide_true, cond_true] at h
   obtain ⟨rfl, rfl⟩ := aA h
   refine ⟨rfl, fun N μ w cx cy hx hy => ?_⟩
   simp only [Rep] at hx hy; subst hx hy
   exact ⟨_, w.drawn, rfl, by simp only [Rep]⟩
  ·simp only [hk, decide_false, cond_false] at h; cases h
 ·rename_i s a s' b
  obtain ⟨rfl, rfl⟩ := aA h
  refine ⟨rfl, fun N μ w cx cy hx hy => ?_⟩
  simp only [Rep] at hx hy
  obtain ⟨a', rfl, ha⟩ := hx
  obtain ⟨b', rfl, hb⟩ := hy
  have ho := jB ha hb
  cases hq : iQ a b with
  | none =>
   refine ⟨_, w.drawn + 1, by simp [Builtin.min2, ho, hq, Question.forced, choose, Sem.run]; rfl, ?_⟩
   simp only [Rep, UH, hq]
   refine ⟨_, rfl, gu (yB _ _ _ _), ?_⟩
   simp only [Question.cut]; omega
  | some o =>
   obtain ⟨na, nb⟩ := Bl hq
   have ea := ha.gB na
   have eb := hb.gB nb
   subst ea eb
   cases o with
   | lt => exact ⟨.float .f64 a', w.drawn, by simp [Builtin.min2, ho, hq], by simp only [Rep, UH, hq]; exact ⟨a', rfl, ha⟩⟩
   | gt => exact ⟨.float .f64 b', w.drawn, by simp [Builtin.min2, ho, hq], by simp only [Rep, UH, hq]; exact ⟨b', rfl, hb⟩⟩
   | eq =>
    refine ⟨.float .f64 (if decide (9223372036854775808 ≤ a') then a' else b'), w.drawn, by simp [Builtin.min2, ho, hq, DC ha.2], ?_⟩
    simp only [Rep, UH, hq]
    by_cases h9 : 9223372036854775808 ≤ a'
    ·exact ⟨a', by simp [h9], by simpa [h9] using ha⟩
    ·exact ⟨b', by simp [h9], by simpa [h9] using hb⟩
 ·cases h
end Go.Sx
