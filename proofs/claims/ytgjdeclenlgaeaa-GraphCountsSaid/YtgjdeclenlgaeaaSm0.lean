/- THE ENGINE, part 0: an interpreter of the program's code over abstract values, and its proof. -/
import Derived.Laws.FloatArith
import Derived.Laws.ComplexArith
import Derived.Laws.World
import Derived.WalkKit
import Derived.MapKept
import Derived.Laws.RangeAny
import Derived.Laws.BytesString
import Derived.Laws.StructEq
import Derived.Laws.Cover1
noncomputable section
set_option linter.unusedSimpArgs false
set_option linter.unusedVariables false
namespace Go.Sx
def isnan (b : Nat) : Bool := decide (9218868437227405312 < b % 9223372036854775808)
def qn : Nat := 9221120237041090561
def cn (b : Nat) : Nat := bif isnan b then qn else b
theorem dY : isnan qn = true := by decide
theorem Ij (b : Nat) : (Ieee.double.read b).isNaN = isnan b := by
 have hs : Ieee.double.signWeight = 9223372036854775808 := by decide
 have hb : Ieee.double.binade = 4503599627370496 := by decide
 have hi : Ieee.double.infRung = 9218868437227405312 := by decide
 unfold Ieee.Format.read isnan
 simp only [hs, hb, hi]
 have hlt : b % 9223372036854775808 < 9223372036854775808 := Nat.mod_lt _ (by decide)
 generalize b % 9223372036854775808 = r at hlt ⊢
 by_cases h1 : r < 4503599627370496
 ·simp [h1, Ieee.Datum.isNaN]
  omega
 ·by_cases h2 : r < 9218868437227405312
  ·simp [h1, h2, Ieee.Datum.isNaN]
   omega
  ·by_cases h3 : r = 9218868437227405312
   ·simp [h3, Ieee.Datum.isNaN]
   ·simp [h1, h2, h3, Ieee.Datum.isNaN]
    omega
theorem acB (b : Nat) : cn (cn b) = cn b := by
 unfold cn
 cases h : isnan b
 ·simp [h]
 ·simp [dY]
theorem Rf (b : Nat) : isnan (cn b) = isnan b := by
 unfold cn
 cases h : isnan b
 ·simp [h]
 ·simp [dY]
theorem kU {b : Nat} (h : isnan b = false) : cn b = b := by simp [cn, h]
theorem iF {b : Nat} (h : isnan b = true) : cn b = qn := by simp [cn, h]
theorem aZ {b : Nat} (h : isnan b = true) : ∃ s t, Ieee.double.read b = .nan s t := by
 have h' := Ij b
 rw [h] at h'
 cases hr : Ieee.double.read b <;> simp [hr, Ieee.Datum.isNaN] at h'
 exact ⟨_, _, rfl⟩
def oK (x y : Nat) : Nat := (Ieee.double.add x y).getD qn
def BD (x y : Nat) : Nat := (Ieee.double.sub x y).getD qn
def FV (x y : Nat) : Nat := (Ieee.double.mul x y).getD qn
def fdiv (x y : Nat) : Nat := (Ieee.double.div x y).getD qn
def kJ (x y : Nat) : Option Ordering := Ieee.double.order x y
def H7 (x y : Nat) : Bool := kJ x y == some .eq
def flt (x y : Nat) : Bool := kJ x y == some .lt
def Va (x y : Nat) : Bool := kJ x y == some .lt || kJ x y == some .eq
def fgt (x y : Nat) : Bool := kJ x y == some .gt
def fge (x y : Nat) : Bool := kJ x y == some .gt || kJ x y == some .eq
def PG (x : Nat) : Nat := cn (x ^^^ 9223372036854775808)
def fabs (x : Nat) : Nat := cn (x % 9223372036854775808)
theorem YR (a b : Nat) : Ieee.double.add (cn a) (cn b) = Ieee.double.add a b := by
 unfold cn Ieee.Format.add
 cases ha : isnan a <;> cases hb : isnan b <;> simp
 ·obtain ⟨s, t, h1⟩ := aZ hb
  obtain ⟨s', t', h2⟩ := aZ dY
  rw [h1, h2]; cases Ieee.double.read a <;> simp [Ieee.Datum.sum]
 ·obtain ⟨s, t, h1⟩ := aZ ha
  obtain ⟨s', t', h2⟩ := aZ dY
  rw [h1, h2]; cases Ieee.double.read b <;> simp [Ieee.Datum.sum]
 ·obtain ⟨s, t, h1⟩ := aZ ha
  obtain ⟨s', t', h2⟩ := aZ dY
  rw [h1, h2]; simp [Ieee.Datum.sum]
theorem YS (a b : Nat) : Ieee.double.sub (cn a) (cn b) = Ieee.double.sub a b := by
 unfold cn Ieee.Format.sub
 cases ha : isnan a <;> cases hb : isnan b <;> simp
 ·obtain ⟨s, t, h1⟩ := aZ hb
  obtain ⟨s', t', h2⟩ := aZ dY
  rw [h1, h2]; cases Ieee.double.read a <;> simp [Ieee.Datum.sum, Ieee.Datum.opposite]
 ·obtain ⟨s, t, h1⟩ := aZ ha
  obtain ⟨s', t', h2⟩ := aZ dY
  rw [h1, h2]; cases Ieee.double.read b <;> simp [Ieee.Datum.sum, Ieee.Datum.opposite]
 ·obtain ⟨s, t, h1⟩ := aZ ha
  obtain ⟨s', t', h2⟩ := aZ dY
  rw [h1, h2]; simp [Ieee.Datum.sum, Ieee.Datum.opposite]
theorem YT (a b : Nat) : Ieee.double.mul (cn a) (cn b) = Ieee.double.mul a b := by
 unfold cn Ieee.Format.mul
 cases ha : isnan a <;> cases hb : isnan b <;> simp
 ·obtain ⟨s, t, h1⟩ := aZ hb
  obtain ⟨s', t', h2⟩ := aZ dY
  rw [h1, h2]; cases Ieee.double.read a <;> simp [Ieee.Datum.product]
 ·obtain ⟨s, t, h1⟩ := aZ ha
  obtain ⟨s', t', h2⟩ := aZ dY
  rw [h1, h2]; cases Ieee.double.read b <;> simp [Ieee.Datum.product]
 ·obtain ⟨s, t, h1⟩ := aZ ha
  obtain ⟨s', t', h2⟩ := aZ dY
  rw [h1, h2]; simp [Ieee.Datum.product]
theorem YU (a b : Nat) : Ieee.double.div (cn a) (cn b) = Ieee.double.div a b := by
 unfold cn Ieee.Format.div
 cases ha : isnan a <;> cases hb : isnan b <;> simp
 ·obtain ⟨s, t, h1⟩ := aZ hb
  obtain ⟨s', t', h2⟩ := aZ dY
  rw [h1, h2]; cases Ieee.double.read a <;> simp [Ieee.Datum.quotient]
 ·obtain ⟨s, t, h1⟩ := aZ ha
  obtain ⟨s', t', h2⟩ := aZ dY
  rw [h1, h2]; cases Ieee.double.read b <;> simp [Ieee.Datum.quotient]
 ·obtain ⟨s, t, h1⟩ := aZ ha
  obtain ⟨s', t', h2⟩ := aZ dY
  rw [h1, h2]; simp [Ieee.Datum.quotient]
theorem Rh (a b : Nat) : Ieee.double.order (cn a) (cn b) = Ieee.double.order a b := by
 unfold cn Ieee.Format.order
 cases ha : isnan a <;> cases hb : isnan b <;> simp
 ·obtain ⟨s, t, h1⟩ := aZ hb
  obtain ⟨s', t', h2⟩ := aZ dY
  rw [h1, h2]; cases Ieee.double.read a <;> simp [Ieee.Datum.order]
 ·obtain ⟨s, t, h1⟩ := aZ ha
  obtain ⟨s', t', h2⟩ := aZ dY
  rw [h1, h2]; cases Ieee.double.read b <;> simp [Ieee.Datum.order]
 ·obtain ⟨s, t, h1⟩ := aZ ha
  obtain ⟨s', t', h2⟩ := aZ dY
  rw [h1, h2]; simp [Ieee.Datum.order]
theorem vV (neg : Bool) (m : Nat) (p : Int) : isnan (Ieee.double.nearest neg m p) = false := by
 have hs : Ieee.double.signWeight = 9223372036854775808 := by decide
 have hi : Ieee.double.infRung = 9218868437227405312 := by decide
 have key : ∀ r : Nat, r ≤ 9218868437227405312 → isnan (Ieee.double.word neg r) = false := by
  intro r hr
  unfold Ieee.Format.word isnan
  rw [hs]
  cases neg <;> simp <;> omega
 unfold Ieee.Format.nearest
 dsimp only
 split
 ·exact key 0 (by omega)
 ·rw [hi]; exact key _ (Nat.min_le_right ..)
theorem BF (neg : Bool) : isnan (Ieee.double.word neg Ieee.double.infRung) = false := by
 cases neg <;> decide
theorem Ik {d : Ieee.Datum} (h : d.isNaN = false) : isnan (Ieee.double.write d) = false := by
 cases d with
 | number s m e => exact vV s m e
 | infinity s => exact BF s
 | nan s t => simp [Ieee.Datum.isNaN] at h
theorem BG {a b d : Ieee.Datum} (h : a.sum b = some d) : d.isNaN = false := by
 cases a <;> cases b <;> simp [Ieee.Datum.sum] at h
 ·subst h; rfl
 ·subst h; rfl
 ·subst h; rfl
 ·obtain ⟨_, rfl⟩ := h; rfl
theorem BH {a b d : Ieee.Datum} (h : a.product b = some d) : d.isNaN = false := by
 cases a <;> cases b <;> simp [Ieee.Datum.product] at h
 ·subst h; rfl
 ·obtain ⟨_, rfl⟩ := h; rfl
 ·obtain ⟨_, rfl⟩ := h; rfl
 ·subst h; rfl
theorem AZ {k : Nat} {a b d : Ieee.Datum} (h : a.quotient k b = some d) : d.isNaN = false := by
 cases a <;> cases b <;> simp [Ieee.Datum.quotient] at h
 ·split at h
  ·split at h
   ·cases h
   ·cases h; rfl
  ·cases h; rfl
 ·subst h; rfl
 ·subst h; rfl
theorem jF {o : Option Ieee.Datum} {r : Nat} (h : o.map Ieee.double.write = some r) (hn : ∀ d, o = some d → d.isNaN = false) : isnan r = false := by
 cases o with
 | none => cases h
 | some d => cases h; exact Ik (hn d rfl)
theorem wH {o : Option Nat} (h : ∀ r, o = some r → isnan r = false) : cn (o.getD qn) = o.getD qn := by
 cases o with
 | none => rfl
 | some r => exact kU (h r rfl)
theorem BI {a b r : Nat} (h : Ieee.double.add a b = some r) : isnan r = false := jF h fun _ => BG
theorem BJ {a b r : Nat} (h : Ieee.double.sub a b = some r) : isnan r = false := jF h fun _ => BG
theorem BK {a b r : Nat} (h : Ieee.double.mul a b = some r) : isnan r = false := jF h fun _ => BH
theorem KR {a b r : Nat} (h : Ieee.double.div a b = some r) : isnan r = false := jF h fun _ => AZ
theorem Vr (x y : Nat) : cn (oK x y) = oK x y := wH fun _ => BI
theorem Vs (x y : Nat) : cn (BD x y) = BD x y := wH fun _ => BJ
theorem Vt (x y : Nat) : cn (FV x y) = FV x y := wH fun _ => BK
theorem EO (x y t : Nat) : isnan (Question.cut (.nanBits .f64 x y) t) = true := by
 have h1 : (t / 2) % (2 ^ 52 - 1) < 4503599627370495 := Nat.mod_lt _ (by decide)
 have h2 : t % 2 < 2 := Nat.mod_lt _ (by decide)
 have e : (2 : Nat) ^ 63 = 9223372036854775808 := by decide
 have e2 : (2 : Nat) ^ 52 - 1 = 4503599627370495 := by decide
 simp only [Question.cut, isnan, decide_eq_true_eq, e]
 rw [e2] at h1 ⊢
 generalize (t / 2) % 4503599627370495 = u at h1 ⊢
 rcases (by omega : t % 2 = 0 ∨ t % 2 = 1) with h | h <;> rw [h] <;> omega
theorem xI (m : Bool) (x y t : Nat) : isnan (Question.cut (.nanMinMax .f64 m x y) t) = true := EO x y t
def Bg : BinOp → Nat → Nat → Nat
 | .add, x, y => oK x y
 | .sub, x, y => BD x y
 | .mul, x, y => FV x y
 | .quo, x, y => fdiv x y
 | _, _, _ => 0
def uS : BinOp → Bool
 | .add | .sub | .mul | .quo => true
 | _ => false
section
variable {P : Program} (w : World)
theorem BL {op : BinOp} (hop : uS op = true) (a b : Nat) : ∃ r n, (Op.floatArith op .f64 a b).run P w = .ok (.float .f64 r) { w with drawn := n } ∧ cn r = Bg op (cn a) (cn b) := by
 have uT : ∀ {o : Option Nat}, o = none → ∃ r n, (do let result ← (pure o : Sem (Option Nat)); match result with | some r => pure (Value.float FloatKind.f64 r) | none => pure (.float .f64 (← choose (.nanBits .f64 a b))) : Sem Value).run P w = .ok (.float .f64 r) { w with drawn := n } ∧ cn r = qn := by
  rintro _ rfl
  refine ⟨_, w.drawn + 1, rfl, iF (EO a b _)⟩
 have uU : ∀ {o : Option Nat} {r : Nat}, o = some r → isnan r = false → ∃ r' n, (do let result ← (pure o : Sem (Option Nat)); match result with | some r => pure (Value.float FloatKind.f64 r) | none => pure (.float .f64 (← choose (.nanBits .f64 a b))) : Sem Value).run P w = .ok (.float .f64 r') { w with drawn := n } ∧ cn r' = r := by
  rintro _ r rfl hr
  exact ⟨r, w.drawn, rfl, kU hr⟩
 cases op <;> simp only [uS, Bool.false_eq_true] at hop <;> simp only [Bg]
 ·unfold oK; rw [YR]
  cases h : Ieee.double.add a b with
  | none => exact uT h
  | some r => exact uU h (BI h)
 ·unfold BD; rw [YS]
  cases h : Ieee.double.sub a b with
  | none => exact uT h
  | some r => exact uU h (BJ h)
 ·unfold FV; rw [YT]
  cases h : Ieee.double.mul a b with
  | none => exact uT h
  | some r => exact uU h (BK h)
 ·unfold fdiv; rw [YU]
  cases h : Ieee.double.div a b with
  | none => exact uT h
  | some r => exact uU h (KR h)
end
#print axioms BL
end Go.Sx
namespace Go.Sx
inductive T (α : Type) : Type where
 | e
 | n (l : T α) (v : Option α) (r : T α)
namespace T
variable {α : Type}
noncomputable def get (t : T α) : Nat → Option α :=
 T.rec (fun _ => none) (fun _ v _ ihl ihr i => Nat.rec v (fun j _ => bif Nat.beq (j % 2) 0 then ihl (j / 2) else ihr (j / 2)) i) t
noncomputable def Il (o : Option α) (f : Nat) : Nat → T α :=
 Nat.rec (fun _ => e) (fun _ ih i => Nat.rec (n e o e) (fun j _ => bif Nat.beq (j % 2) 0 then n (ih (j / 2)) none e else n e none (ih (j / 2))) i) f
noncomputable def upd (t : T α) (i : Nat) (o : Option α) : T α :=
 T.rec (fun i => Il o (i + 1) i) (fun l v r ihl ihr i => Nat.rec (n l o r) (fun j _ => bif Nat.beq (j % 2) 0 then n (ihl (j / 2)) v r else n l v (ihr (j / 2))) i) t i
theorem tq (i : Nat) : (e : T α).get i = none := rfl
theorem qy (l r : T α) (v : Option α) : (n l v r).get 0 = v := rfl
theorem qA (l r : T α) (v : Option α) (i : Nat) : (n l v r).get (i + 1) = bif Nat.beq (i % 2) 0 then l.get (i / 2) else r.get (i / 2) := rfl
theorem Nu (o : Option α) (f : Nat) : Il o (f + 1) 0 = n e o e := rfl
theorem Bh (o : Option α) (f i : Nat) : Il o (f + 1) (i + 1) = bif Nat.beq (i % 2) 0 then n (Il o f (i / 2)) none e else n e none (Il o f (i / 2)) := rfl
theorem acC (i : Nat) (o : Option α) : (e : T α).upd i o = Il o (i + 1) i := rfl
theorem Ri (l r : T α) (v o : Option α) : (n l v r).upd 0 o = n l o r := rfl
theorem FW (l r : T α) (v o : Option α) (i : Nat) : (n l v r).upd (i + 1) o = bif Nat.beq (i % 2) 0 then n (l.upd (i / 2) o) v r else n l v (r.upd (i / 2) o) := rfl
theorem Rj (o : Option α) : ∀ f i j, i < f → (Il o f i).get j = if j = i then o else none := by
 intro f
 induction f with
 | zero => intro i j h; omega
 | succ f ih =>
  intro i j h
  cases i with
  | zero =>
   cases j with
   | zero => simp [Nu, qy, qA, tq]
   | succ j => simp [Nu, qy, qA, tq]
  | succ i =>
   cases hp : Nat.beq (i % 2) 0 with
   | true =>
    have hp' : i % 2 = 0 := Nat.eq_of_beq_eq_true hp
    cases j with
    | zero => simp [Bh, hp, qy]
    | succ j =>
     simp only [Bh, hp, cond_true, qA, tq, ih _ _ (show i / 2 < f by omega)]
     cases hq : Nat.beq (j % 2) 0 with
     | true =>
      have hq' : j % 2 = 0 := Nat.eq_of_beq_eq_true hq
      simp only [cond_true]
      by_cases e : j = i
      ·subst e; simp
      ·rw [if_neg (by omega), if_neg (by omega)]
     | false =>
      have hq' : ¬ j % 2 = 0 := Nat.ne_of_beq_eq_false hq
      simp only [cond_false]
      rw [if_neg (by omega)]
   | false =>
    have hp' : ¬ i % 2 = 0 := Nat.ne_of_beq_eq_false hp
    cases j with
    | zero => simp [Bh, hp, qy]
    | succ j =>
     simp only [Bh, hp, cond_false, qA, tq, ih _ _ (show i / 2 < f by omega)]
     cases hq : Nat.beq (j % 2) 0 with
     | true =>
      have hq' : j % 2 = 0 := Nat.eq_of_beq_eq_true hq
      simp only [cond_true]
      rw [if_neg (by omega)]
     | false =>
      have hq' : ¬ j % 2 = 0 := Nat.ne_of_beq_eq_false hq
      simp only [cond_false]
      by_cases e : j = i
      ·subst e; simp
      ·rw [if_neg (by omega), if_neg (by omega)]
theorem bF (o : Option α) (t : T α) : ∀ i j, (t.upd i o).get j = if j = i then o else t.get j := by
 induction t with
 | e => intro i j; simp only [acC, Rj o _ _ _ (Nat.lt_succ_self i), tq]
 | n l v r ihl ihr =>
  intro i j
  cases i with
  | zero =>
   cases j with
   | zero => simp [Ri, qy, qA]
   | succ j => simp [Ri, qy, qA]
  | succ i =>
   cases hp : Nat.beq (i % 2) 0 with
   | true =>
    have hp' : i % 2 = 0 := Nat.eq_of_beq_eq_true hp
    cases j with
    | zero => simp [FW, hp, qy]
    | succ j =>
     simp only [FW, hp, cond_true, qA, ihl]
     cases hq : Nat.beq (j % 2) 0 with
     | true =>
      have hq' : j % 2 = 0 := Nat.eq_of_beq_eq_true hq
      simp only [cond_true]
      by_cases e : j = i
      ·subst e; simp
      ·rw [if_neg (by omega), if_neg (by omega)]
     | false =>
      have hq' : ¬ j % 2 = 0 := Nat.ne_of_beq_eq_false hq
      simp only [cond_false]
      rw [if_neg (by omega)]
   | false =>
    have hp' : ¬ i % 2 = 0 := Nat.ne_of_beq_eq_false hp
    cases j with
    | zero => simp [FW, hp, qy]
    | succ j =>
     simp only [FW, hp, cond_false, qA, ihr]
     cases hq : Nat.beq (j % 2) 0 with
     | true =>
      have hq' : j % 2 = 0 := Nat.eq_of_beq_eq_true hq
      simp only [cond_true]
      rw [if_neg (by omega)]
     | false =>
      have hq' : ¬ j % 2 = 0 := Nat.ne_of_beq_eq_false hq
      simp only [cond_false]
      by_cases e : j = i
      ·subst e; simp
      ·rw [if_neg (by omega), if_neg (by omega)]
end T
structure AA where
 s : Bool
 g : Nat
 i : Nat
 o : Nat
inductive AV where
 | top
 | bool (b : Bool)
 | bD (b : Bool)
 | int (s : Bool) (k : IntKind) (n : Int)
 | flt (s : Bool) (x : Nat)
 | raw (s : Bool) (x : Nat)
 | bits (s : Bool) (x : Nat)
 | vW (s : Bool) (x y : Nat)
 | str (s : Bool) (l : List UInt8)
 | ptr (a : AA)
 | iW
 | slc (s own : Bool) (a : AA) (len : Nat)
 | dL
 | mp (g : Nat)
 | wI
 | fn (f : Fn) (first cap : List AV)
 | qV
 | BM
 | hdr (b len cap : Nat)
 | iP
 | iw (n : Nat) (f : Nat → List UInt8)
 | KJ (x : List UInt8)
 | agg (l : List AV)
 | lZ (l : List AV)
def AV.vX : AV → AV
 | .raw s x => .flt s (cn x)
 | v => v
def AV.fl : AV → AV
 | .raw s x => .flt s (cn x)
 | .agg l => .agg (l.map AV.vX)
 | v => v
def AV.one : AV → Bool
 | .top | .agg _ | .lZ _ => false
 | _ => true
def AV.cells : AV → List AV
 | .agg l => l
 | v => [v]
inductive Cont where
 | lit (d : List AV) (t : T (List AV))
 | fn (f : Nat → List AV)
 /-- some rows told by themselves, the others by a function -/
 | «at» (l : List (Nat × List AV)) (f : Nat → List AV)
def nD (f : Nat → List AV) (i : Nat) : List (Nat × List AV) → List AV
 | [] => f i
 | p :: l => bif Nat.beq i p.1 then p.2 else nD f i l
def Cont.row : Cont → Nat → List AV
 | .lit d t, i => (t.get i).getD d
 | .fn f, i => f i
 | .at l f, i => nD f i l
def Cont.put : Cont → Nat → List AV → Cont
 | .lit d t, i, r => .lit d (t.upd i (some r))
 | .fn f, i, r => .fn fun j => bif Nat.beq j i then r else f j
 | .at l f, i, r => .fn fun j => bif Nat.beq j i then r else nD f j l
def Cont.more (src : Nat → List AV) (n : Nat) : Nat → Cont → Cont
 | 0, c => c
 | m + 1, c => (more src n m c).put (n + m) (src m)
inductive aF where
 | cells (own : Bool) (sz n : Nat) (c : Cont)
 | aJ (s : Bool) (l : List (List UInt8 × Int))
 | iY (s : Bool) (l : List (Int × Int))
 | sit (s : Bool) (l : List UInt8) (pos : Nat)
structure G where
 H : T aF
 nx : Nat
 uV : List Nat
 path : List Bool
 cs : Prop
inductive Aa (α : Type) : Type where
 | done (a : α) (g : G)
 | need (b : Bool)
 | fail
abbrev M (α : Type) := G → Aa α
namespace M
variable {α β : Type}
def ret (a : α) : M α := fun g => .done a g
def no : M α := fun _ => .fail
def andThen (x : M α) (f : α → M β) : M β := fun g =>
 match x g with
 | .done a g' => f a g'
 | .need b => .need b
 | .fail => .fail
def bf : Option α → M α
 | some a => ret a
 | none => no
def req (p : Prop) : M Unit := fun g => .done () { g with cs := g.cs ∧ p }
def ck (s : Bool) (p : Prop) [Decidable p] : M Unit := bif s then req p else bif decide p then ret () else no
def dec (b : Bool) : M Bool := fun g =>
 match g.path with
 | [] => .need b
 | d :: ds => .done d { g with path := ds, cs := g.cs ∧ b = d }
def pK (nm : Nat) : M aF := fun g =>
 match g.H.get nm with
 | some b => .done b g
 | none => .fail
def setB (nm : Nat) (b : aF) : M Unit := fun g => .done () { g with H := g.H.upd nm (some b), uV := nm :: g.uV }
def Io (nm : Nat) : M Unit := fun g => .done () { g with H := g.H.upd nm none, uV := nm :: g.uV }
def fD (b : aF) : M Nat := fun g => .done g.nx { g with H := g.H.upd g.nx (some b), nx := g.nx + 1 }
def dh (b : Bool) : M Unit := bif b then ret () else no
end M
open M
def asInt : AV → Option (Bool × Int)
 | .int s _ n => some (s, n)
 | _ => none
def EP : AV → Option AA
 | .ptr a => some a
 | _ => none
def asAgg : AV → Option (List AV)
 | .agg l => some l
 | _ => none
def Nv : aF → Option (Bool × Nat × Nat × Cont)
 | .cells own sz n c => some (own, sz, n, c)
 | _ => none
def jk (nm : Nat) : M (Bool × Nat × Nat × Cont) := (pK nm).andThen fun b => bf (Nv b)
def jm (P : Program) (t : TypeId) : Option TypeId :=
 match P.underlying t with
 | some (.slice e) => some e
 | _ => none
def BN (P : Program) (t : TypeId) : Option (Nat × TypeId) :=
 match P.underlying t with
 | some (.array n e) => some (n, e)
 | _ => none
def jQ : Value → AV
 | .bool b => .bool b
 | .int k n => .int false k n
 | .float .f64 b => bif decide (b < 18446744073709551616) then .flt false (cn b) else .top
 | .complex .f64 a b => bif decide (a < 18446744073709551616 ∧ b < 18446744073709551616) then .vW false (cn a) (cn b) else .top
 | .string s => .str false s.data.toList
 | .pointer none => .iW
 | .slice none 0 0 => .dL
 | .map none => .wI
 | .nilFunc => .qV
 | .nilIface => .BM
 | _ => .top
def lX : Value → AV
 | .agg cs => .agg (cs.toList.map jQ)
 | .tuple cs => .lZ (cs.toList.map jQ)
 | v => jQ v
def qB : TypeDesc → Bool
 | .struct _ | .array _ _ => true
 | _ => false
def lay (P : Program) (t : TypeId) : Option (Nat × Bool) :=
 match P.info? t, P.underlying t with
 | some i, some d => some (i.size, qB d)
 | _, _ => none
def zeroOf (P : Program) (t : TypeId) : Option AV :=
 match P.info? t with
 | some i => i.zero.map lX
 | none => none
def tu (f : Nat → List AV) (i : Nat) : List (Nat × List AV) → List (Nat × List AV) → M (List AV × (List AV → Cont))
 | acc, [] => ret (f i, fun r => .at acc (fun j => bif Nat.beq j i then r else f j))
 | acc, p :: l => (dec (Nat.beq i p.1)).andThen fun d => bif d then ret (p.2, fun r => .at (acc ++ (p.1, r) :: l) f) else tu f i (acc ++ [p]) l
def xJ (c : Cont) (i : Nat) : M (List AV × (List AV → Cont)) :=
 match c with
 | .lit d t => ret ((Cont.lit d t).row i, fun r => (Cont.lit d t).put i r)
 | .fn f => ret (f i, fun r => (Cont.fn f).put i r)
 | .at l f => tu f i [] l
def tC (P : Program) (t : TypeId) (a : AA) : M AV :=
 (bf (lay P t)).andThen fun y =>
 (jk a.g).andThen fun b =>
 (ck a.s (a.i < b.2.2.1)).andThen fun _ =>
 (xJ b.2.2.2 a.i).andThen fun p =>
 bif y.2 then (ck a.s (a.o + y.1 ≤ b.2.1)).andThen fun _ => ret (.agg ((p.1.drop a.o).take y.1))
 else bf (p.1[a.o]?)
def BO (P : Program) (t : TypeId) : AV → M AV
 | .KJ x => (bf (lay P t)).andThen fun y => (dh (Nat.beq y.1 1 && !y.2)).andThen fun _ => ret (.str true x)
 | v => (bf (EP v)).andThen fun a => tC P t a
def splice (row : List AV) (o : Nat) (vs : List AV) : List AV := row.take o ++ vs ++ row.drop (o + vs.length)
def FX (sz : Nat) (row : List AV) (o : Nat) (vs : List AV) : List AV := bif Nat.beq sz vs.length then vs else splice row o vs
def wJ (P : Program) (t : TypeId) (a : AA) (v : AV) : M Unit :=
 (bf (lay P t)).andThen fun y =>
 (jk a.g).andThen fun b =>
 (dh (b.1 && Nat.beq v.cells.length y.1 && v.cells.all AV.one)).andThen fun _ =>
 (ck a.s (a.i < b.2.2.1)).andThen fun _ =>
 (ck a.s (a.o + y.1 ≤ b.2.1)).andThen fun _ =>
 (xJ b.2.2.2 a.i).andThen fun p =>
 setB a.g (.cells true b.2.1 b.2.2.1 (p.2 (FX b.2.1 p.1 a.o v.cells)))
def Ip (v : AV) : M AV :=
 (dh (v.cells.all AV.one && !v.cells.isEmpty)).andThen fun _ =>
 (fD (.cells true v.cells.length 1 (.lit [] (T.Il (some v.cells) 1 0)))).andThen fun nm => ret (.ptr ⟨false, nm, 0, 0⟩)
def dZ (s b : Bool) : AV := bif s then .bD b else .bool b
def tJ (op : BinOp) (k : IntKind) (x y : Int) : Int :=
 let a := BitVec.ofInt k.bits x
 let b := BitVec.ofInt k.bits y
 match op with
 | .and => k.wrap (a &&& b).toNat
 | .or => k.wrap (a ||| b).toNat
 | .xor => k.wrap (a ^^^ b).toNat
 | _ => k.wrap (a &&& ~~~b).toNat
def xK : IntKind → Bool
 | .i64 => true
 | _ => false
def lD (s : Bool) (k : IntKind) (r : Int) : M AV :=
 bif s && xK k then (req (-9223372036854775808 ≤ r ∧ r ≤ 9223372036854775807)).andThen fun _ => ret (.int s k r)
 else ret (.int s k (k.wrap r))
def jo (s : Bool) (k : IntKind) (op : BinOp) (a b : Int) : M AV :=
 match op with
 | .add => lD s k (a + b)
 | .sub => lD s k (a - b)
 | .mul => lD s k (a * b)
 | .quo => (ck s (b ≠ 0)).andThen fun _ => lD s k (a.tdiv b)
 | .rem => (ck s (b ≠ 0)).andThen fun _ => ret (.int s k (a.tmod b))
 | .and | .or | .xor | .andNot => ret (.int s k (tJ op k a b))
 | .eql => ret (dZ s (decide (a = b)))
 | .neq => ret (dZ s (!decide (a = b)))
 | .lss => ret (dZ s (decide (a < b)))
 | .leq => ret (dZ s (decide (a ≤ b)))
 | .gtr => ret (dZ s (decide (b < a)))
 | .geq => ret (dZ s (decide (b ≤ a)))
 | _ => no
def oL (s : Bool) (k : IntKind) (op : BinOp) (a b : Int) : M AV :=
 (ck s (0 ≤ b)).andThen fun _ =>
 match op with
 | .shl => lD s k (a * 2 ^ (min b.toNat k.bits))
 | .shr => ret (.int s k (a.fdiv (2 ^ (min b.toNat k.bits))))
 | _ => no
def qW (s : Bool) (op : BinOp) (x y : Nat) : M AV :=
 match op with
 | .add => ret (.flt s (oK x y))
 | .sub => ret (.flt s (BD x y))
 | .mul => ret (.flt s (FV x y))
 | .quo => ret (.flt s (fdiv x y))
 | .eql => ret (dZ s (H7 x y))
 | .neq => ret (dZ s (!H7 x y))
 | .lss => ret (dZ s (flt x y))
 | .leq => ret (dZ s (Va x y))
 | .gtr => ret (dZ s (fgt x y))
 | .geq => ret (dZ s (fge x y))
 | _ => no
def wK (s : Bool) (op : BinOp) (a b c d : Nat) : M AV :=
 match op with
 | .add => ret (.vW s (oK a c) (oK b d))
 | .sub => ret (.vW s (BD a c) (BD b d))
 | .eql => ret (dZ s (H7 a c && H7 b d))
 | .neq => ret (dZ s (!(H7 a c && H7 b d)))
 | _ => no
def wL (s : Bool) (op : BinOp) (a b : List UInt8) : M AV :=
 match op with
 | .add => (ck s (a.length + b.length ≤ 9223372036854775807)).andThen fun _ => ret (.str s (a ++ b))
 | .eql => ret (dZ s (a == b))
 | .neq => ret (dZ s (!(a == b)))
 | .lss => ret (dZ s (Op.bytesLess a b))
 | _ => no
def qC (op : BinOp) (s a b : Bool) : M AV :=
 match op with
 | .eql => ret (dZ s (a == b))
 | .neq => ret (dZ s (!(a == b)))
 | _ => no
def oM (op : BinOp) (b : Bool) : M AV :=
 match op with
 | .eql => ret (.bool b)
 | .neq => ret (.bool !b)
 | _ => no
def KT (d : TypeDesc) (v v' : AV) : Option (Bool × Bool) :=
 match d, v, v' with
 | .int _, .int s k a, .int s' k' b => bif decide (k = k') then some (s || s', decide (a = b)) else none
 | .float _, .flt s a, .flt s' b => some (s || s', H7 a b)
 | .string, .str s a, .str s' b => some (s || s', a == b)
 | .bool, .bool a, .bool b => some (false, a == b)
 | _, _, _ => none
def oN (P : Program) : Nat → List Field → List AV → List AV → Option (Bool × Bool)
 | _, [], [], [] => some (false, true)
 | o, f :: fs, v :: l, v' :: l' =>
  bif Nat.beq f.offset o && !(f.name == "_") then
   match P.underlying f.type with
   | some d =>
    match KT d v v', oN P (o + 1) fs l l' with
    | some x, some y => some (x.1 || y.1, x.2 && y.2)
    | _, _ => none
   | none => none
  else none
 | _, _, _, _ => none
def structEq (P : Program) (t : TypeId) (l l' : List AV) : Option (Bool × Bool) :=
 match P.underlying t with
 | some (.struct fs) => bif !P.stoodInHeld t && !P.eqGuardType P.depth t then oN P 0 fs.toList l l' else none
 | _ => none
def uX (P : Program) (t : TypeId) : Bool :=
 match P.underlying t with
 | some .bool => true
 | _ => false
def BP (P : Program) (t : TypeId) : Bool :=
 match P.underlying t with
 | some (.pointer _) => true
 | _ => false
def xM (P : Program) (t : TypeId) : Bool :=
 match P.underlying t with
 | some (.func _ _ _) => true
 | _ => false
def kF : Int := 9223372036854775808
def qX (s : Bool) (op : BinOp) (x : Nat) (m : Int) : M AV :=
 match op with
 | .xor => bif decide (m = kF) then ret (.bits s (PG x)) else (ck s (isnan x = false)).andThen fun _ => jo s .u64 op x m
 | .andNot => bif decide (m = kF) then ret (.bits s (fabs x)) else (ck s (isnan x = false)).andThen fun _ => jo s .u64 op x m
 | _ => (ck s (isnan x = false)).andThen fun _ => jo s .u64 op x m
def jG : BinOp → Bool
 | .shl | .shr => true
 | _ => false
def X8 (s : Bool) (p : Prop) : M Unit := bif s then req p else ret ()
def tK (P : Program) (op : BinOp) (t : TypeId) (x y : AV) : M AV :=
 match x, y with
 | .int s k a, .int s' k' b => bif jG op then oL (s || s') k op a b else bif decide (k = k') then jo (s || s') k op a b else no
 | .flt s a, .flt s' b => qW (s || s') op a b
 | .vW s a b, .vW s' c d => wK (s || s') op a b c d
 | .str s a, .str s' b => wL (s || s') op a b
 | .bits s a, .int false .u64 m => bif jG op then (ck s (isnan a = false)).andThen fun _ => oL s .u64 op a m else qX s op a m
 | .bits s a, .int false .i64 m => bif jG op then (ck s (isnan a = false)).andThen fun _ => oL s .u64 op a m else no
 | .bits s a, .int s' .u64 m => bif jG op then no else (ck s (isnan a = false)).andThen fun _ => jo (s || s') .u64 op a m
 | .int s .u64 n, .bits s' b => bif jG op then no else (ck s' (isnan b = false)).andThen fun _ => jo (s || s') .u64 op n b
 | .bits s a, .bits s' b => bif jG op then no else (ck s (isnan a = false)).andThen fun _ => (ck s' (isnan b = false)).andThen fun _ => jo (s || s') .u64 op a b
 | .bool a, .bool b => (dh (uX P t)).andThen fun _ => qC op false a b
 | .bD a, .bool b => (dh (uX P t)).andThen fun _ => qC op true a b
 | .bool a, .bD b => (dh (uX P t)).andThen fun _ => qC op true a b
 | .bD a, .bD b => (dh (uX P t)).andThen fun _ => qC op true a b
 | .dL, .dL => (dh (jm P t).isSome).andThen fun _ => oM op true
 | .slc s _ _ len, .dL => (dh (jm P t).isSome).andThen fun _ => (X8 s (0 < len)).andThen fun _ => oM op false
 | .dL, .slc s _ _ len => (dh (jm P t).isSome).andThen fun _ => (X8 s (0 < len)).andThen fun _ => oM op false
 | .iW, .iW => (dh (BP P t)).andThen fun _ => oM op true
 | .ptr _, .iW => (dh (BP P t)).andThen fun _ => oM op false
 | .iW, .ptr _ => (dh (BP P t)).andThen fun _ => oM op false
 | .qV, .qV => (dh (xM P t)).andThen fun _ => oM op true
 | .fn .., .qV => (dh (xM P t)).andThen fun _ => oM op false
 | .qV, .fn .. => (dh (xM P t)).andThen fun _ => oM op false
 | .agg l, .agg l' =>
  (bf (structEq P t l l')).andThen fun x =>
  match op with
  | .eql => ret (dZ x.1 x.2)
  | .neq => ret (dZ x.1 (!x.2))
  | _ => no
 | _, _ => no
def PI (P : Program) (op : BinOp) (t : TypeId) (s : Bool) (k : IntKind) (a : Int) (y : AV) : M AV :=
 match y with
 | .int s' k' b => bif jG op then oL (s || s') k op a b else bif decide (k = k') then jo (s || s') k op a b else no
 | y => tK P op t (.int s k a) y
def PK (P : Program) (op : BinOp) (t : TypeId) (s : Bool) (a : Nat) (y : AV) : M AV :=
 match y with
 | .flt s' b => qW (s || s') op a b
 | y => tK P op t (.flt s a) y
def Iq (P : Program) (op : BinOp) (t : TypeId) (x y : AV) : M AV :=
 match x with
 | .int s k a => PI P op t s k a y
 | .flt s a => PK P op t s a y
 | x => tK P op t x y
theorem Vu (P : Program) (op : BinOp) (t : TypeId) (x y : AV) : Iq P op t x y = tK P op t x y := by
 unfold Iq
 split
 ·unfold PI; split
  ·rfl
  ·rfl
 ·unfold PK; split
  ·rfl
  ·rfl
 ·rfl
def YV (op : UnOp) (x : AV) : M AV :=
 match op, x with
 | .neg, .int s k n => lD s k (0 - n)
 | .neg, .flt s x => ret (.flt s (PG x))
 | .neg, .vW s x y => ret (.vW s (PG x) (PG y))
 | .not, .bool b => ret (.bool !b)
 | .not, .bD b => ret (.bD !b)
 | _, _ => no
def ofInt (n : Int) : Nat := floatOfInt .f64 n
def FY (x : Nat) (k : IntKind) : Option Int := floatToIntVal .f64 x k
def rowsOf (a : AA) (dA sz : Nat) (c : Cont) (j : Nat) : List AV :=
 bif Nat.beq dA sz && Nat.beq a.o 0 then c.row (a.i + j) else ((c.row a.i).drop (a.o + j * dA)).take dA
def wM (s : Bool) (a : AA) (dA sz n m : Nat) : M Unit :=
 bif Nat.beq dA sz && Nat.beq a.o 0 then ck (s || a.s) (a.i + m ≤ n)
 else (ck (s || a.s) (a.i < n)).andThen fun _ => ck (s || a.s) (a.o + m * dA ≤ sz)
def ER (d : TypeDesc) (x : AV) : M AV :=
 match d, x with
 | .int k, .int s _ n => bif s && xK k then (req (-9223372036854775808 ≤ n ∧ n ≤ 9223372036854775807)).andThen fun _ => ret (.int s k n) else ret (.int s k (k.wrap n))
 | .int k, .bits s x => (ck s (isnan x = false)).andThen fun _ => bif s && xK k then (req ((x : Int) ≤ 9223372036854775807)).andThen fun _ => ret (.int s k x) else ret (.int s k (k.wrap x))
 | .float .f64, .int s _ n => ret (.flt s (ofInt n))
 | .float .f64, .flt s x => ret (.flt s x)
 | .int k, .flt s x => (ck s ((FY x k).isSome = true)).andThen fun _ => ret (.int s k ((FY x k).getD 0))
 | _, _ => no
def BQ (P : Program) (src dst : TypeId) (x : AV) : M AV :=
 (bf (P.underlying src)).andThen fun _ => (bf (P.underlying dst)).andThen fun d => ER d x
def qY (P : Program) (t : TypeId) : Bool :=
 match P.underlying t with
 | some .string => true
 | _ => false
def KU (P : Program) (t : TypeId) : AV → M AV
 | .slc s _ _ len => (dh (jm P t).isSome).andThen fun _ => ret (.int s .i64 len)
 | .dL => (dh (jm P t).isSome).andThen fun _ => ret (.int false .i64 0)
 | .str s l => (dh (qY P t)).andThen fun _ => ret (.int s .i64 l.length)
 | .hdr _ len _ => (dh (jm P t).isSome).andThen fun _ => ret (.int true .i64 len)
 | .iw len _ => (dh (jm P t).isSome).andThen fun _ => ret (.int true .i64 len)
 | _ => no
def qE (d : Nat) : Option AV → Option (Bool × Int)
 | none => some (false, d)
 | some v => asInt v
def ES (a : AA) (s : Bool) (dA sz n : Nat) : AA :=
 bif Nat.beq dA sz && Nat.beq a.o 0 then ⟨s, a.g, a.i + n, 0⟩ else ⟨s, a.g, a.i, a.o + n * dA⟩
def wO (P : Program) (t : TypeId) (x : AV) (lo hi mx : Option AV) : M AV :=
 (dh mx.isNone).andThen fun _ =>
 match x with
 | .slc s own a len =>
  (bf (jm P t)).andThen fun e =>
  (bf (lay P e)).andThen fun y =>
  (bf (qE 0 lo)).andThen fun l =>
  (bf (qE len hi)).andThen fun h =>
  (ck (s || l.1 || h.1) (0 ≤ l.2 ∧ l.2 ≤ h.2 ∧ h.2 ≤ len)).andThen fun _ =>
  bif lo.isNone then ret (.slc (s || h.1) own a h.2.toNat)
  else (jk a.g).andThen fun b => ret (.slc (s || l.1 || h.1) false (ES a (a.s || l.1) y.1 b.2.1 l.2.toNat) (h.2.toNat - l.2.toNat))
 | .str s cs =>
  (dh (qY P t)).andThen fun _ =>
  (bf (qE 0 lo)).andThen fun l =>
  (bf (qE cs.length hi)).andThen fun h =>
  (ck (s || l.1 || h.1) (0 ≤ l.2 ∧ l.2 ≤ h.2 ∧ h.2 ≤ cs.length)).andThen fun _ => ret (.str (s || l.1 || h.1) ((cs.drop l.2.toNat).take (h.2.toNat - l.2.toNat)))
 | .ptr a =>
  (bf (BN P t)).andThen fun ne =>
  (bf (lay P ne.2)).andThen fun _ =>
  (dh lo.isNone).andThen fun _ =>
  (bf (qE ne.1 hi)).andThen fun h =>
  (ck h.1 (0 ≤ h.2 ∧ h.2 ≤ ne.1)).andThen fun _ => ret (.slc (a.s || h.1) false a h.2.toNat)
 | _ => no
def kK (P : Program) (t : TypeId) (x ix : AV) : M AV :=
 (bf (asInt ix)).andThen fun i =>
 match x with
 | .slc s _ a len =>
  (bf (jm P t)).andThen fun e =>
  (ck (i.1 || s) (0 ≤ i.2 ∧ i.2 < len)).andThen fun _ =>
  (bf (lay P e)).andThen fun y =>
  (jk a.g).andThen fun b => ret (.ptr (ES a (a.s || i.1 || s) y.1 b.2.1 i.2.toNat))
 | .ptr a =>
  (bf (BN P t)).andThen fun ne =>
  (ck i.1 (0 ≤ i.2 ∧ i.2 < ne.1)).andThen fun _ =>
  (bf (lay P ne.2)).andThen fun y => ret (.ptr ⟨a.s || i.1, a.g, a.i, a.o + i.2.toNat * y.1⟩)
 | .iw len f =>
  (bf (jm P t)).andThen fun e =>
  (req (0 ≤ i.2 ∧ i.2 < len)).andThen fun _ =>
  (bf (lay P e)).andThen fun y => (dh (Nat.beq y.1 1)).andThen fun _ => ret (.KJ (f i.2.toNat))
 | _ => no
def xO (y : Nat × Bool) (cs : List AV) (off : Nat) : M AV :=
 bif y.2 then (dh (decide (off + y.1 ≤ cs.length))).andThen fun _ => ret (.agg ((cs.drop off).take y.1)) else bf cs[off]?
def wP (P : Program) (t : TypeId) (x ix : AV) : M AV :=
 (bf (asInt ix)).andThen fun i =>
 match x with
 | .str s l => (dh (qY P t)).andThen fun _ => (ck (i.1 || s) (0 ≤ i.2 ∧ i.2 < l.length)).andThen fun _ => ret (.int (i.1 || s) .u8 (l.getD i.2.toNat 0).toNat)
 | .agg cs =>
  (bf (BN P t)).andThen fun ne =>
  (ck i.1 (0 ≤ i.2 ∧ i.2 < ne.1)).andThen fun _ =>
  (bf (lay P ne.2)).andThen fun y => xO y cs (i.2.toNat * y.1)
 | _ => no
def Bj (P : Program) (t : TypeId) (f : Nat) : Option Field :=
 match P.underlying t with
 | some (.struct fs) => fs[f]?
 | _ => none
def kL (P : Program) (t : TypeId) (x : AV) (f : Nat) : M AV :=
 (bf (EP x)).andThen fun a =>
 (bf (Bj P t f)).andThen fun fd =>
 (bf (lay P fd.type)).andThen fun y =>
 (dh (!Nat.beq y.1 0)).andThen fun _ => ret (.ptr ⟨a.s, a.g, a.i, a.o + fd.offset⟩)
def wQ (P : Program) (t : TypeId) (x : AV) (f : Nat) : M AV :=
 (bf (asAgg x)).andThen fun cs =>
 (bf (Bj P t f)).andThen fun fd =>
 (bf (lay P fd.type)).andThen fun y => xO y cs fd.offset
def uY (P : Program) (e : TypeId) : Option (List AV × Nat) :=
 match P.info? e, zeroOf P e with
 | some i, some z => bif Nat.beq z.cells.length i.size && z.cells.all AV.one && !Nat.beq i.size 0 then some (z.cells, i.bytes) else none
 | _, _ => none
def kM (P : Program) (t : TypeId) (l c : AV) : M AV :=
 (bf (asInt l)).andThen fun n =>
 (bf (asInt c)).andThen fun m =>
 (bf (jm P t)).andThen fun e =>
 (bf (uY P e)).andThen fun z =>
 (ck (n.1 || m.1) (0 ≤ n.2 ∧ n.2 ≤ m.2 ∧ z.2 * m.2 ≤ 140737488355328 ∧ m.2 ≤ 9223372036854775807)).andThen fun _ =>
 (fD (.cells true z.1.length n.2.toNat (bif n.1 then .fn fun _ => z.1 else .lit z.1 .e))).andThen fun nm =>
 ret (.slc n.1 true ⟨false, nm, 0, 0⟩ n.2.toNat)
def BU (place : Nat → Option (Nat × Nat)) (cells : List AV) : List (Nat × AV) → Option (List AV)
 | [] => some cells
 | (i, v) :: rest =>
  match place i with
  | none => none
  | some (off, size) =>
   bif Nat.beq v.cells.length size && decide (off + size ≤ cells.length) then BU place (splice cells off v.cells) rest else none
def placesOf (P : Program) : List Field → Option (List (Nat × Nat))
 | [] => some []
 | f :: l =>
  match lay P f.type, placesOf P l with
  | some y, some r => some ((f.offset, y.1) :: r)
  | _, _ => none
def placeOf (P : Program) (t : TypeId) : Option (Nat → Option (Nat × Nat)) :=
 match P.underlying t with
 | some (.struct fs) => (placesOf P fs.toList).map fun ps i => ps[i]?
 | some (.array _ e) => (lay P e).map fun y i => some (i * y.1, y.1)
 | _ => none
def wR (P : Program) (t : TypeId) (parts : List (Nat × AV)) : M AV :=
 (dh (parts.all fun p => p.2.cells.all AV.one)).andThen fun _ =>
 (bf (zeroOf P t)).andThen fun z =>
 (bf (placeOf P t)).andThen fun place =>
 (bf (BU place z.cells parts)).andThen fun cs => ret (.agg cs)
def chop (sz : Nat) : Nat → List AV → T (List AV) → Nat → T (List AV)
 | 0, _, t, _ => t
 | n + 1, l, t, i => chop sz n (l.drop sz) (t.upd i (some (l.take sz))) (i + 1)
def tV (z : List AV) : Nat → List AV
 | 0 => []
 | n + 1 => z ++ tV z n
def jq (P : Program) (t : TypeId) (len : Nat) (parts : List (Nat × AV)) : M AV :=
 (bf (jm P t)).andThen fun e =>
 (bf (uY P e)).andThen fun z =>
 (dh (decide (len * z.1.length ≤ 16777216) && parts.all fun p => p.2.cells.all AV.one)).andThen fun _ =>
 (bf (BU (fun i => some (i * z.1.length, z.1.length)) (tV z.1 len) parts)).andThen fun cs =>
 (dh (cs.all AV.one)).andThen fun _ =>
 (fD (.cells true z.1.length len (.lit z.1 (chop z.1.length len cs .e 0)))).andThen fun nm => ret (.slc false true ⟨false, nm, 0, 0⟩ len)
def nG (dA : Nat) : AV → M (Bool × Nat × (Nat → List AV))
 | .dL => ret (false, 0, fun _ => [])
 | .slc s _ a len => (jk a.g).andThen fun b => (wM s a dA b.2.1 b.2.2.1 len).andThen fun _ => ret (s, len, rowsOf a dA b.2.1 b.2.2.2)
 | _ => no
def Rk (c : Cont) (len j : Nat) : List AV := match c with
 | .fn f => f j
 | .at l f => nD f j l
 | .lit d t => bif Nat.beq len 1 then (Cont.lit d t).row 0 else (Cont.lit d t).row j
theorem Vx (c : Cont) {len j : Nat} (h : j < len) : Rk c len j = c.row j := by
 cases c with
 | fn f => rfl
 | «at» l f => rfl
 | lit d t =>
  show (bif Nat.beq len 1 then _ else _) = _
  cases e : Nat.beq len 1 with
  | false => rfl
  | true =>
   have := Nat.eq_of_beq_eq_true e
   obtain rfl : j = 0 := by omega
   rfl
def qZ (P : Program) (t u : TypeId) (x y : AV) : M AV :=
 (bf (jm P t)).andThen fun e =>
 (dh (Nat.beq t u)).andThen fun _ =>
 (bf (uY P e)).andThen fun z =>
 (nG z.1.length y).andThen fun src =>
 match x with
 | .dL =>
  bif !src.1 && Nat.beq src.2.1 0 then ret .dL else
  (ck src.1 (src.2.1 * z.2 ≤ 140737488355328 ∧ src.2.1 ≤ 9223372036854775807)).andThen fun _ =>
  (fD (.cells true z.1.length src.2.1 (bif src.1 then .fn src.2.2 else Cont.more src.2.2 0 src.2.1 (.lit [] .e)))).andThen fun nm =>
  ret (.slc src.1 true ⟨false, nm, 0, 0⟩ src.2.1)
 | .slc s own a len =>
  (jk a.g).andThen fun b =>
  (dh (own && b.1 && Nat.beq b.2.1 z.1.length)).andThen fun _ =>
  (ck (s || src.1) (len ≤ b.2.2.1 ∧ (len + src.2.1) * z.2 ≤ 140737488355328 ∧ len + src.2.1 ≤ 9223372036854775807)).andThen fun _ =>
  (Io a.g).andThen fun _ =>
  (fD (.cells true z.1.length (len + src.2.1) (bif s || src.1 then .fn (fun j => bif decide (j < len) then Rk b.2.2.2 len j else (bif Nat.beq src.2.1 1 then src.2.2 0 else src.2.2 (j - len))) else Cont.more src.2.2 len src.2.1 b.2.2.2))).andThen fun nm =>
  ret (.slc (s || src.1) true ⟨false, nm, 0, 0⟩ (len + src.2.1))
 | _ => no
def Rl (a b : Nat) : Nat := bif Nat.ble a b then a else b
def BX (P : Program) (t : TypeId) (x y : AV) : M AV :=
 (bf (jm P t)).andThen fun e =>
 (bf (uY P e)).andThen fun z =>
 (dh (Nat.beq z.1.length 1)).andThen fun _ =>
 (nG 1 y).andThen fun src =>
 match x with
 | .slc s _ a len =>
  (jk a.g).andThen fun b =>
  (dh (b.1 && Nat.beq b.2.1 1 && Nat.beq a.o 0)).andThen fun _ =>
  (ck (s || a.s) (a.i + len ≤ b.2.2.1)).andThen fun _ =>
  (setB a.g (.cells true 1 b.2.2.1 (bif s || a.s || src.1 then .fn (fun j => bif decide (a.i ≤ j ∧ j < a.i + Rl src.2.1 len) then src.2.2 (j - a.i) else b.2.2.2.row j) else Cont.more src.2.2 a.i (Rl src.2.1 len) b.2.2.2))).andThen fun _ =>
  ret (.int (s || src.1) .i64 (Rl src.2.1 len))
 | _ => no
def Rn (x y : Nat) : Nat :=
 match kJ x y with
 | none => qn
 | some .lt => y
 | some .gt => x
 | some .eq => bif decide (9223372036854775808 ≤ x) then y else x
def Ro (x y : Nat) : Nat :=
 match kJ x y with
 | none => qn
 | some .lt => x
 | some .gt => y
 | some .eq => bif decide (9223372036854775808 ≤ x) then x else y
def Ir (x y : AV) : M AV :=
 match x, y with
 | .int s k a, .int s' k' b => bif decide (k = k') then ret (.int (s || s') k (if b > a then b else a)) else no
 | .flt s a, .flt s' b => ret (.flt (s || s') (Rn a b))
 | _, _ => no
def Iu (x y : AV) : M AV :=
 match x, y with
 | .int s k a, .int s' k' b => bif decide (k = k') then ret (.int (s || s') k (if b < a then b else a)) else no
 | .flt s a, .flt s' b => ret (.flt (s || s') (Ro a b))
 | _, _ => no
def vY (f : AV → AV → M AV) : AV → List AV → M AV
 | x, [] => ret x
 | x, y :: l => (f x y).andThen fun z => vY f z l
def oO (P : Program) (b : Builtin) (ts : List TypeId) (args : List AV) : M AV :=
 match b, ts, args with
 | .len, [t], [x] => KU P t x
 | .real, _, [.vW s x _] => ret (.flt s x)
 | .imag, _, [.vW s _ y] => ret (.flt s y)
 | .complex, _, [.flt s x, .flt s' y] => ret (.vW (s || s') x y)
 | .append, [t, u], [x, y] => qZ P t u x y
 | .copy, [t, u], [x, y] => BX P t x y
 | .max, _, x :: l => vY Ir x l
 | .min, _, x :: l => vY Iu x l
 | _, _, _ => no
inductive MK where
 | si
 | ii
def isZ : Option AV → Bool
 | some (.int false .i64 0) => true
 | _ => false
def Iw (P : Program) (t : TypeId) : Option MK :=
 match P.underlying t with
 | some (.map k e) =>
  bif isZ (zeroOf P e) then
   match P.underlying k with
   | some .string => some .si
   | some (.int .i64) => some .ii
   | _ => none
  else none
 | _ => none
def cZ {α : Type} (eq : α → α → Bool) (x : α) : List (α × Int) → Option Int
 | [] => none
 | p :: l => bif eq x p.1 then some p.2 else cZ eq x l
def oh {α : Type} (eq : α → α → Bool) (x : α) (v : Int) : List (α × Int) → List (α × Int)
 | [] => [(x, v)]
 | p :: l => bif eq x p.1 then (x, v) :: l else p :: oh eq x v l
def seq (a b : List UInt8) : Bool := a == b
def ieq (a b : Int) : Bool := a == b
def nR (ok s : Bool) (r : Option Int) : AV := bif ok then .lZ [.int s .i64 (r.getD 0), dZ s r.isSome] else .int s .i64 (r.getD 0)
def Eu : aF → Option (Bool × List (List UInt8 × Int))
 | .aJ s l => some (s, l)
 | _ => none
def Vy : aF → Option (Bool × List (Int × Int))
 | .iY s l => some (s, l)
 | _ => none
def Rq : aF → Option (Bool × List UInt8 × Nat)
 | .sit s l n => some (s, l, n)
 | _ => none
def lookA (P : Program) (t : TypeId) (x ix : AV) (ok : Bool) : M AV :=
 (bf (Iw P t)).andThen fun mk =>
 match mk, x, ix with
 | .si, .wI, .str s _ => ret (nR ok s none)
 | .ii, .wI, .int s .i64 _ => ret (nR ok s none)
 | .si, .mp g, .str s k => (pK g).andThen fun b => (bf (Eu b)).andThen fun y => ret (nR ok (s || y.1) (cZ seq k y.2))
 | .ii, .mp g, .int s .i64 k => (pK g).andThen fun b => (bf (Vy b)).andThen fun y => ret (nR ok (s || y.1) (cZ ieq k y.2))
 | _, _, _ => no
def pU (P : Program) (t : TypeId) (m k v : AV) : M Unit :=
 (bf (Iw P t)).andThen fun mk =>
 match mk, m, k, v with
 | .si, .mp g, .str s k, .int s' .i64 v => (pK g).andThen fun b => (bf (Eu b)).andThen fun y => setB g (.aJ (s || s' || y.1) (oh seq k v y.2))
 | .ii, .mp g, .int s .i64 k, .int s' .i64 v => (pK g).andThen fun b => (bf (Vy b)).andThen fun y => setB g (.iY (s || s' || y.1) (oh ieq k v y.2))
 | _, _, _, _ => no
def acE : MK → aF
 | .si => .aJ false []
 | .ii => .iY false []
def Rt : Option AV → Bool
 | none => true
 | some v => (asInt v).isSome
def oP (P : Program) (t : TypeId) (r : Option AV) : M AV :=
 (bf (Iw P t)).andThen fun mk => (dh (Rt r)).andThen fun _ => (fD (acE mk)).andThen fun nm => ret (.mp nm)
def Ru : AV → Option (Bool × List UInt8)
 | .str s l => some (s, l)
 | _ => none
def wS (P : Program) (t : TypeId) (x : AV) : M AV :=
 (bf (Ru x)).andThen fun y => (dh (qY P t)).andThen fun _ => (fD (.sit y.1 y.2 0)).andThen fun nm => ret (.ptr ⟨false, nm, 0, 0⟩)
def KW (s b : Bool) : M Bool := bif s then dec b else ret b
def BZ (it : AV) (isString : Bool) : M AV :=
 (dh isString).andThen fun _ =>
 (bf (EP it)).andThen fun a =>
 (dh (Nat.beq a.i 0 && Nat.beq a.o 0)).andThen fun _ =>
 (pK a.g).andThen fun b =>
 (bf (Rq b)).andThen fun y =>
 (KW y.1 (decide (y.2.2 < y.2.1.length))).andThen fun d =>
 bif d then (setB a.g (.sit y.1 y.2.1 (y.2.2 + (Utf8.decode ⟨y.2.1.toArray⟩ y.2.2).2))).andThen fun _ => ret (.lZ [.bool true, .int y.1 .i64 y.2.2, .int y.1 .i32 (Utf8.decode ⟨y.2.1.toArray⟩ y.2.2).1])
 else ret (.lZ [.bool false])
def byteOf : List AV → Option Int
 | [.int _ .u8 n] => some n
 | _ => none
def acF : List AV → Bool
 | [.int s .u8 _] => s
 | _ => false
def bytesOf (rows : Nat → List AV) : Nat → Nat → Option (List Int)
 | _, 0 => some []
 | i, n + 1 =>
  match byteOf (rows i), bytesOf rows (i + 1) n with
  | some x, some l => some (x :: l)
  | _, _ => none
def Rw (rows : Nat → List AV) : Nat → Nat → Bool
 | _, 0 => false
 | i, n + 1 => acF (rows i) || Rw rows (i + 1) n
def isBytes (P : Program) (t : TypeId) : Bool :=
 match jm P t with
 | some e =>
  match P.underlying e with
  | some (.int .u8) => true
  | _ => false
 | none => false
def Ac (P : Program) (src dst : TypeId) (x : AV) : M AV :=
 (dh (isBytes P src && qY P dst)).andThen fun _ =>
 (nG 1 x).andThen fun y =>
 (dh !y.1).andThen fun _ =>
 (bf (bytesOf y.2.2 0 y.2.1)).andThen fun l => ret (.str (Rw y.2.2 0 y.2.1) (l.map fun n => UInt8.ofNat n.toNat))
def rC (P : Program) (src dst : TypeId) (x : AV) : M AV :=
 match x with
 | .slc s own a len => Ac P src dst (.slc s own a len)
 | .dL => Ac P src dst .dL
 | x => BQ P src dst x
abbrev Fr := T AV
def bT (fr : Fr) : Operand → AV
 | .tmp t => (fr.get t).getD .top
 | .const v => lX v
 | .global _ => .top
 | .func f => .fn (.func f) [] []
abbrev Calls' := FuncId → List AV → M AV
def Iy (P : Program) (call : Calls') (fr : Fr) (o : Oper) : M AV :=
 match o.op with
 | .move x => ret (bT fr x)
 | .assign x => ret (bT fr x)
 | .pick c a b =>
  match bT fr c with
  | .bool t => ret (bif t then bT fr a else bT fr b)
  | .bD t => (dec t).andThen fun d => ret (bif d then bT fr a else bT fr b)
  | _ => no
 | .alloc e => (bf (zeroOf P e)).andThen fun z => Ip z
 | .box e x => Ip (bT fr x)
 | .build t ps => wR P t (ps.toList.map fun p => (p.1, bT fr p.2))
 | .buildSlice t len ps => jq P t len (ps.toList.map fun p => (p.1, bT fr p.2))
 | .load t x => BO P t (bT fr x)
 | .store t x v => (bf (EP (bT fr x))).andThen fun a => (wJ P t a (bT fr v)).andThen fun _ => ret .top
 | .nilCheck x =>
  match bT fr x with
  | .ptr a => ret (.ptr a)
  | .fn (.func f) l c => ret (.fn (.func f) l c)
  | _ => no
 | .binOp op t x y _ => Iq P op t (bT fr x).fl (bT fr y).fl
 | .unOp op _ x => YV op (bT fr x).fl
 | .convert s d x => rC P s d (bT fr x).fl
 | .lookup t x i ok => lookA P t (bT fr x) (bT fr i) ok
 | .mapUpdate t m k x => (pU P t (bT fr m) (bT fr k) (bT fr x)).andThen fun _ => ret .top
 | .insert t m k x => (pU P t (bT fr m) (bT fr k) (bT fr x)).andThen fun _ => ret .top
 | .makeMap t r => oP P t (r.map (bT fr))
 | .range t x => wS P t (bT fr x)
 | .next it s => BZ (bT fr it) s
 | .makeFunc f l c => ret (.fn f (l.toList.map (bT fr)) (c.toList.map (bT fr)))
 | .makeSlice t l c => kM P t (bT fr l) (bT fr c)
 | .slice t x lo hi mx => wO P t (bT fr x) (lo.map (bT fr)) (hi.map (bT fr)) (mx.map (bT fr))
 | .fieldAddr t x f => kL P t (bT fr x) f
 | .field t x f => wQ P t (bT fr x) f
 | .indexAddr t x i => kK P t (bT fr x) (bT fr i)
 | .index t x i => wP P t (bT fr x) (bT fr i)
 | .extract x i =>
  match bT fr x with
  | .lZ l => bf l[i]?
  | _ => no
 | .call c =>
  match c.callee with
  | .value f =>
   match bT fr f with
   | .fn (.func k) l cap => call k (l ++ c.args.toList.map (bT fr) ++ cap)
   | _ => no
  | .builtin b => oO P b c.argTypes.toList (c.args.toList.map fun x => (bT fr x).fl)
  | .invoke _ _ => no
 | _ => no
def tY (n : Nat) (fr : Fr) (dst : Option Tmp) (v : AV) : M Fr :=
 match dst with
 | some d => bif Nat.blt d n then ret (fr.upd d (some v)) else no
 | none => ret fr
def jX (P : Program) (call : Calls') (n : Nat) (all : List Oper) : List Oper → Fr → M Fr
 | [], fr => ret fr
 | o :: rest, fr =>
  match o.guard with
  | none => (Iy P call fr o).andThen fun v => (tY n fr o.dst v).andThen fun fr' => jX P call n all rest fr'
  | some (j, want) =>
   match (all[j]?).bind (·.dst) with
   | none => no
   | some d =>
    match fr.get d with
    | some (.bool b) =>
     bif b == want then (Iy P call fr o).andThen fun v => (tY n fr o.dst v).andThen fun fr' => jX P call n all rest fr'
     else (tY n fr o.dst (.lZ [])).andThen fun fr' => jX P call n all rest fr'
    | some (.bD b) =>
     (dec b).andThen fun t =>
     bif t == want then (Iy P call (fr.upd d (some (.bool t))) o).andThen fun v => (tY n (fr.upd d (some (.bool t))) o.dst v).andThen fun fr' => jX P call n all rest fr'
     else (tY n (fr.upd d (some (.bool t))) o.dst (.lZ [])).andThen fun fr' => jX P call n all rest fr'
    | some (.lZ _) => (tY n fr o.dst (.lZ [])).andThen fun fr' => jX P call n all rest fr'
    | _ => no
def Vb (P : Program) (call : Calls') (n : Nat) (fr : Fr) (o : Oper) : M Fr := (Iy P call fr o).andThen fun v => tY n fr o.dst v
def Ad (n : Nat) (fr : Fr) (o : Oper) : M Fr := tY n fr o.dst (.lZ [])
def oH (P : Program) (call : Calls') (n : Nat) (all : List Oper) (o : Oper) (fr : Fr) (p : Nat × Bool) : M Fr :=
 match (all[p.1]?).bind (·.dst) with
 | none => no
 | some d =>
  match fr.get d with
  | some (.bool b) => bif b == p.2 then Vb P call n fr o else Ad n fr o
  | some (.bD b) => (dec b).andThen fun t => bif t == p.2 then Vb P call n (fr.upd d (some (.bool t))) o else Ad n (fr.upd d (some (.bool t))) o
  | some (.lZ _) => Ad n fr o
  | _ => no
def Cb (P : Program) (call : Calls') (n : Nat) (all : List Oper) (o : Oper) (fr : Fr) : M Fr :=
 match o.guard with
 | none => Vb P call n fr o
 | some p => oH P call n all o fr p
def zu (P : Program) (call : Calls') (n : Nat) (all : List Oper) (l : List Oper) : Fr → M Fr :=
 List.rec (fun fr => ret fr) (fun o _ ih fr => (Cb P call n all o fr).andThen ih) l
theorem M.assoc {α β γ : Type} (x : M α) (f : α → M β) (k : β → M γ) : (x.andThen f).andThen k = x.andThen fun a => (f a).andThen k := by
 funext g
 unfold M.andThen
 cases x g <;> rfl
theorem M.Vz {α β : Type} (k : α → M β) : (M.no : M α).andThen k = M.no := rfl
theorem PL {α β : Type} (b : Bool) (x y : M α) (k : α → M β) : (bif b then x else y).andThen k = bif b then x.andThen k else y.andThen k := by cases b <;> rfl
theorem PN (P : Program) (call : Calls') (n : Nat) (all : List Oper) (o : Oper) (l : List Oper) (fr : Fr) : zu P call n all (o :: l) fr = (Cb P call n all o fr).andThen (zu P call n all l) := rfl
theorem uZ (P : Program) (call : Calls') (n : Nat) (all : List Oper) : ∀ (l : List Oper) (fr : Fr), zu P call n all l fr = jX P call n all l fr
 | [], fr => rfl
 | o :: l, fr => by
  have ih : zu P call n all l = jX P call n all l := by funext fr; exact uZ P call n all l fr
  rw [PN, ih]
  unfold jX Cb
  cases o.guard with
  | none => simp only [Vb, M.assoc]
  | some p =>
   obtain ⟨j, want⟩ := p
   simp only [oH]
   cases (all[j]?).bind (·.dst) with
   | none => rfl
   | some d =>
    simp only
    cases fr.get d with
    | none => rfl
    | some v => cases v <;> simp only [Vb, Ad, M.assoc, PL, M.Vz]
inductive Ex where
 | normal
 | exit (id : Nat)
 | ret
def loopA (body : Fr → M (Ex × Fr)) : Nat → Fr → M (Ex × Fr)
 | 0, _ => no
 | n + 1, fr => (body fr).andThen fun r =>
  match r.1 with
  | .normal => loopA body n r.2
  | e => M.ret (e, r.2)
abbrev Loops := Nat → Option (Fr → M (Ex × Fr))
def jH : Loops := fun _ => none
def bV (P : Program) (call : Calls') (region : List Oper → Fr → M Fr) (loops : Loops) (n rounds : Nat) : Code → Fr → M (Ex × Fr)
 | .skip, fr => ret (.normal, fr)
 | .region _ ops false, fr => (zu P call n ops.toList ops.toList fr).andThen fun fr => ret (.normal, fr)
 | .region _ ops true, fr => (region ops.toList fr).andThen fun fr => ret (.normal, fr)
 | .seq a b, fr => (bV P call region loops n rounds a fr).andThen fun r =>
  match r.1 with
  | .normal => bV P call region loops n rounds b r.2
  | e => ret (e, r.2)
 | .cond c x y, fr =>
  match bT fr c with
  | .bool t => bif t then bV P call region loops n rounds x fr else bV P call region loops n rounds y fr
  | .bD t => (dec t).andThen fun d => bif d then bV P call region loops n rounds x fr else bV P call region loops n rounds y fr
  | _ => no
 | .block id c, fr =>
  match loops id with
  | some S => S fr
  | none => (bV P call region loops n rounds c fr).andThen fun r =>
   match r.1 with
   | .exit id' => bif Nat.beq id' id then ret (.normal, r.2) else ret r
   | _ => ret r
 | .loop c, fr => loopA (bV P call region loops n rounds c) rounds fr
 | .exit id, fr => ret (.exit id, fr)
 | .ret, fr => ret (.ret, fr)
 | _, _ => no
def mZ (P : Program) (fr : Fr) : ResultVar → M AV
 | .tmp t => ret ((fr.get t).getD .top)
 | .cell a t =>
  match (fr.get a).getD .top with
  | .ptr ad => tC P t ad
  | _ => no
def dH (P : Program) (fr : Fr) : List ResultVar → M (List AV)
 | [] => ret []
 | r :: l => (mZ P fr r).andThen fun v => (dH P fr l).andThen fun vs => ret (v :: vs)
def bJ : List AV → Nat → Fr → Fr
 | [], _, fr => fr
 | v :: l, i, fr => bJ l (i + 1) (fr.upd i (some v))
abbrev Known := FuncId → Option (List AV → M AV)
def Ew (P : Program) (Γ : Known) (Λ : FuncId → Loops) (region : Calls' → Nat → List Oper → Fr → M Fr) (rounds : Nat) : Nat → FuncId → List AV → M AV
 | 0, _, _ => no
 | n + 1, f, args =>
  match Γ f with
  | some s => s args
  | none =>
   match P.funcs[f]? with
   | none => no
   | some fn =>
    match fn.body with
    | none => no
    | some c =>
     (bV P (Ew P Γ Λ region rounds n) (region (Ew P Γ Λ region rounds n) fn.ntmps) (Λ f) fn.ntmps rounds c (bJ args 0 .e)).andThen fun r =>
     match r.1 with
     | .exit _ => no
     | _ => (dH P r.2 fn.results.toList).andThen fun vs =>
      match vs with
      | [v] => ret v
      | _ => ret (.lZ vs)
end Go.Sx
namespace Go.Sx
open M
structure MM where
 blk : Nat → Nat
 cap : Nat → Nat
 sz : Nat → Nat
 base : Nat → Nat
 /-- what is frozen: nobody writes there again -/
 fz : Nat → Option Obj
def MM.addr (μ : MM) (a : AA) : Addr := ⟨μ.blk a.g, μ.base a.g + a.i * μ.sz a.g + a.o, none⟩
def FB (x b : Nat) : Prop := cn b = x ∧ b < 18446744073709551616
def tZ (μ : MM) (s own : Bool) (a : AA) (len : Nat) (c : Value) : Prop :=
 ∃ A C, c = .slice A len C ∧ len ≤ C ∧ (0 < len → A = some (μ.addr a)) ∧ (s = false → A.isSome = true) ∧
  (own = true → a.i = 0 ∧ a.o = 0 ∧ ((A = none ∧ C = 0 ∧ len = 0) ∨ (A = some ⟨μ.blk a.g, 0, none⟩ ∧ C = μ.cap a.g)))
mutual
def Rep (N : Nat) (μ : MM) : AV → Value → Prop
 | .top, _ => True
 | .bool b, c => c = .bool b
 | .bD b, c => c = .bool b
 | .int _ k n, c => c = .int k n
 | .flt _ x, c => ∃ b, c = .float .f64 b ∧ FB x b
 | .raw _ x, c => c = .float .f64 x ∧ x < 18446744073709551616
 | .bits _ x, c => ∃ b : Nat, c = .int .u64 b ∧ FB x b
 | .vW _ x y, c => ∃ a b, c = .complex .f64 a b ∧ FB x a ∧ FB y b
 | .str _ l, c => c = .string ⟨l.toArray⟩
 | .ptr a, c => a.g < N ∧ c = .pointer (some (μ.addr a))
 | .iW, c => c = .pointer none
 | .slc s own a len, c => a.g < N ∧ tZ μ s own a len c
 | .dL, c => c = .slice none 0 0
 | .mp g, c => g < N ∧ c = .map (some (μ.blk g))
 | .wI, c => c = .map none
 | .fn f l cap, c => ∃ fs cs, c = .func f fs cs ∧ aO N μ l fs.toList ∧ aO N μ cap cs.toList
 | .qV, c => c = .nilFunc
 | .BM, c => c = .nilIface
 | .hdr b len C, c => c = .slice (some ⟨b, 0, none⟩) len C ∧ len ≤ C
 | .iP, c => c.oneCell' = true
 | .iw n f, c => 0 < N ∧ ∃ b C cur ty z, c = .slice (some ⟨b, 0, none⟩) n C ∧ n ≤ C ∧ μ.fz b = some (.cells cur ty z) ∧ ∀ i, i < n → cur[i]? = some (.string ⟨(f i).toArray⟩)
 | .KJ x, c => 0 < N ∧ ∃ b i cur ty z, c = .pointer (some ⟨b, i, none⟩) ∧ μ.fz b = some (.cells cur ty z) ∧ cur[i]? = some (.string ⟨x.toArray⟩)
 | .agg l, c => ∃ cs, c = .agg cs ∧ aO N μ l cs.toList
 | .lZ l, c => ∃ cs, c = .tuple cs ∧ aO N μ l cs.toList
def aO (N : Nat) (μ : MM) : List AV → List Value → Prop
 | [], cs => cs = []
 | v :: l, cs => ∃ c r, cs = c :: r ∧ Rep N μ v c ∧ aO N μ l r
end
theorem aO.length {N : Nat} {μ : MM} : ∀ {l : List AV} {cs : List Value}, aO N μ l cs → cs.length = l.length
 | [], cs, h => by simp only [aO] at h; simp [h]
 | v :: l, cs, h => by
  simp only [aO] at h
  obtain ⟨c, r, rfl, _, h⟩ := h
  simp [aO.length h]
theorem aO.get {N : Nat} {μ : MM} : ∀ {l : List AV} {cs : List Value}, aO N μ l cs → ∀ {i : Nat} {v : AV}, l[i]? = some v → ∃ c, cs[i]? = some c ∧ Rep N μ v c
 | [], cs, h, i, v, hv => by simp at hv
 | u :: l, cs, h, i, v, hv => by
  simp only [aO] at h
  obtain ⟨c, r, rfl, hu, h⟩ := h
  cases i with
  | zero => simp at hv; subst hv; exact ⟨c, rfl, hu⟩
  | succ i => simpa using aO.get h (by simpa using hv)
theorem aO.Cc {N : Nat} {μ : MM} : ∀ {l : List AV} {cs : List Value}, cs.length = l.length → (∀ (i : Nat) (v : AV), l[i]? = some v → ∃ c, cs[i]? = some c ∧ Rep N μ v c) → aO N μ l cs
 | [], cs, hl, _ => by simp only [aO]; exact List.eq_nil_of_length_eq_zero hl
 | v :: l, [], hl, _ => by simp at hl
 | v :: l, c :: r, hl, h => by
  simp only [aO]
  obtain ⟨c', hc, hv⟩ := h 0 v rfl
  simp at hc
  subst hc
  exact ⟨c, r, rfl, hv, aO.Cc (by simpa using hl) fun i u hu => by simpa using h (i + 1) u (by simpa using hu)⟩
theorem aO.drop {N : Nat} {μ : MM} {l : List AV} {cs : List Value} (h : aO N μ l cs) (n : Nat) : aO N μ (l.drop n) (cs.drop n) :=
 .Cc (by simp [h.length]) fun i v hv => by
  rw [List.getElem?_drop] at hv ⊢; exact h.get hv
theorem aO.take {N : Nat} {μ : MM} {l : List AV} {cs : List Value} (h : aO N μ l cs) (n : Nat) : aO N μ (l.take n) (cs.take n) :=
 .Cc (by simp [h.length]) fun i v hv => by
  rw [List.getElem?_take] at hv ⊢
  split at hv
  ·rename_i hi; rw [if_pos hi]; exact h.get hv
  ·cases hv
theorem aO.append {N : Nat} {μ : MM} : ∀ {l : List AV} {cs : List Value} {l' : List AV} {cs' : List Value}, aO N μ l cs → aO N μ l' cs' → aO N μ (l ++ l') (cs ++ cs')
 | [], cs, l', cs', h, h' => by simp only [aO] at h; subst h; exact h'
 | v :: l, cs, l', cs', h, h' => by
  simp only [aO] at h
  obtain ⟨c, r, rfl, hv, h⟩ := h
  simp only [List.cons_append, aO]
  exact ⟨c, r ++ cs', rfl, hv, h.append h'⟩
theorem aO.map {N : Nat} {μ : MM} {α : Type} (f : α → AV) (f' : α → Value) : ∀ (l : List α), (∀ x, x ∈ l → Rep N μ (f x) (f' x)) → aO N μ (l.map f) (l.map f')
 | [], _ => by simp [aO]
 | x :: l, h => by
  simp only [List.map_cons, aO]
  exact ⟨_, _, rfl, h x (by simp), aO.map f f' l fun y hy => h y (by simp [hy])⟩
structure MM.upto (N : Nat) (μ μ' : MM) : Prop where
 blk : ∀ g, g < N → μ'.blk g = μ.blk g
 cap : ∀ g, g < N → μ'.cap g = μ.cap g
 sz : ∀ g, g < N → μ'.sz g = μ.sz g
 base : ∀ g, g < N → μ'.base g = μ.base g
 fz : ∀ b o, μ.fz b = some o → μ'.fz b = some o
theorem MM.upto.refl (N : Nat) (μ : MM) : MM.upto N μ μ := ⟨fun _ _ => rfl, fun _ _ => rfl, fun _ _ => rfl, fun _ _ => rfl, fun _ _ h => h⟩
theorem MM.upto.trans {N N' : Nat} {a b c : MM} (h : MM.upto N a b) (k : MM.upto N' b c) (hN : N ≤ N') : MM.upto N a c :=
 ⟨fun g hg => (k.blk g (by omega)).trans (h.blk g hg), fun g hg => (k.cap g (by omega)).trans (h.cap g hg), fun g hg => (k.sz g (by omega)).trans (h.sz g hg), fun g hg => (k.base g (by omega)).trans (h.base g hg), fun b o q => k.fz b o (h.fz b o q)⟩
theorem MM.upto.addr {N : Nat} {μ μ' : MM} (h : MM.upto N μ μ') {a : AA} (ha : a.g < N) : μ'.addr a = μ.addr a := by
 simp [MM.addr, h.blk _ ha, h.sz _ ha, h.base _ ha]
mutual
theorem Rep.later {N N' : Nat} {μ μ' : MM} (h : MM.upto N μ μ') (hN : N ≤ N') : ∀ {v : AV} {c : Value}, Rep N μ v c → Rep N' μ' v c
 | .top, _, _ => by simp [Rep]
 | .bool _, _, r => by simpa [Rep] using r
 | .bD _, _, r => by simpa [Rep] using r
 | .int .., _, r => by simpa [Rep] using r
 | .flt .., _, r => by simpa [Rep] using r
 | .raw .., _, r => by simpa [Rep] using r
 | .bits .., _, r => by simpa [Rep] using r
 | .vW .., _, r => by simpa [Rep] using r
 | .str .., _, r => by simpa [Rep] using r
 | .ptr a, _, r => by
  simp only [Rep] at r ⊢
  exact ⟨by omega, by rw [h.addr r.1]; exact r.2⟩
 | .iW, _, r => by simpa [Rep] using r
 | .slc _ own a len, _, r => by
  simp only [Rep, tZ] at r ⊢
  obtain ⟨hg, A, C, rfl, hl, h1, h3, h2⟩ := r
  exact ⟨by omega, A, C, rfl, hl, by rw [h.addr hg]; exact h1, h3, by rw [h.blk _ hg, h.cap _ hg]; exact h2⟩
 | .dL, _, r => by simpa [Rep] using r
 | .mp g, _, r => by
  simp only [Rep] at r ⊢
  exact ⟨by omega, by rw [h.blk _ r.1]; exact r.2⟩
 | .wI, _, r => by simpa [Rep] using r
 | .fn f l cap, _, r => by
  simp only [Rep] at r ⊢
  obtain ⟨fs, cs, rfl, h1, h2⟩ := r
  exact ⟨fs, cs, rfl, aO.later h hN h1, aO.later h hN h2⟩
 | .qV, _, r => by simpa [Rep] using r
 | .BM, _, r => by simpa [Rep] using r
 | .hdr .., _, r => by simpa [Rep] using r
 | .iP, _, r => by simpa [Rep] using r
 | .iw .., _, r => by
  simp only [Rep] at r ⊢
  obtain ⟨h0, b, C, cur, ty, z, e, h1, h2, h3⟩ := r
  exact ⟨by omega, b, C, cur, ty, z, e, h1, h.fz _ _ h2, h3⟩
 | .KJ _, _, r => by
  simp only [Rep] at r ⊢
  obtain ⟨h0, b, i, cur, ty, z, e, h2, h3⟩ := r
  exact ⟨by omega, b, i, cur, ty, z, e, h.fz _ _ h2, h3⟩
 | .agg l, _, r => by
  simp only [Rep] at r ⊢
  obtain ⟨cs, rfl, h1⟩ := r
  exact ⟨cs, rfl, aO.later h hN h1⟩
 | .lZ l, _, r => by
  simp only [Rep] at r ⊢
  obtain ⟨cs, rfl, h1⟩ := r
  exact ⟨cs, rfl, aO.later h hN h1⟩
theorem aO.later {N N' : Nat} {μ μ' : MM} (h : MM.upto N μ μ') (hN : N ≤ N') : ∀ {l : List AV} {cs : List Value}, aO N μ l cs → aO N' μ' l cs
 | [], _, r => by simpa [aO] using r
 | v :: l, _, r => by
  simp only [aO] at r ⊢
  obtain ⟨c, t, rfl, h1, h2⟩ := r
  exact ⟨c, t, rfl, Rep.later h hN h1, aO.later h hN h2⟩
end
theorem Rep.vX {N : Nat} {μ : MM} {v : AV} {c : Value} (h : Rep N μ v c) : Rep N μ v.vX c := by
 cases v with
 | raw s x => simp only [Rep] at h; simp only [AV.vX, Rep]; exact ⟨x, h.1, rfl, h.2⟩
 | _ => exact h
theorem aO.vX {N : Nat} {μ : MM} : ∀ {l : List AV} {cs : List Value}, aO N μ l cs → aO N μ (l.map AV.vX) cs
 | [], _, h => h
 | v :: l, _, h => by
  simp only [aO, List.map_cons] at h ⊢
  obtain ⟨c, r, rfl, h1, h2⟩ := h
  exact ⟨c, r, rfl, h1.vX, aO.vX h2⟩
theorem Rep.fl {N : Nat} {μ : MM} {v : AV} {c : Value} (h : Rep N μ v c) : Rep N μ v.fl c := by
 cases v with
 | raw s x => exact Rep.vX h
 | agg l =>
  simp only [Rep, AV.fl] at h ⊢
  obtain ⟨cs, rfl, h1⟩ := h
  exact ⟨cs, rfl, h1.vX⟩
 | _ => exact h
def fM (N : Nat) (μ : MM) (row : List AV) (sz : Nat) (cur : Array Value) (base : Nat) : Prop :=
 row.length = sz ∧ ∀ (o : Nat) (v : AV), row[o]? = some v → v.one = true ∧ ∃ c, cur[base + o]? = some c ∧ Rep N μ v c
def aF.owned : aF → Bool
 | .cells own .. => own
 | _ => true
def aF.real (μ : MM) (g : Nat) : aF → Prop
 | .cells own _ n _ => 0 < n ∨ (own = true ∧ 0 < μ.cap g)
 | _ => True
def X9 (l : List (List UInt8 × Int)) (es : List MapEntry) : Prop := es.map (fun e => (e.key, e.val)) = l.map fun p => (Value.string ⟨p.1.toArray⟩, Value.int .i64 p.2)
def Ya (l : List (Int × Int)) (es : List MapEntry) : Prop := es.map (fun e => (e.key, e.val)) = l.map fun p => (Value.int .i64 p.1, Value.int .i64 p.2)
def bY (N : Nat) (μ : MM) (hp : Array Obj) (g : Nat) : aF → Prop
 | .cells own sz n c => μ.sz g = sz ∧ 0 < sz ∧ ((0 < n ∨ (own = true ∧ 0 < μ.cap g)) → ∃ cur ty fz, hp[μ.blk g]? = some (.cells cur ty fz) ∧ μ.base g + n * sz ≤ cur.size ∧
   (own = true → fz = (0, 0) ∧ cur.size = μ.cap g * sz ∧ μ.base g = 0) ∧ ∀ i, i < n → fM N μ (c.row i) sz cur (μ.base g + i * sz))
 | .aJ _ l => ∃ es clock, hp[μ.blk g]? = some (.map es clock) ∧ X9 l es.toList
 | .iY _ l => ∃ es clock, hp[μ.blk g]? = some (.map es clock) ∧ Ya l es.toList
 | .sit _ l pos => hp[μ.blk g]? = some (.stringIter ⟨l.toArray⟩ pos) ∧ μ.base g = 0
def May (μ : MM) (H : T aF) (B : Nat) : Prop := ∃ g b, H.get g = some b ∧ b.owned = true ∧ b.real μ g ∧ μ.blk g = B
def Rx (μ : MM) (hp : Array Obj) (H : T aF) : Prop := ∀ b o, μ.fz b = some o → hp[b]? = some o ∧ ¬ May μ H b
structure dP (N : Nat) (μ : MM) (hp : Array Obj) (H : T aF) : Prop where
 lt : ∀ g b, H.get g = some b → g < N
 ok : ∀ g b, H.get g = some b → bY N μ hp g b
 sep : ∀ g b g' b', H.get g = some b → H.get g' = some b' → b.owned = true → b.real μ g → b'.real μ g' → μ.blk g = μ.blk g' → g = g'
 fz : Rx μ hp H
structure Ext (g : G) (μ : MM) (w : World) (g' : G) (μ' : MM) (w' : World) : Prop where
 nx : g.nx ≤ g'.nx
 names : MM.upto g.nx μ μ'
 os : w'.os = w.os
 tape : w'.tape = w.tape
 output : w'.output = w.output
 size : w.heap.size ≤ w'.heap.size
 block : ∀ B, B < w.heap.size → ¬ May μ g.H B → w'.heap[B]? = w.heap[B]?
 may : ∀ B, B < w.heap.size → May μ' g'.H B → May μ g.H B
 fz : ∀ b o, μ'.fz b = some o → μ.fz b = some o ∨ w.heap.size ≤ b ∨ May μ g.H b
theorem Ext.trans {g g' g'' : G} {μ μ' μ'' : MM} {w w' w'' : World} (h : Ext g μ w g' μ' w') (k : Ext g' μ' w' g'' μ'' w'') : Ext g μ w g'' μ'' w'' where
 nx := Nat.le_trans h.nx k.nx
 names := h.names.trans k.names h.nx
 os := k.os.trans h.os
 tape := k.tape.trans h.tape
 output := k.output.trans h.output
 size := Nat.le_trans h.size k.size
 block := fun B hB hn => (k.block B (Nat.lt_of_lt_of_le hB h.size) fun hm => hn (h.may B hB hm)).trans (h.block B hB hn)
 may := fun B hB hm => h.may B hB (k.may B (Nat.lt_of_lt_of_le hB h.size) hm)
 fz := fun b o q => by
  rcases k.fz b o q with q | q | q
  ·exact h.fz b o q
  ·exact .inr (.inl (Nat.le_trans h.size q))
  ·by_cases hb : b < w.heap.size
   ·exact .inr (.inr (h.may b hb q))
   ·exact .inr (.inl (by omega))
theorem Ext.drawn {g g' : G} (μ : MM) (w : World) (n : Nat) (hH : g'.H = g.H) (hn : g'.nx = g.nx) : Ext g μ w g' μ { w with drawn := n } where
 nx := by rw [hn]; exact Nat.le_refl _
 names := .refl _ _
 os := rfl
 tape := rfl
 output := rfl
 size := Nat.le_refl _
 block := fun _ _ _ => rfl
 may := fun B _ hm => by rw [hH] at hm; exact hm
 fz := fun _ _ q => .inl q
theorem Ext.same {g g' : G} (μ : MM) (w : World) (hH : g'.H = g.H) (hn : g'.nx = g.nx) : Ext g μ w g' μ w := Ext.drawn μ w w.drawn hH hn
theorem fM.later {N N' : Nat} {μ μ' : MM} (h : MM.upto N μ μ') (hN : N ≤ N') {row : List AV} {sz : Nat} {cur : Array Value} {base : Nat} (r : fM N μ row sz cur base) : fM N' μ' row sz cur base :=
 ⟨r.1, fun o v hv => let ⟨h0, c, h1, h2⟩ := r.2 o v hv; ⟨h0, c, h1, Rep.later h hN h2⟩⟩
theorem aF.aX {N : Nat} {μ μ' : MM} (h : MM.upto N μ μ') {g : Nat} (hg : g < N) (b : aF) : b.real μ' g ↔ b.real μ g := by
 cases b <;> simp [aF.real, h.cap g hg]
theorem bY.later {N N' : Nat} {μ μ' : MM} (h : MM.upto N μ μ') (hN : N ≤ N') {hp hp' : Array Obj} {g : Nat} (hg : g < N) {b : aF} (hB : b.real μ g → hp'[μ.blk g]? = hp[μ.blk g]?) (r : bY N μ hp g b) : bY N' μ' hp' g b := by
 cases b with
 | cells own sz n c =>
  simp only [bY, h.blk g hg, h.cap g hg, h.sz g hg, h.base g hg] at r ⊢
  refine ⟨r.1, r.2.1, fun hr => ?_⟩
  obtain ⟨cur, ty, fz, h1, h2, h3, h4⟩ := r.2.2 hr
  exact ⟨cur, ty, fz, (hB hr).trans h1, h2, h3, fun i hi => (h4 i hi).later h hN⟩
 | aJ s l =>
  simp only [bY, h.blk g hg] at r ⊢
  obtain ⟨es, cl, h1, h2⟩ := r
  exact ⟨es, cl, (hB trivial).trans h1, h2⟩
 | iY s l =>
  simp only [bY, h.blk g hg] at r ⊢
  obtain ⟨es, cl, h1, h2⟩ := r
  exact ⟨es, cl, (hB trivial).trans h1, h2⟩
 | sit s l pos =>
  simp only [bY, h.blk g hg, h.base g hg] at r ⊢
  exact ⟨(hB trivial).trans r.1, r.2⟩
theorem bY.lt_size {N : Nat} {μ : MM} {hp : Array Obj} {g : Nat} {b : aF} (r : bY N μ hp g b) (hr : b.real μ g) : μ.blk g < hp.size := by
 have key : ∀ {o : Obj}, hp[μ.blk g]? = some o → μ.blk g < hp.size := fun h => (Array.getElem?_eq_some_iff.1 h).1
 cases b with
 | cells own sz n c => obtain ⟨cur, ty, fz, h1, _⟩ := r.2.2 hr; exact key h1
 | aJ s l => obtain ⟨es, cl, h1, _⟩ := r; exact key h1
 | iY s l => obtain ⟨es, cl, h1, _⟩ := r; exact key h1
 | sit s l pos => exact key r.1
end Go.Sx
namespace Go.Sx
open M
def Keep (g g' : G) (p : Prop) : Prop := g'.H = g.H ∧ g'.nx = g.nx ∧ (g'.cs → g.cs ∧ p)
theorem Keep.refl (g : G) : Keep g g True := ⟨rfl, rfl, fun h => ⟨h, trivial⟩⟩
theorem Keep.trans {a b c : G} {p q : Prop} (h : Keep a b p) (k : Keep b c q) : Keep a c (p ∧ q) :=
 ⟨k.1.trans h.1, k.2.1.trans h.2.1, fun hc => ⟨(h.2.2 (k.2.2 hc).1).1, (h.2.2 (k.2.2 hc).1).2, (k.2.2 hc).2⟩⟩
theorem Keep.mono {a b : G} {p q : Prop} (h : Keep a b p) (k : p → q) : Keep a b q := ⟨h.1, h.2.1, fun hc => ⟨(h.2.2 hc).1, k (h.2.2 hc).2⟩⟩
theorem au {α β : Type} {x : M α} {f : α → M β} {g g'' : G} {b : β} (h : x.andThen f g = .done b g'') : ∃ a g', x g = .done a g' ∧ f a g' = .done b g'' := by
 unfold M.andThen at h
 cases hx : x g with
 | done a g' => rw [hx] at h; exact ⟨a, g', rfl, h⟩
 | need b => rw [hx] at h; cases h
 | fail => rw [hx] at h; cases h
theorem aB {α : Type} {a b : α} {g g' : G} (h : ret a g = .done b g') : b = a ∧ g = g' := by
 unfold ret at h; cases h; exact ⟨rfl, rfl⟩
theorem aI {α : Type} {o : Option α} {b : α} {g g' : G} (h : bf o g = .done b g') : o = some b ∧ g = g' := by
 cases o with
 | none => cases h
 | some a => obtain ⟨rfl, rfl⟩ := aB h; exact ⟨rfl, rfl⟩
theorem iZ {p : Prop} {u : Unit} {g g' : G} (h : req p g = .done u g') : Keep g g' p := by
 unfold req at h; cases h; exact ⟨rfl, rfl, id⟩
theorem dB {s : Bool} {p : Prop} [Decidable p] {u : Unit} {g g' : G} (h : ck s p g = .done u g') : Keep g g' p := by
 unfold ck at h
 cases s with
 | true => exact iZ h
 | false =>
  by_cases hp : p
  ·simp only [cond_false, hp, decide_true, cond_true] at h
   obtain ⟨_, rfl⟩ := aB h
   exact (Keep.refl _).mono fun _ => hp
  ·simp only [cond_false, hp, decide_false] at h; cases h
theorem nH {b d : Bool} {g g' : G} (h : dec b g = .done d g') : Keep g g' (b = d) := by
 unfold dec at h
 split at h
 ·cases h
 ·cases h; exact ⟨rfl, rfl, id⟩
theorem iG {nm : Nat} {b : aF} {g g' : G} (h : pK nm g = .done b g') : g.H.get nm = some b ∧ g = g' := by
 unfold pK at h
 split at h
 ·rename_i b' hb; cases h; exact ⟨hb, rfl⟩
 ·cases h
theorem bM {nm : Nat} {b : aF} {u : Unit} {g g' : G} (h : setB nm b g = .done u g') : g'.H = g.H.upd nm (some b) ∧ g'.nx = g.nx ∧ g'.cs = g.cs := by
 unfold setB at h; cases h; exact ⟨rfl, rfl, rfl⟩
theorem zx {nm : Nat} {u : Unit} {g g' : G} (h : Io nm g = .done u g') : g'.H = g.H.upd nm none ∧ g'.nx = g.nx ∧ g'.cs = g.cs := by
 unfold Io at h; cases h; exact ⟨rfl, rfl, rfl⟩
theorem iH {b : aF} {nm : Nat} {g g' : G} (h : fD b g = .done nm g') : nm = g.nx ∧ g'.H = g.H.upd g.nx (some b) ∧ g'.nx = g.nx + 1 ∧ g'.cs = g.cs := by
 unfold fD at h; cases h; exact ⟨rfl, rfl, rfl, rfl⟩
theorem aS {b : Bool} {u : Unit} {g g' : G} (h : dh b g = .done u g') : b = true ∧ g = g' := by
 unfold dh at h
 cases b with
 | true => exact ⟨rfl, (aB h).2⟩
 | false => cases h
theorem l7 {v : AV} {y : Bool × Int} (h : asInt v = some y) : ∃ k, v = .int y.1 k y.2 := by
 unfold asInt at h; split at h <;> cases h; exact ⟨_, rfl⟩
theorem oQ {v : AV} {a : AA} (h : EP v = some a) : v = .ptr a := by
 unfold EP at h; split at h <;> cases h; rfl
theorem KX {v : AV} {l : List AV} (h : asAgg v = some l) : v = .agg l := by
 unfold Sx.asAgg at h; split at h <;> cases h; rfl
theorem dI {P : Program} {t e : TypeId} (h : jm P t = some e) : P.underlying t = some (.slice e) := by
 unfold jm at h; split at h <;> cases h; assumption
theorem uf {P : Program} {t : TypeId} {ne : Nat × TypeId} (h : BN P t = some ne) : P.underlying t = some (.array ne.1 ne.2) := by
 unfold BN at h; split at h <;> cases h; assumption
theorem eu {nm : Nat} {b : Bool × Nat × Nat × Cont} {g g' : G} (h : jk nm g = .done b g') : g.H.get nm = some (.cells b.1 b.2.1 b.2.2.1 b.2.2.2) ∧ g = g' := by
 unfold jk at h
 obtain ⟨x, g1, a1, h1⟩ := au h
 obtain ⟨hx, rfl⟩ := iG a1
 obtain ⟨hy, rfl⟩ := aI h1
 refine ⟨?_, rfl⟩
 rw [hx]
 unfold Nv at hy
 split at hy <;> cases hy
 rfl
theorem bC {α : Type} {a : α} {g g' : G} (h : (no : M α) g = .done a g') : False := by cases h
theorem dP.upd {N N' : Nat} {μ μ' : MM} {hp hp' : Array Obj} {H : T aF} {nm : Nat} {ob : Option aF} (h : dP N μ hp H) (hu : MM.upto N μ μ') (hN : N ≤ N') (hnm : nm < N')
  (hb : ∀ b, ob = some b → bY N' μ' hp' nm b)
  (hkeep : ∀ g b, H.get g = some b → g ≠ nm → b.real μ g → hp'[μ.blk g]? = hp[μ.blk g]?)
  (hsep : ∀ b, ob = some b → b.real μ' nm → ∀ g b', H.get g = some b' → g ≠ nm → b'.real μ g → (b.owned = true ∨ b'.owned = true) → μ'.blk nm ≠ μ.blk g)
  (hz : ∀ b o, μ'.fz b = some o → μ.fz b = some o ∧ (hp[b]? = some o → ¬ May μ H b → hp'[b]? = some o ∧ ∀ bk, ob = some bk → bk.owned = true → bk.real μ' nm → μ'.blk nm ≠ b)) : dP N' μ' hp' (H.upd nm ob) where
 lt := fun g b hg => by
  rw [T.bF] at hg
  split at hg
  ·subst_vars; exact hnm
  ·exact Nat.lt_of_lt_of_le (h.lt g b hg) hN
 ok := fun g b hg => by
  rw [T.bF] at hg
  split at hg
  ·subst_vars; exact hb b rfl
  ·rename_i hne; exact (h.ok g b hg).later hu hN (h.lt g b hg) (hkeep g b hg hne)
 sep := fun g b g' b' hg hg' ho hr hr' he => by
  rw [T.bF] at hg hg'
  split at hg
  ·rename_i e1
   split at hg'
   ·rename_i e2; rw [e1, e2]
   ·rename_i e2
    rw [e1] at hr he
    rw [aF.aX hu (h.lt _ _ hg')] at hr'
    rw [hu.blk g' (h.lt _ _ hg')] at he
    exact absurd he (hsep b hg hr g' b' hg' e2 hr' (.inl ho))
  ·rename_i e1
   rw [aF.aX hu (h.lt _ _ hg)] at hr
   split at hg'
   ·rename_i e2
    rw [e2] at hr' he
    rw [hu.blk g (h.lt _ _ hg)] at he
    exact absurd he.symm (hsep b' hg' hr' g b hg e1 hr (.inr ho))
   ·rename_i e2
    rw [aF.aX hu (h.lt _ _ hg')] at hr'
    rw [hu.blk g (h.lt _ _ hg), hu.blk g' (h.lt _ _ hg')] at he
    exact h.sep g b g' b' hg hg' ho hr hr' he
 fz := fun b o q => by
  obtain ⟨q1, q2⟩ := hz b o q
  obtain ⟨p1, p2⟩ := h.fz b o q1
  obtain ⟨q3, q4⟩ := q2 p1 p2
  refine ⟨q3, fun ⟨g, bk, m1, m2, m3, m4⟩ => ?_⟩
  rw [T.bF] at m1
  split at m1
  ·rename_i e; rw [e] at m3 m4; exact q4 bk m1 m2 m3 m4
  ·rw [aF.aX hu (h.lt _ _ m1)] at m3
   rw [hu.blk g (h.lt _ _ m1)] at m4
   exact p2 ⟨g, bk, m1, m2, m3, m4⟩
theorem FZ {μ : MM} {hp hp' : Array Obj} {H : T aF} {nm : Nat} {b0 : aF} {ob : Option aF} (h0 : H.get nm = some b0) (ho : b0.owned = true) (hr : b0.real μ nm) (hk : ∀ B, B ≠ μ.blk nm → hp'[B]? = hp[B]?) :
  ∀ b o, μ.fz b = some o → μ.fz b = some o ∧ (hp[b]? = some o → ¬ May μ H b → hp'[b]? = some o ∧ ∀ bk, ob = some bk → bk.owned = true → bk.real μ nm → μ.blk nm ≠ b) := fun b o q => ⟨q, fun p1 p2 =>
 have hne : b ≠ μ.blk nm := fun e => p2 ⟨nm, b0, h0, ho, hr, e.symm⟩
 ⟨by rw [hk b hne]; exact p1, fun bk _ _ _ e => hne e.symm⟩⟩
theorem zy {hp : Array Obj} {b : Nat} {o : Obj} (h : hp[b]? = some o) : b < hp.size := (Array.getElem?_eq_some_iff.1 h).1
theorem Ry {μ μ' : MM} {hp hp' : Array Obj} {H : T aF} {nm : Nat} {ob : Option aF} (hf : ∀ b, μ'.fz b = μ.fz b) (hk : ∀ B, B < hp.size → hp'[B]? = hp[B]?) (hb : ∀ bk, ob = some bk → bk.owned = true → bk.real μ' nm → hp.size ≤ μ'.blk nm) :
  ∀ b o, μ'.fz b = some o → μ.fz b = some o ∧ (hp[b]? = some o → ¬ May μ H b → hp'[b]? = some o ∧ ∀ bk, ob = some bk → bk.owned = true → bk.real μ' nm → μ'.blk nm ≠ b) := fun b o q => ⟨by rw [← hf]; exact q, fun p1 p2 =>
 have hlt := zy p1
 ⟨by rw [hk b hlt]; exact p1, fun bk e1 e2 e3 e => by have := hb bk e1 e2 e3; omega⟩⟩
theorem dP.sub {N : Nat} {μ : MM} {hp : Array Obj} {H H' : T aF} (h : dP N μ hp H) (hs : ∀ g b, H'.get g = some b → H.get g = some b) : dP N μ hp H' :=
 ⟨fun g b hg => h.lt g b (hs g b hg), fun g b hg => h.ok g b (hs g b hg), fun g b g' b' hg hg' => h.sep g b g' b' (hs _ _ hg) (hs _ _ hg'), fun b o q => ⟨(h.fz b o q).1, fun ⟨g, bk, m1, m2⟩ => (h.fz b o q).2 ⟨g, bk, hs _ _ m1, m2⟩⟩⟩
def MM.set (μ : MM) (nm blk cap sz : Nat) : MM :=
 ⟨fun g => if g = nm then blk else μ.blk g, fun g => if g = nm then cap else μ.cap g, fun g => if g = nm then sz else μ.sz g, fun g => if g = nm then 0 else μ.base g, μ.fz⟩
theorem MM.qJ (μ : MM) {N nm blk cap sz : Nat} (h : N ≤ nm) : MM.upto N μ (μ.set nm blk cap sz) :=
 ⟨fun g hg => if_neg (by omega), fun g hg => if_neg (by omega), fun g hg => if_neg (by omega), fun g hg => if_neg (by omega), fun _ _ h => h⟩
theorem MM.dn (μ : MM) (nm blk cap sz : Nat) : (μ.set nm blk cap sz).blk nm = blk := if_pos rfl
theorem MM.ji (μ : MM) (nm blk cap sz : Nat) : (μ.set nm blk cap sz).cap nm = cap := if_pos rfl
theorem MM.Ce (μ : MM) (nm blk cap sz : Nat) : (μ.set nm blk cap sz).sz nm = sz := if_pos rfl
theorem MM.fH (μ : MM) (nm blk cap sz : Nat) : (μ.set nm blk cap sz).base nm = 0 := if_pos rfl
theorem iI {P : Program} {t : TypeId} {y : Nat × Bool} (h : lay P t = some y) : ∃ i d, P.info? t = some i ∧ P.underlying t = some d ∧ i.size = y.1 ∧ qB d = y.2 := by
 unfold lay at h
 split at h
 ·rename_i i d hi hd; cases h; exact ⟨i, d, hi, hd, rfl, rfl⟩
 ·cases h
theorem run_sizeOf {P : Program} {t : TypeId} {i : TypeInfo} (hi : P.info? t = some i) (w : World) : (sizeOf t).run P w = .ok i.size w := by simp [sizeOf, typeInfo, hi]
theorem vg {P : Program} {t : TypeId} {d : TypeDesc} (hd : P.underlying t = some d) (w : World) : (isAgg t).run P w = .ok (qB d) w := by
 cases d <;> simp [isAgg, run_underlying hd, qB]
theorem cell_of {w : World} {B o : Nat} {cur : Array Value} {ty : TypeId} {fz : Nat × Nat} (h : w.heap[B]? = some (.cells cur ty fz)) : w.cell? ⟨B, o, none⟩ = cur[o]? := cell_of_row w B o cur ty fz h
theorem Iz {P : Program} {w : World} {a : Addr} {c : Value} (h : w.cell? a = some c) : (load a).run P w = .ok c w := by simp [load, Sem.run, h]
theorem wU {P : Program} {w : World} {t : TypeId} {i : TypeInfo} {d : TypeDesc} (hi : P.info? t = some i) (hd : P.underlying t = some d) {B o : Nat} {cur : Array Value} {ty : TypeId} {fz : Nat × Nat}
  (h : w.heap[B]? = some (.cells cur ty fz)) (hfit : qB d = true → o + i.size ≤ cur.size) (h1 : qB d = false → o < cur.size) :
  (loadVar t ⟨B, o, none⟩).run P w = .ok (if qB d then .agg ((cur.toList.drop o).take i.size).toArray else cur.getD o undef) w := by
 unfold loadVar
 cases hA : qB d with
 | true =>
  have hl : ((cur.toList.drop o).take i.size).length = i.size := by
   have := hfit hA
   simp; omega
  have hrun := run_loadCells_list (P := P) w ⟨B, o, none⟩ ((cur.toList.drop o).take i.size) fun j v hv => by
   rw [Addr.add_lit, cell_of h]
   rw [List.getElem?_take] at hv
   split at hv
   ·rw [List.getElem?_drop] at hv; simpa using hv
   ·cases hv
  rw [hl] at hrun
  simp [vg hd, hA, run_sizeOf hi, hrun]
 | false =>
  have hc : w.cell? ⟨B, o, none⟩ = some (cur.getD o undef) := by
   rw [cell_of h]; simp [h1 hA]
  simp only [Sem.run_bind, vg hd, hA, Result.andThen_ok, Iz hc, if_neg Bool.false_ne_true]
theorem fM.afu {N : Nat} {μ : MM} {row : List AV} {sz : Nat} {cur : Array Value} {base : Nat} (h : fM N μ row sz cur base) (hf : base + sz ≤ cur.size) : aO N μ row ((cur.toList.drop base).take sz) :=
 .Cc (by simp [h.1]; omega) fun i v hv => by
  obtain ⟨_, c, hc, hr⟩ := h.2 i v hv
  refine ⟨c, ?_, hr⟩
  have hi : i < sz := by
   have := (List.getElem?_eq_some_iff.1 hv).1
   rw [h.1] at this; exact this
  rw [List.getElem?_take, if_pos hi, List.getElem?_drop]
  simpa using hc
theorem jY {n sz i size : Nat} (hi : i < n) (h : n * sz ≤ size) : i * sz + sz ≤ size := by
 have : (i + 1) * sz ≤ n * sz := Nat.mul_le_mul_right _ hi
 rw [Nat.add_mul] at this; omega
theorem oU {f : Nat → List AV} {i : Nat} {l' : List (Nat × List AV)} : ∀ {l : List (Nat × List AV)}, (∀ q ∈ l, q.1 ≠ i) → nD f i (l ++ l') = nD f i l'
 | [], _ => rfl
 | p :: l, h => by
  have e : Nat.beq i p.1 = false := by
   cases q : Nat.beq i p.1 with
   | false => rfl
   | true => exact absurd (Nat.eq_of_beq_eq_true q).symm (h p (by simp))
  show (bif Nat.beq i p.1 then p.2 else nD f i (l ++ l')) = _
  rw [e, cond_false]
  exact oU fun q hq => h q (by simp [hq])
theorem ug {f f' : Nat → List AV} {j : Nat} : ∀ {l l' : List (Nat × List AV)} (acc : List (Nat × List AV)), nD f j l = nD f' j l' → nD f j (acc ++ l) = nD f' j (acc ++ l')
 | _, _, [], h => h
 | _, _, p :: acc, h => by
  exact congrArg (fun z => bif Nat.beq j p.1 then p.2 else z) (ug acc h)
theorem Ae {f : Nat → List AV} {i : Nat} : ∀ {l acc : List (Nat × List AV)} {g g' : G} {p : List AV × (List AV → Cont)}, tu f i acc l g = .done p g' →
  Keep g g' ((∀ q ∈ acc, q.1 ≠ i) → p.1 = nD f i (acc ++ l) ∧ ∀ r j, (p.2 r).row j = if j = i then r else nD f j (acc ++ l))
 | [], acc, g, g', p, h => by
  obtain ⟨rfl, rfl⟩ := aB h
  refine (Keep.refl _).mono fun _ ha => ⟨(oU (l' := []) ha).symm, fun r j => ?_⟩
  show nD _ j acc = _
  split
  ·rename_i e; subst e
   have := oU (f := fun j' => bif Nat.beq j' j then r else f j') (l' := []) ha
   rw [List.append_nil] at this
   rw [this]
   show (bif Nat.beq j j then r else f j) = r
   rw [Nat.beq_refl, cond_true]
  ·rename_i e
   have := ug (f := fun j' => bif Nat.beq j' i then r else f j') (f' := f) (j := j) (l := []) (l' := []) acc (by
    show (bif Nat.beq j i then r else f j) = f j
    cases q : Nat.beq j i with
    | false => rfl
    | true => exact absurd (Nat.eq_of_beq_eq_true q) e)
   rw [List.append_nil] at this ⊢
   exact this
 | q :: l, acc, g, g', p, h => by
  obtain ⟨d, g1, a1, h1⟩ := au (show ((dec (Nat.beq i q.1)).andThen fun d => bif d then ret (q.2, fun r => Cont.at (acc ++ (q.1, r) :: l) f) else tu f i (acc ++ [q]) l) g = _ from h)
  have k1 := nH a1
  cases d with
  | true =>
   rw [cond_true] at h1
   obtain ⟨rfl, rfl⟩ := aB h1
   refine k1.mono fun e ha => ?_
   have e := Nat.eq_of_beq_eq_true e
   have e0 : ∀ r, nD f i ((q.1, r) :: l) = r := fun r => by
    show (bif Nat.beq i q.1 then r else _) = r
    rw [e, Nat.beq_refl, cond_true]
   refine ⟨by rw [oU ha]; exact (e0 q.2).symm, fun r j => ?_⟩
   show nD f j (acc ++ (q.1, r) :: l) = _
   split
   ·rename_i e2; rw [e2, oU ha]; exact e0 r
   ·rename_i e2
    refine ug acc ?_
    show (bif Nat.beq j q.1 then r else _) = bif Nat.beq j q.1 then q.2 else _
    cases q2 : Nat.beq j q.1 with
    | false => rfl
    | true => exact absurd (e ▸ Nat.eq_of_beq_eq_true q2) e2
  | false =>
   rw [cond_false] at h1
   have k2 := Ae h1
   rw [List.append_assoc] at k2
   refine (k1.trans k2).mono fun ⟨e, k⟩ ha => k fun q' hq => ?_
   rcases List.mem_append.1 hq with hq | hq
   ·exact ha q' hq
   ·rw [List.mem_singleton.1 hq]
    exact fun e2 => Nat.ne_of_beq_eq_false e e2.symm
theorem Cont.Bl (c : Cont) (i : Nat) (r : List AV) (j : Nat) : (c.put i r).row j = if j = i then r else c.row j := by
 cases c with
 | lit d t =>
  simp only [Cont.put, Cont.row, T.bF]
  split <;> rfl
 | fn f =>
  simp only [Cont.put, Cont.row]
  cases h : Nat.beq j i with
  | true => simp [Nat.eq_of_beq_eq_true h]
  | false => simp [Nat.ne_of_beq_eq_false h]
 | «at» l f =>
  simp only [Cont.put, Cont.row]
  cases h : Nat.beq j i with
  | true => simp [Nat.eq_of_beq_eq_true h]
  | false => simp [Nat.ne_of_beq_eq_false h]
theorem Ci {c : Cont} {i : Nat} {g g' : G} {p : List AV × (List AV → Cont)} (h : xJ c i g = .done p g') :
  Keep g g' (p.1 = c.row i ∧ ∀ r j, (p.2 r).row j = if j = i then r else c.row j) := by
 unfold xJ at h
 split at h
 ·obtain ⟨rfl, rfl⟩ := aB h
  exact (Keep.refl _).mono fun _ => ⟨rfl, fun r j => Cont.Bl (Cont.lit _ _) i r j⟩
 ·obtain ⟨rfl, rfl⟩ := aB h
  exact (Keep.refl _).mono fun _ => ⟨rfl, fun r j => Cont.Bl (Cont.fn _) i r j⟩
 ·exact (Ae h).mono fun k => k fun q hq => by cases hq
theorem Af {P : Program} {t : TypeId} {a : AA} {g g' : G} {v : AV} (h : tC P t a g = .done v g') :
  Keep g g' True ∧ (g'.cs → ∀ N μ w, dP N μ w.heap g.H → ∃ c, (loadVar t (μ.addr a)).run P w = .ok c w ∧ Rep N μ v c) := by
 unfold tC at h
 obtain ⟨y, g1, a1, h1⟩ := au h
 obtain ⟨hy, rfl⟩ := aI a1
 obtain ⟨i, d, hi, hd, e1, e2⟩ := iI hy
 obtain ⟨⟨own, sz, n, c⟩, g2, a2, h2⟩ := au h1
 obtain ⟨hb, rfl⟩ := eu a2
 simp only at h2 hb
 obtain ⟨u, g3', a3', h3'⟩ := au h2
 obtain ⟨⟨row, pt⟩, g3, a3, h3⟩ := au h3'
 have k3 := (dB a3').trans (Ci a3)
 simp only at h3 k3
 cases hA : y.2 with
 | true =>
  rw [hA, cond_true] at h3
  obtain ⟨u, g4, a4, h4⟩ := au h3
  have k4 := dB a4
  obtain ⟨rfl, rfl⟩ := aB h4
  refine ⟨(k3.trans k4).mono fun _ => trivial, fun hc N μ w hg => ?_⟩
  have hq := (k3.trans k4).2.2 hc
  have hn := hq.2.1.1
  have hf := hq.2.2
  have hrw := hq.2.1.2.1
  subst hrw
  obtain ⟨hsz, _, hcur⟩ := hg.ok _ _ hb
  obtain ⟨cur, ty, fz, hB, hfit, _, hrows⟩ := hcur (.inl (by omega))
  have hrf : μ.base a.g + a.i * sz + sz ≤ cur.size := by have := jY hn (Nat.le_refl (n * sz)); omega
  have hrun := wU (P := P) (t := t) hi hd (o := μ.base a.g + a.i * sz + a.o) hB (fun _ => by omega) (fun hx => by rw [e2, hA] at hx; cases hx)
  rw [e2, hA, if_pos rfl] at hrun
  refine ⟨_, by unfold MM.addr; rw [hsz]; exact hrun, ?_⟩
  simp only [Rep]
  refine ⟨_, rfl, ?_⟩
  have hr := ((hrows a.i hn).afu hrf).drop a.o
  have hr2 := hr.take i.size
  rw [← e1]
  have : (((cur.toList.drop (μ.base a.g + a.i * sz)).take sz).drop a.o).take i.size = (cur.toList.drop (μ.base a.g + a.i * sz + a.o)).take i.size := by
   apply List.ext_getElem?
   intro j
   simp only [List.getElem?_take, List.getElem?_drop]
   by_cases hj : j < i.size
   ·rw [if_pos hj, if_pos (by omega), if_pos hj]; congr 1; omega
   ·rw [if_neg hj, if_neg hj]
  rw [this] at hr2
  simpa using hr2
 | false =>
  rw [hA, cond_false] at h3
  obtain ⟨hv, rfl⟩ := aI h3
  refine ⟨k3.mono fun _ => trivial, fun hc N μ w hg => ?_⟩
  have hn := (k3.2.2 hc).2.1
  have hrw := (k3.2.2 hc).2.2.1
  subst hrw
  obtain ⟨hsz, _, hcur⟩ := hg.ok _ _ hb
  obtain ⟨cur, ty, fz, hB, hfit, _, hrows⟩ := hcur (.inl (by omega))
  obtain ⟨_, c', hc', hrep⟩ := (hrows a.i hn).2 _ _ hv
  have hlt : μ.base a.g + a.i * sz + a.o < cur.size := (Array.getElem?_eq_some_iff.1 hc').1
  have hrun := wU (P := P) (t := t) hi hd (o := μ.base a.g + a.i * sz + a.o) hB (fun hx => by rw [e2, hA] at hx; cases hx) (fun _ => hlt)
  rw [e2, hA] at hrun
  have : cur.getD (μ.base a.g + a.i * sz + a.o) undef = c' := by
   have := (Array.getElem?_eq_some_iff.1 hc').2
   simp [Array.getD, hlt, this]
  simp only [this] at hrun
  exact ⟨c', by unfold MM.addr; rw [hsz]; simpa using hrun, hrep⟩
theorem IB {P : Program} {t : TypeId} {x : AV} {g g' : G} {v : AV} (h : BO P t x g = .done v g') :
  Keep g g' True ∧ (g'.cs → ∀ N μ w cx, dP N μ w.heap g.H → Rep N μ x cx → ∃ A c, cx = .pointer (some A) ∧ (loadVar t A).run P w = .ok c w ∧ Rep N μ v c) := by
 unfold BO at h
 split at h
 ·rename_i x
  obtain ⟨y, g1, a1, h1⟩ := au h
  obtain ⟨hy, rfl⟩ := aI a1
  obtain ⟨i, d, hi, hd, e1, e2⟩ := iI hy
  obtain ⟨_, g2, a2, h2⟩ := au h1
  obtain ⟨hq, rfl⟩ := aS a2
  obtain ⟨rfl, rfl⟩ := aB h2
  simp only [Bool.and_eq_true, Bool.not_eq_true'] at hq
  refine ⟨Keep.refl _, fun hc N μ w cx hg hx => ?_⟩
  simp only [Rep] at hx
  obtain ⟨_, b, k, cur, ty, z, rfl, q1, q2⟩ := hx
  obtain ⟨p1, _⟩ := hg.fz b _ q1
  have hlt : k < cur.size := (Array.getElem?_eq_some_iff.1 q2).1
  have hrun := wU (P := P) (t := t) hi hd (o := k) p1 (fun hx => by rw [e2, hq.2] at hx; cases hx) (fun _ => hlt)
  rw [e2, hq.2] at hrun
  have : cur.getD k undef = .string ⟨x.toArray⟩ := by
   have := (Array.getElem?_eq_some_iff.1 q2).2
   simp [Array.getD, hlt, this]
  simp only [this] at hrun
  refine ⟨_, _, rfl, by simpa using hrun, ?_⟩
  simp only [Rep]
 ·obtain ⟨a, g1, a1, h1⟩ := au h
  obtain ⟨hx, rfl⟩ := aI a1
  obtain ⟨k, hs⟩ := Af h1
  refine ⟨k, fun hc N μ w cx hg hr => ?_⟩
  obtain ⟨c, e1, hv⟩ := hs hc N μ w hg
  rw [oQ hx] at hr
  simp only [Rep] at hr
  exact ⟨_, c, hr.2, e1, hv⟩
end Go.Sx
namespace Go.Sx
open M
theorem rD {α : Type} (l : List α) (o : Nat) (vs : List α) (h : o + vs.length ≤ l.length) (m : Nat) :
  (l.take o ++ vs ++ l.drop (o + vs.length))[m]? = if m < o then l[m]? else if m < o + vs.length then vs[m - o]? else l[m]? := by
 have ht : (l.take o).length = o := by simp; omega
 by_cases h1 : m < o
 ·rw [if_pos h1, List.append_assoc, List.getElem?_append_left (by omega), List.getElem?_take, if_pos h1]
 ·rw [if_neg h1, List.append_assoc, List.getElem?_append_right (by omega), ht]
  by_cases h2 : m < o + vs.length
  ·rw [if_pos h2, List.getElem?_append_left (by omega)]
  ·rw [if_neg h2, List.getElem?_append_right (by omega), List.getElem?_drop]
   congr 1; omega
theorem qF (l : List AV) (o : Nat) (vs : List AV) (h : o + vs.length ≤ l.length) : (splice l o vs).length = l.length := by
 simp [splice]; omega
theorem Rep.oneCell {N : Nat} {μ : MM} {v : AV} {c : Value} (h : Rep N μ v c) (h1 : v.one = true) : c.oneCell' = true := by
 cases v <;> simp [AV.one] at h1 <;> simp only [Rep] at h
 case slc s own a len => obtain ⟨_, A, C, rfl, _⟩ := h; rfl
 case flt => obtain ⟨b, rfl, _⟩ := h; rfl
 case raw => obtain ⟨rfl, _⟩ := h; rfl
 case bits => obtain ⟨b, rfl, _⟩ := h; rfl
 case vW => obtain ⟨a, b, rfl, _⟩ := h; rfl
 case ptr => obtain ⟨_, rfl⟩ := h; rfl
 case mp => obtain ⟨_, rfl⟩ := h; rfl
 case fn => obtain ⟨_, _, rfl, _⟩ := h; rfl
 case hdr => obtain ⟨rfl, _⟩ := h; rfl
 case iP => exact h
 case iw => obtain ⟨_, _, _, _, _, _, rfl, _⟩ := h; rfl
 case KJ => obtain ⟨_, _, _, _, _, _, rfl, _⟩ := h; rfl
 all_goals (subst h; rfl)
theorem Rep.cells {N : Nat} {μ : MM} {v : AV} {c : Value} (h : Rep N μ v c) (h1 : v.cells.all AV.one = true) : aO N μ v.cells c.cells.toList ∧ ∀ x ∈ c.cells.toList, x.oneCell' = true := by
 have key : ∀ {l : List AV} {cs : List Value}, aO N μ l cs → l.all AV.one = true → ∀ x ∈ cs, x.oneCell' = true := by
  intro l cs hr ha x hx
  obtain ⟨i, hi, rfl⟩ := List.getElem_of_mem hx
  have hil : i < l.length := by rw [← hr.length]; exact hi
  obtain ⟨c', hc', hrep⟩ := hr.get (List.getElem?_eq_getElem hil)
  rw [List.getElem?_eq_getElem hi] at hc'
  cases hc'
  exact hrep.oneCell (List.all_eq_true.1 ha _ (List.getElem_mem hil))
 cases v with
 | agg l =>
  simp only [Rep] at h
  obtain ⟨cs, rfl, hr⟩ := h
  exact ⟨hr, key hr h1⟩
 | _ =>
  simp only [AV.cells, List.all_cons, List.all_nil, Bool.and_true] at h1
  have ho := h.oneCell h1
  have hc : c.cells = #[c] := by cases c <;> first | rfl | simp [Value.oneCell'] at ho
  rw [hc]
  refine ⟨by simp only [AV.cells, aO]; exact ⟨c, [], rfl, h, rfl⟩, fun x hx => ?_⟩
  simp at hx
  subst hx; exact ho
theorem Cont.xP (src : Nat → List AV) (n : Nat) (c : Cont) : ∀ m j, (Cont.more src n m c).row j = if n ≤ j ∧ j < n + m then src (j - n) else c.row j
 | 0, j => by simp only [Cont.more]; rw [if_neg (by omega)]
 | m + 1, j => by
  simp only [Cont.more, Cont.Bl, Cont.xP src n c m]
  by_cases h : j = n + m
  ·subst h; rw [if_pos rfl, if_pos (by omega)]; congr 1; omega
  ·rw [if_neg h]
   by_cases h2 : n ≤ j ∧ j < n + m
   ·rw [if_pos h2, if_pos (by omega)]
   ·rw [if_neg h2, if_neg (by omega)]
theorem May.of {μ : MM} {H : T aF} {g : Nat} {b : aF} (hg : H.get g = some b) (ho : b.owned = true) (hr : b.real μ g) : May μ H (μ.blk g) := ⟨g, b, hg, ho, hr, rfl⟩
theorem F5 {P : Program} {t : TypeId} {i : TypeInfo} (hi : P.info? t = some i) {w : World} {B o : Nat} {cur : Array Value} {ty : TypeId} (hB : w.heap[B]? = some (.cells cur ty (0, 0))) {v : Value}
  (hs : v.cells.size = i.size) (hf : o + i.size ≤ cur.size) (h1 : ∀ x ∈ v.cells.toList, x.oneCell' = true) :
  (storeVar t ⟨B, o, none⟩ v).run P w = .ok () (w.setRow B (cur.toList.take o ++ v.cells.toList ++ cur.toList.drop (o + v.cells.toList.length)).toArray) := by
 have hst := run_storeCells_at P B o ty v.cells.toList 0 cur w hB (by simp; omega) h1
 simp only [Nat.add_zero] at hst
 simp [storeVar, run_sizeOf hi, hs, hst]
theorem KY {sz : Nat} {row : List AV} {o : Nat} {vs : List AV} (h : row.length = sz) (ho : o + vs.length ≤ sz) : FX sz row o vs = splice row o vs := by
 unfold FX
 cases e : Nat.beq sz vs.length with
 | false => rfl
 | true =>
  have e := Nat.eq_of_beq_eq_true e
  have o0 : o = 0 := by omega
  subst o0
  unfold splice
  rw [List.drop_eq_nil_of_le (by omega)]
  simp
theorem F6 {P : Program} {t : TypeId} {a : AA} {v : AV} {g g' : G} {u : Unit} (h : wJ P t a v g = .done u g') :
  (g'.cs → g.cs) ∧ (g'.cs → ∀ μ w cv, dP g.nx μ w.heap g.H → Rep g.nx μ v cv → ∃ w', (storeVar t (μ.addr a) cv).run P w = .ok () w' ∧ dP g'.nx μ w'.heap g'.H ∧ Ext g μ w g' μ w') := by
 unfold wJ at h
 obtain ⟨y, g1, a1, h1⟩ := au h
 obtain ⟨hy, rfl⟩ := aI a1
 obtain ⟨i, d, hi, hd, e1, e2⟩ := iI hy
 obtain ⟨⟨own, sz, n, c⟩, g2, a2, h2⟩ := au h1
 obtain ⟨hb, rfl⟩ := eu a2
 simp only at h2 hb
 obtain ⟨_, g3, a3, h3⟩ := au h2
 obtain ⟨hq, rfl⟩ := aS a3
 simp only [Bool.and_eq_true] at hq
 obtain ⟨⟨rfl, hlen⟩, hone⟩ := hq
 have hlen' := Nat.eq_of_beq_eq_true hlen
 obtain ⟨u3, g4, a4, h4⟩ := au h3
 obtain ⟨u4, g5', a5', h5'⟩ := au h4
 obtain ⟨⟨row, pt⟩, g5, a5, h5⟩ := au h5'
 have k4 := ((dB a4).trans (dB a5')).trans (Ci a5)
 obtain ⟨hH, hnx, hcs⟩ := bM h5
 simp only at hH k4
 have hc0 : g'.cs → g.cs ∧ (a.i < n ∧ a.o + y.1 ≤ sz) ∧ (row = c.row a.i ∧ ∀ r j, (pt r).row j = if j = a.i then r else c.row j) := fun hc => by rw [hcs] at hc; exact k4.2.2 hc
 refine ⟨fun hc => (hc0 hc).1, fun hc μ w cv hg hv => ?_⟩
 obtain ⟨_, ⟨hn, hf⟩, hrw, hpt⟩ := hc0 hc
 subst hrw
 obtain ⟨hsz, hpos, hcur⟩ := hg.ok _ _ hb
 obtain ⟨cur, ty, fz, hB, hfit, hown, hrows⟩ := hcur (.inl (by omega))
 obtain ⟨hfz, hcap, hb0⟩ := hown rfl
 simp only [hb0, Nat.zero_add] at hfit hrows
 rw [hfz] at hB
 rw [KY (hrows _ hn).1 (by omega)] at hH
 obtain ⟨IC, hone'⟩ := hv.cells hone
 have hcl : cv.cells.toList.length = y.1 := by rw [IC.length, hlen']
 have hcz : cv.cells.size = y.1 := by rw [← hcl, Array.length_toList]
 have hrf := jY hn hfit
 have hrun := F5 (P := P) (t := t) hi hB (o := a.i * sz + a.o) (v := cv) (by omega) (by omega) hone'
 have hgc := fun m => rD cur.toList (a.i * sz + a.o) cv.cells.toList (by simp only [Array.length_toList]; omega) m
 refine ⟨_, by unfold MM.addr; rw [hsz, hb0, Nat.zero_add]; exact hrun, ?_, ?_⟩
 ·rw [hH, hnx, k4.2.1, k4.1]
  refine hg.upd (.refl _ _) (Nat.le_refl _) (hg.lt _ _ hb) ?_ ?_ ?_ (FZ hb rfl (.inl (by omega)) fun B hne => setRow_other w _ _ _ hne)
  ·rintro _ ⟨⟩
   refine ⟨hsz, hpos, fun _ => ⟨_, ty, (0, 0), setRow_heap w _ cur _ ty _ hB, ?_, fun _ => ⟨rfl, ?_, hb0⟩, fun j hj => ?_⟩⟩
   rotate_left 2
   rw [hb0, Nat.zero_add]
   rotate_right 2
   ·simp; omega
   ·rw [← hcap]; simp; omega
   ·rw [hpt]
    have hjf := jY hj hfit
    obtain ⟨rl, rc⟩ := hrows j hj
    split
    ·rename_i e; rw [e] at rl rc hjf ⊢
     refine ⟨by rw [qF _ _ _ (by omega)]; exact rl, fun o x hx => ?_⟩
     have ho : o < sz := by
      have := (List.getElem?_eq_some_iff.1 hx).1
      rw [qF _ _ _ (by omega), rl] at this; exact this
     rw [List.getElem?_toArray, hgc]
     unfold splice at hx
     rw [rD _ _ _ (by omega)] at hx
     split at hx
     ·rw [if_pos (by omega)]
      obtain ⟨h0, c', h1, h2⟩ := rc _ _ hx
      exact ⟨h0, c', by simpa using h1, h2⟩
     ·split at hx
      ·rw [if_neg (by omega), if_pos (by omega)]
       obtain ⟨c', h1, h2⟩ := IC.get hx
       exact ⟨List.all_eq_true.1 hone _ (List.mem_of_getElem? hx), c', by rw [← h1]; congr 1; omega, h2⟩
      ·rw [if_neg (by omega), if_neg (by omega)]
       obtain ⟨h0, c', h1, h2⟩ := rc _ _ hx
       exact ⟨h0, c', by simpa using h1, h2⟩
    ·rename_i hne
     refine ⟨rl, fun o x hx => ?_⟩
     have ho : o < sz := by
      have := (List.getElem?_eq_some_iff.1 hx).1
      rw [rl] at this; exact this
     obtain ⟨h0, c', h1, h2⟩ := rc _ _ hx
     refine ⟨h0, c', ?_, h2⟩
     rw [List.getElem?_toArray, hgc]
     have hdis : j * sz + o < a.i * sz + a.o ∨ a.i * sz + a.o + cv.cells.toList.length ≤ j * sz + o := by
      rcases Nat.lt_or_gt_of_ne hne with hlt | hgt
      ·left
       have : (j + 1) * sz ≤ a.i * sz := Nat.mul_le_mul_right _ hlt
       rw [Nat.add_mul] at this; omega
      ·right
       have : (a.i + 1) * sz ≤ j * sz := Nat.mul_le_mul_right _ hgt
       rw [Nat.add_mul] at this; omega
     rcases hdis with hd1 | hd1
     ·rw [if_pos hd1]; simpa using h1
     ·rw [if_neg (by omega), if_neg (by omega)]; simpa using h1
  ·intro g1 b1 hg1 hne hr1
   refine setRow_other w _ _ _ fun e => hne ?_
   exact (hg.sep _ _ _ _ hb hg1 rfl (.inl (by omega)) hr1 e.symm).symm
  ·rintro _ ⟨⟩ hr1 g1 b1 hg1 hne hr2 _ e
   exact hne (hg.sep _ _ _ _ hb hg1 rfl (.inl (by omega)) hr2 e).symm
 ·have hgB : ∀ B, B ≠ μ.blk a.g → (w.setRow (μ.blk a.g) (cur.toList.take (a.i * sz + a.o) ++ cv.cells.toList ++ cur.toList.drop (a.i * sz + a.o + cv.cells.toList.length)).toArray).heap[B]? = w.heap[B]? := fun B hne => setRow_other w _ _ _ hne
  refine ⟨by rw [hnx, k4.2.1]; exact Nat.le_refl _, .refl _ _, rfl, rfl, rfl, by simp, fun B _ hnm => hgB B fun e => hnm ?_, fun B hB hm => ?_, fun _ _ q => .inl q⟩
  ·rw [e]; exact May.of hb rfl (.inl (by omega))
  ·obtain ⟨g1, b1, hg1, ho1, hr1, rfl⟩ := hm
   rw [hH, T.bF, k4.1] at hg1
   split at hg1
   ·rename_i e; rw [e]; exact May.of hb rfl (.inl (by omega))
   ·exact May.of hg1 ho1 hr1
end Go.Sx
namespace Go.Sx
open M
theorem Rep.jQ (N : Nat) (μ : MM) (v : Value) : Rep N μ (jQ v) v := by
 unfold Sx.jQ
 split
 ·simp [Rep]
 ·simp [Rep]
 ·rename_i b
  by_cases h : b < 18446744073709551616
  ·simp only [h, decide_true, cond_true, Rep]; exact ⟨b, rfl, rfl, h⟩
  ·simp [h, Rep]
 ·rename_i a b
  by_cases h : a < 18446744073709551616 ∧ b < 18446744073709551616
  ·simp only [h, and_self, decide_true, cond_true, Rep]; exact ⟨a, b, rfl, ⟨rfl, h.1⟩, ⟨rfl, h.2⟩⟩
  ·simp [h, Rep]
 ·simp only [Rep, Array.toArray_toList]
 all_goals simp [Rep]
theorem Rep.lX (N : Nat) (μ : MM) (v : Value) : Rep N μ (lX v) v := by
 unfold Sx.lX
 split
 ·rename_i cs
  simp only [Rep]
  exact ⟨cs, rfl, by have := aO.map (N := N) (μ := μ) Sx.jQ id cs.toList fun x _ => Rep.jQ N μ x; simpa using this⟩
 ·rename_i cs
  simp only [Rep]
  exact ⟨cs, rfl, by have := aO.map (N := N) (μ := μ) Sx.jQ id cs.toList fun x _ => Rep.jQ N μ x; simpa using this⟩
 ·exact Rep.jQ N μ v
theorem pV {P : Program} {t : TypeId} {z : AV} (h : zeroOf P t = some z) : ∃ i v, P.info? t = some i ∧ i.zero = some v ∧ z = lX v := by
 unfold zeroOf at h
 split at h
 ·rename_i i hi
  cases hz : i.zero with
  | none => rw [hz] at h; cases h
  | some v => rw [hz] at h; cases h; exact ⟨i, v, hi, hz, rfl⟩
 ·cases h
structure Pushed (w w' : World) (o : Obj) : Prop where
 heap : w'.heap = w.heap.push o
 os : w'.os = w.os
 tape : w'.tape = w.tape
 output : w'.output = w.output
theorem Pushed.alloc (w : World) (o : Obj) : Pushed w (w.alloc o) o := ⟨rfl, rfl, rfl, rfl⟩
theorem Pushed.drew (w : World) (o : Obj) : Pushed w (w.drew.alloc o) o := ⟨rfl, rfl, rfl, rfl⟩
theorem Pushed.new {w w' : World} {o : Obj} (h : Pushed w w' o) : w'.heap[w.heap.size]? = some o := by rw [h.heap]; simp
theorem Pushed.old {w w' : World} {o : Obj} (h : Pushed w w' o) {B : Nat} (hB : B < w.heap.size) : w'.heap[B]? = w.heap[B]? := by
 rw [h.heap, Array.getElem?_push, if_neg (by omega)]
theorem vk {g g' : G} {nm sz n : Nat} {c : Cont} (h : fD (.cells true sz n c) g = .done nm g') {μ : MM} {w w' : World} (hg : dP g.nx μ w.heap g.H) (hpos : 0 < sz) {cur : Array Value} {ty : TypeId}
  (hw : Pushed w w' (.cells cur ty (0, 0))) (cap : Nat) (hcap : cur.size = cap * sz) (hn : n ≤ cap) (hrows : ∀ i, i < n → fM g.nx μ (c.row i) sz cur (i * sz)) :
  dP g'.nx (μ.set g.nx w.heap.size cap sz) w'.heap g'.H ∧ Ext g μ w g' (μ.set g.nx w.heap.size cap sz) w' := by
 obtain ⟨_, hH, hnx, _⟩ := iH h
 have hu : MM.upto g.nx μ (μ.set g.nx w.heap.size cap sz) := MM.qJ μ (Nat.le_refl _)
 constructor
 ·rw [hH, hnx]
  refine hg.upd hu (by omega) (by omega) ?_ ?_ ?_ (Ry (fun _ => rfl) (fun B hB => hw.old hB) fun bk _ _ _ => by rw [MM.dn]; exact Nat.le_refl _)
  ·rintro _ ⟨⟩
   simp only [bY, MM.Ce, MM.dn, MM.ji, MM.fH, Nat.zero_add]
   refine ⟨trivial, hpos, fun _ => ⟨cur, ty, (0, 0), hw.new, ?_, fun _ => ⟨rfl, hcap, trivial⟩, fun i hi => (hrows i hi).later hu (by omega)⟩⟩
   rw [hcap]; exact Nat.mul_le_mul_right _ hn
  ·intro g1 b1 hg1 _ hr1
   exact hw.old ((hg.ok _ _ hg1).lt_size hr1)
  ·rintro _ ⟨⟩ _ g1 b1 hg1 _ hr1 _ e
   have := (hg.ok _ _ hg1).lt_size hr1
   rw [MM.dn] at e; omega
 ·refine ⟨by omega, hu, hw.os, hw.tape, hw.output, by rw [hw.heap]; simp, fun B hB _ => hw.old hB, fun B hB hm => ?_, fun _ _ q => .inl q⟩
  obtain ⟨g1, b1, hg1, ho1, hr1, e⟩ := hm
  rw [hH, T.bF] at hg1
  split at hg1
  ·rename_i e1
   rw [e1, MM.dn] at e; omega
  ·have hlt := hg.lt _ _ hg1
   rw [aF.aX hu hlt] at hr1
   rw [hu.blk _ hlt] at e
   exact ⟨g1, b1, hg1, ho1, hr1, e⟩
def Gives (g : G) (μ : MM) (w : World) (g' : G) (v : AV) (r : Result Value) : Prop :=
 ∃ c w' μ', r = .ok c w' ∧ Rep g'.nx μ' v c ∧ dP g'.nx μ' w'.heap g'.H ∧ Ext g μ w g' μ' w'
theorem Gives.keep {g g' : G} {μ : MM} {w : World} {v : AV} {c : Value} {n : Nat} {p : Prop} (k : Keep g g' p) (hg : dP g.nx μ w.heap g.H) (hv : Rep g.nx μ v c) : Gives g μ w g' v (.ok c { w with drawn := n }) :=
 ⟨c, _, μ, rfl, by rw [k.2.1]; exact hv, by rw [k.1, k.2.1]; exact hg, Ext.drawn μ w n k.1 k.2.1⟩
theorem Gives.gV {g g' : G} {μ : MM} {w : World} {v : AV} {c : Value} {p : Prop} (k : Keep g g' p) (hg : dP g.nx μ w.heap g.H) (hv : Rep g.nx μ v c) : Gives g μ w g' v (.ok c w) :=
 Gives.keep (n := w.drawn) k hg hv
theorem Cj {P : Program} {t : TypeId} {v r : AV} {g g' : G} (h : Ip v g = .done r g') :
  (g'.cs → g.cs) ∧ ∀ μ w cv, dP g.nx μ w.heap g.H → Rep g.nx μ v cv → Gives g μ w g' r ((do pure (.pointer (some (← newVar t cv))) : Sem Value).run P w) := by
 unfold Ip at h
 obtain ⟨_, g1, a1, h1⟩ := au h
 obtain ⟨hq, rfl⟩ := aS a1
 rw [Bool.and_eq_true] at hq
 obtain ⟨nm, g2, a2, h2⟩ := au h1
 obtain ⟨rfl, rfl⟩ := aB h2
 obtain ⟨hnm, hH, hnx, hcs⟩ := iH a2
 refine ⟨fun hc => by rw [hcs] at hc; exact hc, fun μ w cv hg hv => ?_⟩
 obtain ⟨IC, _⟩ := hv.cells hq.1
 have hl : cv.cells.size = v.cells.length := by rw [← IC.length, Array.length_toList]
 have hpos : 0 < v.cells.length := by
  cases hvc : v.cells with
  | nil => simp [hvc] at hq
  | cons => simp
 obtain ⟨hg', he⟩ := vk a2 hg hpos (w' := w.alloc (.cells cv.cells t (0, 0))) (.alloc _ _) 1 (by omega) (Nat.le_refl _) (by
  intro i hi
  obtain rfl : i = 0 := by omega
  refine ⟨rfl, fun o x hx => ?_⟩
  obtain ⟨c', h1, h2⟩ := IC.get hx
  exact ⟨List.all_eq_true.1 hq.1 _ (List.mem_of_getElem? hx), c', by simpa using h1, h2⟩)
 refine ⟨.pointer (some ⟨w.heap.size, 0, none⟩), w.alloc (.cells cv.cells t (0, 0)), _, rfl, ?_, hg', he⟩
 simp only [Rep]
 refine ⟨by omega, ?_⟩
 rw [hnm]
 simp [MM.addr, MM.dn, MM.fH]
theorem Keep.F7 {g g1 g2 : G} {p : Prop} (k : Keep g g1 p) (hcs : g2.cs = g1.cs) : g2.cs → g.cs ∧ p := fun hc => k.2.2 (hcs ▸ hc)
theorem Ext.oq {g g1 g2 : G} {μ μ' : MM} {w w' : World} {p : Prop} (k : Keep g g1 p) (h : Ext g1 μ w g2 μ' w') : Ext g μ w g2 μ' w' :=
 (Ext.same μ w k.1 k.2.1).trans h
theorem ou {P : Program} {e : TypeId} {z : List AV × Nat} (h : uY P e = some z) : ∃ i v, P.info? e = some i ∧ i.zero = some v ∧ i.bytes = z.2 ∧ i.size = z.1.length ∧ 0 < z.1.length ∧ v.cells.size = z.1.length ∧
  z.1.all AV.one = true ∧ ∀ N μ, aO N μ z.1 v.cells.toList := by
 unfold uY at h
 split at h
 ·rename_i i zv hi hz
  obtain ⟨i', v, hi', hzv, rfl⟩ := pV hz
  rw [hi] at hi'; cases hi'
  cases hq : (Nat.beq (lX v).cells.length i.size && (lX v).cells.all AV.one && !Nat.beq i.size 0) with
  | false => rw [hq] at h; cases h
  | true =>
   rw [hq] at h; cases h
   simp only [Bool.and_eq_true, Bool.not_eq_true'] at hq
   obtain ⟨⟨hl, hone⟩, hpos⟩ := hq
   have hl' := Nat.eq_of_beq_eq_true hl
   have hpos' : 0 < i.size := Nat.pos_of_ne_zero (Nat.ne_of_beq_eq_false hpos)
   have hr := fun N μ => ((Rep.lX N μ v).cells hone).1
   refine ⟨i, v, hi, hzv, rfl, hl'.symm, by rw [hl']; exact hpos', ?_, hone, hr⟩
   have := (hr 0 ⟨fun _ => 0, fun _ => 0, fun _ => 0, fun _ => 0, fun _ => none⟩).length
   rw [Array.length_toList] at this; exact this
 ·cases h
theorem zA {P : Program} {t : TypeId} {l c v : AV} {g g' : G} (h : kM P t l c g = .done v g') :
  (g'.cs → g.cs) ∧ (g'.cs → ∀ μ w cl cc, dP g.nx μ w.heap g.H → Rep g.nx μ l cl → Rep g.nx μ c cc → Gives g μ w g' v ((Instr.makeSlice t cl cc).run P w)) := by
 unfold kM at h
 obtain ⟨⟨s, n⟩, g1, a1, h1⟩ := au h
 obtain ⟨hl, rfl⟩ := aI a1
 obtain ⟨⟨s', m⟩, g2, a2, h2⟩ := au h1
 obtain ⟨hm, rfl⟩ := aI a2
 obtain ⟨k, rfl⟩ := l7 hl
 obtain ⟨k', rfl⟩ := l7 hm
 obtain ⟨e, g3, a3, h3⟩ := au h2
 obtain ⟨ht, rfl⟩ := aI a3
 obtain ⟨z, g4, a4, h4⟩ := au h3
 obtain ⟨hz, rfl⟩ := aI a4
 obtain ⟨i, zv, hi, hzv, hby, hsz, hpos, hzl, hone, hzr⟩ := ou hz
 obtain ⟨u, g5, a5, h5⟩ := au h4
 have k1 := dB a5
 obtain ⟨nm, g6, a6, h6⟩ := au h5
 obtain ⟨rfl, rfl⟩ := aB h6
 obtain ⟨hnm, hH, hnx, hcs⟩ := iH a6
 have hk := Keep.F7 k1 hcs
 refine ⟨fun hc => (hk hc).1, fun hc μ w cl cc hg hcl hcc => ?_⟩
 obtain ⟨h0, hnm', hb, h63⟩ := (hk hc).2
 simp only [Rep] at hcl hcc
 subst hcl hcc
 simp only at h0 hnm' hb h63
 have hrun := run_make (P := P) w t e i zv (dI ht) hi hzv k k' n m h0 hnm' (by rw [hby]; omega) h63
 rw [hsz] at hrun
 rw [← k1.1, ← k1.2.1] at hg
 obtain ⟨hg', he⟩ := vk a6 hg hpos (w' := w.alloc (.cells (madeCells zv.cells (m.toNat * z.1.length)) e (0, 0))) (.alloc _ _) m.toNat (size_madeCells _ _) (by omega) (by
  intro j hj
  have hrow : (bif s then Cont.fn fun _ => z.1 else Cont.lit z.1 T.e).row j = z.1 := by cases s <;> simp [Cont.row, T.get]
  simp only
  rw [hrow]
  refine ⟨rfl, fun o x hx => ?_⟩
  have ho : o < z.1.length := (List.getElem?_eq_some_iff.1 hx).1
  obtain ⟨c', h1, h2⟩ := (hzr g.nx μ).get hx
  refine ⟨List.all_eq_true.1 hone _ (List.mem_of_getElem? hx), c', ?_, by rw [k1.2.1]; exact h2⟩
  have hjm : j * z.1.length + o < m.toNat * z.1.length := by
   have : (j + 1) * z.1.length ≤ m.toNat * z.1.length := Nat.mul_le_mul_right _ (by omega)
   rw [Nat.add_mul] at this; omega
  have hmod : (j * z.1.length + o) % zv.cells.size = o := by rw [hzl, Nat.mul_comm, Nat.mul_add_mod]; exact Nat.mod_eq_of_lt ho
  have h1' : zv.cells[o]? = some c' := by simpa using h1
  simp only [madeCells, Array.getElem?_map, Array.getElem?_range, hjm, if_true, Option.map_some, hmod]
  rw [getElem!_def, h1'])
 refine ⟨_, _, _, hrun, ?_, hg', Ext.oq k1 he⟩
 simp only [Rep]
 refine ⟨by omega, some ⟨w.heap.size, 0, none⟩, m.toNat, rfl, by omega, fun _ => ?_, fun _ => rfl, fun _ => ⟨rfl, rfl, .inr ⟨?_, ?_⟩⟩⟩
 ·rw [hnm]; simp [MM.addr, MM.dn, MM.fH]
 ·rw [hnm, MM.dn]
 ·rw [hnm, MM.ji]
end Go.Sx
namespace Go.Sx
open M
def RC (a : AA) (dA sz n m : Nat) : Prop := if dA = sz ∧ a.o = 0 then a.i + m ≤ n else a.i < n ∧ a.o + m * dA ≤ sz
theorem xQ {dA sz : Nat} {a : AA} : (Nat.beq dA sz && Nat.beq a.o 0) = true ↔ dA = sz ∧ a.o = 0 := by
 simp [Bool.and_eq_true, Nat.beq_eq_true_eq]
theorem Ag {s : Bool} {a : AA} {dA sz n m : Nat} {u : Unit} {g g' : G} (h : wM s a dA sz n m g = .done u g') : Keep g g' (RC a dA sz n m) := by
 unfold wM at h
 cases hq : (Nat.beq dA sz && Nat.beq a.o 0) with
 | true =>
  rw [hq, cond_true] at h
  exact (dB h).mono fun hp => by unfold RC; rw [if_pos (xQ.1 hq)]; exact hp
 | false =>
  rw [hq, cond_false] at h
  obtain ⟨_, g1, a1, h1⟩ := au h
  refine ((dB a1).trans (dB h1)).mono fun hp => ?_
  unfold RC
  rw [if_neg fun e => by rw [xQ.2 e] at hq; cases hq]
  exact hp
theorem ET {N : Nat} {μ : MM} {hp : Array Obj} {a : AA} {own : Bool} {dA sz n m : Nat} {c : Cont} (hb : bY N μ hp a.g (.cells own sz n c)) (he : 0 < dA) (hr : RC a dA sz n m) (hm : 0 < m) :
  ∃ cur ty fz, hp[μ.blk a.g]? = some (.cells cur ty fz) ∧ μ.base a.g + a.i * sz + a.o + m * dA ≤ cur.size ∧ ∀ j, j < m → fM N μ (rowsOf a dA sz c j) dA cur (μ.base a.g + a.i * sz + a.o + j * dA) := by
 obtain ⟨hsz, hpos, hcur⟩ := hb
 unfold RC at hr
 by_cases hq : dA = sz ∧ a.o = 0
 ·rw [if_pos hq] at hr
  obtain ⟨cur, ty, fz, hB, hfit, _, hrows⟩ := hcur (.inl (by omega))
  refine ⟨cur, ty, fz, hB, ?_, fun j hj => ?_⟩
  ·have := jY (n := n) (sz := sz) (i := a.i + m - 1) (by omega) (Nat.le_refl _)
   rw [hq.1, hq.2]
   have e : (a.i + m - 1) * sz + sz = a.i * sz + m * sz := by
    rw [← Nat.succ_mul, ← Nat.add_mul]; congr 1; omega
   omega
  ·have := hrows (a.i + j) (by omega)
   unfold rowsOf
   rw [xQ.2 hq, cond_true, hq.1, hq.2, Nat.add_zero, Nat.add_assoc, ← Nat.add_mul]
   exact this
 ·rw [if_neg hq] at hr
  obtain ⟨cur, ty, fz, hB, hfit, _, hrows⟩ := hcur (.inl (by omega))
  have hrf : μ.base a.g + a.i * sz + sz ≤ cur.size := by have := jY hr.1 (Nat.le_refl (n * sz)); omega
  refine ⟨cur, ty, fz, hB, by omega, fun j hj => ?_⟩
  obtain ⟨rl, rc⟩ := hrows a.i hr.1
  have hqf : (Nat.beq dA sz && Nat.beq a.o 0) = false := by
   cases h : (Nat.beq dA sz && Nat.beq a.o 0) with
   | false => rfl
   | true => exact absurd (xQ.1 h) hq
  have hje : j * dA + dA ≤ m * dA := jY hj (Nat.le_refl _)
  unfold rowsOf
  rw [hqf, cond_false]
  refine ⟨by simp [rl]; omega, fun o v hv => ?_⟩
  rw [List.getElem?_take] at hv
  split at hv
  ·rw [List.getElem?_drop] at hv
   obtain ⟨h0, c', h1, h2⟩ := rc _ _ hv
   exact ⟨h0, c', by rw [← h1]; congr 1; omega, h2⟩
  ·cases hv
def acH (N : Nat) (μ : MM) (w : World) (dA m : Nat) (r : Nat → List AV) (cy : Value) : Prop :=
 ∃ B C, cy = .slice B m C ∧ (0 < m → ∃ (ad : Addr) (news : List Value), B = some ad ∧ news.length = m * dA ∧ (∀ (j : Nat) v, news[j]? = some v → w.cell? (ad.add j) = some v) ∧ (∀ u ∈ news, u.oneCell' = true) ∧
  ∀ j, j < m → fM N μ (r j) dA news.toArray (j * dA))
theorem uh {dA : Nat} {y : AV} {x : Bool × Nat × (Nat → List AV)} {g g' : G} (h : nG dA y g = .done x g') (he : 0 < dA) :
  ∃ p, Keep g g' p ∧ (p → ∀ N μ w cy, dP N μ w.heap g.H → Rep N μ y cy → acH N μ w dA x.2.1 x.2.2 cy) := by
 unfold nG at h
 split at h
 ·obtain ⟨rfl, rfl⟩ := aB h
  refine ⟨True, Keep.refl _, fun _ N μ w cy _ hy => ?_⟩
  simp only [Rep] at hy
  exact ⟨none, 0, hy, fun h0 => absurd h0 (by simp)⟩
 ·rename_i s own a len
  obtain ⟨⟨bo, sz, n, c⟩, g1, a1, h1⟩ := au h
  obtain ⟨hb, rfl⟩ := eu a1
  simp only at h1 hb
  obtain ⟨_, g2, a2, h2⟩ := au h1
  obtain ⟨rfl, rfl⟩ := aB h2
  refine ⟨_, Ag a2, fun hp N μ w cy hg hy => ?_⟩
  simp only [Rep] at hy
  obtain ⟨_, A, C, rfl, hlen, hA, _⟩ := hy
  refine ⟨A, C, rfl, fun h0 => ?_⟩
  simp only at h0
  obtain ⟨cur, ty, fz, hB, hfit, hrows⟩ := ET (hg.ok _ _ hb) he hp h0
  have hsz : μ.sz a.g = sz := (hg.ok _ _ hb).1
  have hnl : ((cur.toList.drop (μ.base a.g + a.i * sz + a.o)).take (len * dA)).length = len * dA := by simp; omega
  have hrow' : ∀ j, j < len → fM N μ (rowsOf a dA sz c j) dA ((cur.toList.drop (μ.base a.g + a.i * sz + a.o)).take (len * dA)).toArray (j * dA) := by
   intro j hj
   obtain ⟨rl, rc⟩ := hrows j hj
   refine ⟨rl, fun o v hv => ?_⟩
   obtain ⟨h0, c', h1, h2⟩ := rc o v hv
   refine ⟨h0, c', ?_, h2⟩
   have ho : o < dA := by have := (List.getElem?_eq_some_iff.1 hv).1; omega
   have hje : j * dA + dA ≤ len * dA := jY hj (Nat.le_refl _)
   rw [List.getElem?_toArray, List.getElem?_take, if_pos (by omega), List.getElem?_drop, ← Nat.add_assoc]
   simpa using h1
  refine ⟨_, _, hA h0, hnl, ?_, ?_, hrow'⟩
  ·intro j v hv
   unfold MM.addr
   rw [hsz, Addr.add_lit, cell_of hB]
   rw [List.getElem?_take] at hv
   split at hv
   ·rw [List.getElem?_drop] at hv; simpa using hv
   ·cases hv
  ·intro u hu
   obtain ⟨p, hp', rfl⟩ := List.getElem_of_mem hu
   rw [hnl] at hp'
   have hj : p / dA < len := Nat.div_lt_of_lt_mul (by rw [Nat.mul_comm]; exact hp')
   obtain ⟨rl, rc⟩ := hrow' (p / dA) hj
   have ho : p % dA < dA := Nat.mod_lt _ he
   obtain ⟨h0, c', h1, h2⟩ := rc (p % dA) _ (List.getElem?_eq_getElem (by rw [rl]; exact ho))
   have e : p / dA * dA + p % dA = p := by rw [Nat.mul_comm]; exact Nat.div_add_mod p dA
   rw [e, List.getElem?_toArray, List.getElem?_eq_getElem (by rw [hnl]; exact hp')] at h1
   cases h1
   exact h2.oneCell h0
 ·cases h
theorem VA {g g1 : G} {old : Nat} {u : Unit} (h : Io old g = .done u g1) {μ : MM} {w : World} (hg : dP g.nx μ w.heap g.H) : dP g1.nx μ w.heap g1.H ∧ Ext g μ w g1 μ w := by
 obtain ⟨hH, hnx, _⟩ := zx h
 have hs : ∀ k b, g1.H.get k = some b → g.H.get k = some b := fun k b hk => by
  rw [hH, T.bF] at hk
  split at hk
  ·cases hk
  ·exact hk
 refine ⟨by rw [hnx]; exact hg.sub hs, ⟨by omega, .refl _ _, rfl, rfl, rfl, Nat.le_refl _, fun _ _ _ => rfl, fun B _ hm => ?_, fun _ _ q => .inl q⟩⟩
 obtain ⟨k, b, hk, r⟩ := hm
 exact ⟨k, b, hs k b hk, r⟩
theorem Cm {g g' : G} {nm sz : Nat} {c : Cont} (h : fD (.cells true sz 0 c) g = .done nm g') {μ : MM} {w : World} (hg : dP g.nx μ w.heap g.H) (hpos : 0 < sz) (bk : Nat) :
  dP g'.nx (μ.set g.nx bk 0 sz) w.heap g'.H ∧ Ext g μ w g' (μ.set g.nx bk 0 sz) w := by
 obtain ⟨_, hH, hnx, _⟩ := iH h
 have hu : MM.upto g.nx μ (μ.set g.nx bk 0 sz) := MM.qJ μ (Nat.le_refl _)
 have hnr : ¬ (aF.cells true sz 0 c).real (μ.set g.nx bk 0 sz) g.nx := by simp [aF.real, MM.ji]
 constructor
 ·rw [hH, hnx]
  refine hg.upd hu (by omega) (by omega) ?_ (fun _ _ _ _ _ => rfl) ?_ (fun b o q => ⟨q, fun p1 _ => ⟨p1, fun bk e1 _ e3 => by cases e1; exact absurd e3 hnr⟩⟩)
  ·rintro _ ⟨⟩
   exact ⟨MM.Ce .., hpos, fun hr => absurd hr hnr⟩
  ·rintro _ ⟨⟩ hr; exact absurd hr hnr
 ·refine ⟨by omega, hu, rfl, rfl, rfl, Nat.le_refl _, fun _ _ _ => rfl, fun B hB hm => ?_, fun _ _ q => .inl q⟩
  obtain ⟨g1, b1, hg1, ho1, hr1, e⟩ := hm
  rw [hH, T.bF] at hg1
  split at hg1
  ·rename_i e1; cases hg1; rw [e1] at hr1; exact absurd hr1 hnr
  ·have hlt := hg.lt _ _ hg1
   rw [aF.aX hu hlt] at hr1
   rw [hu.blk _ hlt] at e
   exact ⟨g1, b1, hg1, ho1, hr1, e⟩
theorem IE {g g1 g2 : G} {old nm sz n n' : Nat} {c c' : Cont} {u : Unit} (h1 : Io old g = .done u g1) (h2 : fD (.cells true sz n' c') g1 = .done nm g2) {μ : MM} {w w' : World} (hg : dP g.nx μ w.heap g.H)
  (hb : g.H.get old = some (.cells true sz n c)) (CB : 0 < n ∨ 0 < μ.cap old) (hos : w'.os = w.os) (htape : w'.tape = w.tape) (hout : w'.output = w.output) (hsize : w'.heap.size = w.heap.size)
  (hoth : ∀ B, B ≠ μ.blk old → w'.heap[B]? = w.heap[B]?) {cur : Array Value} {ty : TypeId} (hB : w'.heap[μ.blk old]? = some (.cells cur ty (0, 0))) (hcap : cur.size = μ.cap old * sz) (hn : n' * sz ≤ cur.size)
  (hrows : ∀ i, i < n' → fM g.nx μ (c'.row i) sz cur (i * sz)) :
  dP g2.nx (μ.set g.nx (μ.blk old) (μ.cap old) sz) w'.heap g2.H ∧ Ext g μ w g2 (μ.set g.nx (μ.blk old) (μ.cap old) sz) w' := by
 obtain ⟨hH1, hnx1, _⟩ := zx h1
 obtain ⟨_, hH, hnx, _⟩ := iH h2
 rw [hnx1] at hH hnx
 have hu : MM.upto g.nx μ (μ.set g.nx (μ.blk old) (μ.cap old) sz) := MM.qJ μ (Nat.le_refl _)
 have hs : ∀ k b, g1.H.get k = some b → g.H.get k = some b ∧ k ≠ old := fun k b hk => by
  rw [hH1, T.bF] at hk
  split at hk
  ·cases hk
  ·exact ⟨hk, by assumption⟩
 have hpos : 0 < sz := (hg.ok _ _ hb).2.1
 have F8 : (aF.cells true sz n c).real μ old := by
  rcases CB with h | h
  ·exact .inl h
  ·exact .inr ⟨rfl, h⟩
 have hdis : ∀ k b, g1.H.get k = some b → b.real μ k → μ.blk k ≠ μ.blk old := fun k b hk hr e =>
  (hs k b hk).2 (hg.sep _ _ _ _ hb (hs k b hk).1 rfl F8 hr e.symm).symm
 have hg1 : dP g.nx μ w.heap g1.H := hg.sub fun k b hk => (hs k b hk).1
 constructor
 ·rw [hH, hnx]
  refine hg1.upd hu (by omega) (by omega) ?_ ?_ ?_ (fun b o q => ⟨q, fun p1 _ => have hne : b ≠ μ.blk old := fun e => (hg.fz b o q).2 (by rw [e]; exact May.of hb rfl F8); ⟨by rw [hoth b hne]; exact p1, fun bk _ _ _ e => hne (by rw [MM.dn] at e; exact e.symm)⟩⟩)
  ·rintro _ ⟨⟩
   refine ⟨MM.Ce .., hpos, fun _ => ⟨cur, ty, (0, 0), by rw [MM.dn]; exact hB, by rw [MM.fH, Nat.zero_add]; exact hn, fun _ => ⟨rfl, by rw [MM.ji]; exact hcap, MM.fH ..⟩, fun i hi => by rw [MM.fH, Nat.zero_add]; exact (hrows i hi).later hu (by omega)⟩⟩
  ·intro k b hk _ hr
   exact hoth _ (hdis k b hk hr)
  ·rintro _ ⟨⟩ _ k b hk _ hr _ e
   rw [MM.dn] at e
   exact hdis k b hk hr e.symm
 ·refine ⟨by omega, hu, hos, htape, hout, by rw [hsize]; exact Nat.le_refl _, fun B hB' hnm => hoth B fun e => hnm ?_, fun B hB' hm => ?_, fun _ _ q => .inl q⟩
  ·rw [e]; exact May.of hb rfl F8
  ·obtain ⟨k, b, hk, ho, hr, e⟩ := hm
   rw [hH, T.bF] at hk
   split at hk
   ·rename_i e1
    rw [e1, MM.dn] at e
    rw [← e]; exact May.of hb rfl F8
   ·have hlt := hg1.lt _ _ hk
    rw [aF.aX hu hlt] at hr
    rw [hu.blk _ hlt] at e
    exact ⟨k, b, (hs k b hk).1, ho, hr, e⟩
theorem nS {P : Program} {t e : TypeId} {i : TypeInfo} (ht : P.underlying t = some (.slice e)) (hi : P.info? e = some i) (ty : TypeId) (w : World) (A B : Option Addr) (n C D : Nat) (hC : n ≤ C) :
  (Builtin.append_ #[t, t] ty #[.slice A n C, .slice B 0 D]).run P w = .ok (.slice A n C) w := by
 have hf : (Builtin.firstCells i.size 0 (.slice B 0 D)).run P w = .ok #[] w := by
  cases B with
  | none => simp [Builtin.firstCells]
  | some b => simp [Builtin.firstCells, loadCells, loadCellsFrom]
 cases A with
 | none => simp [Builtin.append_, run_underlying ht, sizeOf, typeInfo, hi, Builtin.lenOf, hC, hf]
 | some a => simp [Builtin.append_, run_underlying ht, sizeOf, typeInfo, hi, Builtin.lenOf, hC, hf, storeCells]
theorem vZ {N : Nat} {μ : MM} {dA len m : Nat} {olds news : List Value} {ro rn c' : Nat → List AV} {tail : Array Value} (hlo : olds.length = len * dA)
  (ho : ∀ j, j < len → fM N μ (ro j) dA olds.toArray (j * dA)) (hn : ∀ j, j < m → fM N μ (rn j) dA news.toArray (j * dA))
  (hc : ∀ j, j < len + m → c' j = if j < len then ro j else rn (j - len)) (j : Nat) (hj : j < len + m) : fM N μ (c' j) dA (olds.toArray ++ news.toArray ++ tail) (j * dA) := by
 rw [hc j hj]
 split
 ·rename_i h
  obtain ⟨rl, rc⟩ := ho j h
  refine ⟨rl, fun o v hv => ?_⟩
  obtain ⟨h0, c1, h1, h2⟩ := rc o v hv
  refine ⟨h0, c1, ?_, h2⟩
  have hlt := (Array.getElem?_eq_some_iff.1 h1).1
  rw [Array.append_assoc, Array.getElem?_append_left hlt]; exact h1
 ·rename_i h
  obtain ⟨rl, rc⟩ := hn (j - len) (by omega)
  refine ⟨rl, fun o v hv => ?_⟩
  obtain ⟨h0, c1, h1, h2⟩ := rc o v hv
  refine ⟨h0, c1, ?_, h2⟩
  have hlt := (Array.getElem?_eq_some_iff.1 h1).1
  have e : j * dA + o = len * dA + ((j - len) * dA + o) := by
   rw [← Nat.add_assoc, ← Nat.add_mul]; congr 2; omega
  rw [Array.append_assoc, e, Array.getElem?_append_right (by simp; omega)]
  have e2 : len * dA + ((j - len) * dA + o) - olds.toArray.size = (j - len) * dA + o := by simp [hlo]
  rw [e2, Array.getElem?_append_left hlt]; exact h1
end Go.Sx
namespace Go.Sx
open M
theorem run_append_fits {P : Program} {w : World} {t ty e : TypeId} {i : TypeInfo} (ht : P.underlying t = some (.slice e)) (hi : P.info? e = some i)
  {g sLen sCap : Nat} {cur : Array Value} {ty' : TypeId} (hg : w.heap[g]? = some (.cells cur ty' (0, 0)))
  {a : Addr} {m c : Nat} {news : List Value} (hl : news.length = m * i.size) (hnews : ∀ (j : Nat) u, news[j]? = some u → w.cell? (a.add j) = some u) (h1 : ∀ u ∈ news, u.oneCell' = true)
  (hroom : sLen + m ≤ sCap) (hfit : sLen * i.size + news.length ≤ cur.size) :
  (Builtin.append_ #[t, t] ty #[.slice (some ⟨g, 0, none⟩) sLen sCap, .slice (some a) m c]).run P w =
   .ok (.slice (some ⟨g, 0, none⟩) (sLen + m) sCap) (w.setRow g (cur.toList.take (sLen * i.size) ++ news ++ cur.toList.drop (sLen * i.size + news.length)).toArray) := by
 have hf := run_firstCells_some (P := P) w i.size m a m c news hl hnews
 have hst := run_storeCells_at P g (sLen * i.size) ty' news 0 cur w hg (by simpa using hfit) h1
 simp only [Nat.add_zero] at hst
 simp [Builtin.append_, run_underlying ht, sizeOf, typeInfo, hi, Builtin.lenOf, hroom, hf, Addr.add_lit, hst]
theorem VB {N : Nat} {μ : MM} {w : World} {nm : Nat} {own : Bool} {sz n len : Nat} {c : Cont} (hb : bY N μ w.heap nm (.cells own sz n c)) (hown : own = true) (hlen : len ≤ n) :
  ∃ olds : List Value, olds.length = len * sz ∧ (∀ (j : Nat) v, olds[j]? = some v → w.cell? ((⟨μ.blk nm, 0, none⟩ : Addr).add j) = some v) ∧ ∀ j, j < len → fM N μ (c.row j) sz olds.toArray (j * sz) := by
 obtain ⟨_, _, hcur⟩ := hb
 rcases Nat.eq_zero_or_pos len with rfl | hpos
 ·exact ⟨[], by simp, fun j v h => by simp at h, fun j hj => absurd hj (by omega)⟩
 ·obtain ⟨cur, ty, fz, hB, hfit, hfz, hrows⟩ := hcur (.inl (by omega))
  obtain ⟨_, _, hb0⟩ := hfz hown
  simp only [hb0, Nat.zero_add] at hfit hrows
  have hls : len * sz ≤ n * sz := Nat.mul_le_mul_right _ hlen
  refine ⟨cur.toList.take (len * sz), by simp; omega, fun j v hv => ?_, fun j hj => ?_⟩
  ·rw [Addr.add_lit, cell_of hB]
   rw [List.getElem?_take] at hv
   split at hv
   ·simpa using hv
   ·cases hv
  ·obtain ⟨rl, rc⟩ := hrows j (by omega)
   refine ⟨rl, fun o v hv => ?_⟩
   obtain ⟨h0, c', h1, h2⟩ := rc o v hv
   have ho : o < sz := by have := (List.getElem?_eq_some_iff.1 hv).1; omega
   have := jY hj (Nat.le_refl (len * sz))
   refine ⟨h0, c', ?_, h2⟩
   rw [List.getElem?_toArray, List.getElem?_take, if_pos (by omega)]
   simpa using h1
theorem CG {src : Nat → List AV} {s : Bool} {len m : Nat} {c : Cont} (j : Nat) (hj : j < len + m) :
  (bif s then Cont.fn (fun j => bif decide (j < len) then Rk c len j else (bif Nat.beq m 1 then src 0 else src (j - len))) else Cont.more src len m c).row j = if j < len then c.row j else src (j - len) := by
 cases s with
 | true =>
  simp only [cond_true]
  show (bif decide (j < len) then Rk c len j else (bif Nat.beq m 1 then src 0 else src (j - len))) = _
  by_cases h : j < len
  ·rw [decide_eq_true h, cond_true, if_pos h, Vx c h]
  ·simp only [decide_eq_false h, cond_false, if_neg h]
   cases hm : Nat.beq m 1 with
   | true =>
    have := Nat.eq_of_beq_eq_true hm
    rw [cond_true, show j - len = 0 by omega]
   | false => rfl
 | false =>
  simp only [cond_false, Cont.xP]
  by_cases h : j < len
  ·rw [if_neg (by omega), if_pos h]
  ·rw [if_pos (by omega), if_neg h]
theorem Ey {P : Program} {t u ty : TypeId} {x y v : AV} {g g' : G} (h : qZ P t u x y g = .done v g') :
  (g'.cs → g.cs) ∧ (g'.cs → ∀ μ w cx cy, dP g.nx μ w.heap g.H → Rep g.nx μ x cx → Rep g.nx μ y cy → Gives g μ w g' v ((Builtin.append_ #[t, u] ty #[cx, cy]).run P w)) := by
 unfold qZ at h
 obtain ⟨e, g1, a1, h1⟩ := au h
 obtain ⟨ht, rfl⟩ := aI a1
 obtain ⟨_, g2, a2, h2⟩ := au h1
 obtain ⟨htu, rfl⟩ := aS a2
 obtain rfl := Nat.eq_of_beq_eq_true htu
 obtain ⟨z, g3, a3, h3⟩ := au h2
 obtain ⟨hz, rfl⟩ := aI a3
 obtain ⟨i, zv, hi, hzv, hby, hsz, hpos, hzl, hone, hzr⟩ := ou hz
 have ht' := dI ht
 obtain ⟨⟨ss, m, r⟩, g4, a4, h4⟩ := au h3
 obtain ⟨p, k4, hsrc⟩ := uh a4 hpos
 simp only at h4 hsrc
 split at h4
 ·-- onto nil
  cases hz0 : (!ss && Nat.beq m 0) with
  | true =>
   rw [hz0, cond_true] at h4
   obtain ⟨rfl, rfl⟩ := aB h4
   simp only [Bool.and_eq_true, Bool.not_eq_true', Bool.not_eq_true] at hz0
   obtain rfl : m = 0 := Nat.eq_of_beq_eq_true hz0.2
   refine ⟨fun hc => (k4.2.2 hc).1, fun hc μ w cx cy hg hx hy => ?_⟩
   obtain ⟨B, C, rfl, _⟩ := hsrc (k4.2.2 hc).2 g.nx μ w cy hg hy
   simp only [Rep] at hx
   subst hx
   rw [nS ht' hi ty w none B 0 0 C (Nat.le_refl _)]
   exact Gives.gV k4 hg (by simp [Rep])
  | false =>
  rw [hz0, cond_false] at h4
  obtain ⟨_, g5, a5, h5⟩ := au h4
  have k5 := k4.trans (dB a5)
  obtain ⟨nm, g6, a6, h6⟩ := au h5
  obtain ⟨rfl, rfl⟩ := aB h6
  obtain ⟨hnm, hH, hnx, hcs⟩ := iH a6
  have hk := Keep.F7 k5 hcs
  refine ⟨fun hc => (hk hc).1, fun hc μ w cx cy hg hx hy => ?_⟩
  obtain ⟨hp, hb48, afv⟩ := (hk hc).2
  obtain ⟨B, C, rfl, hnews⟩ := hsrc hp g.nx μ w cy hg hy
  simp only [Rep] at hx
  subst hx
  have hg5 : dP g5.nx μ w.heap g5.H := by rw [k5.1, k5.2.1]; exact hg
  rcases Nat.eq_zero_or_pos m with rfl | hm
  ·obtain ⟨hg', he⟩ := Cm a6 hg5 hpos 0
   refine ⟨_, w, _, nS ht' hi ty w none B 0 0 C (Nat.le_refl _), ?_, hg', Ext.oq k5 he⟩
   simp only [Rep]
   exact ⟨by omega, none, 0, rfl, Nat.le_refl _, fun h0 => absurd h0 (by omega), (fun hs => by rw [hs] at hz0; simp at hz0), fun _ => ⟨rfl, rfl, .inl ⟨rfl, rfl, rfl⟩⟩⟩
  ·obtain ⟨ad, news, rfl, hnl, hcell, h1c, hrow⟩ := hnews hm
   have hrun := run_append_nil (P := P) w t ty e i zv ht' hi hzv ad m C news (by rw [hsz]; exact hnl) hcell hm (by omega) (by rw [hby]; omega)
   have hge := grownCap_ge w m 0 e
   obtain ⟨hg', he⟩ := vk a6 hg5 hpos (w' := w.drew.alloc (.cells (news.toArray ++ Builtin.zeroCells zv.cells (grownCap w m 0 e - m)) e)) (.drew _ _) (grownCap w m 0 e) (by
    simp only [Array.size_append, List.size_toArray, size_zeroCells, hnl, hzl, ← Nat.add_mul]; congr 1; omega) hge (by
    intro j hj
    have := vZ (N := g.nx) (μ := μ) (dA := z.1.length) (len := 0) (m := m) (olds := []) (news := news) (ro := fun _ => []) (rn := r)
     (c' := (bif ss then Cont.fn r else Cont.more r 0 m (.lit [] .e)).row) (tail := Builtin.zeroCells zv.cells (grownCap w m 0 e - m)) (by simp) (fun j hj => absurd hj (by omega)) hrow
     (fun j hj => by
      rw [if_neg (by omega), Nat.sub_zero]
      cases ss with
      | true => rfl
      | false => simp only [cond_false, Cont.xP]; rw [if_pos (by omega), Nat.sub_zero]) j (by omega)
    rw [k5.2.1]
    simpa using this)
   refine ⟨_, _, _, hrun, ?_, hg', Ext.oq k5 he⟩
   simp only [Rep]
   refine ⟨by omega, _, _, rfl, hge, fun _ => ?_, fun _ => rfl, fun _ => ⟨rfl, rfl, .inr ⟨?_, ?_⟩⟩⟩
   ·rw [hnm]; simp [MM.addr, MM.fH, MM.dn]
   ·rw [hnm, MM.dn]
   ·rw [hnm, MM.ji]
 ·-- onto a slice of the call's own
  rename_i s own a len
  obtain ⟨⟨bo, sz, n, c⟩, g5, a5, h5⟩ := au h4
  obtain ⟨hb, rfl⟩ := eu a5
  simp only at h5 hb
  obtain ⟨_, g6, a6, h6⟩ := au h5
  obtain ⟨hq, rfl⟩ := aS a6
  simp only [Bool.and_eq_true] at hq
  obtain ⟨⟨rfl, rfl⟩, afw⟩ := hq
  obtain rfl := Nat.eq_of_beq_eq_true afw
  obtain ⟨_, g7, a7, h7⟩ := au h6
  have k7 := k4.trans (dB a7)
  obtain ⟨_, g8, a8, h8⟩ := au h7
  obtain ⟨nm, g9, a9, h9⟩ := au h8
  obtain ⟨rfl, rfl⟩ := aB h9
  obtain ⟨hnm, hH, hnx, hcs⟩ := iH a9
  obtain ⟨hH8, PO, afx⟩ := zx a8
  have hk := Keep.F7 k7 (hcs.trans afx)
  refine ⟨fun hc => (hk hc).1, fun hc μ w cx cy hg hx hy => ?_⟩
  obtain ⟨hp, hlen, hb48, afv⟩ := (hk hc).2
  obtain ⟨B, D, rfl, hnews⟩ := hsrc hp g.nx μ w cy hg hy
  have hg7 : dP g7.nx μ w.heap g7.H := by rw [k7.1, k7.2.1]; exact hg
  have hb7 : g7.H.get a.g = some (.cells true z.1.length n c) := by rw [k7.1, ← k4.1]; exact hb
  obtain ⟨hg8, he8⟩ := VA a8 hg7
  simp only [Rep] at hx
  obtain ⟨hag, A, C, rfl, hlC, hA, hnn, hown⟩ := hx
  obtain ⟨hai, hao, hAC⟩ := hown rfl
  obtain ⟨olds, hol, hoc, acI⟩ := VB (hg7.ok _ _ hb7) rfl hlen
  have acJ : g8.nx = g.nx := PO.trans k7.2.1
  have hrows : ∀ (news : List Value) (tail : Array Value), (∀ j, j < m → fM g.nx μ (r j) z.1.length news.toArray (j * z.1.length)) → ∀ j, j < len + m →
    fM g.nx μ ((bif s || ss then Cont.fn (fun j => bif decide (j < len) then Rk c len j else (bif Nat.beq m 1 then r 0 else r (j - len))) else Cont.more r len m c).row j) z.1.length (olds.toArray ++ news.toArray ++ tail) (j * z.1.length) :=
   fun news tail hr j hj => vZ hol (by rw [← k7.2.1]; exact acI) hr (fun j hj => CG j hj) j hj
  rcases Nat.eq_zero_or_pos m with rfl | hm
  ·have hrun := nS (P := P) ht' hi ty w A B len C D hlC
   simp only [Nat.add_zero] at *
   by_cases CB : 0 < n ∨ 0 < μ.cap a.g
   ·-- the block goes on
    obtain ⟨_, _, hcur⟩ := hg7.ok _ _ hb7
    obtain ⟨cur, ty', fz, hB, hfit, hfz, hro⟩ := hcur (CB.imp id fun h => ⟨rfl, h⟩)
    obtain ⟨rfl, hcap, hb0⟩ := hfz rfl
    simp only [hb0, Nat.zero_add] at hfit hro
    have hls : len * z.1.length ≤ n * z.1.length := Nat.mul_le_mul_right _ hlen
    obtain ⟨hg', he⟩ := IE a8 a9 hg7 hb7 CB (w' := w) rfl rfl rfl rfl (fun _ _ => rfl) hB hcap (by omega) (by
     intro j hj
     have e := CG (src := r) (s := s || ss) (len := len) (m := 0) (c := c) j (by omega)
     rw [if_pos hj] at e
     rw [e]; exact hro j (by omega))
    refine ⟨_, _, _, hrun, ?_, hg', Ext.oq k7 he⟩
    simp only [Rep]
    refine ⟨by omega, A, C, rfl, hlC, fun h0 => ?_, fun hs => hnn (by simpa using (Bool.or_eq_false_iff.1 hs).1), fun _ => ⟨rfl, rfl, ?_⟩⟩
    ·rw [hA h0, hnm, PO]; simp [MM.addr, MM.fH, MM.dn, hai, hao]
    ·rw [hnm, PO, MM.dn, MM.ji]; exact hAC
   ·-- there was none
    obtain rfl : n = 0 := by omega
    obtain rfl : len = 0 := by omega
    obtain ⟨hg', he⟩ := Cm a9 hg8 hpos (μ.blk a.g)
    refine ⟨_, _, _, hrun, ?_, hg', Ext.oq k7 (he8.trans he)⟩
    simp only [Rep]
    refine ⟨by omega, A, C, rfl, hlC, fun h0 => absurd h0 (by omega), fun hs => hnn (Bool.or_eq_false_iff.1 hs).1, fun _ => ⟨rfl, rfl, ?_⟩⟩
    rw [hnm, MM.dn, MM.ji]
    rcases hAC with hq | ⟨hq, hq2⟩
    ·exact .inl hq
    ·exact .inr ⟨hq, by omega⟩
  ·obtain ⟨ad, news, rfl, hnl, hcell, h1c, hrow⟩ := hnews hm
   rcases hAC with ⟨rfl, rfl, rfl⟩ | ⟨rfl, rfl⟩
   ·-- nil
    have hrun := run_append_nil (P := P) w t ty e i zv ht' hi hzv ad m D news (by rw [hsz]; exact hnl) hcell hm (by omega) (by rw [hby]; simp only [Nat.zero_add] at hb48; omega)
    have hge := grownCap_ge w m 0 e
    obtain rfl : olds = [] := List.eq_nil_of_length_eq_zero (by simpa using hol)
    obtain ⟨hg', he⟩ := vk a9 hg8 hpos (w' := w.drew.alloc (.cells (news.toArray ++ Builtin.zeroCells zv.cells (grownCap w m 0 e - m)) e)) (.drew _ _) (grownCap w m 0 e) (by
     simp only [Array.size_append, List.size_toArray, size_zeroCells, hnl, hzl, ← Nat.add_mul]; congr 1; omega) (by omega) (by
     intro j hj
     rw [acJ]
     have := hrows news (Builtin.zeroCells zv.cells (grownCap w m 0 e - m)) hrow j hj
     simpa using this)
    refine ⟨_, _, _, hrun, ?_, hg', Ext.oq k7 (he8.trans he)⟩
    simp only [Rep]
    refine ⟨by omega, _, _, by rw [Nat.zero_add], by omega, fun _ => ?_, fun _ => rfl, fun _ => ⟨rfl, rfl, .inr ⟨?_, ?_⟩⟩⟩
    ·rw [hnm]; simp [MM.addr, MM.fH, MM.dn]
    ·rw [hnm, MM.dn]
    ·rw [hnm, MM.ji]
   ·by_cases hroom : len + m ≤ μ.cap a.g
    ·-- there is room
     have CB : 0 < n ∨ 0 < μ.cap a.g := .inr (by omega)
     obtain ⟨_, _, hcur⟩ := hg7.ok _ _ hb7
     obtain ⟨cur, ty', fz, hB, hfit, hfz, hro⟩ := hcur (CB.imp id fun h => ⟨rfl, h⟩)
     obtain ⟨rfl, hcap, hb0⟩ := hfz rfl
     simp only [hb0, Nat.zero_add] at hfit hro
     have hlm : (len + m) * z.1.length ≤ μ.cap a.g * z.1.length := Nat.mul_le_mul_right _ hroom
     rw [Nat.add_mul] at hlm
     have Nw : len * z.1.length + news.length ≤ cur.toList.length := by rw [hnl, Array.length_toList, hcap]; exact hlm
     have hrun := run_append_fits (P := P) (ty := ty) (c := D) ht' hi hB (by rw [hsz]; exact hnl) hcell h1c hroom (by rw [hsz]; simpa using Nw)
     rw [hsz] at hrun
     have hget := fun p => rD cur.toList (len * z.1.length) news Nw p
     obtain ⟨hg', he⟩ := IE a8 a9 hg7 hb7 CB (w' := w.setRow (μ.blk a.g) (cur.toList.take (len * z.1.length) ++ news ++ cur.toList.drop (len * z.1.length + news.length)).toArray) rfl rfl rfl (by simp)
      (fun B hne => setRow_other w _ _ _ hne) (setRow_heap w _ cur _ ty' _ hB) (by rw [← hcap]; simp at Nw ⊢; omega) (by rw [Nat.add_mul]; simp at Nw ⊢; omega) (by
      intro j hj
      rw [CG j hj]
      split
      ·rename_i hjl
       obtain ⟨rl, rc⟩ := hro j (by omega)
       refine ⟨rl, fun o v hv => ?_⟩
       obtain ⟨h0, c', h1, h2⟩ := rc o v hv
       have ho : o < z.1.length := by have := (List.getElem?_eq_some_iff.1 hv).1; omega
       have := jY hjl (Nat.le_refl (len * z.1.length))
       refine ⟨h0, c', ?_, h2⟩
       rw [List.getElem?_toArray, hget, if_pos (by omega)]
       simpa using h1
      ·rename_i hjl
       obtain ⟨rl, rc⟩ := hrow (j - len) (by omega)
       refine ⟨rl, fun o v hv => ?_⟩
       obtain ⟨h0, c', h1, h2⟩ := rc o v hv
       have hlt : (j - len) * z.1.length + o < news.length := by have := (Array.getElem?_eq_some_iff.1 h1).1; simpa using this
       have e3 : j * z.1.length + o = len * z.1.length + ((j - len) * z.1.length + o) := by
        rw [← Nat.add_assoc, ← Nat.add_mul]; congr 2; omega
       refine ⟨h0, c', ?_, by rw [k7.2.1]; exact h2⟩
       rw [List.getElem?_toArray, e3, hget, if_neg (by omega), if_pos (by omega), Nat.add_sub_cancel_left]
       simpa using h1)
     refine ⟨_, _, _, hrun, ?_, hg', Ext.oq k7 he⟩
     simp only [Rep]
     refine ⟨by omega, _, _, rfl, hroom, fun _ => ?_, fun _ => rfl, fun _ => ⟨rfl, rfl, .inr ⟨?_, ?_⟩⟩⟩
     ·rw [hnm, PO]; simp [MM.addr, MM.fH, MM.dn]
     ·rw [hnm, PO, MM.dn]
     ·rw [hnm, PO, MM.ji]
    ·-- it grows
     have hrun := run_append_grow (P := P) w t ty e i zv ht' hi hzv ⟨μ.blk a.g, 0, none⟩ len (μ.cap a.g) olds (by rw [hsz]; exact hol) hoc ad m D news (by rw [hsz]; exact hnl) hcell (by omega) (by omega)
      (growslice_fits (by omega) (by rw [hby]; exact hb48))
     have hge := grownCap_ge w (len + m) (μ.cap a.g) e
     obtain ⟨hg', he⟩ := vk a9 hg8 hpos (w' := w.drew.alloc (.cells (olds.toArray ++ news.toArray ++ Builtin.zeroCells zv.cells (grownCap w (len + m) (μ.cap a.g) e - (len + m))) e)) (.drew _ _) (grownCap w (len + m) (μ.cap a.g) e) (by
      simp only [Array.size_append, List.size_toArray, size_zeroCells, hnl, hol, hzl, ← Nat.add_mul]; congr 1; omega) hge (by
      intro j hj
      rw [acJ]
      exact hrows news _ hrow j hj)
     refine ⟨_, _, _, hrun, ?_, hg', Ext.oq k7 (he8.trans he)⟩
     simp only [Rep]
     refine ⟨by omega, _, _, rfl, hge, fun _ => ?_, fun _ => rfl, fun _ => ⟨rfl, rfl, .inr ⟨?_, ?_⟩⟩⟩
     ·rw [hnm]; simp [MM.addr, MM.fH, MM.dn]
     ·rw [hnm, MM.dn]
     ·rw [hnm, MM.ji]
 ·cases h4
theorem VD (a b : Nat) : Rl a b = Nat.min a b := by
 unfold Rl
 cases h : Nat.ble a b with
 | true =>
  have := Nat.le_of_ble_eq_true h
  simp only [cond_true]; show a = min a b; omega
 | false =>
  have : ¬ a ≤ b := fun k => by rw [Nat.ble_eq_true_of_le k] at h; cases h
  simp only [cond_false]; show b = min a b; omega
theorem IG {P : Program} {t u ty : TypeId} {x y v : AV} {g g' : G} (h : BX P t x y g = .done v g') :
  (g'.cs → g.cs) ∧ (g'.cs → ∀ μ w cx cy, dP g.nx μ w.heap g.H → Rep g.nx μ x cx → Rep g.nx μ y cy → Gives g μ w g' v ((Builtin.copy_ #[t, u] ty #[cx, cy]).run P w)) := by
 unfold BX at h
 obtain ⟨e, g1, a1, h1⟩ := au h
 obtain ⟨ht, rfl⟩ := aI a1
 obtain ⟨z, g2, a2, h2⟩ := au h1
 obtain ⟨hz, rfl⟩ := aI a2
 obtain ⟨_, g3, a3, h3⟩ := au h2
 obtain ⟨hz1, rfl⟩ := aS a3
 have hz1 := Nat.eq_of_beq_eq_true hz1
 obtain ⟨i, zv, hi, hzv, hby, hsz, hpos, hzl, hone, hzr⟩ := ou hz
 have ht' := dI ht
 obtain ⟨⟨ss, m, r⟩, g4, a4, h4⟩ := au h3
 obtain ⟨p, k4, hsrc⟩ := uh a4 (by omega)
 simp only at h4 hsrc
 split at h4
 ·rename_i s own a len
  obtain ⟨⟨bo, sz, n, c⟩, g5, a5, h5⟩ := au h4
  obtain ⟨hb, rfl⟩ := eu a5
  simp only at h5 hb
  obtain ⟨_, g6, a6, h6⟩ := au h5
  obtain ⟨hq, rfl⟩ := aS a6
  simp only [Bool.and_eq_true] at hq
  obtain ⟨⟨rfl, hs1⟩, ho⟩ := hq
  obtain rfl := Nat.eq_of_beq_eq_true hs1
  have ho := Nat.eq_of_beq_eq_true ho
  obtain ⟨_, g7, a7, h7⟩ := au h6
  have k7 := k4.trans (dB a7)
  obtain ⟨_, g8, a8, h8⟩ := au h7
  obtain ⟨rfl, rfl⟩ := aB h8
  obtain ⟨hH, hnx, hcs⟩ := bM a8
  rw [VD] at hH ⊢
  have hk : g8.cs → g.cs ∧ (p ∧ a.i + len ≤ n) := fun hc => k7.2.2 (by rw [hcs] at hc; exact hc)
  refine ⟨fun hc => (hk hc).1, fun hc μ w cx cy hg hx hy => ?_⟩
  obtain ⟨_, hp, hin⟩ := hk hc
  obtain ⟨B, C, rfl, hnews⟩ := hsrc hp g.nx μ w cy hg hy
  have hb0 : g.H.get a.g = some (.cells true 1 n c) := by rw [← k4.1]; exact hb
  simp only [Rep] at hx
  obtain ⟨hag, A, D, rfl, hlD, hA, hnn, hown⟩ := hx
  have hrow : ∀ j, (bif s || a.s || ss then Cont.fn (fun j => bif decide (a.i ≤ j ∧ j < a.i + Nat.min m len) then r (j - a.i) else c.row j) else Cont.more r a.i (Nat.min m len) c).row j = if a.i ≤ j ∧ j < a.i + Nat.min m len then r (j - a.i) else c.row j := by
   intro j
   cases hss : (s || a.s || ss) with
   | true =>
    simp only [cond_true, Cont.row]
    by_cases hj : a.i ≤ j ∧ j < a.i + Nat.min m len
    ·rw [decide_eq_true hj, cond_true, if_pos hj]
    ·rw [decide_eq_false hj, cond_false, if_neg hj]
   | false => simp only [cond_false, Cont.xP]
  have acK : Nat.min m len ≤ m := Nat.min_le_left _ _
  have ag6 : Nat.min m len ≤ len := Nat.min_le_right _ _
  generalize hqd : Nat.min m len = q at *
  obtain ⟨YW, Yb, hcur⟩ := hg.ok _ _ hb0
  have hval : Rep g8.nx μ (AV.int (s || ss) .i64 ((q : Nat) : Int)) (goInt (q)) := by simp [Rep, goInt]
  rcases Nat.eq_zero_or_pos (q) with h0 | hpm
  ·-- nothing is copied
   have hrun : (Builtin.copy_ #[t, u] ty #[.slice A len D, .slice B m C]).run P w = .ok (goInt (q)) w := by
    have hq : P.info? e = some i := hi
    have hz : m.min len = 0 := hqd.trans h0
    rw [h0]
    cases A <;> cases B <;> simp [Builtin.copy_, run_underlying ht', Builtin.lenOf, Builtin.firstCells, sizeOf, typeInfo, hq, loadCells, storeCells] <;> rw [hz] <;> simp [loadCellsFrom, storeCells]
   refine ⟨_, w, μ, hrun, hval, ?_, ?_⟩
   ·rw [hH, hnx, k7.2.1, k7.1]
    refine hg.upd (.refl _ _) (Nat.le_refl _) (hg.lt _ _ hb0) ?_ (fun _ _ _ _ _ => rfl) ?_ (fun b o q => ⟨q, fun p1 p2 => ⟨p1, fun bk e1 _ e3 e4 => by cases e1; exact p2 (by rw [← e4]; exact May.of hb0 rfl e3)⟩⟩)
    ·rintro _ ⟨⟩
     refine ⟨YW, Yb, fun hr => ?_⟩
     obtain ⟨cur, ty', fz, hB, hfit, hfz, hrows⟩ := hcur hr
     refine ⟨cur, ty', fz, hB, hfit, hfz, fun j hj => ?_⟩
     rw [hrow, if_neg (by omega)]
     exact hrows j hj
    ·rintro _ ⟨⟩ hr1 g1 b1 hg1 hne hr2 _ e
     exact hne (hg.sep _ _ _ _ hb0 hg1 rfl hr1 hr2 e).symm
   ·refine ⟨by rw [hnx, k7.2.1]; exact Nat.le_refl _, .refl _ _, rfl, rfl, rfl, Nat.le_refl _, fun _ _ _ => rfl, fun B hB hm => ?_, fun _ _ q => .inl q⟩
    obtain ⟨g1, b1, hg1, ho1, hr1, rfl⟩ := hm
    rw [hH, T.bF, k7.1] at hg1
    split at hg1
    ·rename_i e; rw [e]; cases hg1; rw [e] at hr1; exact May.of hb0 rfl hr1
    ·exact May.of hg1 ho1 hr1
  ·obtain ⟨ad, news, rfl, hnl, hcell, h1c, hrn⟩ := hnews (by omega)
   obtain ⟨cur, ty', fz, hB, hfit, hownd, hrows⟩ := hcur (.inl (by omega))
   obtain ⟨rfl, hcap, hbase⟩ := hownd rfl
   simp only [hbase, Nat.zero_add, Nat.mul_one] at hfit hrows
   simp only [Nat.mul_one] at hnl hrn hcap
   obtain rfl : A = some ⟨μ.blk a.g, a.i, none⟩ := by
    rw [hA (by omega)]; unfold MM.addr; rw [YW, hbase, ho]; simp
   have hcl : (news.take (q)).length = q := by rw [List.length_take, hnl]; exact Nat.min_eq_left acK
   have hrun := run_copy_row P w t u ty e (μ.blk a.g) a.i len D ad m C cur ty' (news.take (q)) ht' (by rw [hi]; simp [hsz, hz1]) hB (hcl.trans hqd.symm)
    (fun j v hv => hcell j v (by rw [List.getElem?_take] at hv; split at hv; exact hv; cases hv)) (by omega) (fun v hv => h1c v (List.mem_of_mem_take hv))
   rw [hcl] at hrun
   have hgc := fun k => rD cur.toList a.i (news.take (q)) (by simp only [Array.length_toList]; omega) k
   rw [hcl] at hgc
   refine ⟨_, _, μ, hrun, hval, ?_, ?_⟩
   ·rw [hH, hnx, k7.2.1, k7.1]
    refine hg.upd (.refl _ _) (Nat.le_refl _) (hg.lt _ _ hb0) ?_ ?_ ?_ (FZ hb0 rfl (.inl (by omega)) fun B hne => setRow_other w _ _ _ hne)
    ·rintro _ ⟨⟩
     refine ⟨YW, Yb, fun _ => ⟨_, ty', (0, 0), setRow_heap w _ cur _ ty' _ hB, ?_, fun _ => ⟨rfl, ?_, hbase⟩, fun j hj => ?_⟩⟩
     ·rw [hbase]; simp; omega
     ·simp; omega
     ·rw [hrow, hbase, Nat.zero_add, Nat.mul_one]
      split
      ·rename_i hj2
       obtain ⟨rl, rc⟩ := hrn (j - a.i) (by omega)
       refine ⟨rl, fun o x hx => ?_⟩
       obtain ⟨q0, c', q1, q2⟩ := rc o x hx
       have ho' : o < 1 := by have := (List.getElem?_eq_some_iff.1 hx).1; omega
       obtain rfl : o = 0 := by omega
       refine ⟨q0, c', ?_, q2⟩
       rw [List.getElem?_toArray, hgc, if_neg (by omega), if_pos (by omega)]
       rw [List.getElem?_take, if_pos (by omega)]
       rw [← q1]; simp [List.getElem?_toArray]
      ·rename_i hj2
       obtain ⟨rl, rc⟩ := hrows j hj
       refine ⟨rl, fun o x hx => ?_⟩
       obtain ⟨q0, c', q1, q2⟩ := rc o x hx
       have ho' : o < 1 := by have := (List.getElem?_eq_some_iff.1 hx).1; omega
       obtain rfl : o = 0 := by omega
       refine ⟨q0, c', ?_, q2⟩
       rw [List.getElem?_toArray, hgc]
       by_cases hj3 : j < a.i
       ·rw [if_pos (by omega)]; simpa using q1
       ·rw [if_neg (by omega), if_neg (by omega)]; simpa using q1
    ·intro g1 b1 hg1 hne hr1
     refine setRow_other w _ _ _ fun e => hne ?_
     exact (hg.sep _ _ _ _ hb0 hg1 rfl (.inl (by omega)) hr1 e.symm).symm
    ·rintro _ ⟨⟩ hr1 g1 b1 hg1 hne hr2 _ e
     exact hne (hg.sep _ _ _ _ hb0 hg1 rfl (.inl (by omega)) hr2 e).symm
   ·refine ⟨by rw [hnx, k7.2.1]; exact Nat.le_refl _, .refl _ _, rfl, rfl, rfl, by simp, fun B _ hnm => setRow_other w _ _ _ fun e => hnm ?_, fun B hB hm => ?_, fun _ _ q => .inl q⟩
    ·rw [e]; exact May.of hb0 rfl (.inl (by omega))
    ·obtain ⟨g1, b1, hg1, ho1, hr1, rfl⟩ := hm
     rw [hH, T.bF, k7.1] at hg1
     split at hg1
     ·rename_i e; rw [e]; exact May.of hb0 rfl (.inl (by omega))
     ·exact May.of hg1 ho1 hr1
 ·exact (bC h4).elim
end Go.Sx
namespace Go.Sx
open M
theorem foldl_set (off : Nat) : ∀ (l : List Value) (k : Nat) (cs : Array Value), off + k + l.length ≤ cs.size →
  ((l.zipIdx k).foldl (fun cs p => cs.setIfInBounds (off + p.2) p.1) cs).toList = cs.toList.take (off + k) ++ l ++ cs.toList.drop (off + k + l.length)
 | [], k, cs, _ => by simp
 | v :: l, k, cs, h => by
  simp only [List.length_cons] at h
  simp only [List.zipIdx_cons, List.foldl_cons]
  rw [foldl_set off l (k + 1) (cs.setIfInBounds (off + k) v) (by simp; omega)]
  have e := list_seg_step cs.toList (off + k) v l (by simp; omega)
  simpa [Array.toList_setIfInBounds, Nat.add_assoc] using e
theorem F9 {N : Nat} {μ : MM} {place : Nat → Option (Nat × Nat)} : ∀ {ps : List (Nat × AV)} {qs : List (Nat × Value)} {cells : List AV} {cs : Array Value} {r : List AV},
  BU place cells ps = some r → aO N μ cells cs.toList → ps.map (·.1) = qs.map (·.1) → (∀ (i : Nat) (p : Nat × AV) (q : Nat × Value), ps[i]? = some p → qs[i]? = some q → Rep N μ p.2 q.2) →
  (∀ p ∈ ps, p.2.cells.all AV.one = true) →
  ∃ out, Instr.fill place cs qs = some out ∧ aO N μ r out.toList
 | [], [], cells, cs, r, h, hr, _, _, _ => by cases h; exact ⟨cs, rfl, hr⟩
 | [], _ :: _, _, _, _, _, _, hk, _, _ => by simp at hk
 | _ :: _, [], _, _, _, _, _, hk, _, _ => by simp at hk
 | (i, v) :: ps, (i', v') :: qs, cells, cs, r, h, hr, hk, hp, ho => by
  simp only [List.map_cons, List.cons.injEq] at hk
  obtain ⟨rfl, hk⟩ := hk
  unfold BU at h
  unfold Instr.fill
  cases hpl : place i with
  | none => rw [hpl] at h; cases h
  | some y =>
   obtain ⟨off, size⟩ := y
   rw [hpl] at h
   simp only at h ⊢
   cases hq : (Nat.beq v.cells.length size && decide (off + size ≤ cells.length)) with
   | false => rw [hq] at h; cases h
   | true =>
    rw [hq, cond_true] at h
    simp only [Bool.and_eq_true, decide_eq_true_eq] at hq
    have hl := Nat.eq_of_beq_eq_true hq.1
    have hv := (hp 0 (i, v) (i, v') rfl rfl).cells (ho (i, v) (by simp))
    have hvl : v'.cells.size = size := by rw [← hl, ← hv.1.length, Array.length_toList]
    have hcl : cs.size = cells.length := by rw [← hr.length, Array.length_toList]
    have hbad : (v'.cells.size ≠ size || decide (off + v'.cells.size > cs.size)) = false := by
     simp [hvl, hcl]; omega
    simp only [hbad, Bool.false_eq_true, if_false]
    have hf : (v'.cells.zipIdx.foldl (fun cs x => match x with | (c, j) => cs.setIfInBounds (off + j) c) cs).toList = cs.toList.take off ++ v'.cells.toList ++ cs.toList.drop (off + v'.cells.toList.length) := by
     have := foldl_set off v'.cells.toList 0 cs (by simp; omega)
     rw [← Array.foldl_toList, Array.toList_zipIdx]
     simpa using this
    refine F9 h ?_ hk (fun j p q h1 h2 => hp (j + 1) p q (by simpa using h1) (by simpa using h2)) fun p hm => ho p (by simp [hm])
    rw [hf]
    unfold splice
    have e : v.cells.length = v'.cells.toList.length := hv.1.length.symm
    rw [e]
    exact ((hr.take off).append hv.1).append (hr.drop _)
theorem wo {P : Program} : ∀ {fs : List Field} {ps : List (Nat × Nat)}, placesOf P fs = some ps → fs.mapM (fun f => (P.info? f.type).map fun i => (f.offset, i.size)) = some ps
 | [], ps, h => by cases h; rfl
 | f :: fs, ps, h => by
  unfold placesOf at h
  split at h
  ·rename_i y r hy hr
   cases h
   obtain ⟨i, d, hi, _, e, _⟩ := iI hy
   simp [List.mapM_cons, hi, wo hr, e]
  ·cases h
def vw (N : Nat) (μ : MM) (ps : List (Nat × AV)) (qs : List (Nat × Value)) : Prop :=
 ps.map (·.1) = qs.map (·.1) ∧ ∀ (i : Nat) (p : Nat × AV) (q : Nat × Value), ps[i]? = some p → qs[i]? = some q → Rep N μ p.2 q.2
theorem Gf (u : Value) : (Sx.jQ u).cells = [Sx.jQ u] := by
 unfold Sx.jQ
 split <;> first | rfl | skip
 ·rename_i b
  by_cases h : b < 18446744073709551616 <;> simp [h, AV.cells]
 ·rename_i a b
  by_cases h : a < 18446744073709551616 ∧ b < 18446744073709551616
  ·rw [decide_eq_true h]; rfl
  ·rw [decide_eq_false h]; rfl
theorem Rep.II (N : Nat) (μ : MM) (u : Value) : aO N μ (Sx.lX u).cells u.cells.toList := by
 have h1 : ∀ {x : AV} {c : Value}, Rep N μ x c → aO N μ [x] [c] := fun hr => by simp only [aO]; exact ⟨_, [], rfl, hr, rfl⟩
 have hs : ∀ u : Value, Sx.lX u = Sx.jQ u → u.cells = #[u] → aO N μ (Sx.lX u).cells u.cells.toList := fun u e1 e2 => by
  rw [e1, e2, Gf]; exact h1 (Rep.jQ N μ u)
 cases u with
 | agg cs =>
  have hrep := Rep.lX N μ (.agg cs)
  simp only [Sx.lX, Rep] at hrep
  obtain ⟨cs', e, hr⟩ := hrep
  cases e; exact hr
 | tuple cs => exact h1 (Rep.lX N μ (.tuple cs))
 | _ => exact hs _ rfl rfl
theorem Gg {P : Program} {t : TypeId} {ps : List (Nat × AV)} {v : AV} {g g' : G} (h : wR P t ps g = .done v g') :
  g = g' ∧ ∀ N μ w (qs : Array (Nat × Value)), vw N μ ps qs.toList → ∃ c, (Instr.build t qs).run P w = .ok c w ∧ Rep N μ v c := by
 unfold wR at h
 obtain ⟨_, g1, a1, h1⟩ := au h
 obtain ⟨hone, rfl⟩ := aS a1
 obtain ⟨z, g2, a2, h2⟩ := au h1
 obtain ⟨hz, rfl⟩ := aI a2
 obtain ⟨it, zv, hit, hzv, rfl⟩ := pV hz
 have hall : ∀ p ∈ ps, p.2.cells.all AV.one = true := List.all_eq_true.1 hone
 obtain ⟨place, g3, a3, h3⟩ := au h2
 obtain ⟨hpl, rfl⟩ := aI a3
 obtain ⟨cs, g4, a4, h4⟩ := au h3
 obtain ⟨hcs, rfl⟩ := aI a4
 obtain ⟨rfl, rfl⟩ := aB h4
 refine ⟨rfl, fun N μ w qs hq => ?_⟩
 obtain ⟨out, ho, hr⟩ := F9 hcs (Rep.II N μ zv) hq.1 hq.2 hall
 refine ⟨.agg out, run_build w t qs out ?_, by simp only [Rep]; exact ⟨out, rfl, hr⟩⟩
 unfold placeOf at hpl
 split at hpl
 ·rename_i fs hfs
  cases hps : placesOf P fs.toList with
  | none => rw [hps] at hpl; cases hpl
  | some pl =>
   rw [hps] at hpl; cases hpl
   unfold Program.built
   simp only [hit, hfs, hzv, wo hps]
   simpa using ho
 ·rename_i n e hfs
  cases hy : lay P e with
  | none => rw [hy] at hpl; cases hpl
  | some y =>
   rw [hy] at hpl; cases hpl
   obtain ⟨ie, d, hie, _, e1, _⟩ := iI hy
   unfold Program.built
   simp only [hit, hfs, hzv, hie, e1]
   exact ho
 ·cases hpl
theorem ng (z : List AV) : ∀ n, (tV z n).length = n * z.length
 | 0 => by simp [tV]
 | n + 1 => by simp [tV, ng z n, Nat.add_mul]; omega
theorem CJ (z : List AV) (hz : 0 < z.length) : ∀ n p, p < n * z.length → (tV z n)[p]? = z[p % z.length]?
 | 0, p, h => by simp at h
 | n + 1, p, h => by
  simp only [tV]
  by_cases hp : p < z.length
  ·rw [List.getElem?_append_left hp, Nat.mod_eq_of_lt hp]
  ·rw [List.getElem?_append_right (by omega), CJ z hz n (p - z.length) (by rw [Nat.add_mul] at h; omega), ← Nat.mod_eq_sub_mod (by omega)]
theorem IJ (sz : Nat) : ∀ (n : Nat) (l : List AV) (t : T (List AV)) (i j : Nat), (chop sz n l t i).get j = if i ≤ j ∧ j < i + n then some ((l.drop ((j - i) * sz)).take sz) else t.get j
 | 0, l, t, i, j => by simp only [chop]; rw [if_neg (by omega)]
 | n + 1, l, t, i, j => by
  simp only [chop]
  rw [IJ sz n, T.bF]
  by_cases h : j = i
  ·subst h; rw [if_neg (by omega), if_pos rfl, if_pos (by omega)]; simp
  ·rw [if_neg h]
   by_cases h2 : i + 1 ≤ j ∧ j < i + 1 + n
   ·rw [if_pos h2, if_pos (by omega), List.drop_drop]
    have e : (j - i) * sz = sz + (j - (i + 1)) * sz := by
     rw [Nat.add_comm, ← Nat.succ_mul]; congr 1; omega
    rw [e]
   ·rw [if_neg h2, if_neg (by omega)]
theorem xR {P : Program} {t : TypeId} {len : Nat} {ps : List (Nat × AV)} {v : AV} {g g' : G} (h : jq P t len ps g = .done v g') :
  (g'.cs → g.cs) ∧ ∀ μ w (qs : Array (Nat × Value)), dP g.nx μ w.heap g.H → vw g.nx μ ps qs.toList → Gives g μ w g' v ((Instr.buildSlice t len qs).run P w) := by
 unfold jq at h
 obtain ⟨e, g1, a1, h1⟩ := au h
 obtain ⟨ht, rfl⟩ := aI a1
 obtain ⟨z, g2, a2, h2⟩ := au h1
 obtain ⟨hz, rfl⟩ := aI a2
 obtain ⟨i, zv, hi, hzv, hby, hsz, hpos, hzl, hone, hzr⟩ := ou hz
 obtain ⟨_, g3, a3, h3⟩ := au h2
 obtain ⟨hq, rfl⟩ := aS a3
 simp only [Bool.and_eq_true, decide_eq_true_eq] at hq
 obtain ⟨h24, hall⟩ := hq
 obtain ⟨cs, g4, a4, h4⟩ := au h3
 obtain ⟨hcs, rfl⟩ := aI a4
 obtain ⟨_, g5, a5, h5⟩ := au h4
 obtain ⟨acL, rfl⟩ := aS a5
 obtain ⟨nm, g6, a6, h6⟩ := au h5
 obtain ⟨rfl, rfl⟩ := aB h6
 obtain ⟨hnm, hH, hnx, hcs'⟩ := iH a6
 refine ⟨fun hc => by rw [hcs'] at hc; exact hc, fun μ w qs hg hp => ?_⟩
 have acM : aO g.nx μ (tV z.1 len) (madeCells zv.cells (len * z.1.length)).toList := by
  refine .Cc (by simp [madeCells, ng]) fun p x hx => ?_
  have hpl : p < len * z.1.length := by have := (List.getElem?_eq_some_iff.1 hx).1; rwa [ng] at this
  rw [CJ z.1 hpos len p hpl] at hx
  obtain ⟨c', h1, h2⟩ := (hzr g.nx μ).get hx
  refine ⟨c', ?_, h2⟩
  have h1' : zv.cells[p % z.1.length]? = some c' := by simpa using h1
  rw [Array.getElem?_toList]
  simp only [madeCells, Array.getElem?_map, Array.getElem?_range, hpl, if_true, Option.map_some, hzl]
  rw [getElem!_def, h1']
 obtain ⟨out, ho, hr⟩ := F9 hcs acM hp.1 hp.2 (List.all_eq_true.1 hall)
 have hcl : cs.length = out.size := by rw [← hr.length, Array.length_toList]
 have hfl : ∀ {place : Nat → Option (Nat × Nat)} {qs : List (Nat × AV)} {a b : List AV}, BU place a qs = some b → b.length = a.length := by
  intro place qs
  induction qs with
  | nil => intro a b h; cases h; rfl
  | cons q qs ih =>
   intro a b h
   unfold BU at h
   split at h
   ·cases h
   ·rename_i off size _
    cases hq : (Nat.beq q.2.cells.length size && decide (off + size ≤ a.length)) with
    | false => simp only [hq, cond_false] at h; cases h
    | true =>
     simp only [hq, cond_true] at h
     simp only [Bool.and_eq_true, decide_eq_true_eq] at hq
     have := Nat.eq_of_beq_eq_true hq.1
     rw [ih h, qF _ _ _ (by omega)]
 have hcs2 : cs.length = len * z.1.length := by rw [hfl hcs, ng]
 obtain ⟨hg', he⟩ := vk a6 hg hpos (w' := w.alloc (.cells out e (0, 0))) (.alloc _ _) len (by omega) (Nat.le_refl _) (by
  intro j hj
  have hje := jY hj (Nat.le_refl (len * z.1.length))
  have hrow : (Cont.lit z.1 (chop z.1.length len cs T.e 0)).row j = (cs.drop (j * z.1.length)).take z.1.length := by
   simp only [Cont.row, IJ]
   rw [if_pos (by omega), Nat.sub_zero]; rfl
  rw [hrow]
  refine ⟨by simp; omega, fun o x hx => ?_⟩
  rw [List.getElem?_take] at hx
  split at hx
  ·rw [List.getElem?_drop] at hx
   obtain ⟨c', h1, h2⟩ := hr.get hx
   exact ⟨List.all_eq_true.1 acL _ (List.mem_of_getElem? hx), c', by simpa using h1, h2⟩
  ·cases hx)
 refine ⟨.slice (some ⟨w.heap.size, 0, none⟩) len len, w.alloc (.cells out e (0, 0)), _, ?_, ?_, hg', he⟩
 ·have n1 : ¬ (16777216 < len * i.size) := by rw [hsz]; omega
  by_cases hz0 : len * i.size = 0
  ·have hm : (madeCells zv.cells (len * z.1.length)) = #[] := by rw [← hsz, hz0]; exact Array.eq_empty_of_size_eq_zero (size_madeCells _ _)
   rw [hm] at ho
   have ho' : Instr.fill (fun x => some (x * i.size, i.size)) #[] qs.toList = some out := by rw [hsz]; exact ho
   simp [Instr.buildSlice, run_underlying (dI ht), run_sizeOf hi, n1, hz0, Array.range_zero', ho', newRow, newObj, Sem.run, World.alloc_eq]
  ·have ho' : Instr.fill (fun x => some (x * i.size, i.size)) (Array.map (fun x => zv.cells[x % zv.cells.size]!) (Array.range (len * i.size))) qs.toList = some out := by rw [hsz]; exact ho
   simp [Instr.buildSlice, run_underlying (dI ht), run_sizeOf hi, n1, hz0, zeroValue, typeInfo, hi, hzv, ho', newRow, newObj, Sem.run, World.alloc_eq]
 ·simp only [Rep]
  refine ⟨by omega, _, _, rfl, Nat.le_refl _, fun _ => ?_, fun _ => rfl, fun _ => ⟨rfl, rfl, .inr ⟨?_, ?_⟩⟩⟩
  ·rw [hnm]; simp [MM.addr, MM.fH, MM.dn]
  ·rw [hnm, MM.dn]
  ·rw [hnm, MM.ji]
end Go.Sx
namespace Go.Sx
open M
theorem wu {P : Program} {op : BinOp} (hop : uS op = true) (w : World) {x y a b : Nat} (ha : FB x a) (hb : FB y b) : ∃ r n, (Op.floatArith op .f64 a b).run P w = .ok (.float .f64 r) { w with drawn := n } ∧ FB (Bg op x y) r := by
 obtain ⟨r, n, h1, h2⟩ := BL (P := P) w hop a b
 refine ⟨r, n, h1, by rw [h2, ha.1, hb.1], ?_⟩
 -- the bits fit: a valid result by the kit's law, a NaN by its making
 cases hf : floatBits op .f64 a b with
 | some r' =>
  have := run_floatArith (P := P) w hf
  rw [this] at h1
  simp only [Result.ok.injEq, Value.float.injEq, true_and] at h1
  obtain ⟨rfl, _⟩ := h1
  have hw := floatBits_wf hf
  simpa [Lit.wf] using hw
 | none =>
  have : ∃ n', (Op.floatArith op .f64 a b).run P w = .ok (.float .f64 (Question.cut (.nanBits .f64 a b) (w.tape w.drawn (.nanBits .f64 a b)))) { w with drawn := n' } := by
   refine ⟨w.drawn + 1, ?_⟩
   unfold floatBits at hf
   cases op <;> simp only [uS, Bool.false_eq_true] at hop <;> simp only at hf <;> simp [Op.floatArith, hf, Question.forced, choose, Sem.run]
  obtain ⟨n', h3⟩ := this
  rw [h3] at h1
  simp only [Result.ok.injEq, Value.float.injEq, true_and] at h1
  obtain ⟨rfl, _⟩ := h1
  simp only [Question.cut]
  omega
theorem je {x y a b : Nat} (ha : FB x a) (hb : FB y b) : FloatKind.f64.format.order a b = kJ x y := by
 rw [← ha.1, ← hb.1]; exact (Rh a b).symm
theorem Gh {P : Program} {s : Bool} {op : BinOp} {x y : Nat} {g g' : G} {v : AV} {t : TypeId} (h : qW s op x y g = .done v g') :
  g = g' ∧ ∀ N μ (w : World) a b, FB x a → FB y b → ∃ c n, (binOp op t (.float .f64 a) (.float .f64 b)).run P w = .ok c { w with drawn := n } ∧ Rep N μ v c := by
 have arith : ∀ {op : BinOp}, uS op = true → ∀ N μ (w : World) a b, FB x a → FB y b → ∃ c n, (Op.floatArith op .f64 a b).run P w = .ok c { w with drawn := n } ∧ Rep N μ (.flt s (Bg op x y)) c := by
  intro op hop N μ w a b ha hb
  obtain ⟨r, n, h1, h2⟩ := wu (P := P) hop w ha hb
  exact ⟨_, n, h1, by simp only [Rep]; exact ⟨r, rfl, h2⟩⟩
 have cmp : ∀ {op : BinOp} {q : Nat → Nat → Bool}, (∀ a b, FB x a → FB y b → (binOp op t (.float .f64 a) (.float .f64 b)) = pure (.bool (q x y))) → ∀ N μ (w : World) a b, FB x a → FB y b →
   ∃ c n, (binOp op t (.float .f64 a) (.float .f64 b)).run P w = .ok c { w with drawn := n } ∧ Rep N μ (dZ s (q x y)) c := by
  intro op q hq N μ w a b ha hb
  refine ⟨_, w.drawn, by rw [hq a b ha hb]; rfl, ?_⟩
  cases s <;> simp [dZ, Rep]
 unfold qW at h
 cases op <;> first | exact (bC h).elim | skip
 all_goals obtain ⟨rfl, rfl⟩ := aB h
 all_goals refine ⟨rfl, ?_⟩
 ·intro N μ w a b ha hb; simpa [binOp, Bg] using arith (op := .add) rfl N μ w a b ha hb
 ·intro N μ w a b ha hb; simpa [binOp, Bg] using arith (op := .sub) rfl N μ w a b ha hb
 ·intro N μ w a b ha hb; simpa [binOp, Bg] using arith (op := .mul) rfl N μ w a b ha hb
 ·intro N μ w a b ha hb; simpa [binOp, Bg] using arith (op := .quo) rfl N μ w a b ha hb
 ·exact cmp (q := H7) fun a b ha hb => by rw [binOp_float_cmp_eql, je ha hb]; rfl
 ·exact cmp (q := fun x y => !H7 x y) fun a b ha hb => by rw [binOp_float_cmp_neq, je ha hb]; rfl
 ·exact cmp (q := Sx.flt) fun a b ha hb => by rw [binOp_float_cmp_lss, je ha hb]; rfl
 ·exact cmp (q := Va) fun a b ha hb => by rw [binOp_float_cmp_leq, je ha hb]; rfl
 ·exact cmp (q := fgt) fun a b ha hb => by rw [binOp_float_cmp_gtr, je ha hb]; rfl
 ·exact cmp (q := fge) fun a b ha hb => by rw [binOp_float_cmp_geq, je ha hb]; rfl
theorem ni {P : Program} {op : BinOp} (hop : uS op = true) (w : World) {x y a b : Nat} (ha : FB x a) (hb : FB y b) : ∃ r n, (Op.Complex.arith op .f64 a b).run P w = .ok r { w with drawn := n } ∧ FB (Bg op x y) r := by
 obtain ⟨r, n, h1, h2⟩ := wu (P := P) hop w ha hb
 exact ⟨r, n, by simp [Op.Complex.arith, h1], h2⟩
theorem xU {P : Program} (w : World) {x y a b : Nat} (ha : FB x a) (hb : FB y b) : (Op.Complex.cmp .eql .f64 a b).run P w = .ok (H7 x y) w := by
 simp [Op.Complex.cmp, Op.floatCmp, asBool, je ha hb, H7]
theorem Gi {P : Program} {s : Bool} {op : BinOp} {x y z u : Nat} {g g' : G} {v : AV} {t : TypeId} (h : wK s op x y z u g = .done v g') :
  g = g' ∧ ∀ N μ (w : World) a b c d, FB x a → FB y b → FB z c → FB u d → ∃ r n, (binOp op t (.complex .f64 a b) (.complex .f64 c d)).run P w = .ok r { w with drawn := n } ∧ Rep N μ v r := by
 unfold wK at h
 cases op <;> first | exact (bC h).elim | skip
 all_goals obtain ⟨rfl, rfl⟩ := aB h
 all_goals refine ⟨rfl, fun N μ w a b c d ha hb hc hd => ?_⟩
 ·obtain ⟨r1, n1, h1, f1⟩ := ni (P := P) (op := .add) rfl w ha hc
  obtain ⟨r2, n2, h2, f2⟩ := ni (P := P) (op := .add) rfl { w with drawn := n1 } hb hd
  exact ⟨.complex .f64 r1 r2, n2, by simp [binOp, Op.complexOp, h1, h2], by simp only [Rep]; exact ⟨r1, r2, rfl, f1, f2⟩⟩
 ·obtain ⟨r1, n1, h1, f1⟩ := ni (P := P) (op := .sub) rfl w ha hc
  obtain ⟨r2, n2, h2, f2⟩ := ni (P := P) (op := .sub) rfl { w with drawn := n1 } hb hd
  exact ⟨.complex .f64 r1 r2, n2, by simp [binOp, Op.complexOp, h1, h2], by simp only [Rep]; exact ⟨r1, r2, rfl, f1, f2⟩⟩
 ·refine ⟨.bool (H7 x z && H7 y u), w.drawn, ?_, by cases s <;> simp [dZ, Rep]⟩
  cases h1 : H7 x z <;> simp [binOp, Op.complexOp, xU w ha hc, xU w hb hd, h1]
 ·refine ⟨.bool (!(H7 x z && H7 y u)), w.drawn, ?_, by cases s <;> simp [dZ, Rep]⟩
  cases h1 : H7 x z <;> simp [binOp, Op.complexOp, xU w ha hc, xU w hb hd, h1]
theorem jI {s : Bool} {k : IntKind} {r : Int} {g g' : G} {v : AV} (h : lD s k r g = .done v g') : ∃ p, Keep g g' p ∧ (p → ∀ N μ, Rep N μ v (.int k (k.wrap r))) := by
 unfold lD at h
 cases hq : (s && xK k) with
 | true =>
  rw [hq, cond_true] at h
  obtain ⟨_, g1, a1, h1⟩ := au h
  obtain ⟨rfl, rfl⟩ := aB h1
  refine ⟨_, iZ a1, fun hp N μ => ?_⟩
  rw [Bool.and_eq_true] at hq
  have hk : k = .i64 := by cases k <;> simp [xK] at hq; rfl
  subst hk
  have e : IntKind.i64.wrap r = r := by rw [IntKind.wrap_i64]; omega
  simp only [Rep, e]
 | false =>
  rw [hq, cond_false] at h
  obtain ⟨rfl, rfl⟩ := aB h
  exact ⟨_, Keep.refl _, fun _ N μ => by simp only [Rep]⟩
theorem Rep.dZ (N : Nat) (μ : MM) (s b : Bool) : Rep N μ (dZ s b) (.bool b) := by cases s <;> simp [Sx.dZ, Rep]
theorem lG {P : Program} {s : Bool} {k : IntKind} {op : BinOp} {a b : Int} {g g' : G} {v : AV} {t : TypeId} (h : jo s k op a b g = .done v g') :
  ∃ p, Keep g g' p ∧ (p → ∀ N μ (w : World), ∃ c, (binOp op t (.int k a) (.int k b)).run P w = .ok c w ∧ Rep N μ v c) := by
 unfold jo at h
 cases op <;> simp only at h <;> first | exact (bC h).elim | skip
 ·obtain ⟨p, k1, h1⟩ := jI h
  exact ⟨p, k1, fun hp N μ w => ⟨_, by simp [binOp, Op.intArith], h1 hp N μ⟩⟩
 ·obtain ⟨p, k1, h1⟩ := jI h
  exact ⟨p, k1, fun hp N μ w => ⟨_, by simp [binOp, Op.intArith], h1 hp N μ⟩⟩
 ·obtain ⟨p, k1, h1⟩ := jI h
  exact ⟨p, k1, fun hp N μ w => ⟨_, by simp [binOp, Op.intArith], h1 hp N μ⟩⟩
 ·obtain ⟨_, g1, a1, h1⟩ := au h
  obtain ⟨p, k1, h2⟩ := jI h1
  exact ⟨_, (dB a1).trans k1, fun hp N μ w => ⟨_, by simp [binOp, Op.intDiv, hp.1], h2 hp.2 N μ⟩⟩
 ·obtain ⟨_, g1, a1, h1⟩ := au h
  obtain ⟨rfl, rfl⟩ := aB h1
  exact ⟨_, dB a1, fun hp N μ w => ⟨.int k (a.tmod b), by simp [binOp, Op.intDiv, hp], by simp only [Rep]⟩⟩
 all_goals obtain ⟨rfl, rfl⟩ := aB h
 all_goals refine ⟨_, Keep.refl _, fun _ N μ w => ?_⟩
 ·exact ⟨.int k (tJ .and k a b), by simp only [binOp, ne_eq, not_true_eq_false, if_false]; rfl, by simp only [Rep]⟩
 ·exact ⟨.int k (tJ .or k a b), by simp only [binOp, ne_eq, not_true_eq_false, if_false]; rfl, by simp only [Rep]⟩
 ·exact ⟨.int k (tJ .xor k a b), by simp only [binOp, ne_eq, not_true_eq_false, if_false]; rfl, by simp only [Rep]⟩
 ·exact ⟨.int k (tJ .andNot k a b), by simp only [binOp, ne_eq, not_true_eq_false, if_false]; rfl, by simp only [Rep]⟩
 ·exact ⟨.bool (a == b), by simp [binOp, Op.intCmp], .dZ ..⟩
 ·exact ⟨.bool (a != b), by simp [binOp, Op.intCmp], .dZ ..⟩
 ·exact ⟨_, by simp only [binOp, ne_eq, not_true_eq_false, if_false]; rfl, .dZ ..⟩
 ·exact ⟨_, by simp only [binOp, ne_eq, not_true_eq_false, if_false]; rfl, .dZ ..⟩
 ·exact ⟨_, by simp only [binOp, ne_eq, not_true_eq_false, if_false]; rfl, .dZ ..⟩
 ·exact ⟨_, by simp only [binOp, ne_eq, not_true_eq_false, if_false]; rfl, .dZ ..⟩
theorem rE {P : Program} {s : Bool} {k k' : IntKind} {op : BinOp} {a b : Int} {g g' : G} {v : AV} {t : TypeId} (h : oL s k op a b g = .done v g') :
  ∃ p, Keep g g' p ∧ (p → ∀ N μ (w : World), ∃ c, (binOp op t (.int k a) (.int k' b)).run P w = .ok c w ∧ Rep N μ v c) := by
 unfold oL at h
 obtain ⟨_, g1, a1, h1⟩ := au h
 have k1 := dB a1
 cases op <;> simp only at h1 <;> first | exact (bC h1).elim | skip
 ·obtain ⟨p, k2, h2⟩ := jI h1
  refine ⟨_, k1.trans k2, fun hp N μ w => ⟨_, ?_, h2 hp.2 N μ⟩⟩
  have : ¬ b < 0 := by omega
  simp [binOp, Op.shift, this]
 ·obtain ⟨rfl, rfl⟩ := aB h1
  refine ⟨_, k1, fun hp N μ w => ⟨.int k (a.fdiv (2 ^ min b.toNat k.bits)), ?_, by simp only [Rep]⟩⟩
  have : ¬ b < 0 := by omega
  simp [binOp, Op.shift, this]
end Go.Sx
namespace Go.Sx
open M
theorem qK (l : List UInt8) : (⟨l.toArray⟩ : ByteArray).toList = l := by rw [ByteArray.toList_eq]
theorem rF (l : List UInt8) : (⟨l.toArray⟩ : ByteArray).size = l.length := by simp [ByteArray.size]
theorem PS (a b : List UInt8) : (⟨a.toArray⟩ ++ ⟨b.toArray⟩ : ByteArray) = ⟨(a ++ b).toArray⟩ := by
 apply ByteArray.ext
 rw [ByteArray.data_append]
 simp
theorem Gj {P : Program} {s : Bool} {op : BinOp} {a b : List UInt8} {g g' : G} {v : AV} {t : TypeId} (h : wL s op a b g = .done v g') :
  ∃ p, Keep g g' p ∧ (p → ∀ N μ (w : World), ∃ c, (binOp op t (.string ⟨a.toArray⟩) (.string ⟨b.toArray⟩)).run P w = .ok c w ∧ Rep N μ v c) := by
 unfold wL at h
 cases op <;> simp only at h <;> first | exact (bC h).elim | skip
 ·obtain ⟨_, g1, a1, h1⟩ := au h
  obtain ⟨rfl, rfl⟩ := aB h1
  refine ⟨_, dB a1, fun hp N μ w => ⟨.string ⟨(a ++ b).toArray⟩, ?_, by simp only [Rep]⟩⟩
  have : ¬ (9223372036854775807 < (a.length : Int) + (b.length : Int)) := by omega
  simp [binOp, Op.stringOp, rF, PS, IntKind.max, IntKind.bits, IntKind.signed, this]
 all_goals obtain ⟨rfl, rfl⟩ := aB h
 all_goals refine ⟨_, Keep.refl _, fun _ N μ w => ?_⟩
 ·exact ⟨.bool (a == b), by simp [binOp, Op.stringOp, qK], .dZ ..⟩
 ·exact ⟨.bool (!(a == b)), by simp [binOp, Op.stringOp, qK], .dZ ..⟩
 ·exact ⟨.bool (Op.bytesLess a b), by simp [binOp, Op.stringOp, qK], .dZ ..⟩
theorem oz {P : Program} {t : TypeId} (h : uX P t = true) : P.underlying t = some .bool := by
 unfold uX at h; split at h <;> first | assumption | cases h
theorem uj {P : Program} {t : TypeId} (h : BP P t = true) : ∃ e, P.underlying t = some (.pointer e) := by
 unfold BP at h; split at h <;> first | exact ⟨_, by assumption⟩ | cases h
theorem rG {P : Program} {t : TypeId} (h : xM P t = true) : ∃ a b c, P.underlying t = some (.func a b c) := by
 unfold xM at h; split at h <;> first | exact ⟨_, _, _, by assumption⟩ | cases h
theorem oC {P : Program} {s a b : Bool} {op : BinOp} {g g' : G} {v : AV} {t : TypeId} (ht : P.underlying t = some .bool) (h : qC op s a b g = .done v g') :
  g = g' ∧ ∀ N μ (w : World), ∃ c, (binOp op t (.bool a) (.bool b)).run P w = .ok c w ∧ Rep N μ v c := by
 unfold qC at h
 cases op <;> simp only at h <;> first | exact (bC h).elim | skip
 all_goals obtain ⟨rfl, rfl⟩ := aB h
 all_goals refine ⟨rfl, fun N μ w => ?_⟩
 all_goals have he : (Op.equal t (.bool a) (.bool b)).run P w = .ok (a == b) w := run_equalIn_bool' w 9999 t a b ht
 ·refine ⟨.bool (a == b), ?_, .dZ ..⟩
  show (do pure (.bool (← Op.equal t (.bool a) (.bool b))) : Sem Value).run P w = _
  simp [he]
 ·refine ⟨.bool (!(a == b)), ?_, .dZ ..⟩
  show (do pure (.bool (!(← Op.equal t (.bool a) (.bool b)))) : Sem Value).run P w = _
  simp [he]
theorem gW {P : Program} {b : Bool} {op : BinOp} {g g' : G} {v : AV} {t : TypeId} {x y : Value} (hx : ∀ w : World, (Op.equal t x y).run P w = .ok b w)
  (hs : binOp .eql t x y = (do pure (.bool (← Op.equal t x y))) ∧ binOp .neq t x y = (do pure (.bool (!(← Op.equal t x y))))) (h : oM op b g = .done v g') :
  g = g' ∧ ∀ N μ (w : World), ∃ c, (binOp op t x y).run P w = .ok c w ∧ Rep N μ v c := by
 unfold oM at h
 cases op <;> simp only at h <;> first | exact (bC h).elim | skip
 all_goals obtain ⟨rfl, rfl⟩ := aB h
 all_goals refine ⟨rfl, fun N μ w => ?_⟩
 ·exact ⟨.bool b, by rw [hs.1]; simp [hx], by simp only [Rep]⟩
 ·exact ⟨.bool !b, by rw [hs.2]; simp [hx], by simp only [Rep]⟩
theorem Gl {P : Program} {d : TypeDesc} {ty : TypeId} (hd : P.underlying ty = some d) {v v' : AV} {x : Bool × Bool} (h : KT d v v' = some x) {N : Nat} {μ : MM} {c c' : Value} (hv : Rep N μ v c) (hv' : Rep N μ v' c') (k : Nat) (w : World) :
  (Op.equalIn (k + 1) ty c c').run P w = .ok x.2 w ∧ v.one = true ∧ qB d = false := by
 unfold KT at h
 split at h
 ·rename_i s k1 a s' k2 b
  by_cases hk : k1 = k2
  ·subst hk
   simp only [decide_true, cond_true, Option.some.injEq] at h
   subst h
   simp only [Rep] at hv hv'
   subst hv hv'
   refine ⟨?_, rfl, rfl⟩
   rw [run_equalIn_int w k ty k1 _ a b hd]
   rfl
  ·simp [hk] at h
 ·cases h
  simp only [Rep] at hv hv'
  obtain ⟨a', rfl, ha⟩ := hv
  obtain ⟨b', rfl, hb⟩ := hv'
  refine ⟨?_, rfl, rfl⟩
  simp [Op.equalIn, run_underlying hd, Op.floatEq, je ha hb, H7]
 ·cases h
  simp only [Rep] at hv hv'
  subst hv hv'
  refine ⟨?_, rfl, rfl⟩
  rw [run_equalIn_string w k ty _ _ hd, qK, qK]
 ·cases h
  simp only [Rep] at hv hv'
  subst hv hv'
  exact ⟨run_equalIn_bool' w k ty _ _ hd, rfl, rfl⟩
 ·cases h
theorem CO {P : Program} {ty : TypeId} {d : TypeDesc} (hd : P.underlying ty = some d) (ha : qB d = false) {cs : Array Value} {o : Nat} {c : Value} (hc : cs[o]? = some c) (w : World) : (part ty cs o).run P w = .ok c w := by
 simp [part, vg hd, ha, hc]
theorem uo {P : Program} (k : Nat) (xs ys : Array Value) {N : Nat} {μ : MM} : ∀ {fs : List Field} {o : Nat} {l l' : List AV} {x : Bool × Bool}, oN P o fs l l' = some x →
  (∀ (i : Nat) v, l[i]? = some v → ∃ c, xs[o + i]? = some c ∧ Rep N μ v c) → (∀ (i : Nat) v, l'[i]? = some v → ∃ c, ys[o + i]? = some c ∧ Rep N μ v c) → ∀ w : World, (Op.eqFields (k + 1) xs ys fs).run P w = .ok x.2 w
 | [], o, l, l', x, h, _, _, w => by
  cases l <;> cases l' <;> simp [oN] at h
  subst h; rfl
 | f :: fs, o, [], l', x, h, _, _, w => by cases l' <;> simp [oN] at h
 | f :: fs, o, v :: l, [], x, h, _, _, w => by simp [oN] at h
 | f :: fs, o, v :: l, v' :: l', x, h, hx, hy, w => by
   unfold oN at h
   cases hq : (Nat.beq f.offset o && !(f.name == "_")) with
   | false => rw [hq] at h; cases h
   | true =>
    rw [hq, cond_true] at h
    simp only [Bool.and_eq_true, Bool.not_eq_true'] at hq
    have ho := Nat.eq_of_beq_eq_true hq.1
    have hn : f.name ≠ "_" := by
     intro e; rw [e] at hq; simp at hq
    split at h
    ·rename_i d hd
     split at h
     ·rename_i x1 x2 h1 h2
      cases h
      obtain ⟨c, hc, hr⟩ := hx 0 v rfl
      obtain ⟨c', hc', hr'⟩ := hy 0 v' rfl
      obtain ⟨he, _, hag⟩ := Gl hd h1 hr hr' k w
      have ih := uo k xs ys h2 (fun i u hu => by have := hx (i + 1) u (by simpa using hu); rwa [show o + (i + 1) = o + 1 + i by omega] at this)
       (fun i u hu => by have := hy (i + 1) u (by simpa using hu); rwa [show o + (i + 1) = o + 1 + i by omega] at this) w
      simp only [Nat.add_zero] at hc hc'
      unfold Op.eqFields
      simp only [ne_eq, hn, not_false_eq_true, if_true, Sem.run_bind, ho, CO hd hag hc, CO hd hag hc', Result.andThen_ok, he]
      cases x1.2
      ·simp
      ·simp [ih]
     ·cases h
    ·cases h
theorem CP {P : Program} {t : TypeId} {l l' : List AV} {x : Bool × Bool} (h : structEq P t l l' = some x) {N : Nat} {μ : MM} {xs ys : Array Value} (hx : aO N μ l xs.toList) (hy : aO N μ l' ys.toList) (w : World) :
  (Op.equalIn 10000 t (.agg xs) (.agg ys)).run P w = .ok x.2 w ∧ P.eqGuardType P.depth t = false := by
 unfold structEq at h
 split at h
 ·rename_i fs hfs
  cases hq : (!P.stoodInHeld t && !P.eqGuardType P.depth t) with
  | false => rw [hq] at h; cases h
  | true =>
   rw [hq, cond_true] at h
   simp only [Bool.and_eq_true, Bool.not_eq_true'] at hq
   have hf : P.fieldsOf t = fs := by simp [Program.fieldsOf, hfs]
   refine ⟨?_, hq.2⟩
   rw [run_equalIn_struct w 9999 t xs ys (by rw [hf]; exact hfs) hq.1, hf]
   exact uo 9998 xs ys h (fun i v hv => by simpa using hx.get hv) (fun i v hv => by simpa using hy.get hv) w
 ·cases h
theorem PU (b : Nat) : (b ^^^ 9223372036854775808) % 9223372036854775808 = b % 9223372036854775808 := by
 have := Nat.xor_mod_two_pow (a := b) (b := 9223372036854775808) (n := 63)
 simpa using this
theorem Ah (b : Nat) : isnan (b ^^^ 9223372036854775808) = isnan b := by simp only [isnan, PU]
theorem FB.neg {x b : Nat} (h : FB x b) : FB (PG x) (b ^^^ 9223372036854775808) := by
 obtain ⟨rfl, hb⟩ := h
 refine ⟨?_, Nat.xor_lt_two_pow (n := 64) (by simpa using hb) (by decide)⟩
 unfold PG
 cases hn : isnan b with
 | false => rw [kU hn]
 | true =>
  rw [iF hn, iF (by rw [Ah]; exact hn), iF (by rw [Ah]; exact dY)]
theorem Ai (b : Nat) : isnan (b % 9223372036854775808) = isnan b := by simp only [isnan, Nat.mod_mod]
theorem FB.abs {x b : Nat} (h : FB x b) : FB (fabs x) (b % 9223372036854775808) := by
 obtain ⟨rfl, hb⟩ := h
 refine ⟨?_, by omega⟩
 unfold fabs
 cases hn : isnan b with
 | false => rw [kU hn]
 | true =>
  rw [iF hn, iF (by rw [Ai]; exact hn), iF (by rw [Ai]; exact dY)]
theorem FB.fO {x b : Nat} (h : FB x b) (hn : isnan x = false) : b = x := by
 obtain ⟨rfl, _⟩ := h
 rw [Rf] at hn
 exact (kU hn).symm
theorem IK {b : Nat} (hb : b < 18446744073709551616) : tJ .xor .u64 b kF = ((b ^^^ 9223372036854775808 : Nat) : Int) := by
 have h2 : b ^^^ 9223372036854775808 < 18446744073709551616 := Nat.xor_lt_two_pow (n := 64) (by simpa using hb) (by decide)
 have e1 : BitVec.ofInt 64 (b : Int) = BitVec.ofNat 64 b := by simp
 have e2 : BitVec.ofInt 64 kF = BitVec.ofNat 64 9223372036854775808 := by decide
 show IntKind.u64.wrap ((BitVec.ofInt 64 (b : Int) ^^^ BitVec.ofInt 64 kF).toNat : Int) = _
 rw [e1, e2, BitVec.toNat_xor, BitVec.toNat_ofNat, BitVec.toNat_ofNat, Nat.mod_eq_of_lt (by simpa using hb), Nat.mod_eq_of_lt (by decide), IntKind.wrap_u64]
 omega
theorem CQ {b : Nat} (hb : b < 18446744073709551616) : tJ .andNot .u64 b kF = ((b % 9223372036854775808 : Nat) : Int) := by
 have e1 : BitVec.ofInt 64 (b : Int) = BitVec.ofNat 64 b := by simp
 have e2 : ~~~ BitVec.ofInt 64 kF = BitVec.ofNat 64 (2 ^ 63 - 1) := by decide
 show IntKind.u64.wrap ((BitVec.ofInt 64 (b : Int) &&& ~~~ BitVec.ofInt 64 kF).toNat : Int) = _
 rw [e1, e2, BitVec.toNat_and, BitVec.toNat_ofNat, BitVec.toNat_ofNat, Nat.mod_eq_of_lt (by simpa using hb), Nat.mod_eq_of_lt (by decide), IntKind.wrap_u64, Nat.and_two_pow_sub_one_eq_mod]
 omega
end Go.Sx
namespace Go.Sx
open M
theorem KZ {P : Program} {op : BinOp} {t : TypeId} {ox oy : Operand} {a b : Value} (h1 : a ≠ .nilIface) (h2 : ∀ xs, a ≠ .agg xs) (w : World) : (eqGuard op t ox oy a b).run P w = .ok () w := by
 unfold eqGuard
 cases op <;> first | rfl | skip
 all_goals cases a <;> first | exact absurd rfl h1 | exact absurd rfl (h2 _) | skip
 all_goals rfl
def PV (P : Program) (op : BinOp) (t : TypeId) (ox oy : Operand) (cx cy : Value) (N : Nat) (μ : MM) (w : World) (v : AV) : Prop :=
 ∃ c n, ((do eqGuard op t ox oy cx cy; binOp op t cx cy) : Sem Value).run P w = .ok c { w with drawn := n } ∧ Rep N μ v c
theorem PV.of {P : Program} {op : BinOp} {t : TypeId} {ox oy : Operand} {cx cy : Value} {N : Nat} {μ : MM} {w : World} {v : AV} (h1 : cx ≠ .nilIface) (h2 : ∀ xs, cx ≠ .agg xs)
  (h : ∃ c n, (binOp op t cx cy).run P w = .ok c { w with drawn := n } ∧ Rep N μ v c) : PV P op t ox oy cx cy N μ w v := by
 obtain ⟨c, n, hr, hv⟩ := h
 exact ⟨c, n, by simp only [Sem.run_bind, KZ h1 h2 w, Result.andThen_ok, hr], hv⟩
theorem PV.Es {P : Program} {op : BinOp} {t : TypeId} {ox oy : Operand} {cx cy : Value} {N : Nat} {μ : MM} {w : World} {v : AV} (h1 : cx ≠ .nilIface) (h2 : ∀ xs, cx ≠ .agg xs)
  (h : ∃ c, (binOp op t cx cy).run P w = .ok c w ∧ Rep N μ v c) : PV P op t ox oy cx cy N μ w v :=
 let ⟨c, hr, hv⟩ := h
 .of h1 h2 ⟨c, w.drawn, hr, hv⟩
theorem Ez {P : Program} {s : Bool} {op : BinOp} {x : Nat} {m : Int} {g g' : G} {v : AV} {t : TypeId} (h : qX s op x m g = .done v g') :
  ∃ p, Keep g g' p ∧ (p → ∀ N μ (w : World) (b : Nat), FB x b → ∃ c, (binOp op t (.int .u64 b) (.int .u64 m)).run P w = .ok c w ∧ Rep N μ v c) := by
 have plain : ∀ {op : BinOp} {g' : G} {v : AV}, ((ck s (isnan x = false)).andThen fun _ => jo s .u64 op x m) g = .done v g' →
   ∃ p, Keep g g' p ∧ (p → ∀ N μ (w : World) (b : Nat), FB x b → ∃ c, (binOp op t (.int .u64 b) (.int .u64 m)).run P w = .ok c w ∧ Rep N μ v c) := by
  intro op g' v h
  obtain ⟨_, g1, a1, h1⟩ := au h
  obtain ⟨p, k, h2⟩ := lG (P := P) (t := t) h1
  exact ⟨_, (dB a1).trans k, fun hp N μ w b hb => by rw [hb.fO hp.1]; exact h2 hp.2 N μ w⟩
 unfold qX at h
 cases op <;> simp only at h <;> first | exact plain h | skip
 ·by_cases hm : m = kF
  ·simp only [hm, decide_true, cond_true] at h
   obtain ⟨rfl, rfl⟩ := aB h
   refine ⟨_, Keep.refl _, fun _ N μ w b hb => ⟨.int .u64 (tJ .xor .u64 b kF), ?_, ?_⟩⟩
   ·rw [hm]; simp only [binOp, ne_eq, not_true_eq_false, if_false]; rfl
   ·simp only [Rep]; exact ⟨_, by rw [IK hb.2], hb.neg⟩
  ·simp only [hm, decide_false, cond_false] at h; exact plain h
 ·by_cases hm : m = kF
  ·simp only [hm, decide_true, cond_true] at h
   obtain ⟨rfl, rfl⟩ := aB h
   refine ⟨_, Keep.refl _, fun _ N μ w b hb => ⟨.int .u64 (tJ .andNot .u64 b kF), ?_, ?_⟩⟩
   ·rw [hm]; simp only [binOp, ne_eq, not_true_eq_false, if_false]; rfl
   ·simp only [Rep]; exact ⟨_, by rw [CQ hb.2], hb.abs⟩
  ·simp only [hm, decide_false, cond_false] at h; exact plain h
theorem xW {P : Program} {t e : TypeId} (he : P.underlying t = some (.pointer e)) (d : Nat) (b : Option Addr) (w : World) : (Op.equalIn (d + 1) t (.pointer none) (.pointer b)).run P w = .ok b.isNone w := by
 simp [Op.equalIn, run_underlying he]
theorem Gm {P : Program} {t e : TypeId} (he : P.underlying t = some (.pointer e)) (d : Nat) (a : Addr) (w : World) : (Op.equalIn (d + 1) t (.pointer (some a)) (.pointer none)).run P w = .ok false w := by
 simp [Op.equalIn, run_underlying he]
theorem Gn {P : Program} {t : TypeId} {x y z} (he : P.underlying t = some (.func x y z)) (d : Nat) (w : World) : (Op.equalIn (d + 1) t .nilFunc .nilFunc).run P w = .ok true w := by
 simp [Op.equalIn, run_underlying he]
theorem IL {P : Program} {t : TypeId} {x y z} (he : P.underlying t = some (.func x y z)) (d : Nat) (f : Fn) (l c : Array Value) (w : World) : (Op.equalIn (d + 1) t (.func f l c) .nilFunc).run P w = .ok false w := by
 simp [Op.equalIn, run_underlying he]
theorem IU {P : Program} {t : TypeId} {x y z} (he : P.underlying t = some (.func x y z)) (d : Nat) (f : Fn) (l c : Array Value) (w : World) : (Op.equalIn (d + 1) t .nilFunc (.func f l c)).run P w = .ok false w := by
 simp [Op.equalIn, run_underlying he]
theorem xX {P : Program} {t e : TypeId} (he : P.underlying t = some (.slice e)) (d : Nat) (b : Option Addr) (n m : Nat) (w : World) : (Op.equalIn (d + 1) t (.slice none 0 0) (.slice b n m)).run P w = .ok b.isNone w := by
 simp [Op.equalIn, run_underlying he]
theorem Gp {P : Program} {t e : TypeId} (he : P.underlying t = some (.slice e)) (d : Nat) (a : Addr) (n m : Nat) (w : World) : (Op.equalIn (d + 1) t (.slice (some a) n m) (.slice none 0 0)).run P w = .ok false w := by
 simp [Op.equalIn, run_underlying he]
theorem IV {s : Bool} {p : Prop} {u : Unit} {g g' : G} (h : X8 s p g = .done u g') : Keep g g' (s = true → p) := by
 unfold X8 at h
 cases s with
 | true => exact (iZ h).mono fun h _ => h
 | false => obtain ⟨_, rfl⟩ := aB h; exact (Keep.refl _).mono fun _ h => by cases h
theorem IW {N : Nat} {μ : MM} {s own : Bool} {a : AA} {len : Nat} {c : Value} (h : Rep N μ (.slc s own a len) c) (hs : s = true → 0 < len) : ∃ A C, c = .slice (some A) len C := by
 simp only [Rep] at h
 obtain ⟨_, A, C, rfl, _, hA, hnn, _⟩ := h
 cases s with
 | true => rw [hA (hs rfl)]; exact ⟨_, _, rfl⟩
 | false =>
  cases A with
  | none => exact absurd (hnn rfl) (by simp)
  | some A => exact ⟨_, _, rfl⟩
theorem La {P : Program} {op : BinOp} {t : TypeId} {x y v : AV} {g g' : G} (h : Iq P op t x y g = .done v g') :
  ∃ p, Keep g g' p ∧ (p → ∀ N μ (w : World) ox oy cx cy, Rep N μ x cx → Rep N μ y cy → PV P op t ox oy cx cy N μ w v) := by
 rw [Vu] at h
 unfold tK at h
 split at h
 ·-- integers
  rename_i s k a s' k' b
  cases hs : jG op with
  | true =>
   rw [hs, cond_true] at h
   obtain ⟨p, k1, h1⟩ := rE (P := P) (k' := k') (t := t) h
   refine ⟨p, k1, fun hp N μ w ox oy cx cy hx hy => ?_⟩
   simp only [Rep] at hx hy; subst hx hy
   exact .Es (by simp) (by simp) (h1 hp N μ w)
  | false =>
   rw [hs, cond_false] at h
   by_cases hk : k = k'
   ·subst hk
    simp only [decide_true, cond_true] at h
    obtain ⟨p, k1, h1⟩ := lG (P := P) (t := t) h
    refine ⟨p, k1, fun hp N μ w ox oy cx cy hx hy => ?_⟩
    simp only [Rep] at hx hy; subst hx hy
    exact .Es (by simp) (by simp) (h1 hp N μ w)
   ·simp only [hk, decide_false, cond_false] at h; cases h
 ·obtain ⟨rfl, h1⟩ := Gh (P := P) (t := t) h
  refine ⟨_, Keep.refl _, fun _ N μ w ox oy cx cy hx hy => ?_⟩
  simp only [Rep] at hx hy
  obtain ⟨a', rfl, ha⟩ := hx
  obtain ⟨b', rfl, hb⟩ := hy
  exact .of (by simp) (by simp) (h1 N μ w a' b' ha hb)
 ·obtain ⟨rfl, h1⟩ := Gi (P := P) (t := t) h
  refine ⟨_, Keep.refl _, fun _ N μ w ox oy cx cy hx hy => ?_⟩
  simp only [Rep] at hx hy
  obtain ⟨a', b', rfl, ha, hb⟩ := hx
  obtain ⟨c', d', rfl, hc, hd⟩ := hy
  exact .of (by simp) (by simp) (h1 N μ w a' b' c' d' ha hb hc hd)
 ·obtain ⟨p, k1, h1⟩ := Gj (P := P) (t := t) h
  refine ⟨p, k1, fun hp N μ w ox oy cx cy hx hy => ?_⟩
  simp only [Rep] at hx hy; subst hx hy
  exact .Es (by simp) (by simp) (h1 hp N μ w)
 ·-- bits
  rename_i s a m
  cases hs : jG op with
  | true =>
   rw [hs, cond_true] at h
   obtain ⟨_, g1, a1, h0⟩ := au h
   obtain ⟨p, k1, h1⟩ := rE (P := P) (k' := .u64) (t := t) h0
   refine ⟨_, (dB a1).trans k1, fun hp N μ w ox oy cx cy hx hy => ?_⟩
   simp only [Rep] at hx hy
   obtain ⟨b, rfl, hb⟩ := hx
   subst hy
   rw [hb.fO hp.1]
   exact .Es (by simp) (by simp) (h1 hp.2 N μ w)
  | false =>
   rw [hs, cond_false] at h
   obtain ⟨p, k1, h1⟩ := Ez (P := P) (t := t) h
   refine ⟨p, k1, fun hp N μ w ox oy cx cy hx hy => ?_⟩
   simp only [Rep] at hx hy
   obtain ⟨b, rfl, hb⟩ := hx
   subst hy
   exact .Es (by simp) (by simp) (h1 hp N μ w b hb)
 ·rename_i s a m
  cases hs : jG op with
  | true =>
   rw [hs, cond_true] at h
   obtain ⟨_, g1, a1, h0⟩ := au h
   obtain ⟨p, k1, h1⟩ := rE (P := P) (k' := .i64) (t := t) h0
   refine ⟨_, (dB a1).trans k1, fun hp N μ w ox oy cx cy hx hy => ?_⟩
   simp only [Rep] at hx hy
   obtain ⟨b, rfl, hb⟩ := hx
   subst hy
   rw [hb.fO hp.1]
   exact .Es (by simp) (by simp) (h1 hp.2 N μ w)
  | false => rw [hs, cond_false] at h; cases h
 ·cases hs : jG op with
  | true => rw [hs, cond_true] at h; exact (bC h).elim
  | false =>
   rw [hs, cond_false] at h
   obtain ⟨_, g1, a1, h0⟩ := au h
   obtain ⟨p, k1, h1⟩ := lG (P := P) (t := t) h0
   refine ⟨_, (dB a1).trans k1, fun hp N μ w ox oy cx cy hx hy => ?_⟩
   simp only [Rep] at hx hy
   obtain ⟨b, rfl, hb⟩ := hx
   subst hy
   rw [hb.fO hp.1]
   exact .Es (by simp) (by simp) (h1 hp.2 N μ w)
 ·cases hs : jG op with
  | true => rw [hs, cond_true] at h; exact (bC h).elim
  | false =>
   rw [hs, cond_false] at h
   obtain ⟨_, g1, a1, h0⟩ := au h
   obtain ⟨p, k1, h1⟩ := lG (P := P) (t := t) h0
   refine ⟨_, (dB a1).trans k1, fun hp N μ w ox oy cx cy hx hy => ?_⟩
   simp only [Rep] at hx hy
   obtain ⟨b, rfl, hb⟩ := hy
   subst hx
   rw [hb.fO hp.1]
   exact .Es (by simp) (by simp) (h1 hp.2 N μ w)
 ·cases hs : jG op with
  | true => rw [hs, cond_true] at h; exact (bC h).elim
  | false =>
   rw [hs, cond_false] at h
   obtain ⟨_, g1, a1, h0⟩ := au h
   obtain ⟨_, g2, a2, h2⟩ := au h0
   obtain ⟨p, k1, h1⟩ := lG (P := P) (t := t) h2
   refine ⟨_, ((dB a1).trans (dB a2)).trans k1, fun hp N μ w ox oy cx cy hx hy => ?_⟩
   simp only [Rep] at hx hy
   obtain ⟨b, rfl, hb⟩ := hx
   obtain ⟨b', rfl, hb'⟩ := hy
   rw [hb.fO hp.1.1, hb'.fO hp.1.2]
   exact .Es (by simp) (by simp) (h1 hp.2 N μ w)
 ·obtain ⟨_, g1, a1, h0⟩ := au h
  obtain ⟨ht, rfl⟩ := aS a1
  obtain ⟨rfl, h1⟩ := oC (oz ht) h0
  refine ⟨_, Keep.refl _, fun _ N μ w ox oy cx cy hx hy => ?_⟩
  simp only [Rep] at hx hy; subst hx hy
  exact .Es (by simp) (by simp) (h1 N μ w)
 ·obtain ⟨_, g1, a1, h0⟩ := au h
  obtain ⟨ht, rfl⟩ := aS a1
  obtain ⟨rfl, h1⟩ := oC (oz ht) h0
  refine ⟨_, Keep.refl _, fun _ N μ w ox oy cx cy hx hy => ?_⟩
  simp only [Rep] at hx hy; subst hx hy
  exact .Es (by simp) (by simp) (h1 N μ w)
 ·obtain ⟨_, g1, a1, h0⟩ := au h
  obtain ⟨ht, rfl⟩ := aS a1
  obtain ⟨rfl, h1⟩ := oC (oz ht) h0
  refine ⟨_, Keep.refl _, fun _ N μ w ox oy cx cy hx hy => ?_⟩
  simp only [Rep] at hx hy; subst hx hy
  exact .Es (by simp) (by simp) (h1 N μ w)
 ·obtain ⟨_, g1, a1, h0⟩ := au h
  obtain ⟨ht, rfl⟩ := aS a1
  obtain ⟨rfl, h1⟩ := oC (oz ht) h0
  refine ⟨_, Keep.refl _, fun _ N μ w ox oy cx cy hx hy => ?_⟩
  simp only [Rep] at hx hy; subst hx hy
  exact .Es (by simp) (by simp) (h1 N μ w)
 ·obtain ⟨_, g1, a1, h0⟩ := au h
  obtain ⟨ht, rfl⟩ := aS a1
  obtain ⟨e, he⟩ := Option.isSome_iff_exists.1 ht
  have he := dI he
  have := (gW (P := P) (t := t) (x := .slice none 0 0) (y := .slice none 0 0) (fun w => xX he 9999 none 0 0 w) ⟨rfl, rfl⟩ h0)
  obtain ⟨rfl, h1⟩ := this
  refine ⟨_, Keep.refl _, fun _ N μ w ox oy cx cy hx hy => ?_⟩
  simp only [Rep] at hx hy; subst hx hy
  exact .Es (by simp) (by simp) (h1 N μ w)
 ·rename_i s own a len
  obtain ⟨_, g1, a1, h0⟩ := au h
  obtain ⟨ht, rfl⟩ := aS a1
  obtain ⟨_, g2, a2, h0⟩ := au h0
  have k := IV a2
  obtain ⟨e, he⟩ := Option.isSome_iff_exists.1 ht
  have he := dI he
  have := fun A C => (gW (P := P) (t := t) (x := .slice (some A) len C) (y := .slice none 0 0) (fun w => Gp he 9999 A len C w) ⟨rfl, rfl⟩ h0)
  obtain ⟨rfl, _⟩ := this ⟨0, 0, none⟩ 0
  refine ⟨_, k, fun hp N μ w ox oy cx cy hx hy => ?_⟩
  obtain ⟨A, C, rfl⟩ := IW hx hp
  simp only [Rep] at hy
  subst hy
  exact .Es (by simp) (by simp) ((this _ _).2 N μ w)
 ·rename_i s own a len
  obtain ⟨_, g1, a1, h0⟩ := au h
  obtain ⟨ht, rfl⟩ := aS a1
  obtain ⟨_, g2, a2, h0⟩ := au h0
  have k := IV a2
  obtain ⟨e, he⟩ := Option.isSome_iff_exists.1 ht
  have he := dI he
  have := fun A C => (gW (P := P) (t := t) (x := .slice none 0 0) (y := .slice (some A) len C) (fun w => xX he 9999 (some A) len C w) ⟨rfl, rfl⟩ h0)
  obtain ⟨rfl, _⟩ := this ⟨0, 0, none⟩ 0
  refine ⟨_, k, fun hp N μ w ox oy cx cy hx hy => ?_⟩
  obtain ⟨A, C, rfl⟩ := IW hy hp
  simp only [Rep] at hx
  subst hx
  exact .Es (by simp) (by simp) ((this _ _).2 N μ w)
 ·obtain ⟨_, g1, a1, h0⟩ := au h
  obtain ⟨ht, rfl⟩ := aS a1
  obtain ⟨e, he⟩ := uj ht
  have := (gW (P := P) (t := t) (x := .pointer none) (y := .pointer none) (fun w => xW he 9999 none w) ⟨rfl, rfl⟩ h0)
  obtain ⟨rfl, h1⟩ := this
  refine ⟨_, Keep.refl _, fun _ N μ w ox oy cx cy hx hy => ?_⟩
  simp only [Rep] at hx hy; subst hx hy
  exact .Es (by simp) (by simp) (h1 N μ w)
 ·obtain ⟨_, g1, a1, h0⟩ := au h
  obtain ⟨ht, rfl⟩ := aS a1
  obtain ⟨e, he⟩ := uj ht
  have := fun a => (gW (P := P) (t := t) (x := .pointer (some a)) (y := .pointer none) (fun w => Gm he 9999 a w) ⟨rfl, rfl⟩ h0)
  obtain ⟨rfl, _⟩ := this ⟨0, 0, none⟩
  refine ⟨_, Keep.refl _, fun _ N μ w ox oy cx cy hx hy => ?_⟩
  simp only [Rep] at hx hy
  obtain ⟨_, rfl⟩ := hx; subst hy
  exact .Es (by simp) (by simp) ((this _).2 N μ w)
 ·obtain ⟨_, g1, a1, h0⟩ := au h
  obtain ⟨ht, rfl⟩ := aS a1
  obtain ⟨e, he⟩ := uj ht
  have := fun a => (gW (P := P) (t := t) (x := .pointer none) (y := .pointer (some a)) (fun w => xW he 9999 (some a) w) ⟨rfl, rfl⟩ h0)
  obtain ⟨rfl, _⟩ := this ⟨0, 0, none⟩
  refine ⟨_, Keep.refl _, fun _ N μ w ox oy cx cy hx hy => ?_⟩
  simp only [Rep] at hx hy
  obtain ⟨_, rfl⟩ := hy; subst hx
  exact .Es (by simp) (by simp) ((this _).2 N μ w)
 ·obtain ⟨_, g1, a1, h0⟩ := au h
  obtain ⟨ht, rfl⟩ := aS a1
  obtain ⟨e1, e2, e3, he⟩ := rG ht
  have := (gW (P := P) (t := t) (x := .nilFunc) (y := .nilFunc) (fun w => Gn he 9999 w) ⟨rfl, rfl⟩ h0)
  obtain ⟨rfl, h1⟩ := this
  refine ⟨_, Keep.refl _, fun _ N μ w ox oy cx cy hx hy => ?_⟩
  simp only [Rep] at hx hy; subst hx hy
  exact .Es (by simp) (by simp) (h1 N μ w)
 ·obtain ⟨_, g1, a1, h0⟩ := au h
  obtain ⟨ht, rfl⟩ := aS a1
  obtain ⟨e1, e2, e3, he⟩ := rG ht
  have := fun f fs cs => (gW (P := P) (t := t) (x := .func f fs cs) (y := .nilFunc) (fun w => IL he 9999 f fs cs w) ⟨rfl, rfl⟩ h0)
  obtain ⟨rfl, _⟩ := this (.func 0) #[] #[]
  refine ⟨_, Keep.refl _, fun _ N μ w ox oy cx cy hx hy => ?_⟩
  simp only [Rep] at hx hy
  obtain ⟨_, _, rfl, _⟩ := hx; subst hy
  exact .Es (by simp) (by simp) ((this _ _ _).2 N μ w)
 ·obtain ⟨_, g1, a1, h0⟩ := au h
  obtain ⟨ht, rfl⟩ := aS a1
  obtain ⟨e1, e2, e3, he⟩ := rG ht
  have := fun f fs cs => (gW (P := P) (t := t) (x := .nilFunc) (y := .func f fs cs) (fun w => IU he 9999 f fs cs w) ⟨rfl, rfl⟩ h0)
  obtain ⟨rfl, _⟩ := this (.func 0) #[] #[]
  refine ⟨_, Keep.refl _, fun _ N μ w ox oy cx cy hx hy => ?_⟩
  simp only [Rep] at hx hy
  obtain ⟨_, _, rfl, _⟩ := hy; subst hx
  exact .Es (by simp) (by simp) ((this _ _ _).2 N μ w)
 ·-- structs
  rename_i l l'
  obtain ⟨x, g1, a1, h0⟩ := au h
  obtain ⟨hx, rfl⟩ := aI a1
  have fin : ∀ {op : BinOp} {b : Bool}, (∀ w xs ys, (Op.equalIn 10000 t (.agg xs) (.agg ys)).run P w = .ok x.2 w → (binOp op t (.agg xs) (.agg ys)).run P w = .ok (.bool b) w) →
    ∀ N μ (w : World) ox oy cx cy, Rep N μ (.agg l) cx → Rep N μ (.agg l') cy → PV P op t ox oy cx cy N μ w (dZ x.1 b) := by
   intro op b hb N μ w ox oy cx cy h1 h2
   simp only [Rep] at h1 h2
   obtain ⟨xs, rfl, hr1⟩ := h1
   obtain ⟨ys, rfl, hr2⟩ := h2
   obtain ⟨he, hgd⟩ := CP hx hr1 hr2 w
   exact ⟨.bool b, w.drawn, by simp only [Sem.run_bind, run_eqGuard_agg w op t ox oy xs ys hgd, Result.andThen_ok, hb w xs ys he], .dZ ..⟩
  cases op <;> simp only at h0 <;> first | exact (bC h0).elim | skip
  all_goals obtain ⟨rfl, rfl⟩ := aB h0
  all_goals refine ⟨_, Keep.refl _, fun _ => fin fun w xs ys he => ?_⟩
  ·rw [run_eql_struct, he]; rfl
  ·rw [run_neq_struct, he]; rfl
 ·cases h
end Go.Sx
