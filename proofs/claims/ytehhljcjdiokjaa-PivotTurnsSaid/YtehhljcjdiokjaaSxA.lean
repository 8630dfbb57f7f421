/- THE ENGINE, its definitions: an interpreter of the model's Code over abstract values. It is deterministic: no order of evaluation, no bits of a NaN, no capacity of an append is asked. Nothing is claimed here: that what it gives is so of every run is proved in the next texts. -/
import Derived.Test.YtehhljcjdiokjaaSxF
import Derived.WalkKit
import Derived.MapKept
import Derived.Laws.RangeAny
import Derived.Laws.BytesString
set_option linter.unusedVariables false
set_option linter.unusedSimpArgs false
noncomputable section
namespace Go.Sx

/-! ### finite maps from numbers: binary tries -/
inductive T (α : Type) : Type where
  | e
  | n (l : T α) (v : Option α) (r : T α)
namespace T
variable {α : Type}
noncomputable def get (t : T α) : Nat → Option α :=
  T.rec (fun _ => none) (fun _ v _ ihl ihr i => Nat.rec v (fun j _ => bif Nat.beq (j % 2) 0 then ihl (j / 2) else ihr (j / 2)) i) t
noncomputable def sing (o : Option α) (f : Nat) : Nat → T α :=
  Nat.rec (fun _ => e) (fun _ ih i => Nat.rec (n e o e) (fun j _ => bif Nat.beq (j % 2) 0 then n (ih (j / 2)) none e else n e none (ih (j / 2))) i) f
noncomputable def upd (t : T α) (i : Nat) (o : Option α) : T α :=
  T.rec (fun i => sing o (i + 1) i) (fun l v r ihl ihr i => Nat.rec (n l o r) (fun j _ => bif Nat.beq (j % 2) 0 then n (ihl (j / 2)) v r else n l v (ihr (j / 2))) i) t i
theorem get_e (i : Nat) : (e : T α).get i = none := rfl
theorem get_n0 (l r : T α) (v : Option α) : (n l v r).get 0 = v := rfl
theorem get_ns (l r : T α) (v : Option α) (i : Nat) : (n l v r).get (i + 1) = bif Nat.beq (i % 2) 0 then l.get (i / 2) else r.get (i / 2) := rfl
theorem sing_0 (o : Option α) (i : Nat) : sing o 0 i = e := rfl
theorem sing_s0 (o : Option α) (f : Nat) : sing o (f + 1) 0 = n e o e := rfl
theorem sing_ss (o : Option α) (f i : Nat) : sing o (f + 1) (i + 1) = bif Nat.beq (i % 2) 0 then n (sing o f (i / 2)) none e else n e none (sing o f (i / 2)) := rfl
theorem upd_e (i : Nat) (o : Option α) : (e : T α).upd i o = sing o (i + 1) i := rfl
theorem upd_n0 (l r : T α) (v o : Option α) : (n l v r).upd 0 o = n l o r := rfl
theorem upd_ns (l r : T α) (v o : Option α) (i : Nat) : (n l v r).upd (i + 1) o = bif Nat.beq (i % 2) 0 then n (l.upd (i / 2) o) v r else n l v (r.upd (i / 2) o) := rfl

theorem get_sing (o : Option α) : ∀ f i j, i < f → (sing o f i).get j = if j = i then o else none := by
  intro f
  induction f with
  | zero => intro i j h; omega
  | succ f ih =>
    intro i j h
    cases i with
    | zero =>
      cases j with
      | zero => simp [sing_s0, get_n0, get_ns, get_e]
      | succ j => simp [sing_s0, get_n0, get_ns, get_e]
    | succ i =>
      cases hp : Nat.beq (i % 2) 0 with
      | true =>
        have hp' : i % 2 = 0 := Nat.eq_of_beq_eq_true hp
        cases j with
        | zero => simp [sing_ss, hp, get_n0]
        | succ j =>
          simp only [sing_ss, hp, cond_true, get_ns, get_e, ih _ _ (show i / 2 < f by omega)]
          cases hq : Nat.beq (j % 2) 0 with
          | true =>
            have hq' : j % 2 = 0 := Nat.eq_of_beq_eq_true hq
            simp only [cond_true]
            by_cases e : j = i
            · subst e; simp
            · rw [if_neg (by omega), if_neg (by omega)]
          | false =>
            have hq' : ¬ j % 2 = 0 := Nat.ne_of_beq_eq_false hq
            simp only [cond_false]
            rw [if_neg (by omega)]
      | false =>
        have hp' : ¬ i % 2 = 0 := Nat.ne_of_beq_eq_false hp
        cases j with
        | zero => simp [sing_ss, hp, get_n0]
        | succ j =>
          simp only [sing_ss, hp, cond_false, get_ns, get_e, ih _ _ (show i / 2 < f by omega)]
          cases hq : Nat.beq (j % 2) 0 with
          | true =>
            have hq' : j % 2 = 0 := Nat.eq_of_beq_eq_true hq
            simp only [cond_true]
            rw [if_neg (by omega)]
          | false =>
            have hq' : ¬ j % 2 = 0 := Nat.ne_of_beq_eq_false hq
            simp only [cond_false]
            by_cases e : j = i
            · subst e; simp
            · rw [if_neg (by omega), if_neg (by omega)]
theorem get_upd (o : Option α) (t : T α) : ∀ i j, (t.upd i o).get j = if j = i then o else t.get j := by
  induction t with
  | e => intro i j; simp only [upd_e, get_sing o _ _ _ (Nat.lt_succ_self i), get_e]
  | n l v r ihl ihr =>
    intro i j
    cases i with
    | zero =>
      cases j with
      | zero => simp [upd_n0, get_n0, get_ns]
      | succ j => simp [upd_n0, get_n0, get_ns]
    | succ i =>
      cases hp : Nat.beq (i % 2) 0 with
      | true =>
        have hp' : i % 2 = 0 := Nat.eq_of_beq_eq_true hp
        cases j with
        | zero => simp [upd_ns, hp, get_n0]
        | succ j =>
          simp only [upd_ns, hp, cond_true, get_ns, ihl]
          cases hq : Nat.beq (j % 2) 0 with
          | true =>
            have hq' : j % 2 = 0 := Nat.eq_of_beq_eq_true hq
            simp only [cond_true]
            by_cases e : j = i
            · subst e; simp
            · rw [if_neg (by omega), if_neg (by omega)]
          | false =>
            have hq' : ¬ j % 2 = 0 := Nat.ne_of_beq_eq_false hq
            simp only [cond_false]
            rw [if_neg (by omega)]
      | false =>
        have hp' : ¬ i % 2 = 0 := Nat.ne_of_beq_eq_false hp
        cases j with
        | zero => simp [upd_ns, hp, get_n0]
        | succ j =>
          simp only [upd_ns, hp, cond_false, get_ns, ihr]
          cases hq : Nat.beq (j % 2) 0 with
          | true =>
            have hq' : j % 2 = 0 := Nat.eq_of_beq_eq_true hq
            simp only [cond_true]
            rw [if_neg (by omega)]
          | false =>
            have hq' : ¬ j % 2 = 0 := Nat.ne_of_beq_eq_false hq
            simp only [cond_false]
            by_cases e : j = i
            · subst e; simp
            · rw [if_neg (by omega), if_neg (by omega)]
end T

/-! ### abstract values
The first Bool 's' of a value says 'symbolic': a test on it is not decided by reckoning. -/
/-- an address: the block's name, the row in it, the cell in that row -/
structure AA where
  s : Bool
  g : Nat
  i : Nat
  o : Nat
inductive AV where
  | top
  | bool (b : Bool)
  | sbool (b : Bool)
  | int (s : Bool) (k : IntKind) (n : Int)
  | flt (s : Bool) (x : Nat)
  | raw (s : Bool) (x : Nat)
  | bits (s : Bool) (x : Nat)
  | cpx (s : Bool) (x y : Nat)
  | str (s : Bool) (l : List UInt8)
  | ptr (a : AA)
  | nilp
  | slc (s own : Bool) (a : AA) (len : Nat)
  | nils
  | mp (g : Nat)
  | nilm
  | fn (f : Fn) (first cap : List AV)
  | nilf
  | nili
  | agg (l : List AV)
  | tup (l : List AV)
/-- a float by its very word, as the number it is -/
def AV.fl1 : AV → AV
  | .raw s x => .flt s (cn x)
  | v => v
def AV.fl : AV → AV
  | .raw s x => .flt s (cn x)
  | .agg l => .agg (l.map AV.fl1)
  | v => v
/-- surely the value of one cell -/
def AV.one : AV → Bool
  | .top | .agg _ | .tup _ => false
  | _ => true
def AV.cells : AV → List AV
  | .agg l => l
  | v => [v]

/-- the rows of a block -/
inductive Cont where
  | lit (d : List AV) (t : T (List AV))
  | fn (f : Nat → List AV)
def Cont.row : Cont → Nat → List AV
  | .lit d t, i => (t.get i).getD d
  | .fn f, i => f i
def Cont.put : Cont → Nat → List AV → Cont
  | .lit d t, i, r => .lit d (t.upd i (some r))
  | .fn f, i, r => .fn fun j => bif Nat.beq j i then r else f j
/-- m rows more, from row n on -/
def Cont.more (src : Nat → List AV) (n : Nat) : Nat → Cont → Cont
  | 0, c => c
  | m + 1, c => (more src n m c).put (n + m) (src m)
/-- a block: rows of sz cells, n of them; 'own': nothing else shares it, it may be written and appended to -/
inductive ABk where
  | cells (own : Bool) (sz n : Nat) (c : Cont)
  | mSI (s : Bool) (l : List (List UInt8 × Int))
  | mII (s : Bool) (l : List (Int × Int))
  | sit (s : Bool) (l : List UInt8) (pos : Nat)

/-! ### the state, and what a step gives -/
structure G where
  H : T ABk
  nx : Nat
  tch : List Nat
  path : List Bool
  cs : Prop
inductive Res (α : Type) : Type where
  | done (a : α) (g : G)
  | need (b : Bool)
  | fail
abbrev M (α : Type) := G → Res α
namespace M
variable {α β : Type}
def ret (a : α) : M α := fun g => .done a g
def no : M α := fun _ => .fail
def andThen (x : M α) (f : α → M β) : M β := fun g =>
  match x g with
  | .done a g' => f a g'
  | .need b => .need b
  | .fail => .fail
def ofOpt : Option α → M α
  | some a => ret a
  | none => no
/-- to be proved by whoever uses the run -/
def req (p : Prop) : M Unit := fun g => .done () { g with cs := g.cs ∧ p }
/-- where nothing is symbolic it is reckoned, else to be proved -/
def ck (s : Bool) (p : Prop) [Decidable p] : M Unit := bif s then req p else bif decide p then ret () else no
/-- a symbolic test: the path says how it ends -/
def dec (b : Bool) : M Bool := fun g =>
  match g.path with
  | [] => .need b
  | d :: ds => .done d { g with path := ds, cs := g.cs ∧ b = d }
def getB (nm : Nat) : M ABk := fun g =>
  match g.H.get nm with
  | some b => .done b g
  | none => .fail
def setB (nm : Nat) (b : ABk) : M Unit := fun g => .done () { g with H := g.H.upd nm (some b), tch := nm :: g.tch }
def delB (nm : Nat) : M Unit := fun g => .done () { g with H := g.H.upd nm none, tch := nm :: g.tch }
def newB (b : ABk) : M Nat := fun g => .done g.nx { g with H := g.H.upd g.nx (some b), nx := g.nx + 1 }
/-- on, if so -/
def okIf (b : Bool) : M Unit := bif b then ret () else no
end M
open M

/-! ### constants, types -/
def asInt : AV → Option (Bool × Int)
  | .int s _ n => some (s, n)
  | _ => none
def asPtr : AV → Option AA
  | .ptr a => some a
  | _ => none
def asAgg : AV → Option (List AV)
  | .agg l => some l
  | _ => none
def asCells : ABk → Option (Bool × Nat × Nat × Cont)
  | .cells own sz n c => some (own, sz, n, c)
  | _ => none
/-- the cells of a block -/
def getC (nm : Nat) : M (Bool × Nat × Nat × Cont) := (getB nm).andThen fun b => ofOpt (asCells b)
def sliceE (P : Program) (t : TypeId) : Option TypeId :=
  match P.underlying t with
  | some (.slice e) => some e
  | _ => none
def arrayE (P : Program) (t : TypeId) : Option (Nat × TypeId) :=
  match P.underlying t with
  | some (.array n e) => some (n, e)
  | _ => none
def ofVal1 : Value → AV
  | .bool b => .bool b
  | .int k n => .int false k n
  | .float .f64 b => bif decide (b < 18446744073709551616) then .flt false (cn b) else .top
  | .complex .f64 a b => bif decide (a < 18446744073709551616 ∧ b < 18446744073709551616) then .cpx false (cn a) (cn b) else .top
  | .string s => .str false s.data.toList
  | .pointer none => .nilp
  | .slice none 0 0 => .nils
  | .map none => .nilm
  | .nilFunc => .nilf
  | .nilIface => .nili
  | _ => .top
def ofVal : Value → AV
  | .agg cs => .agg (cs.toList.map ofVal1)
  | .tuple cs => .tup (cs.toList.map ofVal1)
  | v => ofVal1 v
def isAggD : TypeDesc → Bool
  | .struct _ | .array _ _ => true
  | _ => false
/-- a type's number of cells, and whether its values are of several parts -/
def lay (P : Program) (t : TypeId) : Option (Nat × Bool) :=
  match P.info? t, P.underlying t with
  | some i, some d => some (i.size, isAggD d)
  | _, _ => none
def zeroOf (P : Program) (t : TypeId) : Option AV :=
  match P.info? t with
  | some i => i.zero.map ofVal
  | none => none

/-! ### memory -/
def loadA (P : Program) (t : TypeId) (a : AA) : M AV :=
  (ofOpt (lay P t)).andThen fun y =>
  (getC a.g).andThen fun b =>
  (ck a.s (a.i < b.2.2.1)).andThen fun _ =>
  bif y.2 then (ck a.s (a.o + y.1 ≤ b.2.1)).andThen fun _ => ret (.agg (((b.2.2.2.row a.i).drop a.o).take y.1))
  else ofOpt ((b.2.2.2.row a.i)[a.o]?)
def splice (row : List AV) (o : Nat) (vs : List AV) : List AV := row.take o ++ vs ++ row.drop (o + vs.length)
/-- the whole of a row is told without the row -/
def spliceN (sz : Nat) (row : List AV) (o : Nat) (vs : List AV) : List AV := bif Nat.beq sz vs.length then vs else splice row o vs
def storeA (P : Program) (t : TypeId) (a : AA) (v : AV) : M Unit :=
  (ofOpt (lay P t)).andThen fun y =>
  (getC a.g).andThen fun b =>
  (okIf (b.1 && Nat.beq v.cells.length y.1 && v.cells.all AV.one)).andThen fun _ =>
  (ck a.s (a.i < b.2.2.1)).andThen fun _ =>
  (ck a.s (a.o + y.1 ≤ b.2.1)).andThen fun _ =>
  setB a.g (.cells true b.2.1 b.2.2.1 (b.2.2.2.put a.i (spliceN b.2.1 (b.2.2.2.row a.i) a.o v.cells)))
/-- a new variable -/
def boxA (v : AV) : M AV :=
  (okIf (v.cells.all AV.one && !v.cells.isEmpty)).andThen fun _ =>
  (newB (.cells true v.cells.length 1 (.lit [] (T.sing (some v.cells) 1 0)))).andThen fun nm => ret (.ptr ⟨false, nm, 0, 0⟩)

/-! ### numbers -/
def cmpB (s b : Bool) : AV := bif s then .sbool b else .bool b
def bitsV (op : BinOp) (k : IntKind) (x y : Int) : Int :=
  let a := BitVec.ofInt k.bits x
  let b := BitVec.ofInt k.bits y
  match op with
  | .and => k.wrap (a &&& b).toNat
  | .or => k.wrap (a ||| b).toNat
  | .xor => k.wrap (a ^^^ b).toNat
  | _ => k.wrap (a &&& ~~~b).toNat
def isI64 : IntKind → Bool
  | .i64 => true
  | _ => false
/-- a symbolic int's sum is to be shown to be in range, and stays bare; else it wraps -/
def arithR (s : Bool) (k : IntKind) (r : Int) : M AV :=
  bif s && isI64 k then (req (-9223372036854775808 ≤ r ∧ r ≤ 9223372036854775807)).andThen fun _ => ret (.int s k r)
  else ret (.int s k (k.wrap r))
def intBin (s : Bool) (k : IntKind) (op : BinOp) (a b : Int) : M AV :=
  match op with
  | .add => arithR s k (a + b)
  | .sub => arithR s k (a - b)
  | .mul => arithR s k (a * b)
  | .quo => (ck s (b ≠ 0)).andThen fun _ => arithR s k (a.tdiv b)
  | .rem => (ck s (b ≠ 0)).andThen fun _ => ret (.int s k (a.tmod b))
  | .and | .or | .xor | .andNot => ret (.int s k (bitsV op k a b))
  | .eql => ret (cmpB s (decide (a = b)))
  | .neq => ret (cmpB s (!decide (a = b)))
  | .lss => ret (cmpB s (decide (a < b)))
  | .leq => ret (cmpB s (decide (a ≤ b)))
  | .gtr => ret (cmpB s (decide (b < a)))
  | .geq => ret (cmpB s (decide (b ≤ a)))
  | _ => no
def shiftA (s : Bool) (k : IntKind) (op : BinOp) (a b : Int) : M AV :=
  (ck s (0 ≤ b)).andThen fun _ =>
  match op with
  | .shl => arithR s k (a * 2 ^ (min b.toNat k.bits))
  | .shr => ret (.int s k (a.fdiv (2 ^ (min b.toNat k.bits))))
  | _ => no
def fltBin (s : Bool) (op : BinOp) (x y : Nat) : M AV :=
  match op with
  | .add => ret (.flt s (fadd x y))
  | .sub => ret (.flt s (fsub x y))
  | .mul => ret (.flt s (fmul x y))
  | .quo => ret (.flt s (fdiv x y))
  | .eql => ret (cmpB s (feq x y))
  | .neq => ret (cmpB s (!feq x y))
  | .lss => ret (cmpB s (flt x y))
  | .leq => ret (cmpB s (fle x y))
  | .gtr => ret (cmpB s (fgt x y))
  | .geq => ret (cmpB s (fge x y))
  | _ => no
def cpxBin (s : Bool) (op : BinOp) (a b c d : Nat) : M AV :=
  match op with
  | .add => ret (.cpx s (fadd a c) (fadd b d))
  | .sub => ret (.cpx s (fsub a c) (fsub b d))
  | .eql => ret (cmpB s (feq a c && feq b d))
  | .neq => ret (cmpB s (!(feq a c && feq b d)))
  | _ => no
def strBin (s : Bool) (op : BinOp) (a b : List UInt8) : M AV :=
  match op with
  | .add => (ck s (a.length + b.length ≤ 9223372036854775807)).andThen fun _ => ret (.str s (a ++ b))
  | .eql => ret (cmpB s (a == b))
  | .neq => ret (cmpB s (!(a == b)))
  | .lss => ret (cmpB s (Op.bytesLess a b))
  | _ => no
def boolEq (op : BinOp) (s a b : Bool) : M AV :=
  match op with
  | .eql => ret (cmpB s (a == b))
  | .neq => ret (cmpB s (!(a == b)))
  | _ => no
def nilEq (op : BinOp) (b : Bool) : M AV :=
  match op with
  | .eql => ret (.bool b)
  | .neq => ret (.bool !b)
  | _ => no
/-- of two plain cells: are they equal? -/
def cellEq (d : TypeDesc) (v v' : AV) : Option (Bool × Bool) :=
  match d, v, v' with
  | .int _, .int s k a, .int s' k' b => bif decide (k = k') then some (s || s', decide (a = b)) else none
  | .float _, .flt s a, .flt s' b => some (s || s', feq a b)
  | .string, .str s a, .str s' b => some (s || s', a == b)
  | .bool, .bool a, .bool b => some (false, a == b)
  | _, _, _ => none
/-- of two structs whose fields are plain, a cell each, none blank -/
def fieldsEq (P : Program) : Nat → List Field → List AV → List AV → Option (Bool × Bool)
  | _, [], [], [] => some (false, true)
  | o, f :: fs, v :: l, v' :: l' =>
    bif Nat.beq f.offset o && !(f.name == "_") then
      match P.underlying f.type with
      | some d =>
        match cellEq d v v', fieldsEq P (o + 1) fs l l' with
        | some x, some y => some (x.1 || y.1, x.2 && y.2)
        | _, _ => none
      | none => none
    else none
  | _, _, _, _ => none
def structEq (P : Program) (t : TypeId) (l l' : List AV) : Option (Bool × Bool) :=
  match P.underlying t with
  | some (.struct fs) => bif !P.stoodInHeld t && !P.eqGuardType P.depth t then fieldsEq P 0 fs.toList l l' else none
  | _ => none
def isBoolD (P : Program) (t : TypeId) : Bool :=
  match P.underlying t with
  | some .bool => true
  | _ => false
def isPtrD (P : Program) (t : TypeId) : Bool :=
  match P.underlying t with
  | some (.pointer _) => true
  | _ => false
def isFuncD (P : Program) (t : TypeId) : Bool :=
  match P.underlying t with
  | some (.func _ _ _) => true
  | _ => false
/-- the sign bit turned, or struck, is so whatever NaN it is -/
def signBit : Int := 9223372036854775808
def bitsBin (s : Bool) (op : BinOp) (x : Nat) (m : Int) : M AV :=
  match op with
  | .xor => bif decide (m = signBit) then ret (.bits s (fneg x)) else (ck s (isnan x = false)).andThen fun _ => intBin s .u64 op x m
  | .andNot => bif decide (m = signBit) then ret (.bits s (fabs x)) else (ck s (isnan x = false)).andThen fun _ => intBin s .u64 op x m
  | _ => (ck s (isnan x = false)).andThen fun _ => intBin s .u64 op x m
def isShift : BinOp → Bool
  | .shl | .shr => true
  | _ => false
/-- to be proved, where something is symbolic -/
def ck' (s : Bool) (p : Prop) : M Unit := bif s then req p else ret ()
def binA0 (P : Program) (op : BinOp) (t : TypeId) (x y : AV) : M AV :=
  match x, y with
  | .int s k a, .int s' k' b => bif isShift op then shiftA (s || s') k op a b else bif decide (k = k') then intBin (s || s') k op a b else no
  | .flt s a, .flt s' b => fltBin (s || s') op a b
  | .cpx s a b, .cpx s' c d => cpxBin (s || s') op a b c d
  | .str s a, .str s' b => strBin (s || s') op a b
  | .bits s a, .int false .u64 m => bif isShift op then (ck s (isnan a = false)).andThen fun _ => shiftA s .u64 op a m else bitsBin s op a m
  | .bits s a, .int false .i64 m => bif isShift op then (ck s (isnan a = false)).andThen fun _ => shiftA s .u64 op a m else no
  | .bits s a, .int s' .u64 m => bif isShift op then no else (ck s (isnan a = false)).andThen fun _ => intBin (s || s') .u64 op a m
  | .int s .u64 n, .bits s' b => bif isShift op then no else (ck s' (isnan b = false)).andThen fun _ => intBin (s || s') .u64 op n b
  | .bits s a, .bits s' b => bif isShift op then no else (ck s (isnan a = false)).andThen fun _ => (ck s' (isnan b = false)).andThen fun _ => intBin (s || s') .u64 op a b
  | .bool a, .bool b => (okIf (isBoolD P t)).andThen fun _ => boolEq op false a b
  | .sbool a, .bool b => (okIf (isBoolD P t)).andThen fun _ => boolEq op true a b
  | .bool a, .sbool b => (okIf (isBoolD P t)).andThen fun _ => boolEq op true a b
  | .sbool a, .sbool b => (okIf (isBoolD P t)).andThen fun _ => boolEq op true a b
  | .nils, .nils => (okIf (sliceE P t).isSome).andThen fun _ => nilEq op true
  | .slc s _ _ len, .nils => (okIf (sliceE P t).isSome).andThen fun _ => (ck' s (0 < len)).andThen fun _ => nilEq op false
  | .nils, .slc s _ _ len => (okIf (sliceE P t).isSome).andThen fun _ => (ck' s (0 < len)).andThen fun _ => nilEq op false
  | .nilp, .nilp => (okIf (isPtrD P t)).andThen fun _ => nilEq op true
  | .ptr _, .nilp => (okIf (isPtrD P t)).andThen fun _ => nilEq op false
  | .nilp, .ptr _ => (okIf (isPtrD P t)).andThen fun _ => nilEq op false
  | .nilf, .nilf => (okIf (isFuncD P t)).andThen fun _ => nilEq op true
  | .fn .., .nilf => (okIf (isFuncD P t)).andThen fun _ => nilEq op false
  | .nilf, .fn .. => (okIf (isFuncD P t)).andThen fun _ => nilEq op false
  | .agg l, .agg l' =>
    (ofOpt (structEq P t l l')).andThen fun x =>
    match op with
    | .eql => ret (cmpB x.1 x.2)
    | .neq => ret (cmpB x.1 (!x.2))
    | _ => no
  | _, _ => no
def binI (P : Program) (op : BinOp) (t : TypeId) (s : Bool) (k : IntKind) (a : Int) (y : AV) : M AV :=
  match y with
  | .int s' k' b => bif isShift op then shiftA (s || s') k op a b else bif decide (k = k') then intBin (s || s') k op a b else no
  | y => binA0 P op t (.int s k a) y
def binF (P : Program) (op : BinOp) (t : TypeId) (s : Bool) (a : Nat) (y : AV) : M AV :=
  match y with
  | .flt s' b => fltBin (s || s') op a b
  | y => binA0 P op t (.flt s a) y
/-- an operator; the most frequent cases first -/
def binA (P : Program) (op : BinOp) (t : TypeId) (x y : AV) : M AV :=
  match x with
  | .int s k a => binI P op t s k a y
  | .flt s a => binF P op t s a y
  | x => binA0 P op t x y
theorem binA_eq (P : Program) (op : BinOp) (t : TypeId) (x y : AV) : binA P op t x y = binA0 P op t x y := by
  unfold binA
  split
  · unfold binI; split
    · rfl
    · rfl
  · unfold binF; split
    · rfl
    · rfl
  · rfl
def unA (op : UnOp) (x : AV) : M AV :=
  match op, x with
  | .neg, .int s k n => arithR s k (0 - n)
  | .neg, .flt s x => ret (.flt s (fneg x))
  | .neg, .cpx s x y => ret (.cpx s (fneg x) (fneg y))
  | .not, .bool b => ret (.bool !b)
  | .not, .sbool b => ret (.sbool !b)
  | _, _ => no
/-- 'float64(n)' -/
def ofInt (n : Int) : Nat := floatOfInt .f64 n
/-- 'int(x)' -/
def toIntV (x : Nat) (k : IntKind) : Option Int := floatToIntVal .f64 x k
/-- the rows of a slice's elements, as so many lists of cells; and the bounds to be shown -/
def rowsOf (a : AA) (esz sz : Nat) (c : Cont) (j : Nat) : List AV :=
  bif Nat.beq esz sz && Nat.beq a.o 0 then c.row (a.i + j) else ((c.row a.i).drop (a.o + j * esz)).take esz
def rowsCk (s : Bool) (a : AA) (esz sz n m : Nat) : M Unit :=
  bif Nat.beq esz sz && Nat.beq a.o 0 then ck (s || a.s) (a.i + m ≤ n)
  else (ck (s || a.s) (a.i < n)).andThen fun _ => ck (s || a.s) (a.o + m * esz ≤ sz)
def convD (d : TypeDesc) (x : AV) : M AV :=
  match d, x with
  | .int k, .int s _ n => bif s && isI64 k then (req (-9223372036854775808 ≤ n ∧ n ≤ 9223372036854775807)).andThen fun _ => ret (.int s k n) else ret (.int s k (k.wrap n))
  | .int k, .bits s x => (ck s (isnan x = false)).andThen fun _ => bif s && isI64 k then (req ((x : Int) ≤ 9223372036854775807)).andThen fun _ => ret (.int s k x) else ret (.int s k (k.wrap x))
  | .float .f64, .int s _ n => ret (.flt s (ofInt n))
  | .float .f64, .flt s x => ret (.flt s x)
  | .int k, .flt s x => (ck s ((toIntV x k).isSome = true)).andThen fun _ => ret (.int s k ((toIntV x k).getD 0))
  | _, _ => no
def convA (P : Program) (src dst : TypeId) (x : AV) : M AV :=
  (ofOpt (P.underlying src)).andThen fun _ => (ofOpt (P.underlying dst)).andThen fun d => convD d x

/-! ### slices -/
def isStrD (P : Program) (t : TypeId) : Bool :=
  match P.underlying t with
  | some .string => true
  | _ => false
def lenA (P : Program) (t : TypeId) : AV → M AV
  | .slc s _ _ len => (okIf (sliceE P t).isSome).andThen fun _ => ret (.int s .i64 len)
  | .nils => (okIf (sliceE P t).isSome).andThen fun _ => ret (.int false .i64 0)
  | .str s l => (okIf (isStrD P t)).andThen fun _ => ret (.int s .i64 l.length)
  | _ => no
/-- lo and hi of a slice expression, as numbers; their being symbolic -/
def boundA (d : Nat) : Option AV → Option (Bool × Int)
  | none => some (false, d)
  | some v => asInt v
/-- the address so many elements on -/
def stepA (a : AA) (s : Bool) (esz sz n : Nat) : AA :=
  bif Nat.beq esz sz && Nat.beq a.o 0 then ⟨s, a.g, a.i + n, 0⟩ else ⟨s, a.g, a.i, a.o + n * esz⟩
def sliceA (P : Program) (t : TypeId) (x : AV) (lo hi mx : Option AV) : M AV :=
  (okIf mx.isNone).andThen fun _ =>
  match x with
  | .slc s own a len =>
    (ofOpt (sliceE P t)).andThen fun e =>
    (ofOpt (lay P e)).andThen fun y =>
    (ofOpt (boundA 0 lo)).andThen fun l =>
    (ofOpt (boundA len hi)).andThen fun h =>
    (ck (s || l.1 || h.1) (0 ≤ l.2 ∧ l.2 ≤ h.2 ∧ h.2 ≤ len)).andThen fun _ =>
    bif lo.isNone then ret (.slc (s || h.1) own a h.2.toNat)
    else (getC a.g).andThen fun b => ret (.slc (s || l.1 || h.1) false (stepA a (a.s || l.1) y.1 b.2.1 l.2.toNat) (h.2.toNat - l.2.toNat))
  | .str s cs =>
    (okIf (isStrD P t)).andThen fun _ =>
    (ofOpt (boundA 0 lo)).andThen fun l =>
    (ofOpt (boundA cs.length hi)).andThen fun h =>
    (ck (s || l.1 || h.1) (0 ≤ l.2 ∧ l.2 ≤ h.2 ∧ h.2 ≤ cs.length)).andThen fun _ => ret (.str (s || l.1 || h.1) ((cs.drop l.2.toNat).take (h.2.toNat - l.2.toNat)))
  | .ptr a =>
    (ofOpt (arrayE P t)).andThen fun ne =>
    (ofOpt (lay P ne.2)).andThen fun _ =>
    (okIf lo.isNone).andThen fun _ =>
    (ofOpt (boundA ne.1 hi)).andThen fun h =>
    (ck h.1 (0 ≤ h.2 ∧ h.2 ≤ ne.1)).andThen fun _ => ret (.slc (a.s || h.1) false a h.2.toNat)
  | _ => no
def indexAddrA (P : Program) (t : TypeId) (x ix : AV) : M AV :=
  (ofOpt (asInt ix)).andThen fun i =>
  match x with
  | .slc s _ a len =>
    (ofOpt (sliceE P t)).andThen fun e =>
    (ck (i.1 || s) (0 ≤ i.2 ∧ i.2 < len)).andThen fun _ =>
    (ofOpt (lay P e)).andThen fun y =>
    (getC a.g).andThen fun b => ret (.ptr (stepA a (a.s || i.1 || s) y.1 b.2.1 i.2.toNat))
  | .ptr a =>
    (ofOpt (arrayE P t)).andThen fun ne =>
    (ck i.1 (0 ≤ i.2 ∧ i.2 < ne.1)).andThen fun _ =>
    (ofOpt (lay P ne.2)).andThen fun y => ret (.ptr ⟨a.s || i.1, a.g, a.i, a.o + i.2.toNat * y.1⟩)
  | _ => no
/-- a part of a list of cells -/
def partA (y : Nat × Bool) (cs : List AV) (off : Nat) : M AV :=
  bif y.2 then (okIf (decide (off + y.1 ≤ cs.length))).andThen fun _ => ret (.agg ((cs.drop off).take y.1)) else ofOpt cs[off]?
def indexA (P : Program) (t : TypeId) (x ix : AV) : M AV :=
  (ofOpt (asInt ix)).andThen fun i =>
  match x with
  | .str s l => (okIf (isStrD P t)).andThen fun _ => (ck (i.1 || s) (0 ≤ i.2 ∧ i.2 < l.length)).andThen fun _ => ret (.int (i.1 || s) .u8 (l.getD i.2.toNat 0).toNat)
  | .agg cs =>
    (ofOpt (arrayE P t)).andThen fun ne =>
    (ck i.1 (0 ≤ i.2 ∧ i.2 < ne.1)).andThen fun _ =>
    (ofOpt (lay P ne.2)).andThen fun y => partA y cs (i.2.toNat * y.1)
  | _ => no
def fieldOf (P : Program) (t : TypeId) (f : Nat) : Option Field :=
  match P.underlying t with
  | some (.struct fs) => fs[f]?
  | _ => none
def fieldAddrA (P : Program) (t : TypeId) (x : AV) (f : Nat) : M AV :=
  (ofOpt (asPtr x)).andThen fun a =>
  (ofOpt (fieldOf P t f)).andThen fun fd =>
  (ofOpt (lay P fd.type)).andThen fun y =>
  (okIf (!Nat.beq y.1 0)).andThen fun _ => ret (.ptr ⟨a.s, a.g, a.i, a.o + fd.offset⟩)
def fieldA (P : Program) (t : TypeId) (x : AV) (f : Nat) : M AV :=
  (ofOpt (asAgg x)).andThen fun cs =>
  (ofOpt (fieldOf P t f)).andThen fun fd =>
  (ofOpt (lay P fd.type)).andThen fun y => partA y cs fd.offset
/-- an element's zero, as its cells; it has some -/
def zeroRow (P : Program) (e : TypeId) : Option (List AV × Nat) :=
  match P.info? e, zeroOf P e with
  | some i, some z => bif Nat.beq z.cells.length i.size && z.cells.all AV.one && !Nat.beq i.size 0 then some (z.cells, i.bytes) else none
  | _, _ => none
def makeSliceA (P : Program) (t : TypeId) (l c : AV) : M AV :=
  (ofOpt (asInt l)).andThen fun n =>
  (ofOpt (asInt c)).andThen fun m =>
  (ofOpt (sliceE P t)).andThen fun e =>
  (ofOpt (zeroRow P e)).andThen fun z =>
  (ck (n.1 || m.1) (0 ≤ n.2 ∧ n.2 ≤ m.2 ∧ z.2 * m.2 ≤ 140737488355328 ∧ m.2 ≤ 9223372036854775807)).andThen fun _ =>
  (newB (.cells true z.1.length n.2.toNat (bif n.1 then .fn fun _ => z.1 else .lit z.1 .e))).andThen fun nm =>
  ret (.slc n.1 true ⟨false, nm, 0, 0⟩ n.2.toNat)
/-- the parts of a composite, laid over the cells -/
def fillA (place : Nat → Option (Nat × Nat)) (cells : List AV) : List (Nat × AV) → Option (List AV)
  | [] => some cells
  | (i, v) :: rest =>
    match place i with
    | none => none
    | some (off, size) =>
      bif Nat.beq v.cells.length size && decide (off + size ≤ cells.length) then fillA place (splice cells off v.cells) rest else none
def placesOf (P : Program) : List Field → Option (List (Nat × Nat))
  | [] => some []
  | f :: l =>
    match lay P f.type, placesOf P l with
    | some y, some r => some ((f.offset, y.1) :: r)
    | _, _ => none
/-- where a composite's parts lie -/
def placeOf (P : Program) (t : TypeId) : Option (Nat → Option (Nat × Nat)) :=
  match P.underlying t with
  | some (.struct fs) => (placesOf P fs.toList).map fun ps i => ps[i]?
  | some (.array _ e) => (lay P e).map fun y i => some (i * y.1, y.1)
  | _ => none
def buildA (P : Program) (t : TypeId) (parts : List (Nat × AV)) : M AV :=
  (okIf (parts.all fun p => p.2.cells.all AV.one)).andThen fun _ =>
  (ofOpt (zeroOf P t)).andThen fun z =>
  (ofOpt (placeOf P t)).andThen fun place =>
  (ofOpt (fillA place z.cells parts)).andThen fun cs => ret (.agg cs)
/-- rows of sz cells, cut off a list of cells -/
def chop (sz : Nat) : Nat → List AV → T (List AV) → Nat → T (List AV)
  | 0, _, t, _ => t
  | n + 1, l, t, i => chop sz n (l.drop sz) (t.upd i (some (l.take sz))) (i + 1)
def manyOf (z : List AV) : Nat → List AV
  | 0 => []
  | n + 1 => z ++ manyOf z n
def buildSliceA (P : Program) (t : TypeId) (len : Nat) (parts : List (Nat × AV)) : M AV :=
  (ofOpt (sliceE P t)).andThen fun e =>
  (ofOpt (zeroRow P e)).andThen fun z =>
  (okIf (decide (len * z.1.length ≤ 16777216) && parts.all fun p => p.2.cells.all AV.one)).andThen fun _ =>
  (ofOpt (fillA (fun i => some (i * z.1.length, z.1.length)) (manyOf z.1 len) parts)).andThen fun cs =>
  (okIf (cs.all AV.one)).andThen fun _ =>
  (newB (.cells true z.1.length len (.lit z.1 (chop z.1.length len cs .e 0)))).andThen fun nm => ret (.slc false true ⟨false, nm, 0, 0⟩ len)
/-- what is appended: its being symbolic, its length, its rows -/
def srcOf (esz : Nat) : AV → M (Bool × Nat × (Nat → List AV))
  | .nils => ret (false, 0, fun _ => [])
  | .slc s _ a len => (getC a.g).andThen fun b => (rowsCk s a esz b.2.1 b.2.2.1 len).andThen fun _ => ret (s, len, rowsOf a esz b.2.1 b.2.2.2)
  | _ => no
def appendA (P : Program) (t u : TypeId) (x y : AV) : M AV :=
  (ofOpt (sliceE P t)).andThen fun e =>
  (okIf (Nat.beq t u)).andThen fun _ =>
  (ofOpt (zeroRow P e)).andThen fun z =>
  (srcOf z.1.length y).andThen fun src =>
  match x with
  | .nils =>
    bif !src.1 && Nat.beq src.2.1 0 then ret .nils else
    (ck src.1 (src.2.1 * z.2 ≤ 140737488355328 ∧ src.2.1 ≤ 9223372036854775807)).andThen fun _ =>
    (newB (.cells true z.1.length src.2.1 (bif src.1 then .fn src.2.2 else Cont.more src.2.2 0 src.2.1 (.lit [] .e)))).andThen fun nm =>
    ret (.slc src.1 true ⟨false, nm, 0, 0⟩ src.2.1)
  | .slc s own a len =>
    (getC a.g).andThen fun b =>
    (okIf (own && b.1 && Nat.beq b.2.1 z.1.length)).andThen fun _ =>
    (ck (s || src.1) (len ≤ b.2.2.1 ∧ (len + src.2.1) * z.2 ≤ 140737488355328 ∧ len + src.2.1 ≤ 9223372036854775807)).andThen fun _ =>
    (delB a.g).andThen fun _ =>
    (newB (.cells true z.1.length (len + src.2.1) (bif s || src.1 then .fn (fun j => bif decide (j < len) then b.2.2.2.row j else (bif Nat.beq src.2.1 1 then src.2.2 0 else src.2.2 (j - len))) else Cont.more src.2.2 len src.2.1 b.2.2.2))).andThen fun nm =>
    ret (.slc (s || src.1) true ⟨false, nm, 0, 0⟩ (len + src.2.1))
  | _ => no
def fmax (x y : Nat) : Nat :=
  match forder x y with
  | none => qn
  | some .lt => y
  | some .gt => x
  | some .eq => bif decide (9223372036854775808 ≤ x) then y else x
def fmin (x y : Nat) : Nat :=
  match forder x y with
  | none => qn
  | some .lt => x
  | some .gt => y
  | some .eq => bif decide (9223372036854775808 ≤ x) then x else y
def maxA (x y : AV) : M AV :=
  match x, y with
  | .int s k a, .int s' k' b => bif decide (k = k') then ret (.int (s || s') k (if b > a then b else a)) else no
  | .flt s a, .flt s' b => ret (.flt (s || s') (fmax a b))
  | _, _ => no
def minA (x y : AV) : M AV :=
  match x, y with
  | .int s k a, .int s' k' b => bif decide (k = k') then ret (.int (s || s') k (if b < a then b else a)) else no
  | .flt s a, .flt s' b => ret (.flt (s || s') (fmin a b))
  | _, _ => no
def foldA (f : AV → AV → M AV) : AV → List AV → M AV
  | x, [] => ret x
  | x, y :: l => (f x y).andThen fun z => foldA f z l
def builtinA (P : Program) (b : Builtin) (ts : List TypeId) (args : List AV) : M AV :=
  match b, ts, args with
  | .len, [t], [x] => lenA P t x
  | .real, _, [.cpx s x _] => ret (.flt s x)
  | .imag, _, [.cpx s _ y] => ret (.flt s y)
  | .complex, _, [.flt s x, .flt s' y] => ret (.cpx (s || s') x y)
  | .append, [t, u], [x, y] => appendA P t u x y
  | .max, _, x :: l => foldA maxA x l
  | .min, _, x :: l => foldA minA x l
  | _, _, _ => no

/-! ### maps of numbers, by texts or numbers; a text's runes one behind the other; a text of bytes -/
inductive MK where
  | si
  | ii
def isZ : Option AV → Bool
  | some (.int false .i64 0) => true
  | _ => false
def mapK (P : Program) (t : TypeId) : Option MK :=
  match P.underlying t with
  | some (.map k e) =>
    bif isZ (zeroOf P e) then
      match P.underlying k with
      | some .string => some .si
      | some (.int .i64) => some .ii
      | _ => none
    else none
  | _ => none
def lfind {α : Type} (eq : α → α → Bool) (x : α) : List (α × Int) → Option Int
  | [] => none
  | p :: l => bif eq x p.1 then some p.2 else lfind eq x l
def lput {α : Type} (eq : α → α → Bool) (x : α) (v : Int) : List (α × Int) → List (α × Int)
  | [] => [(x, v)]
  | p :: l => bif eq x p.1 then (x, v) :: l else p :: lput eq x v l
def seq (a b : List UInt8) : Bool := a == b
def ieq (a b : Int) : Bool := a == b
def foundV (ok s : Bool) (r : Option Int) : AV := bif ok then .tup [.int s .i64 (r.getD 0), cmpB s r.isSome] else .int s .i64 (r.getD 0)
def asSI : ABk → Option (Bool × List (List UInt8 × Int))
  | .mSI s l => some (s, l)
  | _ => none
def asII : ABk → Option (Bool × List (Int × Int))
  | .mII s l => some (s, l)
  | _ => none
def asSit : ABk → Option (Bool × List UInt8 × Nat)
  | .sit s l n => some (s, l, n)
  | _ => none
def lookA (P : Program) (t : TypeId) (x ix : AV) (ok : Bool) : M AV :=
  (ofOpt (mapK P t)).andThen fun mk =>
  match mk, x, ix with
  | .si, .nilm, .str s _ => ret (foundV ok s none)
  | .ii, .nilm, .int s .i64 _ => ret (foundV ok s none)
  | .si, .mp g, .str s k => (getB g).andThen fun b => (ofOpt (asSI b)).andThen fun y => ret (foundV ok (s || y.1) (lfind seq k y.2))
  | .ii, .mp g, .int s .i64 k => (getB g).andThen fun b => (ofOpt (asII b)).andThen fun y => ret (foundV ok (s || y.1) (lfind ieq k y.2))
  | _, _, _ => no
def mapSetA (P : Program) (t : TypeId) (m k v : AV) : M Unit :=
  (ofOpt (mapK P t)).andThen fun mk =>
  match mk, m, k, v with
  | .si, .mp g, .str s k, .int s' .i64 v => (getB g).andThen fun b => (ofOpt (asSI b)).andThen fun y => setB g (.mSI (s || s' || y.1) (lput seq k v y.2))
  | .ii, .mp g, .int s .i64 k, .int s' .i64 v => (getB g).andThen fun b => (ofOpt (asII b)).andThen fun y => setB g (.mII (s || s' || y.1) (lput ieq k v y.2))
  | _, _, _, _ => no
def noMap : MK → ABk
  | .si => .mSI false []
  | .ii => .mII false []
def hintOk : Option AV → Bool
  | none => true
  | some v => (asInt v).isSome
def makeMapA (P : Program) (t : TypeId) (r : Option AV) : M AV :=
  (ofOpt (mapK P t)).andThen fun mk => (okIf (hintOk r)).andThen fun _ => (newB (noMap mk)).andThen fun nm => ret (.mp nm)
def asStr : AV → Option (Bool × List UInt8)
  | .str s l => some (s, l)
  | _ => none
def rangeA (P : Program) (t : TypeId) (x : AV) : M AV :=
  (ofOpt (asStr x)).andThen fun y => (okIf (isStrD P t)).andThen fun _ => (newB (.sit y.1 y.2 0)).andThen fun nm => ret (.ptr ⟨false, nm, 0, 0⟩)
def decS (s b : Bool) : M Bool := bif s then dec b else ret b
def nextA (it : AV) (isString : Bool) : M AV :=
  (okIf isString).andThen fun _ =>
  (ofOpt (asPtr it)).andThen fun a =>
  (okIf (Nat.beq a.i 0 && Nat.beq a.o 0)).andThen fun _ =>
  (getB a.g).andThen fun b =>
  (ofOpt (asSit b)).andThen fun y =>
  (decS y.1 (decide (y.2.2 < y.2.1.length))).andThen fun d =>
  bif d then (setB a.g (.sit y.1 y.2.1 (y.2.2 + (Utf8.decode ⟨y.2.1.toArray⟩ y.2.2).2))).andThen fun _ => ret (.tup [.bool true, .int y.1 .i64 y.2.2, .int y.1 .i32 (Utf8.decode ⟨y.2.1.toArray⟩ y.2.2).1])
  else ret (.tup [.bool false])
/-- the bytes of a list of rows -/
def byteOf : List AV → Option Int
  | [.int _ .u8 n] => some n
  | _ => none
def symOf : List AV → Bool
  | [.int s .u8 _] => s
  | _ => false
def bytesOf (rows : Nat → List AV) : Nat → Nat → Option (List Int)
  | _, 0 => some []
  | i, n + 1 =>
    match byteOf (rows i), bytesOf rows (i + 1) n with
    | some x, some l => some (x :: l)
    | _, _ => none
def symsOf (rows : Nat → List AV) : Nat → Nat → Bool
  | _, 0 => false
  | i, n + 1 => symOf (rows i) || symsOf rows (i + 1) n
def isBytes (P : Program) (t : TypeId) : Bool :=
  match sliceE P t with
  | some e =>
    match P.underlying e with
    | some (.int .u8) => true
    | _ => false
  | none => false
def textA (P : Program) (src dst : TypeId) (x : AV) : M AV :=
  (okIf (isBytes P src && isStrD P dst)).andThen fun _ =>
  (srcOf 1 x).andThen fun y =>
  (okIf !y.1).andThen fun _ =>
  (ofOpt (bytesOf y.2.2 0 y.2.1)).andThen fun l => ret (.str (symsOf y.2.2 0 y.2.1) (l.map fun n => UInt8.ofNat n.toNat))
def convAll (P : Program) (src dst : TypeId) (x : AV) : M AV :=
  match x with
  | .slc s own a len => textA P src dst (.slc s own a len)
  | .nils => textA P src dst .nils
  | x => convA P src dst x

/-! ### operations, regions, code -/
abbrev Fr := T AV
def evalA (fr : Fr) : Operand → AV
  | .tmp t => (fr.get t).getD .top
  | .const v => ofVal v
  | .global _ => .top
  | .func f => .fn (.func f) [] []
def isTrue : AV → Option Bool
  | .bool b => some b
  | _ => none
/-- the calls that are made, by the function's number -/
abbrev Calls' := FuncId → List AV → M AV
def opA (P : Program) (call : Calls') (fr : Fr) (o : Oper) : M AV :=
  match o.op with
  | .move x => ret (evalA fr x)
  | .assign x => ret (evalA fr x)
  | .pick c a b =>
    match evalA fr c with
    | .bool t => ret (bif t then evalA fr a else evalA fr b)
    | .sbool t => (dec t).andThen fun d => ret (bif d then evalA fr a else evalA fr b)
    | _ => no
  | .alloc e => (ofOpt (zeroOf P e)).andThen fun z => boxA z
  | .box e x => boxA (evalA fr x)
  | .build t ps => buildA P t (ps.toList.map fun p => (p.1, evalA fr p.2))
  | .buildSlice t len ps => buildSliceA P t len (ps.toList.map fun p => (p.1, evalA fr p.2))
  | .load t x => (ofOpt (asPtr (evalA fr x))).andThen fun a => loadA P t a
  | .store t x v => (ofOpt (asPtr (evalA fr x))).andThen fun a => (storeA P t a (evalA fr v)).andThen fun _ => ret .top
  | .nilCheck x =>
    match evalA fr x with
    | .ptr a => ret (.ptr a)
    | .fn (.func f) l c => ret (.fn (.func f) l c)
    | _ => no
  | .binOp op t x y _ => binA P op t (evalA fr x).fl (evalA fr y).fl
  | .unOp op _ x => unA op (evalA fr x).fl
  | .convert s d x => convAll P s d (evalA fr x).fl
  | .lookup t x i ok => lookA P t (evalA fr x) (evalA fr i) ok
  | .mapUpdate t m k x => (mapSetA P t (evalA fr m) (evalA fr k) (evalA fr x)).andThen fun _ => ret .top
  | .insert t m k x => (mapSetA P t (evalA fr m) (evalA fr k) (evalA fr x)).andThen fun _ => ret .top
  | .makeMap t r => makeMapA P t (r.map (evalA fr))
  | .range t x => rangeA P t (evalA fr x)
  | .next it s => nextA (evalA fr it) s
  | .makeFunc f l c => ret (.fn f (l.toList.map (evalA fr)) (c.toList.map (evalA fr)))
  | .makeSlice t l c => makeSliceA P t (evalA fr l) (evalA fr c)
  | .slice t x lo hi mx => sliceA P t (evalA fr x) (lo.map (evalA fr)) (hi.map (evalA fr)) (mx.map (evalA fr))
  | .fieldAddr t x f => fieldAddrA P t (evalA fr x) f
  | .field t x f => fieldA P t (evalA fr x) f
  | .indexAddr t x i => indexAddrA P t (evalA fr x) (evalA fr i)
  | .index t x i => indexA P t (evalA fr x) (evalA fr i)
  | .extract x i =>
    match evalA fr x with
    | .tup l => ofOpt l[i]?
    | _ => no
  | .call c =>
    match c.callee with
    | .value f =>
      match evalA fr f with
      | .fn (.func k) l cap => call k (l ++ c.args.toList.map (evalA fr) ++ cap)
      | _ => no
    | .builtin b => builtinA P b c.argTypes.toList (c.args.toList.map fun x => (evalA fr x).fl)
    | .invoke _ _ => no
  | _ => no
/-- into the frame of n temporaries -/
def putA (n : Nat) (fr : Fr) (dst : Option Tmp) (v : AV) : M Fr :=
  match dst with
  | some d => bif Nat.blt d n then ret (fr.upd d (some v)) else no
  | none => ret fr
/-- the operations of a region that draws no order, one behind the other -/
def opsA0 (P : Program) (call : Calls') (n : Nat) (all : List Oper) : List Oper → Fr → M Fr
  | [], fr => ret fr
  | o :: rest, fr =>
    match o.guard with
    | none => (opA P call fr o).andThen fun v => (putA n fr o.dst v).andThen fun fr' => opsA0 P call n all rest fr'
    | some (j, want) =>
      match (all[j]?).bind (·.dst) with
      | none => no
      | some d =>
        match fr.get d with
        | some (.bool b) =>
          bif b == want then (opA P call fr o).andThen fun v => (putA n fr o.dst v).andThen fun fr' => opsA0 P call n all rest fr'
          else (putA n fr o.dst (.tup [])).andThen fun fr' => opsA0 P call n all rest fr'
        | some (.sbool b) =>
          (dec b).andThen fun t =>
          bif t == want then (opA P call (fr.upd d (some (.bool t))) o).andThen fun v => (putA n (fr.upd d (some (.bool t))) o.dst v).andThen fun fr' => opsA0 P call n all rest fr'
          else (putA n (fr.upd d (some (.bool t))) o.dst (.tup [])).andThen fun fr' => opsA0 P call n all rest fr'
        | some (.tup _) => (putA n fr o.dst (.tup [])).andThen fun fr' => opsA0 P call n all rest fr'
        | _ => no
def doA (P : Program) (call : Calls') (n : Nat) (fr : Fr) (o : Oper) : M Fr := (opA P call fr o).andThen fun v => putA n fr o.dst v
def skipA (n : Nat) (fr : Fr) (o : Oper) : M Fr := putA n fr o.dst (.tup [])
def guardStep (P : Program) (call : Calls') (n : Nat) (all : List Oper) (o : Oper) (fr : Fr) (p : Nat × Bool) : M Fr :=
  match (all[p.1]?).bind (·.dst) with
  | none => no
  | some d =>
    match fr.get d with
    | some (.bool b) => bif b == p.2 then doA P call n fr o else skipA n fr o
    | some (.sbool b) => (dec b).andThen fun t => bif t == p.2 then doA P call n (fr.upd d (some (.bool t))) o else skipA n (fr.upd d (some (.bool t))) o
    | some (.tup _) => skipA n fr o
    | _ => no
def stepO (P : Program) (call : Calls') (n : Nat) (all : List Oper) (o : Oper) (fr : Fr) : M Fr :=
  match o.guard with
  | none => doA P call n fr o
  | some p => guardStep P call n all o fr p
def opsA (P : Program) (call : Calls') (n : Nat) (all : List Oper) (l : List Oper) : Fr → M Fr :=
  List.rec (fun fr => ret fr) (fun o _ ih fr => (stepO P call n all o fr).andThen ih) l
theorem M.assoc {α β γ : Type} (x : M α) (f : α → M β) (k : β → M γ) : (x.andThen f).andThen k = x.andThen fun a => (f a).andThen k := by
  funext g
  unfold M.andThen
  cases x g <;> rfl
theorem M.no_then {α β : Type} (k : α → M β) : (M.no : M α).andThen k = M.no := rfl
theorem cond_then {α β : Type} (b : Bool) (x y : M α) (k : α → M β) : (bif b then x else y).andThen k = bif b then x.andThen k else y.andThen k := by cases b <;> rfl
theorem opsA_cons (P : Program) (call : Calls') (n : Nat) (all : List Oper) (o : Oper) (l : List Oper) (fr : Fr) : opsA P call n all (o :: l) fr = (stepO P call n all o fr).andThen (opsA P call n all l) := rfl
theorem opsA_eq (P : Program) (call : Calls') (n : Nat) (all : List Oper) : ∀ (l : List Oper) (fr : Fr), opsA P call n all l fr = opsA0 P call n all l fr
  | [], fr => rfl
  | o :: l, fr => by
    have ih : opsA P call n all l = opsA0 P call n all l := by funext fr; exact opsA_eq P call n all l fr
    rw [opsA_cons, ih]
    unfold opsA0 stepO
    cases o.guard with
    | none => simp only [doA, M.assoc]
    | some p =>
      obtain ⟨j, want⟩ := p
      simp only [guardStep]
      cases (all[j]?).bind (·.dst) with
      | none => rfl
      | some d =>
        simp only
        cases fr.get d with
        | none => rfl
        | some v => cases v <;> simp only [doA, skipA, M.assoc, cond_then, M.no_then]
/-- how a piece of code ends -/
inductive Ex where
  | normal
  | exit (id : Nat)
  | ret
/-- a loop, so many rounds at the most -/
def loopA (body : Fr → M (Ex × Fr)) : Nat → Fr → M (Ex × Fr)
  | 0, _ => no
  | n + 1, fr => (body fr).andThen fun r =>
    match r.1 with
    | .normal => loopA body n r.2
    | e => M.ret (e, r.2)
/-- what is known of loops beforehand, by their blocks -/
abbrev Loops := Nat → Option (Fr → M (Ex × Fr))
def noLoops : Loops := fun _ => none
def codeA (P : Program) (call : Calls') (region : List Oper → Fr → M Fr) (loops : Loops) (n rounds : Nat) : Code → Fr → M (Ex × Fr)
  | .skip, fr => ret (.normal, fr)
  | .region _ ops false, fr => (opsA P call n ops.toList ops.toList fr).andThen fun fr => ret (.normal, fr)
  | .region _ ops true, fr => (region ops.toList fr).andThen fun fr => ret (.normal, fr)
  | .seq a b, fr => (codeA P call region loops n rounds a fr).andThen fun r =>
    match r.1 with
    | .normal => codeA P call region loops n rounds b r.2
    | e => ret (e, r.2)
  | .cond c x y, fr =>
    match evalA fr c with
    | .bool t => bif t then codeA P call region loops n rounds x fr else codeA P call region loops n rounds y fr
    | .sbool t => (dec t).andThen fun d => bif d then codeA P call region loops n rounds x fr else codeA P call region loops n rounds y fr
    | _ => no
  | .block id c, fr =>
    match loops id with
    | some S => S fr
    | none => (codeA P call region loops n rounds c fr).andThen fun r =>
      match r.1 with
      | .exit id' => bif Nat.beq id' id then ret (.normal, r.2) else ret r
      | _ => ret r
  | .loop c, fr => loopA (codeA P call region loops n rounds c) rounds fr
  | .exit id, fr => ret (.exit id, fr)
  | .ret, fr => ret (.ret, fr)
  | _, _ => no
/-- the results of a function, behind its body -/
def resultA (P : Program) (fr : Fr) : ResultVar → M AV
  | .tmp t => ret ((fr.get t).getD .top)
  | .cell a t =>
    match (fr.get a).getD .top with
    | .ptr ad => loadA P t ad
    | _ => no
def resultsA (P : Program) (fr : Fr) : List ResultVar → M (List AV)
  | [] => ret []
  | r :: l => (resultA P fr r).andThen fun v => (resultsA P fr l).andThen fun vs => ret (v :: vs)
def frameOf : List AV → Nat → Fr → Fr
  | [], _, fr => fr
  | v :: l, i, fr => frameOf l (i + 1) (fr.upd i (some v))
/-- what is known of functions beforehand -/
abbrev Known := FuncId → Option (List AV → M AV)
def runA (P : Program) (Γ : Known) (Λ : FuncId → Loops) (region : Calls' → Nat → List Oper → Fr → M Fr) (rounds : Nat) : Nat → FuncId → List AV → M AV
  | 0, _, _ => no
  | n + 1, f, args =>
    match Γ f with
    | some s => s args
    | none =>
      match P.funcs[f]? with
      | none => no
      | some fn =>
        match fn.body with
        | none => no
        | some c =>
          (codeA P (runA P Γ Λ region rounds n) (region (runA P Γ Λ region rounds n) fn.ntmps) (Λ f) fn.ntmps rounds c (frameOf args 0 .e)).andThen fun r =>
          match r.1 with
          | .exit _ => no
          | _ => (resultsA P r.2 fn.results.toList).andThen fun vs =>
            match vs with
            | [v] => ret v
            | _ => ret (.tup vs)
end Go.Sx
