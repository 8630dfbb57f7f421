/- DRAWN REGIONS: how the engine runs them: the pass, its plan. -/
import Derived.Test.YtehhljcjdiokjaaSxX
set_option linter.unusedSimpArgs false
set_option linter.unusedVariables false
noncomputable section
namespace Go.Sx
open M

/-- these ask nothing of the heap -/
def light : Op → Bool
  | .move _ | .assign _ | .pick .. | .binOp .. | .unOp .. | .convert .. | .makeFunc .. | .field .. | .extract .. | .build .. | .nilCheck _ | .fieldAddr .. => true
  | _ => false
def heapy (P : Program) : Nat → TypeId → Bool
  | 0, _ => true
  | n + 1, t =>
    match P.underlying t with
    | some (.slice _) | some (.pointer _) | some (.map _ _) | some (.func _ _ _) => true
    | some (.tuple ts) => ts.toList.isEmpty || ts.toList.any (heapy P n)
    | some (.struct fs) => fs.toList.any fun f => heapy P n f.type
    | some (.array _ e) => heapy P n e
    | _ => false
/-- does it write, or give memory? (A guess: nothing is lost by a wrong one but time.) -/
def makes (P : Program) (o : Oper) : Bool :=
  match o.op with
  | .store .. | .alloc _ | .box .. | .buildSlice .. | .makeSlice .. | .mapUpdate .. | .insert .. | .makeMap .. => true
  | .call c =>
    match c.callee with
    | .value _ => heapy P 3 o.type
    | .builtin b => match b with
      | .append | .copy => true
      | _ => false
    | _ => true
  | _ => false
/-- what was seen of one operation -/
structure Rc where
  v : AV
  fin : Fr
  gin : G
  gout : G
  ch : Bool
  T : List Nat
  lim : Nat
  fr0 : Fr
  fr1 : Fr
  g0 : G
  g1 : G
/-- what a pass is given -/
structure Cfg where
  nT : Nat
  all : List Oper
  ms : List Nat
  Ts : List (List Nat)
  NX : Nat
  nx0 : Nat
def Cfg.inc (C : Cfg) (j : Nat) : List Nat := incs C.ms C.all.length j
def Cfg.dst (C : Cfg) (k : Nat) : Option Tmp := (C.all[k]?).bind (·.dst)
def Cfg.fin (C : Cfg) (j : Nat) (fr : Fr) : Fr := eraseAll fr ((C.inc j).filterMap C.dst)
def limOf (nx0 m : Nat) : List (Nat × Nat) → Nat
  | [] => nx0
  | c :: l => bif Nat.testBit m c.1 then max c.2 (limOf nx0 m l) else limOf nx0 m l
def Cfg.isg (C : Cfg) (j : Nat) : Bool := C.all.any fun o => match o.guard with
  | some (k, _) => Nat.beq k j
  | none => false
/-- what reads only -/
def readIn (C : Cfg) (j : Nat) (o : Oper) (lim : Nat) (g : G) : G :=
  { g with H := bif light o.op then .e else eraseAll (cutT lim 1 0 g.H) ((C.inc j).flatMap fun k => C.Ts.getD k []), nx := C.NX, tch := [] }
def readR (P : Program) (call : Calls') (C : Cfg) (j : Nat) (o : Oper) (fr : Fr) (lim : Nat) : G → Res Rc := fun g =>
  match oneA P call C.all (C.isg j) (C.fin j fr) o (readIn C j o lim g) with
  | .done v go =>
    bif (go.tch.all fun nm => Nat.ble C.NX nm) && v.low lim && Nat.ble C.NX go.nx then
      .done ⟨v, C.fin j fr, readIn C j o lim g, go, false, [], lim, fr, (match o.dst with
        | some d => fr.upd d (some v)
        | none => fr), g, { g with path := go.path, cs := go.cs }⟩ { g with path := go.path, cs := go.cs }
    else .fail
  | .need b => .need b
  | .fail => .fail
/-- what makes memory, or writes: all ahead of it that does so is surely ahead -/
def chainR (P : Program) (call : Calls') (C : Cfg) (j : Nat) (o : Oper) (fr : Fr) (chs : List (Nat × Nat)) (lim : Nat) : G → Res Rc := fun g =>
  match oneA P call C.all (C.isg j) (C.fin j fr) o { g with tch := [] } with
  | .done v go =>
    bif (chs.all fun c => befM C.ms c.1 j) && Nat.ble g.nx go.nx then
      .done ⟨v, C.fin j fr, { g with tch := [] }, go, true, go.tch, lim, fr, (match o.dst with
        | some d => fr.upd d (some v)
        | none => fr), g, { go with tch := go.tch ++ g.tch }⟩ { go with tch := go.tch ++ g.tch }
    else .fail
  | .need b => .need b
  | .fail => .fail
def stepR (P : Program) (call : Calls') (C : Cfg) (j : Nat) (o : Oper) (fr : Fr) (chs : List (Nat × Nat)) : M Rc := fun g =>
  bif makes P o then chainR P call C j o fr chs (limOf C.nx0 (C.ms.getD j 0) chs) g
  else match readR P call C j o fr (limOf C.nx0 (C.ms.getD j 0) chs) g with
    | .done rc g' => .done rc g'
    | .need b => .need b
    | .fail => chainR P call C j o fr chs (limOf C.nx0 (C.ms.getD j 0) chs) g
def passA (P : Program) (call : Calls') (C : Cfg) : Nat → List Oper → Fr → List (Nat × Nat) → M (List Rc)
  | _, [], _, _ => ret []
  | j, o :: l, fr, chs => (stepR P call C j o fr chs).andThen fun rc =>
    (passA P call C (j + 1) l rc.fr1 (bif rc.ch then (j, rc.g1.nx) :: chs else chs)).andThen fun rcs => ret (rc :: rcs)
/-- does what was seen agree with what was guessed? -/
def seenOk (C : Cfg) : Nat → List Rc → Bool
  | _, [] => true
  | j, rc :: l => ((rc.T.all fun nm => (C.Ts.getD j []).contains nm) || ((C.inc j).all fun k => ((C.all[k]?).map fun o => light o.op).getD true)) && seenOk C (j + 1) l
def lastFr : Fr → List Rc → Fr
  | fr, [] => fr
  | _, rc :: l => lastFr rc.fr1 l
def regionA (P : Program) (call : Calls') (nT : Nat) (ops : List Oper) (fr : Fr) : M Fr := fun g =>
  bif staticOk (masksOf [] ops) nT 0 0 ops then
    match passA P call ⟨nT, ops, masksOf [] ops, [], g.nx + 4096, g.nx⟩ 0 ops fr [] g with
    | .done rcs g' =>
      bif Nat.ble g'.nx (g.nx + 4096) && seenOk ⟨nT, ops, masksOf [] ops, [], g.nx + 4096, g.nx⟩ 0 rcs then .done (lastFr fr rcs) g'
      else
        match passA P call ⟨nT, ops, masksOf [] ops, rcs.map (·.T), g.nx + 4294967296, g.nx⟩ 0 ops fr [] g with
        | .done rcs' g'' =>
          bif Nat.ble g''.nx (g.nx + 4294967296) && seenOk ⟨nT, ops, masksOf [] ops, rcs.map (·.T), g.nx + 4294967296, g.nx⟩ 0 rcs' then .done (lastFr fr rcs') g'' else .fail
        | .need b => .need b
        | .fail => .fail
    | .need b => .need b
    | .fail => .fail
  else .fail
end Go.Sx
