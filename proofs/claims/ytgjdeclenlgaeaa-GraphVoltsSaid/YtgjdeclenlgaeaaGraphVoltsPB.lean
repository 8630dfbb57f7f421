/- GraphVolts: a part: summaries of functions that the statement reaches, printed by program, checked by the kernel. -/
import Derived.ProofKit
import Derived.OpenShut
import Derived.KernelRfl
import Derived.SizedLaws
import Derived.Test.YtgjdeclenlgaeaaProg
import Derived.Test.YtgjdeclenlgaeaaGraphVoltsPA
namespace Go.Proofs.Ytgjdeclenlgaeaa
open Go.ChangeShapes Go.WideShapes Go.ChangeAt Go.RowKit Go.Sx
set_option linter.unusedVariables false
set_option linter.unusedSimpArgs false
set_option maxRecDepth 100000

theorem waG (B : Nat) (hB : B ≤ 7) (i k L m : Nat) (E : tE) (f : Nat → List UInt8) (x y : List UInt8) (cm : Int) : GoesB Try.prog ((nav [1,1,0,1,0,0,1,1,0,0,1,0] (bodyOf Try.f67))) Try.f67.ntmps B 7 7 (frL [(0, .str true x), (1, iT cm), (2, .ptr ⟨false, 2, 0, 0⟩), (3, .ptr ⟨false, 1, 0, 0⟩), (4, .ptr ⟨false, 3, 0, 0⟩), (5, .ptr ⟨false, 4, 0, 0⟩), (15, .slc true false ⟨false, 0, 0, 0⟩ k), (16, iT (k : Int)), (17, iT (i : Int)), (9, iT (i : Int)), (10, .ptr ⟨false, 6, 0, 0⟩)]) (hpL [(0, .cells false 8 k (.fn fun j => elR (E j))), (1, .cells true 1 1 (.fn fun _ => [.slc true false ⟨false, 0, 0, 0⟩ k])), (2, .cells true 1 1 (.fn fun _ => [.str true y])), (3, .cells true 1 1 (.fn fun _ => [sL 5 L])), (4, .cells true 1 1 (.fn fun _ => [.fn (.func 67) [] [.ptr ⟨false, 2, 0, 0⟩, .ptr ⟨false, 1, 0, 0⟩, .ptr ⟨false, 3, 0, 0⟩, .ptr ⟨false, 4, 0, 0⟩]])), (5, .cells true 1 m (.fn (txR f))), (6, .cells true 8 1 (.fn fun _ => elR (E i)))]) (pP .normal [(0, .str true x), (1, iT cm), (2, .ptr ⟨false, 2, 0, 0⟩), (3, .ptr ⟨false, 1, 0, 0⟩), (4, .ptr ⟨false, 3, 0, 0⟩), (5, .ptr ⟨false, 4, 0, 0⟩), (9, iT (↑i : Int)), (10, .ptr ⟨false, 6, 0, 0⟩), (11, .str true (El.a (E i))), (15, .slc true false ⟨false, 0, 0, 0⟩ k), (16, iT (↑k : Int)), (17, iT (↑i : Int))] [(0, .cells false 8 k (.fn fun j => (elR (E j)))), (1, .cells true 1 1 (.fn fun x => [.slc true false ⟨false, 0, 0, 0⟩ k])), (2, .cells true 1 1 (.fn fun x => [.str true y])), (3, .cells true 1 1 (.fn fun x => [sL 5 L])), (4, .cells true 1 1 (.fn fun x => [.fn (Go.Fn.func (67 : Go.FuncId)) [] [.ptr ⟨false, 2, 0, 0⟩, .ptr ⟨false, 1, 0, 0⟩, .ptr ⟨false, 3, 0, 0⟩, .ptr ⟨false, 4, 0, 0⟩]])), (5, .cells true 1 m (.fn (txR f))), (6, .cells true 8 1 (.fn fun x => (elR (E i))))]) := rdE [] trivial hB
theorem waH (B : Nat) (hB : B ≤ 7) (i k L m : Nat) (E : tE) (f : Nat → List UInt8) (x y : List UInt8) (cm : Int) : GoesB Try.prog ((nav [1,1,0,1,0,0,1,1,0,0,1,1,0] (bodyOf Try.f67))) Try.f67.ntmps B 7 7 (frL [(0, .str true x), (1, iT cm), (2, .ptr ⟨false, 2, 0, 0⟩), (3, .ptr ⟨false, 1, 0, 0⟩), (4, .ptr ⟨false, 3, 0, 0⟩), (5, .ptr ⟨false, 4, 0, 0⟩), (15, .slc true false ⟨false, 0, 0, 0⟩ k), (16, iT (k : Int)), (17, iT (i : Int)), (9, iT (i : Int)), (10, .ptr ⟨false, 6, 0, 0⟩), (11, .str true (E i).a)]) (hpL [(0, .cells false 8 k (.fn fun j => elR (E j))), (1, .cells true 1 1 (.fn fun _ => [.slc true false ⟨false, 0, 0, 0⟩ k])), (2, .cells true 1 1 (.fn fun _ => [.str true y])), (3, .cells true 1 1 (.fn fun _ => [sL 5 L])), (4, .cells true 1 1 (.fn fun _ => [.fn (.func 67) [] [.ptr ⟨false, 2, 0, 0⟩, .ptr ⟨false, 1, 0, 0⟩, .ptr ⟨false, 3, 0, 0⟩, .ptr ⟨false, 4, 0, 0⟩]])), (5, .cells true 1 m (.fn (txR f))), (6, .cells true 8 1 (.fn fun _ => elR (E i)))]) fun e fr' H' => (cond (El.a (E i) == x) (pP .normal [(0, .str true x), (1, iT cm), (2, .ptr ⟨false, 2, 0, 0⟩), (3, .ptr ⟨false, 1, 0, 0⟩), (4, .ptr ⟨false, 3, 0, 0⟩), (5, .ptr ⟨false, 4, 0, 0⟩), (9, iT (↑i : Int)), (10, .ptr ⟨false, 6, 0, 0⟩), (11, .str true (El.b (E i))), (15, .slc true false ⟨false, 0, 0, 0⟩ k), (16, iT (↑k : Int)), (17, iT (↑i : Int))] [(0, .cells false 8 k (.fn fun j => (elR (E j)))), (1, .cells true 1 1 (.fn fun x => [.slc true false ⟨false, 0, 0, 0⟩ k])), (2, .cells true 1 1 (.fn fun x => [.str true y])), (3, .cells true 1 1 (.fn fun x => [sL 5 L])), (4, .cells true 1 1 (.fn fun x => [.fn (Go.Fn.func (67 : Go.FuncId)) [] [.ptr ⟨false, 2, 0, 0⟩, .ptr ⟨false, 1, 0, 0⟩, .ptr ⟨false, 3, 0, 0⟩, .ptr ⟨false, 4, 0, 0⟩]])), (5, .cells true 1 m (.fn (txR f))), (6, .cells true 8 1 (.fn fun x => (elR (E i))))] e fr' H') (pP .normal [(0, .str true x), (1, iT cm), (2, .ptr ⟨false, 2, 0, 0⟩), (3, .ptr ⟨false, 1, 0, 0⟩), (4, .ptr ⟨false, 3, 0, 0⟩), (5, .ptr ⟨false, 4, 0, 0⟩), (9, iT (↑i : Int)), (10, .ptr ⟨false, 6, 0, 0⟩), (11, .str true (El.a (E i))), (15, .slc true false ⟨false, 0, 0, 0⟩ k), (16, iT (↑k : Int)), (17, iT (↑i : Int))] [(0, .cells false 8 k (.fn fun j => (elR (E j)))), (1, .cells true 1 1 (.fn fun x => [.slc true false ⟨false, 0, 0, 0⟩ k])), (2, .cells true 1 1 (.fn fun x => [.str true y])), (3, .cells true 1 1 (.fn fun x => [sL 5 L])), (4, .cells true 1 1 (.fn fun x => [.fn (Go.Fn.func (67 : Go.FuncId)) [] [.ptr ⟨false, 2, 0, 0⟩, .ptr ⟨false, 1, 0, 0⟩, .ptr ⟨false, 3, 0, 0⟩, .ptr ⟨false, 4, 0, 0⟩]])), (5, .cells true 1 m (.fn (txR f))), (6, .cells true 8 1 (.fn fun x => (elR (E i))))] e fr' H')) := cI (fun t0 => rdE [tT] (I1 t0) hB) (fun t0 => rdE [fF] (I1 t0) hB)
theorem waI (B : Nat) (hB : B ≤ 7) (i k L m : Nat) (E : tE) (f : Nat → List UInt8) (x y z : List UInt8) (cm : Int) : GoesB Try.prog ((nav [1,1,0,1,0,0,1,1,0,0,1,1,1,0] (bodyOf Try.f67))) Try.f67.ntmps B 7 7 (frL [(0, .str true x), (1, iT cm), (2, .ptr ⟨false, 2, 0, 0⟩), (3, .ptr ⟨false, 1, 0, 0⟩), (4, .ptr ⟨false, 3, 0, 0⟩), (5, .ptr ⟨false, 4, 0, 0⟩), (15, .slc true false ⟨false, 0, 0, 0⟩ k), (16, iT (k : Int)), (17, iT (i : Int)), (9, iT (i : Int)), (10, .ptr ⟨false, 6, 0, 0⟩), (11, .str true z)]) (hpL [(0, .cells false 8 k (.fn fun j => elR (E j))), (1, .cells true 1 1 (.fn fun _ => [.slc true false ⟨false, 0, 0, 0⟩ k])), (2, .cells true 1 1 (.fn fun _ => [.str true y])), (3, .cells true 1 1 (.fn fun _ => [sL 5 L])), (4, .cells true 1 1 (.fn fun _ => [.fn (.func 67) [] [.ptr ⟨false, 2, 0, 0⟩, .ptr ⟨false, 1, 0, 0⟩, .ptr ⟨false, 3, 0, 0⟩, .ptr ⟨false, 4, 0, 0⟩]])), (5, .cells true 1 m (.fn (txR f))), (6, .cells true 8 1 (.fn fun _ => elR (E i)))]) fun e fr' H' => (cond (decide ((↑i : Int) = cm)) (pP (.exit 1) [(0, .str true x), (1, iT cm), (2, .ptr ⟨false, 2, 0, 0⟩), (3, .ptr ⟨false, 1, 0, 0⟩), (4, .ptr ⟨false, 3, 0, 0⟩), (5, .ptr ⟨false, 4, 0, 0⟩), (9, iT (↑i : Int)), (10, .ptr ⟨false, 6, 0, 0⟩), (11, .str true z), (15, .slc true false ⟨false, 0, 0, 0⟩ k), (16, iT (↑k : Int)), (17, iT (↑i : Int))] [(0, .cells false 8 k (.fn fun j => (elR (E j)))), (1, .cells true 1 1 (.fn fun x => [.slc true false ⟨false, 0, 0, 0⟩ k])), (2, .cells true 1 1 (.fn fun x => [.str true y])), (3, .cells true 1 1 (.fn fun x => [sL 5 L])), (4, .cells true 1 1 (.fn fun x => [.fn (Go.Fn.func (67 : Go.FuncId)) [] [.ptr ⟨false, 2, 0, 0⟩, .ptr ⟨false, 1, 0, 0⟩, .ptr ⟨false, 3, 0, 0⟩, .ptr ⟨false, 4, 0, 0⟩]])), (5, .cells true 1 m (.fn (txR f))), (6, .cells true 8 1 (.fn fun x => (elR (E i))))] e fr' H') (cond (El.a (E i) == x) (pP .normal [(0, .str true x), (1, iT cm), (2, .ptr ⟨false, 2, 0, 0⟩), (3, .ptr ⟨false, 1, 0, 0⟩), (4, .ptr ⟨false, 3, 0, 0⟩), (5, .ptr ⟨false, 4, 0, 0⟩), (9, iT (↑i : Int)), (10, .ptr ⟨false, 6, 0, 0⟩), (11, .str true z), (15, .slc true false ⟨false, 0, 0, 0⟩ k), (16, iT (↑k : Int)), (17, iT (↑i : Int))] [(0, .cells false 8 k (.fn fun j => (elR (E j)))), (1, .cells true 1 1 (.fn fun x => [.slc true false ⟨false, 0, 0, 0⟩ k])), (2, .cells true 1 1 (.fn fun x => [.str true y])), (3, .cells true 1 1 (.fn fun x => [sL 5 L])), (4, .cells true 1 1 (.fn fun x => [.fn (Go.Fn.func (67 : Go.FuncId)) [] [.ptr ⟨false, 2, 0, 0⟩, .ptr ⟨false, 1, 0, 0⟩, .ptr ⟨false, 3, 0, 0⟩, .ptr ⟨false, 4, 0, 0⟩]])), (5, .cells true 1 m (.fn (txR f))), (6, .cells true 8 1 (.fn fun x => (elR (E i))))] e fr' H') (cond (El.b (E i) == x) (pP .normal [(0, .str true x), (1, iT cm), (2, .ptr ⟨false, 2, 0, 0⟩), (3, .ptr ⟨false, 1, 0, 0⟩), (4, .ptr ⟨false, 3, 0, 0⟩), (5, .ptr ⟨false, 4, 0, 0⟩), (9, iT (↑i : Int)), (10, .ptr ⟨false, 6, 0, 0⟩), (11, .str true z), (15, .slc true false ⟨false, 0, 0, 0⟩ k), (16, iT (↑k : Int)), (17, iT (↑i : Int))] [(0, .cells false 8 k (.fn fun j => (elR (E j)))), (1, .cells true 1 1 (.fn fun x => [.slc true false ⟨false, 0, 0, 0⟩ k])), (2, .cells true 1 1 (.fn fun x => [.str true y])), (3, .cells true 1 1 (.fn fun x => [sL 5 L])), (4, .cells true 1 1 (.fn fun x => [.fn (Go.Fn.func (67 : Go.FuncId)) [] [.ptr ⟨false, 2, 0, 0⟩, .ptr ⟨false, 1, 0, 0⟩, .ptr ⟨false, 3, 0, 0⟩, .ptr ⟨false, 4, 0, 0⟩]])), (5, .cells true 1 m (.fn (txR f))), (6, .cells true 8 1 (.fn fun x => (elR (E i))))] e fr' H') (pP (.exit 1) [(0, .str true x), (1, iT cm), (2, .ptr ⟨false, 2, 0, 0⟩), (3, .ptr ⟨false, 1, 0, 0⟩), (4, .ptr ⟨false, 3, 0, 0⟩), (5, .ptr ⟨false, 4, 0, 0⟩), (9, iT (↑i : Int)), (10, .ptr ⟨false, 6, 0, 0⟩), (11, .str true z), (15, .slc true false ⟨false, 0, 0, 0⟩ k), (16, iT (↑k : Int)), (17, iT (↑i : Int))] [(0, .cells false 8 k (.fn fun j => (elR (E j)))), (1, .cells true 1 1 (.fn fun x => [.slc true false ⟨false, 0, 0, 0⟩ k])), (2, .cells true 1 1 (.fn fun x => [.str true y])), (3, .cells true 1 1 (.fn fun x => [sL 5 L])), (4, .cells true 1 1 (.fn fun x => [.fn (Go.Fn.func (67 : Go.FuncId)) [] [.ptr ⟨false, 2, 0, 0⟩, .ptr ⟨false, 1, 0, 0⟩, .ptr ⟨false, 3, 0, 0⟩, .ptr ⟨false, 4, 0, 0⟩]])), (5, .cells true 1 m (.fn (txR f))), (6, .cells true 8 1 (.fn fun x => (elR (E i))))] e fr' H')))) := cD (fun q0 t0 => rdE [tT] (I1 t0) hB) (fun q0 t0 => cI (fun t1 => rdE [fF, fF] (I2 t0 (nt t1)) hB) (fun t1 => cI (fun t2 => rdE [fF, tT, fF] (I3 t0 (nf t1) (nt t2)) hB) (fun t2 => rdE [fF, tT, tT] (I3 t0 (nf t1) (nf t2)) hB)))
theorem waJ (B : Nat) (hB : B ≤ 7) (i k L m : Nat) (E : tE) (f : Nat → List UInt8) (x y z : List UInt8) (cm : Int) (x0 : (L ≤ m)) (x1 : ((L + 1) * 16 ≤ 140737488355328)) (x2 : (L + 1 ≤ 9223372036854775807)) : GoesB Try.prog ((nav [1,1,0,1,0,0,1,1,0,0,1,1,1,1,0] (bodyOf Try.f67))) Try.f67.ntmps B 7 9 (frL [(0, .str true x), (1, iT cm), (2, .ptr ⟨false, 2, 0, 0⟩), (3, .ptr ⟨false, 1, 0, 0⟩), (4, .ptr ⟨false, 3, 0, 0⟩), (5, .ptr ⟨false, 4, 0, 0⟩), (15, .slc true false ⟨false, 0, 0, 0⟩ k), (16, iT (k : Int)), (17, iT (i : Int)), (9, iT (i : Int)), (10, .ptr ⟨false, 6, 0, 0⟩), (11, .str true z)]) (hpL [(0, .cells false 8 k (.fn fun j => elR (E j))), (1, .cells true 1 1 (.fn fun _ => [.slc true false ⟨false, 0, 0, 0⟩ k])), (2, .cells true 1 1 (.fn fun _ => [.str true y])), (3, .cells true 1 1 (.fn fun _ => [sL 5 L])), (4, .cells true 1 1 (.fn fun _ => [.fn (.func 67) [] [.ptr ⟨false, 2, 0, 0⟩, .ptr ⟨false, 1, 0, 0⟩, .ptr ⟨false, 3, 0, 0⟩, .ptr ⟨false, 4, 0, 0⟩]])), (5, .cells true 1 m (.fn (txR f))), (6, .cells true 8 1 (.fn fun _ => elR (E i)))]) (pP .normal [(0, .str true x), (1, iT cm), (2, .ptr ⟨false, 2, 0, 0⟩), (3, .ptr ⟨false, 1, 0, 0⟩), (4, .ptr ⟨false, 3, 0, 0⟩), (5, .ptr ⟨false, 4, 0, 0⟩), (9, iT (↑i : Int)), (11, .str true z), (15, .slc true false ⟨false, 0, 0, 0⟩ k), (16, iT (↑k : Int)), (17, iT (↑i : Int))] [(0, .cells false 8 k (.fn fun j => (elR (E j)))), (1, .cells true 1 1 (.fn fun x => [.slc true false ⟨false, 0, 0, 0⟩ k])), (2, .cells true 1 1 (.fn fun x => [.str true y])), (3, .cells true 1 1 (.fn fun j => bif Nat.beq j 0 then [sL 8 (L + 1)] else [sL 5 L])), (4, .cells true 1 1 (.fn fun x => [.fn (Go.Fn.func (67 : Go.FuncId)) [] [.ptr ⟨false, 2, 0, 0⟩, .ptr ⟨false, 1, 0, 0⟩, .ptr ⟨false, 3, 0, 0⟩, .ptr ⟨false, 4, 0, 0⟩]])), (8, .cells true 1 (L + 1) (.fn fun j => bif decide (j < L) then (txR f j) else [.str true (El.n (E i))]))]) := rdE [] (I1 (ai x0 (ai x1 x2))) hB
theorem waM (B : Nat) (hB : B ≤ 6) (i k L m : Nat) (E : tE) (f : Nat → List UInt8) (x y : List UInt8) (cm : Int) (x0 : ((↑L : Int) - 1 ≤ (9223372036854775807 : Int))) (x1 : (0 ≤ (↑L : Int) - 1)) : GoesB Try.prog ((nav [1,1,0,1,0,0,1,1,0,0,1,1,1,1,1,1] (bodyOf Try.f67))) Try.f67.ntmps B 6 6 (frL [(0, .str true x), (1, iT cm), (2, .ptr ⟨false, 2, 0, 0⟩), (3, .ptr ⟨false, 1, 0, 0⟩), (4, .ptr ⟨false, 3, 0, 0⟩), (5, .ptr ⟨false, 4, 0, 0⟩), (15, .slc true false ⟨false, 0, 0, 0⟩ k), (16, iT (k : Int)), (17, iT (i : Int))]) (hpL [(0, .cells false 8 k (.fn fun j => elR (E j))), (1, .cells true 1 1 (.fn fun _ => [.slc true false ⟨false, 0, 0, 0⟩ k])), (2, .cells true 1 1 (.fn fun _ => [.str true y])), (3, .cells true 1 1 (.fn fun _ => [sL 5 L])), (4, .cells true 1 1 (.fn fun _ => [.fn (.func 67) [] [.ptr ⟨false, 2, 0, 0⟩, .ptr ⟨false, 1, 0, 0⟩, .ptr ⟨false, 3, 0, 0⟩, .ptr ⟨false, 4, 0, 0⟩]])), (5, .cells true 1 m (.fn (txR f)))]) (pP .normal [(0, .str true x), (1, iT cm), (2, .ptr ⟨false, 2, 0, 0⟩), (3, .ptr ⟨false, 1, 0, 0⟩), (4, .ptr ⟨false, 3, 0, 0⟩), (5, .ptr ⟨false, 4, 0, 0⟩), (15, .slc true false ⟨false, 0, 0, 0⟩ k), (16, iT (↑k : Int)), (17, iT (↑i : Int))] [(0, .cells false 8 k (.fn fun j => (elR (E j)))), (1, .cells true 1 1 (.fn fun x => [.slc true false ⟨false, 0, 0, 0⟩ k])), (2, .cells true 1 1 (.fn fun x => [.str true y])), (3, .cells true 1 1 (.fn fun j => bif Nat.beq j 0 then [sL 5 (Int.toNat ((↑L : Int) - 1))] else [sL 5 L])), (4, .cells true 1 1 (.fn fun x => [.fn (Go.Fn.func (67 : Go.FuncId)) [] [.ptr ⟨false, 2, 0, 0⟩, .ptr ⟨false, 1, 0, 0⟩, .ptr ⟨false, 3, 0, 0⟩, .ptr ⟨false, 4, 0, 0⟩]])), (5, .cells true 1 m (.fn (txR f)))]) := rdE [] (I2 (ai (show -9223372036854775808 ≤ (↑L : Int) - 1 by omega) x0) (ai (show (0 : Int) ≤ 0 by omega) (ai x1 (show (↑L : Int) - 1 ≤ (↑L : Int) by omega)))) hB
theorem waN (B : Nat) (hB : B ≤ 6) (i k L m : Nat) (E : tE) (f : Nat → List UInt8) (x y : List UInt8) (cm : Int) (x0 : ((↑i : Int) + 1 ≤ (9223372036854775807 : Int))) : GoesB Try.prog ((nav [1,1,0,1,0,0,1,1,1] (bodyOf Try.f67))) Try.f67.ntmps B 6 6 (frL [(0, .str true x), (1, iT cm), (2, .ptr ⟨false, 2, 0, 0⟩), (3, .ptr ⟨false, 1, 0, 0⟩), (4, .ptr ⟨false, 3, 0, 0⟩), (5, .ptr ⟨false, 4, 0, 0⟩), (15, .slc true false ⟨false, 0, 0, 0⟩ k), (16, iT (k : Int)), (17, iT (i : Int))]) (hpL [(0, .cells false 8 k (.fn fun j => elR (E j))), (1, .cells true 1 1 (.fn fun _ => [.slc true false ⟨false, 0, 0, 0⟩ k])), (2, .cells true 1 1 (.fn fun _ => [.str true y])), (3, .cells true 1 1 (.fn fun _ => [sL 5 L])), (4, .cells true 1 1 (.fn fun _ => [.fn (.func 67) [] [.ptr ⟨false, 2, 0, 0⟩, .ptr ⟨false, 1, 0, 0⟩, .ptr ⟨false, 3, 0, 0⟩, .ptr ⟨false, 4, 0, 0⟩]])), (5, .cells true 1 m (.fn (txR f)))]) (pP .normal [(0, .str true x), (1, iT cm), (2, .ptr ⟨false, 2, 0, 0⟩), (3, .ptr ⟨false, 1, 0, 0⟩), (4, .ptr ⟨false, 3, 0, 0⟩), (5, .ptr ⟨false, 4, 0, 0⟩), (15, .slc true false ⟨false, 0, 0, 0⟩ k), (16, iT (↑k : Int)), (17, iT ((↑i : Int) + 1))] [(0, .cells false 8 k (.fn fun j => (elR (E j)))), (1, .cells true 1 1 (.fn fun x => [.slc true false ⟨false, 0, 0, 0⟩ k])), (2, .cells true 1 1 (.fn fun x => [.str true y])), (3, .cells true 1 1 (.fn fun x => [sL 5 L])), (4, .cells true 1 1 (.fn fun x => [.fn (Go.Fn.func (67 : Go.FuncId)) [] [.ptr ⟨false, 2, 0, 0⟩, .ptr ⟨false, 1, 0, 0⟩, .ptr ⟨false, 3, 0, 0⟩, .ptr ⟨false, 4, 0, 0⟩]])), (5, .cells true 1 m (.fn (txR f)))]) := rdE [] (I1 (ai (show -9223372036854775808 ≤ (↑i : Int) + 1 by omega) x0)) hB
theorem waE (B : Nat) (hB : B ≤ 6) (i k L m : Nat) (E : tE) (f : Nat → List UInt8) (x y : List UInt8) (cm : Int) (b : Bool) : GoesB Try.prog ((nav [1,1,0,1,0,0,1,0] (bodyOf Try.f67))) Try.f67.ntmps B 6 6 (frL [(0, .str true x), (1, iT cm), (2, .ptr ⟨false, 2, 0, 0⟩), (3, .ptr ⟨false, 1, 0, 0⟩), (4, .ptr ⟨false, 3, 0, 0⟩), (5, .ptr ⟨false, 4, 0, 0⟩), (15, .slc true false ⟨false, 0, 0, 0⟩ k), (16, iT (k : Int)), (17, iT (i : Int)), (18, .sbool b)]) (hpL [(0, .cells false 8 k (.fn fun j => elR (E j))), (1, .cells true 1 1 (.fn fun _ => [.slc true false ⟨false, 0, 0, 0⟩ k])), (2, .cells true 1 1 (.fn fun _ => [.str true y])), (3, .cells true 1 1 (.fn fun _ => [sL 5 L])), (4, .cells true 1 1 (.fn fun _ => [.fn (.func 67) [] [.ptr ⟨false, 2, 0, 0⟩, .ptr ⟨false, 1, 0, 0⟩, .ptr ⟨false, 3, 0, 0⟩, .ptr ⟨false, 4, 0, 0⟩]])), (5, .cells true 1 m (.fn (txR f)))]) fun e fr' H' => (cond (b) (pP .normal [(0, .str true x), (1, iT cm), (2, .ptr ⟨false, 2, 0, 0⟩), (3, .ptr ⟨false, 1, 0, 0⟩), (4, .ptr ⟨false, 3, 0, 0⟩), (5, .ptr ⟨false, 4, 0, 0⟩), (15, .slc true false ⟨false, 0, 0, 0⟩ k), (16, iT (↑k : Int)), (17, iT (↑i : Int))] [(0, .cells false 8 k (.fn fun j => (elR (E j)))), (1, .cells true 1 1 (.fn fun x => [.slc true false ⟨false, 0, 0, 0⟩ k])), (2, .cells true 1 1 (.fn fun x => [.str true y])), (3, .cells true 1 1 (.fn fun x => [sL 5 L])), (4, .cells true 1 1 (.fn fun x => [.fn (Go.Fn.func (67 : Go.FuncId)) [] [.ptr ⟨false, 2, 0, 0⟩, .ptr ⟨false, 1, 0, 0⟩, .ptr ⟨false, 3, 0, 0⟩, .ptr ⟨false, 4, 0, 0⟩]])), (5, .cells true 1 m (.fn (txR f)))] e fr' H') (pP (.exit 0) [(0, .str true x), (1, iT cm), (2, .ptr ⟨false, 2, 0, 0⟩), (3, .ptr ⟨false, 1, 0, 0⟩), (4, .ptr ⟨false, 3, 0, 0⟩), (5, .ptr ⟨false, 4, 0, 0⟩), (15, .slc true false ⟨false, 0, 0, 0⟩ k), (16, iT (↑k : Int)), (17, iT (↑i : Int))] [(0, .cells false 8 k (.fn fun j => (elR (E j)))), (1, .cells true 1 1 (.fn fun x => [.slc true false ⟨false, 0, 0, 0⟩ k])), (2, .cells true 1 1 (.fn fun x => [.str true y])), (3, .cells true 1 1 (.fn fun x => [sL 5 L])), (4, .cells true 1 1 (.fn fun x => [.fn (Go.Fn.func (67 : Go.FuncId)) [] [.ptr ⟨false, 2, 0, 0⟩, .ptr ⟨false, 1, 0, 0⟩, .ptr ⟨false, 3, 0, 0⟩, .ptr ⟨false, 4, 0, 0⟩]])), (5, .cells true 1 m (.fn (txR f)))] e fr' H')) := cI (fun t0 => rdE [tT] (I1 t0) hB) (fun t0 => rdE [fF] (I1 t0) hB)
theorem waK_r0 (i k L m : Nat) (E : tE) (f : Nat → List UInt8) (x y z : List UInt8) (cm : Int) : PieceN 6 (Ex.normal) [(0, .str true x), (1, iT cm), (2, .ptr ⟨false, 2, 0, 0⟩), (3, .ptr ⟨false, 1, 0, 0⟩), (4, .ptr ⟨false, 3, 0, 0⟩), (5, .ptr ⟨false, 4, 0, 0⟩), (15, .slc true false ⟨false, 0, 0, 0⟩ k), (16, iT (↑k : Int)), (17, iT (↑i : Int)), (50, .fn (Go.Fn.func (67 : Go.FuncId)) [] [.ptr ⟨false, 2, 0, 0⟩, .ptr ⟨false, 1, 0, 0⟩, .ptr ⟨false, 3, 0, 0⟩, .ptr ⟨false, 4, 0, 0⟩]), (51, .str true z), (52, iT (↑i : Int))] [(0, .cells false 8 k (.fn fun j => (elR (E j)))), (1, .cells true 1 1 (.fn fun x => [.slc true false ⟨false, 0, 0, 0⟩ k])), (2, .cells true 1 1 (.fn fun x => [.str true y])), (3, .cells true 1 1 (.fn fun x => [sL 5 L])), (4, .cells true 1 1 (.fn fun x => [.fn (Go.Fn.func (67 : Go.FuncId)) [] [.ptr ⟨false, 2, 0, 0⟩, .ptr ⟨false, 1, 0, 0⟩, .ptr ⟨false, 3, 0, 0⟩, .ptr ⟨false, 4, 0, 0⟩]])), (5, .cells true 1 m (.fn (txR f)))] (piececallE Try.f67 ((regPre 3 (nav [1,1,0,1,0,0,1,1,0,0,1,1,1,1,1,0,0] (bodyOf Try.f67)))) (frL [(0, .str true x), (1, iT cm), (2, .ptr ⟨false, 2, 0, 0⟩), (3, .ptr ⟨false, 1, 0, 0⟩), (4, .ptr ⟨false, 3, 0, 0⟩), (5, .ptr ⟨false, 4, 0, 0⟩), (15, .slc true false ⟨false, 0, 0, 0⟩ k), (16, iT (k : Int)), (17, iT (i : Int)), (9, iT (i : Int)), (11, .str true z)]) (hpL [(0, .cells false 8 k (.fn fun j => elR (E j))), (1, .cells true 1 1 (.fn fun _ => [.slc true false ⟨false, 0, 0, 0⟩ k])), (2, .cells true 1 1 (.fn fun _ => [.str true y])), (3, .cells true 1 1 (.fn fun _ => [sL 5 L])), (4, .cells true 1 1 (.fn fun _ => [.fn (.func 67) [] [.ptr ⟨false, 2, 0, 0⟩, .ptr ⟨false, 1, 0, 0⟩, .ptr ⟨false, 3, 0, 0⟩, .ptr ⟨false, 4, 0, 0⟩]])), (5, .cells true 1 m (.fn (txR f)))]) 6 []) := eN trivial
theorem waQ_r0 (i k L m : Nat) (E : tE) (f : Nat → List UInt8) (x y : List UInt8) (cm : Int) (b : Bool) : PieceN 6 (Ex.normal) [(53, .sbool b), (0, .str true x), (1, iT cm), (2, .ptr ⟨false, 2, 0, 0⟩), (3, .ptr ⟨false, 1, 0, 0⟩), (4, .ptr ⟨false, 3, 0, 0⟩), (5, .ptr ⟨false, 4, 0, 0⟩), (15, .slc true false ⟨false, 0, 0, 0⟩ k), (16, iT (↑k : Int)), (17, iT (↑i : Int))] [(0, .cells false 8 k (.fn fun j => (elR (E j)))), (1, .cells true 1 1 (.fn fun x => [.slc true false ⟨false, 0, 0, 0⟩ k])), (2, .cells true 1 1 (.fn fun x => [.str true y])), (3, .cells true 1 1 (.fn fun x => [sL 5 L])), (4, .cells true 1 1 (.fn fun x => [.fn (Go.Fn.func (67 : Go.FuncId)) [] [.ptr ⟨false, 2, 0, 0⟩, .ptr ⟨false, 1, 0, 0⟩, .ptr ⟨false, 3, 0, 0⟩, .ptr ⟨false, 4, 0, 0⟩]])), (5, .cells true 1 m (.fn (txR f)))] (piececallE Try.f67 ((regPost 4 (nav [1,1,0,1,0,0,1,1,0,0,1,1,1,1,1,0,0] (bodyOf Try.f67)))) (frL [(53, .sbool b), (0, .str true x), (1, iT cm), (2, .ptr ⟨false, 2, 0, 0⟩), (3, .ptr ⟨false, 1, 0, 0⟩), (4, .ptr ⟨false, 3, 0, 0⟩), (5, .ptr ⟨false, 4, 0, 0⟩), (15, .slc true false ⟨false, 0, 0, 0⟩ k), (16, iT (k : Int)), (17, iT (i : Int))]) (hpL [(0, .cells false 8 k (.fn fun j => elR (E j))), (1, .cells true 1 1 (.fn fun _ => [.slc true false ⟨false, 0, 0, 0⟩ k])), (2, .cells true 1 1 (.fn fun _ => [.str true y])), (3, .cells true 1 1 (.fn fun _ => [sL 5 L])), (4, .cells true 1 1 (.fn fun _ => [.fn (.func 67) [] [.ptr ⟨false, 2, 0, 0⟩, .ptr ⟨false, 1, 0, 0⟩, .ptr ⟨false, 3, 0, 0⟩, .ptr ⟨false, 4, 0, 0⟩]])), (5, .cells true 1 m (.fn (txR f)))]) 6 []) := eN trivial
theorem waL (B : Nat) (hB : B ≤ 6) (i k L m : Nat) (E : tE) (f : Nat → List UInt8) (x y : List UInt8) (cm : Int) (b : Bool) : GoesB Try.prog ((nav [1,1,0,1,0,0,1,1,0,0,1,1,1,1,1,0,1] (bodyOf Try.f67))) Try.f67.ntmps B 6 6 (frL [(53, .sbool b), (0, .str true x), (1, iT cm), (2, .ptr ⟨false, 2, 0, 0⟩), (3, .ptr ⟨false, 1, 0, 0⟩), (4, .ptr ⟨false, 3, 0, 0⟩), (5, .ptr ⟨false, 4, 0, 0⟩), (15, .slc true false ⟨false, 0, 0, 0⟩ k), (16, iT (k : Int)), (17, iT (i : Int))]) (hpL [(0, .cells false 8 k (.fn fun j => elR (E j))), (1, .cells true 1 1 (.fn fun _ => [.slc true false ⟨false, 0, 0, 0⟩ k])), (2, .cells true 1 1 (.fn fun _ => [.str true y])), (3, .cells true 1 1 (.fn fun _ => [sL 5 L])), (4, .cells true 1 1 (.fn fun _ => [.fn (.func 67) [] [.ptr ⟨false, 2, 0, 0⟩, .ptr ⟨false, 1, 0, 0⟩, .ptr ⟨false, 3, 0, 0⟩, .ptr ⟨false, 4, 0, 0⟩]])), (5, .cells true 1 m (.fn (txR f)))]) fun e fr' H' => (cond (b) (pP .ret [(0, .str true x), (1, iT cm), (2, .ptr ⟨false, 2, 0, 0⟩), (3, .ptr ⟨false, 1, 0, 0⟩), (4, .ptr ⟨false, 3, 0, 0⟩), (5, .ptr ⟨false, 4, 0, 0⟩), (15, .slc true false ⟨false, 0, 0, 0⟩ k), (16, iT (↑k : Int)), (17, iT (↑i : Int)), (8, .bool true)] [(0, .cells false 8 k (.fn fun j => (elR (E j)))), (1, .cells true 1 1 (.fn fun x => [.slc true false ⟨false, 0, 0, 0⟩ k])), (2, .cells true 1 1 (.fn fun x => [.str true y])), (3, .cells true 1 1 (.fn fun x => [sL 5 L])), (4, .cells true 1 1 (.fn fun x => [.fn (Go.Fn.func (67 : Go.FuncId)) [] [.ptr ⟨false, 2, 0, 0⟩, .ptr ⟨false, 1, 0, 0⟩, .ptr ⟨false, 3, 0, 0⟩, .ptr ⟨false, 4, 0, 0⟩]])), (5, .cells true 1 m (.fn (txR f)))] e fr' H') (pP .normal [(0, .str true x), (1, iT cm), (2, .ptr ⟨false, 2, 0, 0⟩), (3, .ptr ⟨false, 1, 0, 0⟩), (4, .ptr ⟨false, 3, 0, 0⟩), (5, .ptr ⟨false, 4, 0, 0⟩), (15, .slc true false ⟨false, 0, 0, 0⟩ k), (16, iT (↑k : Int)), (17, iT (↑i : Int))] [(0, .cells false 8 k (.fn fun j => (elR (E j)))), (1, .cells true 1 1 (.fn fun x => [.slc true false ⟨false, 0, 0, 0⟩ k])), (2, .cells true 1 1 (.fn fun x => [.str true y])), (3, .cells true 1 1 (.fn fun x => [sL 5 L])), (4, .cells true 1 1 (.fn fun x => [.fn (Go.Fn.func (67 : Go.FuncId)) [] [.ptr ⟨false, 2, 0, 0⟩, .ptr ⟨false, 1, 0, 0⟩, .ptr ⟨false, 3, 0, 0⟩, .ptr ⟨false, 4, 0, 0⟩]])), (5, .cells true 1 m (.fn (txR f)))] e fr' H')) := cI (fun t0 => rdE [tT] (I1 t0) hB) (fun t0 => rdE [fF] (I1 t0) hB)
theorem waO (B : Nat) (hB : B ≤ 6) (i k L m : Nat) (E : tE) (f : Nat → List UInt8) (x y : List UInt8) (cm : Int) : GoesB Try.prog ((nav [1,1,1] (bodyOf Try.f67))) Try.f67.ntmps B 6 6 (frL [(0, .str true x), (1, iT cm), (2, .ptr ⟨false, 2, 0, 0⟩), (3, .ptr ⟨false, 1, 0, 0⟩), (4, .ptr ⟨false, 3, 0, 0⟩), (5, .ptr ⟨false, 4, 0, 0⟩), (15, .slc true false ⟨false, 0, 0, 0⟩ k), (16, iT (k : Int)), (17, iT (i : Int))]) (hpL [(0, .cells false 8 k (.fn fun j => elR (E j))), (1, .cells true 1 1 (.fn fun _ => [.slc true false ⟨false, 0, 0, 0⟩ k])), (2, .cells true 1 1 (.fn fun _ => [.str true y])), (3, .cells true 1 1 (.fn fun _ => [sL 5 L])), (4, .cells true 1 1 (.fn fun _ => [.fn (.func 67) [] [.ptr ⟨false, 2, 0, 0⟩, .ptr ⟨false, 1, 0, 0⟩, .ptr ⟨false, 3, 0, 0⟩, .ptr ⟨false, 4, 0, 0⟩]])), (5, .cells true 1 m (.fn (txR f)))]) (pP .ret [(8, .bool false)] [(0, .cells false 8 k (.fn fun j => (elR (E j)))), (1, .cells true 1 1 (.fn fun x => [.slc true false ⟨false, 0, 0, 0⟩ k])), (2, .cells true 1 1 (.fn fun x => [.str true y])), (3, .cells true 1 1 (.fn fun x => [sL 5 L])), (4, .cells true 1 1 (.fn fun x => [.fn (Go.Fn.func (67 : Go.FuncId)) [] [.ptr ⟨false, 2, 0, 0⟩, .ptr ⟨false, 1, 0, 0⟩, .ptr ⟨false, 3, 0, 0⟩, .ptr ⟨false, 4, 0, 0⟩]])), (5, .cells true 1 m (.fn (txR f)))]) := rdE [] trivial hB
theorem List.reverseRecOn' {α : Type} {P : List α → Prop} (l : List α) (nil : P []) (snoc : ∀ l p, P l → P (l ++ [p])) : P l := by
 have : ∀ l : List α, P l.reverse := by
  intro l
  induction l with
  | nil => exact nil
  | cons a l ih => rw [List.reverse_cons]; exact snoc _ _ ih
 simpa using this l.reverse
/-! ### sets of nodes: each knows a lesser one of its set -/
def rt (u : Nat → Nat) : Nat → Nat → Nat
 | 0, k => k
 | f + 1, k => if u k = k then k else rt u f (u k)
def root (u : Nat → Nat) (k : Nat) : Nat := rt u k k
theorem rt_le {u : Nat → Nat} (hu : ∀ j, u j ≤ j) : ∀ f k, rt u f k ≤ k
 | 0, k => Nat.le_refl _
 | f + 1, k => by
  unfold rt
  split
  ·exact Nat.le_refl _
  ·exact Nat.le_trans (rt_le hu f _) (hu k)
theorem rt_fix {u : Nat → Nat} (hu : ∀ j, u j ≤ j) : ∀ f k, k ≤ f → u (rt u f k) = rt u f k
 | 0, k, h => by
  have := hu k
  show u k = k
  omega
 | f + 1, k, h => by
  unfold rt
  split
  ·assumption
  ·exact rt_fix hu f _ (by have := hu k; omega)
theorem rt_more {u : Nat → Nat} (hu : ∀ j, u j ≤ j) : ∀ f f' k, k ≤ f → k ≤ f' → rt u f k = rt u f' k
 | 0, 0, k, h, h' => rfl
 | 0, f' + 1, k, h, h' => by
  unfold rt
  have := hu k
  rw [if_pos (by omega)]
 | f + 1, 0, k, h, h' => by
  unfold rt
  have := hu k
  rw [if_pos (by omega)]
 | f + 1, f' + 1, k, h, h' => by
  unfold rt
  split
  ·rfl
  ·exact rt_more hu f f' _ (by have := hu k; omega) (by have := hu k; omega)
theorem root_le {u : Nat → Nat} (hu : ∀ j, u j ≤ j) (k : Nat) : root u k ≤ k := rt_le hu k k
theorem root_fix {u : Nat → Nat} (hu : ∀ j, u j ≤ j) (k : Nat) : u (root u k) = root u k := rt_fix hu k k (Nat.le_refl _)
theorem root_self {u : Nat → Nat} {k : Nat} (h : u k = k) : root u k = k := by
 unfold root
 cases k with
 | zero => rfl
 | succ k => unfold rt; rw [if_pos h]
theorem root_step {u : Nat → Nat} (hu : ∀ j, u j ≤ j) (k : Nat) : root u (u k) = root u k := by
 by_cases h : u k = k
 ·rw [h]
 ·have hk := hu k
  unfold root
  cases k with
  | zero => omega
  | succ k =>
   show rt u (u (k + 1)) (u (k + 1)) = rt u (k + 1) (k + 1)
   conv => rhs; unfold rt
   rw [if_neg h]
   exact rt_more hu _ _ _ (Nat.le_refl _) (by omega)
/-- the sets of two are joined -/
def jn (u : Nat → Nat) (x y : Nat) : Nat → Nat := fun j => if j = max (root u x) (root u y) then min (root u x) (root u y) else u j
theorem jn_le {u : Nat → Nat} (hu : ∀ j, u j ≤ j) (x y : Nat) : ∀ j, jn u x y j ≤ j := by
 intro j
 unfold jn
 split
 ·subst_vars; omega
 ·exact hu j
theorem root_jn {u : Nat → Nat} (hu : ∀ j, u j ≤ j) (x y : Nat) : ∀ k, root (jn u x y) k = if root u k = max (root u x) (root u y) then min (root u x) (root u y) else root u k := by
 have hx := root_fix hu x
 have hy := root_fix hu y
 have hj := jn_le hu x y
 have hmin : jn u x y (min (root u x) (root u y)) = min (root u x) (root u y) := by
  unfold jn
  split
  ·rfl
  ·rcases Nat.le_total (root u x) (root u y) with h | h
   ·rw [Nat.min_eq_left h]; exact hx
   ·rw [Nat.min_eq_right h]; exact hy
 have hmaxr : root u (max (root u x) (root u y)) = max (root u x) (root u y) := by
  rcases Nat.le_total (root u x) (root u y) with h | h
  ·rw [Nat.max_eq_right h]; exact root_self hy
  ·rw [Nat.max_eq_left h]; exact root_self hx
 intro k
 induction k using Nat.strongRecOn with
 | ind k ih =>
  by_cases hk : k = max (root u x) (root u y)
  ·have e1 : jn u x y k = min (root u x) (root u y) := by unfold jn; rw [if_pos hk]
   rw [← root_step hj k, e1, root_self hmin]
   rw [if_pos (by rw [hk]; exact hmaxr)]
  ·have e1 : jn u x y k = u k := by unfold jn; rw [if_neg hk]
   by_cases hf : u k = k
   ·rw [root_self (by rw [e1]; exact hf), root_self hf, if_neg hk]
   ·rw [← root_step hj k, e1, ih (u k) (by have := hu k; omega), root_step hu]
/-- joined one behind the other -/
def Ul {α : Type} (A : α → Nat) (l : List (α × α)) : Nat → Nat := l.foldl (fun u p => jn u (A p.1) (A p.2)) id
theorem Ul_snoc {α : Type} (A : α → Nat) (l : List (α × α)) (p : α × α) : Ul A (l ++ [p]) = jn (Ul A l) (A p.1) (A p.2) := by
 unfold Ul; rw [List.foldl_append]; rfl
theorem Ul_le {α : Type} (A : α → Nat) : ∀ (l : List (α × α)) j, Ul A l j ≤ j := by
 have key : ∀ (l : List (α × α)) (u : Nat → Nat), (∀ j, u j ≤ j) → ∀ j, l.foldl (fun u p => jn u (A p.1) (A p.2)) u j ≤ j := by
  intro l
  induction l with
  | nil => intro u hu j; exact hu j
  | cons p l ih => intro u hu j; exact ih _ (jn_le hu _ _) j
 exact fun l j => key l id (fun j => Nat.le_refl _) j
/-- the class of a node -/
def cls {α : Type} (A : α → Nat) (l : List (α × α)) (a : α) : Nat := root (Ul A l) (A a)
theorem cls_nil {α : Type} (A : α → Nat) (a : α) : cls A [] a = A a := root_self rfl
theorem cls_snoc {α : Type} (A : α → Nat) (l : List (α × α)) (p : α × α) (a : α) : cls A (l ++ [p]) a = if cls A l a = max (cls A l p.1) (cls A l p.2) then min (cls A l p.1) (cls A l p.2) else cls A l a := by
 unfold cls; rw [Ul_snoc, root_jn (Ul_le A l)]
theorem cls_join {α : Type} (A : α → Nat) (l : List (α × α)) (p : α × α) (a b : α) : cls A (l ++ [p]) a = cls A (l ++ [p]) b ↔ cls A l a = cls A l b ∨ ((cls A l a = cls A l p.1 ∨ cls A l a = cls A l p.2) ∧ (cls A l b = cls A l p.1 ∨ cls A l b = cls A l p.2)) := by
 rw [cls_snoc, cls_snoc]
 generalize cls A l a = x
 generalize cls A l b = y
 generalize cls A l p.1 = c
 generalize cls A l p.2 = d
 rcases Nat.le_total c d with h | h
 ·rw [Nat.max_eq_right h, Nat.min_eq_left h]
  split <;> split <;> omega
 ·rw [Nat.max_eq_left h, Nat.min_eq_right h]
  split <;> split <;> omega
/-- in two numberings the same hangs together -/
theorem cls_sim {α : Type} {A A' : α → Nat} {V : α → Prop} (h0 : ∀ a b, V a → V b → (A a = A b ↔ A' a = A' b)) : ∀ (l : List (α × α)), (∀ p ∈ l, V p.1 ∧ V p.2) → ∀ a b, V a → V b → (cls A l a = cls A l b ↔ cls A' l a = cls A' l b) := by
 intro l
 induction l using List.reverseRecOn' with
 | nil => intro _ a b ha hb; rw [cls_nil, cls_nil, cls_nil, cls_nil]; exact h0 a b ha hb
 | snoc l p ih =>
  intro hl a b ha hb
  have hl' : ∀ q ∈ l, V q.1 ∧ V q.2 := fun q hq => hl q (List.mem_append_left _ hq)
  obtain ⟨h1, h2⟩ := hl p (by simp)
  rw [cls_join, cls_join, ih hl' a b ha hb, ih hl' a _ ha h1, ih hl' a _ ha h2, ih hl' b _ hb h1, ih hl' b _ hb h2]
/-- is one of them in a set already that it joins? -/
def shut {α : Type} (A : α → Nat) (l : List (α × α)) : Prop := ∃ i p, l[i]? = some p ∧ cls A (l.take i) p.1 = cls A (l.take i) p.2
theorem shut_sim {α : Type} {A A' : α → Nat} {V : α → Prop} (h0 : ∀ a b, V a → V b → (A a = A b ↔ A' a = A' b)) (l : List (α × α)) (hl : ∀ p ∈ l, V p.1 ∧ V p.2) : shut A l ↔ shut A' l := by
 have key : ∀ i p, l[i]? = some p → (cls A (l.take i) p.1 = cls A (l.take i) p.2 ↔ cls A' (l.take i) p.1 = cls A' (l.take i) p.2) := fun i p hp => by
  have hm := List.mem_of_getElem? hp
  exact cls_sim h0 (l.take i) (fun q hq => hl q (List.mem_of_mem_take hq)) _ _ (hl p hm).1 (hl p hm).2
 constructor
 ·rintro ⟨i, p, h1, h2⟩; exact ⟨i, p, h1, (key i p h1).1 h2⟩
 ·rintro ⟨i, p, h1, h2⟩; exact ⟨i, p, h1, (key i p h1).2 h2⟩
/-! ### ways in a forest -/
section
variable {α : Type}
/-- edge i of the forest, and its ends -/
abbrev Ed (α : Type) := List (α × α)
/-- from a by edge i one comes to b -/
def Goes1 (T : Ed α) (i : Nat) (a b : α) : Prop := ∃ p, T[i]? = some p ∧ ((a = p.1 ∧ b = p.2) ∨ (a = p.2 ∧ b = p.1))
/-- a way: the edges that are taken, from a to b, none twice at once -/
inductive Way (T : Ed α) : α → List Nat → α → Prop where
 | nil (a : α) : Way T a [] a
 | cons {a b c : α} {i : Nat} {l : List Nat} : Goes1 T i a b → Way T b l c → (∀ j, l.head? = some j → j ≠ i) → Way T a (i :: l) c
variable {T : Ed α}
theorem Goes1.symm {i : Nat} {a b : α} (h : Goes1 T i a b) : Goes1 T i b a := by
 obtain ⟨p, h1, h2⟩ := h
 exact ⟨p, h1, h2.elim (fun h => .inr ⟨h.2, h.1⟩) (fun h => .inl ⟨h.2, h.1⟩)⟩
theorem Way.split : ∀ {l l' : List Nat} {a c : α}, Way T a (l ++ l') c → ∃ b, Way T a l b ∧ Way T b l' c
 | [], l', a, c, h => ⟨a, .nil a, h⟩
 | i :: l, l', a, c, h => by
  cases h with
  | cons h1 h2 h3 =>
   obtain ⟨b, k1, k2⟩ := Way.split h2
   refine ⟨b, .cons h1 k1 fun j hj => h3 j ?_, k2⟩
   cases l with
   | nil => simp at hj
   | cons x l => simpa using hj
/-- classes by the edges below M are the same along a way of such edges -/
theorem Way.cls {cl : α → Nat} {M : Nat} (h1 : ∀ i a b, i < M → Goes1 T i a b → cl a = cl b) : ∀ {l : List Nat} {a c : α}, Way T a l c → (∀ i ∈ l, i < M) → cl a = cl c
 | [], a, c, h, _ => by cases h; rfl
 | i :: l, a, c, h, hl => by
  cases h with
  | cons k1 k2 k3 => exact (h1 _ _ _ (hl i (by simp)) k1).trans (Way.cls h1 k2 fun j hj => hl j (by simp [hj]))
/-- a forest: by classes at each stage -/
structure Forest (T : Ed α) (cl : Nat → α → Nat) : Prop where
 same : ∀ M i a b, i < M → Goes1 T i a b → cl M a = cl M b
 diff : ∀ M p, T[M]? = some p → cl M p.1 ≠ cl M p.2
theorem Forest.ne {cl : Nat → α → Nat} (F : Forest T cl) {M : Nat} {a b : α} (h : Goes1 T M a b) : cl M a ≠ cl M b := by
 obtain ⟨p, h1, h2⟩ := h
 rcases h2 with ⟨rfl, rfl⟩ | ⟨rfl, rfl⟩
 ·exact F.diff M p h1
 ·exact Ne.symm (F.diff M p h1)
theorem first_of {M : Nat} : ∀ {l : List Nat}, M ∈ l → ∃ l1 l2, l = l1 ++ M :: l2 ∧ M ∉ l1
 | x :: l, h => by
  by_cases e : x = M
  ·exact ⟨[], l, by rw [e]; rfl, by simp⟩
  ·have h' : M ∈ l := by simpa [Ne.symm e] using h
   obtain ⟨l1, l2, rfl, h2⟩ := first_of h'
   exact ⟨x :: l1, l2, rfl, by simp [h2, Ne.symm e]⟩
/-- no way leads back -/
theorem Forest.no_round {cl : Nat → α → Nat} (F : Forest T cl) : ∀ (M : Nat) {l : List Nat} {a : α}, (∀ i ∈ l, i < M) → Way T a l a → l = []
 | 0, l, a, hl, h => by
  cases l with
  | nil => rfl
  | cons i l => exact absurd (hl i (by simp)) (by omega)
 | M + 1, l, a, hl, h => by
  by_cases hM : M ∈ l
  ·exfalso
   obtain ⟨l1, l2, rfl, h1⟩ := first_of hM
   obtain ⟨b, w1, w2⟩ := h.split
   have hl1 : ∀ i ∈ l1, i < M := fun i hi => by
    have := hl i (by simp [hi])
    have : i ≠ M := fun e => h1 (e ▸ hi)
    omega
   cases w2 with
   | cons g1 w3 nb =>
    rename_i c
    -- w3 : Way c l2 a
    by_cases h2 : M ∈ l2
    ·obtain ⟨l3, l4, rfl, h3⟩ := first_of h2
     obtain ⟨d, w4, w5⟩ := w3.split
     have hl3 : ∀ i ∈ l3, i < M := fun i hi => by
      have := hl i (by simp [hi])
      have : i ≠ M := fun e => h3 (e ▸ hi)
      omega
     have hc : cl M c = cl M d := w4.cls (F.same M) hl3
     cases w5 with
     | cons g2 w6 nb2 =>
      rename_i e
      have e0 : l3 ≠ [] := fun e0 => by subst e0; exact nb M (by simp) rfl
      obtain ⟨p, q1, q2⟩ := g1
      obtain ⟨p', r1, r2⟩ := g2
      rw [q1] at r1
      cases r1
      have dne := F.diff M p q1
      have hcd : c = d := by
       rcases q2 with ⟨rfl, rfl⟩ | ⟨rfl, rfl⟩ <;> rcases r2 with ⟨rfl, rfl⟩ | ⟨rfl, rfl⟩
       ·exact absurd hc.symm dne
       ·rfl
       ·rfl
       ·exact absurd hc dne
      subst hcd
      exact e0 (Forest.no_round F M hl3 w4)
    ·have hl2 : ∀ i ∈ l2, i < M := fun i hi => by
      have := hl i (by simp [hi])
      have : i ≠ M := fun e => h2 (e ▸ hi)
      omega
     have e1 : cl M a = cl M b := w1.cls (F.same M) hl1
     have e2 : cl M c = cl M a := w3.cls (F.same M) hl2
     exact F.ne g1 (e1.symm.trans e2.symm)
  ·refine Forest.no_round F M (fun i hi => ?_) h
   have := hl i hi
   have : i ≠ M := fun e => hM (e ▸ hi)
   omega
theorem Way.lt : ∀ {l : List Nat} {a c : α}, Way T a l c → ∀ i ∈ l, i < T.length
 | [], a, c, _, i, hi => by cases hi
 | x :: l, a, c, h, i, hi => by
  cases h with
  | cons h1 h2 h3 =>
   rcases List.mem_cons.1 hi with rfl | hi
   ·obtain ⟨p, q, _⟩ := h1; exact (List.getElem?_eq_some_iff.1 q).1
   ·exact h2.lt i hi
/-- no edge is taken twice -/
theorem Forest.nodup {cl : Nat → α → Nat} (F : Forest T cl) : ∀ {l : List Nat} {a c : α}, Way T a l c → l.Nodup
 | [], a, c, _ => List.nodup_nil
 | i :: l, a, c, h => by
  cases h with
  | cons g1 w nb =>
   rename_i b
   refine List.nodup_cons.2 ⟨fun hi => ?_, Forest.nodup F w⟩
   obtain ⟨l1, l2, rfl, h1⟩ := first_of hi
   obtain ⟨d, w1, w2⟩ := w.split
   have e0 : l1 ≠ [] := fun e0 => by subst e0; exact nb i (by simp) rfl
   cases w2 with
   | cons g2 w3 nb2 =>
    obtain ⟨p, q1, q2⟩ := g1
    obtain ⟨p', r1, r2⟩ := g2
    rw [q1] at r1
    cases r1
    -- either the way between leads from b to b, or with edge i ahead from a to a
    have cases2 : b = d ∨ a = d := by
     rcases q2 with ⟨rfl, rfl⟩ | ⟨rfl, rfl⟩ <;> rcases r2 with ⟨rfl, _⟩ | ⟨rfl, _⟩
     ·exact .inr rfl
     ·exact .inl rfl
     ·exact .inl rfl
     ·exact .inr rfl
    rcases cases2 with rfl | rfl
    ·exact e0 (F.no_round T.length (fun j hj => w1.lt j hj) w1)
    ·have w' : Way T a (i :: l1) a := .cons ⟨p, q1, q2⟩ w1 fun j hj => nb j (by cases l1 with | nil => simp at hj | cons x l1 => simpa using hj)
     have := F.no_round T.length (fun j hj => w'.lt j hj) w'
     cases this
theorem nodup_filter {n : Nat} : ∀ {l : List Nat}, l.Nodup → l.length ≤ (l.filter (fun x => !Nat.beq x n)).length + 1
 | [], _ => by simp
 | x :: l, hn => by
  obtain ⟨k1, k2⟩ := List.nodup_cons.1 hn
  cases e : Nat.beq x n with
  | true =>
   have e' := Nat.eq_of_beq_eq_true e
   have : l.filter (fun y => !Nat.beq y n) = l := List.filter_eq_self.2 fun a ha => by
    cases q : Nat.beq a n with
    | false => rfl
    | true => exact absurd (by rw [e', ← Nat.eq_of_beq_eq_true q]; exact ha) k1
   rw [List.filter_cons, e, this]
   exact Nat.le_refl _
  | false =>
   have := nodup_filter (n := n) k2
   rw [List.filter_cons, e]
   simp only [Bool.not_false, if_true, List.length_cons]
   omega
theorem nodup_length : ∀ {n : Nat} {l : List Nat}, l.Nodup → (∀ i ∈ l, i < n) → l.length ≤ n
 | 0, l, _, h => by
  cases l with
  | nil => simp
  | cons i l => exact absurd (h i (by simp)) (by omega)
 | n + 1, l, hn, h => by
  have h1 : (l.filter (fun x => !Nat.beq x n)).length ≤ n := nodup_length (hn.filter _) fun i hi => by
   have := List.mem_filter.1 hi
   have h2 := h i this.1
   have h3 : Nat.beq i n = false := by simpa using this.2
   have := Nat.ne_of_beq_eq_false h3
   omega
  have h2 := nodup_filter (n := n) hn
  omega
theorem Forest.short {cl : Nat → α → Nat} (F : Forest T cl) {l : List Nat} {a c : α} (h : Way T a l c) : l.length ≤ T.length := nodup_length (F.nodup h) (fun i hi => h.lt i hi)
end
theorem cls_mono {α : Type} (A : α → Nat) (l : List (α × α)) (p : α × α) {a b : α} (h : cls A l a = cls A l b) : cls A (l ++ [p]) a = cls A (l ++ [p]) b := (cls_join A l p a b).2 (.inl h)
theorem cls_edge {α : Type} (A : α → Nat) (l : List (α × α)) (p : α × α) : cls A (l ++ [p]) p.1 = cls A (l ++ [p]) p.2 := (cls_join A l p _ _).2 (.inr ⟨.inl rfl, .inr rfl⟩)
theorem cls_take {α : Type} (A : α → Nat) (T : List (α × α)) {a b : α} : ∀ (M : Nat) {m : Nat}, m ≤ M → cls A (T.take m) a = cls A (T.take m) b → cls A (T.take M) a = cls A (T.take M) b
 | 0, m, h, k => by rw [show m = 0 by omega] at k; exact k
 | M + 1, m, h, k => by
  by_cases e : m = M + 1
  ·rw [← e]; exact k
  ·have ih := cls_take A T M (m := m) (by omega) k
   cases q : T[M]? with
   | none =>
    have hl := List.getElem?_eq_none_iff.1 q
    rw [List.take_of_length_le (by omega)]
    rw [List.take_of_length_le hl] at ih
    exact ih
   | some p =>
    rw [List.take_add_one, q]
    exact cls_mono A _ p ih
theorem forest_of {α : Type} (A : α → Nat) (T : List (α × α)) (h : ∀ i p, T[i]? = some p → cls A (T.take i) p.1 ≠ cls A (T.take i) p.2) : Forest T (fun M => cls A (T.take M)) where
 same := fun M i a b hi hg => by
  obtain ⟨p, h1, h2⟩ := hg
  have e : cls A (T.take (i + 1)) p.1 = cls A (T.take (i + 1)) p.2 := by
   rw [List.take_add_one, h1]
   exact cls_edge A _ p
  have e' := cls_take A T M (m := i + 1) (by omega) e
  rcases h2 with ⟨rfl, rfl⟩ | ⟨rfl, rfl⟩
  ·exact e'
  ·exact e'.symm
 diff := h
theorem Way.snoc {α : Type} {T : Ed α} : ∀ {l : List Nat} {a b c : α} {i : Nat}, Way T a l b → Goes1 T i b c → l.getLast? ≠ some i → Way T a (l ++ [i]) c
 | [], a, b, c, i, h, g, _ => by
  cases h
  exact .cons g (.nil _) fun j hj => by simp at hj
 | x :: l, a, b, c, i, h, g, hn => by
  cases h with
  | cons g1 w nb =>
   refine .cons g1 (w.snoc g fun e => hn ?_) fun j hj => ?_
   ·cases l with
    | nil => simp at e
    | cons y l => rw [List.getLast?_cons_cons]; exact e
   ·cases l with
    | nil =>
     simp at hj
     subst hj
     intro e
     subst e
     exact hn (by simp)
    | cons y l => exact nb j (by simpa using hj)


def edT (E : tE) (k : Nat) : List (Tx × Tx) := (List.range k).map fun j => ((E j).a, (E j).b)
theorem edT_len (E : tE) (k : Nat) : (edT E k).length = k := by simp [edT]
theorem edT_get (E : tE) {k j : Nat} (h : j < k) : (edT E k)[j]? = some ((E j).a, (E j).b) := by simp [edT, h]
/-- the edge by which one came -/
def cmOf (l : List Nat) : Int := match l.getLast? with
 | some j => (j : Int)
 | none => -1
theorem cmOf_snoc (l : List Nat) (i : Nat) : cmOf (l ++ [i]) = (i : Int) := by simp [cmOf]
theorem cmOf_ne {l : List Nat} {i : Nat} (h : (i : Int) ≠ cmOf l) : l.getLast? ≠ some i := fun e => h (by simp [cmOf, e])
/-- the other end -/
def nxt (E : tE) (i : Nat) (x : Tx) : Tx := bif (E i).a == x then (E i).b else (E i).a
/-- an edge that is passed over -/
def skp (E : tE) (i : Nat) (x : Tx) (cm : Int) : Bool := decide ((i : Int) = cm) || !((E i).a == x || (E i).b == x)
def wlp (E : tE) (k : Nat) (rec : List Tx → Tx → Int → Bool × List Tx) (ps : List Tx) (x : Tx) (cm : Int) : Nat → Bool × List Tx
 | 0 => (false, ps)
 | r + 1 => bif skp E (k - (r + 1)) x cm then wlp E k rec ps x cm r else
  bif (rec (ps ++ [(E (k - (r + 1))).n]) (nxt E (k - (r + 1)) x) ((k - (r + 1) : Nat) : Int)).1 then rec (ps ++ [(E (k - (r + 1))).n]) (nxt E (k - (r + 1)) x) ((k - (r + 1) : Nat) : Int) else wlp E k rec ps x cm r
/-- what a walk finds: the names on its way -/
def wks (E : tE) (k : Nat) (y : Tx) : Nat → List Tx → Tx → Int → Bool × List Tx
 | 0, ps, _, _ => (false, ps)
 | d + 1, ps, x, cm => bif x == y then (true, ps) else wlp E k (wks E k y d) ps x cm k
theorem wlp_false {E : tE} {k : Nat} {rec : List Tx → Tx → Int → Bool × List Tx} {ps : List Tx} {x : Tx} {cm : Int} : ∀ r, (wlp E k rec ps x cm r).1 = false → (wlp E k rec ps x cm r).2 = ps
 | 0, _ => rfl
 | r + 1, h => by
  unfold wlp at h ⊢
  cases s : skp E (k - (r + 1)) x cm with
  | true => rw [s, cond_true] at h; rw [cond_true]; exact wlp_false r h
  | false =>
   rw [s, cond_false] at h
   rw [cond_false]
   cases q : (rec (ps ++ [(E (k - (r + 1))).n]) (nxt E (k - (r + 1)) x) ((k - (r + 1) : Nat) : Int)).1 with
   | true => rw [q, cond_true] at h; rw [q] at h; cases h
   | false => rw [q, cond_false] at h; rw [cond_false]; exact wlp_false r h
theorem wks_false {E : tE} {k : Nat} {y : Tx} : ∀ {d : Nat} {ps : List Tx} {x : Tx} {cm : Int}, (wks E k y d ps x cm).1 = false → (wks E k y d ps x cm).2 = ps
 | 0, _, _, _, _ => rfl
 | d + 1, ps, x, cm, h => by
  unfold wks at h ⊢
  cases q : x == y with
  | true => rw [q, cond_true] at h; cases h
  | false => rw [q, cond_false] at h; rw [cond_false]; exact wlp_false _ h
theorem wlp_len {E : tE} {k : Nat} {rec : List Tx → Tx → Int → Bool × List Tx} {ps : List Tx} {x : Tx} {cm : Int} {d : Nat} (hr : ∀ ps x cm, (rec ps x cm).2.length ≤ ps.length + d) : ∀ r, (wlp E k rec ps x cm r).2.length ≤ ps.length + (d + 1)
 | 0 => by show ps.length ≤ _; omega
 | r + 1 => by
  unfold wlp
  cases skp E (k - (r + 1)) x cm with
  | true => rw [cond_true]; exact wlp_len hr r
  | false =>
   rw [cond_false]
   cases q : (rec (ps ++ [(E (k - (r + 1))).n]) (nxt E (k - (r + 1)) x) ((k - (r + 1) : Nat) : Int)).1 with
   | true =>
    rw [cond_true]
    have := hr (ps ++ [(E (k - (r + 1))).n]) (nxt E (k - (r + 1)) x) ((k - (r + 1) : Nat) : Int)
    simp only [List.length_append, List.length_cons, List.length_nil] at this
    omega
   | false => rw [cond_false]; exact wlp_len hr r
theorem wks_len (E : tE) (k : Nat) (y : Tx) : ∀ (d : Nat) (ps : List Tx) (x : Tx) (cm : Int), (wks E k y d ps x cm).2.length ≤ ps.length + d
 | 0, ps, x, cm => Nat.le_refl _
 | d + 1, ps, x, cm => by
  unfold wks
  cases x == y with
  | true => show ps.length ≤ _; omega
  | false => rw [cond_false]; exact wlp_len (fun ps x cm => wks_len E k y d ps x cm) k
/-- what a walk gives -/
def WPo (k : Nat) (q : Bool × List Tx) (y : Tx) (E : tE) : Po := fun e fr' H' => e = .ret ∧ ∃ (m' : Nat) (f' : tX), fr'.get 8 = some (.bool q.1) ∧ H' = hpL [(0, .cells false 8 k (.fn fun j => elR (E j))), (1, .cells true 1 1 (.fn fun _ => [.slc true false ⟨false, 0, 0, 0⟩ k])), (2, .cells true 1 1 (.fn fun _ => [.str true y])), (3, .cells true 1 1 (.fn fun _ => [sL 5 q.2.length])), (4, .cells true 1 1 (.fn fun _ => [.fn (.func 67) [] [.ptr ⟨false, 2, 0, 0⟩, .ptr ⟨false, 1, 0, 0⟩, .ptr ⟨false, 3, 0, 0⟩, .ptr ⟨false, 4, 0, 0⟩]])), (5, .cells true 1 m' (.fn (txR f')))] ∧ (∀ j, j < q.2.length → f' j = q.2.getD j []) ∧ q.2.length ≤ m'
/-- the path of these names -/
def PsO (ps : List Tx) (m : Nat) (f : tX) : Prop := ps.length ≤ m ∧ ∀ j, j < ps.length → f j = ps.getD j []
/-- behind a round: it goes on, or it was found -/
def RPo (k i : Nat) (ps : List Tx) (q : Bool × List Tx) (x y : Tx) (cm : Int) (E : tE) : Po := fun e fr' H' => (e = .normal ∧ q.1 = false ∧ ∃ (m' : Nat) (f' : tX), PsO ps m' f' ∧ fr' = frL [(0, .str true x), (1, iT cm), (2, .ptr ⟨false, 2, 0, 0⟩), (3, .ptr ⟨false, 1, 0, 0⟩), (4, .ptr ⟨false, 3, 0, 0⟩), (5, .ptr ⟨false, 4, 0, 0⟩), (15, .slc true false ⟨false, 0, 0, 0⟩ k), (16, iT (k : Int)), (17, iT (i : Int))] ∧ H' = hpL [(0, .cells false 8 k (.fn fun j => elR (E j))), (1, .cells true 1 1 (.fn fun _ => [.slc true false ⟨false, 0, 0, 0⟩ k])), (2, .cells true 1 1 (.fn fun _ => [.str true y])), (3, .cells true 1 1 (.fn fun _ => [sL 5 ps.length])), (4, .cells true 1 1 (.fn fun _ => [.fn (.func 67) [] [.ptr ⟨false, 2, 0, 0⟩, .ptr ⟨false, 1, 0, 0⟩, .ptr ⟨false, 3, 0, 0⟩, .ptr ⟨false, 4, 0, 0⟩]])), (5, .cells true 1 m' (.fn (txR f')))]) ∨ (q.1 = true ∧ WPo k q y E e fr' H')
theorem wk_is : (bodyOf Try.f67) = .seq (nav [0] (bodyOf Try.f67)) (.seq (nav [1,0] (bodyOf Try.f67)) (.seq (.seq (nav [1,1,0,0] (bodyOf Try.f67)) (.block 0 (.loop (nav [1,1,0,1,0,0] (bodyOf Try.f67))))) (nav [1,1,1] (bodyOf Try.f67)))) := by kernel_rfl
theorem wk_body : (nav [1,1,0,1,0,0] (bodyOf Try.f67)) = .seq (nav [1,1,0,1,0,0,0] (bodyOf Try.f67)) (.seq (nav [1,1,0,1,0,0,1,0] (bodyOf Try.f67)) (.seq (.block 1 (nav [1,1,0,1,0,0,1,1,0,0] (bodyOf Try.f67))) (nav [1,1,0,1,0,0,1,1,1] (bodyOf Try.f67)))) := by kernel_rfl
theorem wk_ins : (nav [1,1,0,1,0,0,1,1,0,0] (bodyOf Try.f67)) = .seq (nav [1,1,0,1,0,0,1,1,0,0,0] (bodyOf Try.f67)) (.seq (nav [1,1,0,1,0,0,1,1,0,0,1,0] (bodyOf Try.f67)) (.seq (nav [1,1,0,1,0,0,1,1,0,0,1,1,0] (bodyOf Try.f67)) (.seq (nav [1,1,0,1,0,0,1,1,0,0,1,1,1,0] (bodyOf Try.f67)) (.seq (nav [1,1,0,1,0,0,1,1,0,0,1,1,1,1,0] (bodyOf Try.f67)) (.seq (.seq (nav [1,1,0,1,0,0,1,1,0,0,1,1,1,1,1,0,0] (bodyOf Try.f67)) (nav [1,1,0,1,0,0,1,1,0,0,1,1,1,1,1,0,1] (bodyOf Try.f67))) (nav [1,1,0,1,0,0,1,1,0,0,1,1,1,1,1,1] (bodyOf Try.f67))))))) := by kernel_rfl
noncomputable def opW : Oper := ((regOps (nav [1,1,0,1,0,0,1,1,0,0,1,1,1,1,1,0,0] (bodyOf Try.f67))).drop 3).headD ⟨none, .move (.tmp 0), 0, "", #[], none⟩
def clW : Call := ⟨.value (.tmp 50), #[.tmp 51, .tmp 52], #[9, 3]⟩
theorem wk_hb {g sz : Nat} {own : Bool} {d : List AV} {t : T (List AV)} {H : T ABk} {rows' : Nat → List AV} (h : H.get g = some (.cells own sz 1 (.lit d t))) (e : (Cont.lit d t).row 0 = rows' 0) : ∃ b', H.get g = some b' ∧ SameC b' (.cells own sz 1 (.fn rows')) :=
  ⟨_, h, rfl, rfl, rfl, fun j hj => by obtain rfl : j = 0 := by omega
                                       exact e⟩
theorem wk_call (i k : Nat) (E : tE) (f : tX) (x y z : Tx) (cm : Int) (L m : Nat) (q : Bool × List Tx)
  (ih : GoesB Try.prog (bodyOf Try.f67) Try.f67.ntmps 5 6 6 (frameOf [.str true z, iT (i : Int), .ptr ⟨false, 2, 0, 0⟩, .ptr ⟨false, 1, 0, 0⟩, .ptr ⟨false, 3, 0, 0⟩, .ptr ⟨false, 4, 0, 0⟩] 0 .e) (hpL [(0, .cells false 8 k (.fn fun j => elR (E j))), (1, .cells true 1 1 (.fn fun _ => [.slc true false ⟨false, 0, 0, 0⟩ k])), (2, .cells true 1 1 (.fn fun _ => [.str true y])), (3, .cells true 1 1 (.fn fun _ => [sL 5 L])), (4, .cells true 1 1 (.fn fun _ => [.fn (.func 67) [] [.ptr ⟨false, 2, 0, 0⟩, .ptr ⟨false, 1, 0, 0⟩, .ptr ⟨false, 3, 0, 0⟩, .ptr ⟨false, 4, 0, 0⟩]])), (5, .cells true 1 m (.fn (txR f)))]) (WPo k q y E)) :
  GoesB Try.prog (nav [1,1,0,1,0,0,1,1,0,0,1,1,1,1,1,0,0] (bodyOf Try.f67)) Try.f67.ntmps 5 6 6 (frL [(0, .str true x), (1, iT cm), (2, .ptr ⟨false, 2, 0, 0⟩), (3, .ptr ⟨false, 1, 0, 0⟩), (4, .ptr ⟨false, 3, 0, 0⟩), (5, .ptr ⟨false, 4, 0, 0⟩), (15, .slc true false ⟨false, 0, 0, 0⟩ k), (16, iT (k : Int)), (17, iT (i : Int)), (9, iT (i : Int)), (11, .str true z)]) (hpL [(0, .cells false 8 k (.fn fun j => elR (E j))), (1, .cells true 1 1 (.fn fun _ => [.slc true false ⟨false, 0, 0, 0⟩ k])), (2, .cells true 1 1 (.fn fun _ => [.str true y])), (3, .cells true 1 1 (.fn fun _ => [sL 5 L])), (4, .cells true 1 1 (.fn fun _ => [.fn (.func 67) [] [.ptr ⟨false, 2, 0, 0⟩, .ptr ⟨false, 1, 0, 0⟩, .ptr ⟨false, 3, 0, 0⟩, .ptr ⟨false, 4, 0, 0⟩]])), (5, .cells true 1 m (.fn (txR f)))]) (fun e fr' H' => e = .normal ∧ ∃ (m' : Nat) (f' : tX), fr' = frL [(53, .sbool q.1), (0, .str true x), (1, iT cm), (2, .ptr ⟨false, 2, 0, 0⟩), (3, .ptr ⟨false, 1, 0, 0⟩), (4, .ptr ⟨false, 3, 0, 0⟩), (5, .ptr ⟨false, 4, 0, 0⟩), (15, .slc true false ⟨false, 0, 0, 0⟩ k), (16, iT (k : Int)), (17, iT (i : Int))] ∧ H' = hpL [(0, .cells false 8 k (.fn fun j => elR (E j))), (1, .cells true 1 1 (.fn fun _ => [.slc true false ⟨false, 0, 0, 0⟩ k])), (2, .cells true 1 1 (.fn fun _ => [.str true y])), (3, .cells true 1 1 (.fn fun _ => [sL 5 q.2.length])), (4, .cells true 1 1 (.fn fun _ => [.fn (.func 67) [] [.ptr ⟨false, 2, 0, 0⟩, .ptr ⟨false, 1, 0, 0⟩, .ptr ⟨false, 3, 0, 0⟩, .ptr ⟨false, 4, 0, 0⟩]])), (5, .cells true 1 m' (.fn (txR f')))] ∧ PsO q.2 m' f') := by
 refine GoesB.callL (o := opW) (cl := clW) (fop := .tmp 50) (f := 67) (fn := Try.f67) (body := (bodyOf Try.f67)) (pre := []) (cap := [.ptr ⟨false, 2, 0, 0⟩, .ptr ⟨false, 1, 0, 0⟩, .ptr ⟨false, 3, 0, 0⟩, .ptr ⟨false, 4, 0, 0⟩]) (args := [.str true z, iT (i : Int), .ptr ⟨false, 2, 0, 0⟩, .ptr ⟨false, 1, 0, 0⟩, .ptr ⟨false, 3, 0, 0⟩, .ptr ⟨false, 4, 0, 0⟩]) callE_ok 3 (by kernel_rfl) (by kernel_rfl) (by kernel_rfl) (by kernel_rfl) rfl (d := 53) (by kernel_rfl) (Nat.le_of_ble_eq_true (by kernel_rfl)) (K1 := 6) (K2 := 6) (by omega) (waK_r0 i k L m E f x y z cm) Try.func67 (by kernel_rfl) (by kernel_rfl) rfl (B0 := 5) (by omega) (by omega) (by omega) [(0, .str true x), (1, iT cm), (2, .ptr ⟨false, 2, 0, 0⟩), (3, .ptr ⟨false, 1, 0, 0⟩), (4, .ptr ⟨false, 3, 0, 0⟩), (5, .ptr ⟨false, 4, 0, 0⟩), (15, .slc true false ⟨false, 0, 0, 0⟩ k), (16, iT (k : Int)), (17, iT (i : Int))] rfl (eGg rfl) rfl
  (V := fun v H' => ∃ (m' : Nat) (f' : tX), v = .sbool q.1 ∧ H' = hpL [(0, .cells false 8 k (.fn fun j => elR (E j))), (1, .cells true 1 1 (.fn fun _ => [.slc true false ⟨false, 0, 0, 0⟩ k])), (2, .cells true 1 1 (.fn fun _ => [.str true y])), (3, .cells true 1 1 (.fn fun _ => [sL 5 q.2.length])), (4, .cells true 1 1 (.fn fun _ => [.fn (.func 67) [] [.ptr ⟨false, 2, 0, 0⟩, .ptr ⟨false, 1, 0, 0⟩, .ptr ⟨false, 3, 0, 0⟩, .ptr ⟨false, 4, 0, 0⟩]])), (5, .cells true 1 m' (.fn (txR f')))] ∧ PsO q.2 m' f') ?_ (fun v H' hv => by
   obtain ⟨m', f', rfl, rfl, h1⟩ := hv
   exact ⟨[], _, _, waQ_r0 i k q.2.length m' E f' x y cm q.1, rfl, m', f', rfl, rfl, h1⟩)
 refine ih.mono fun e fr' H' h => ?_
 obtain ⟨he, m', f', hb, hH, h1, h2⟩ := h
 have hres : Try.f67.results.toList = [.tmp 8] := by kernel_rfl
 refine ⟨.inl he, [.bool q.1], ⟨H', 6, [], [], True⟩, ?_, trivial, .sbool q.1, fun N μ c h => by simpa only [Rep, packA] using h, m', f', rfl, hH, h2, h1⟩
 rw [hres]
 show M.andThen (M.ret ((fr'.get 8).getD .top)) _ _ = _
 rw [hb]
 rfl
theorem wk_tail (i k m : Nat) (E : tE) (f : tX) (x y z : Tx) (cm : Int) (hk : k ≤ 256) (ps : List Tx) (nm : Tx) (hl : ps.length ≤ 1024) (q : Bool × List Tx) (hq : q.1 = false → q.2 = ps ++ [nm])
  (ih : GoesB Try.prog (bodyOf Try.f67) Try.f67.ntmps 5 6 6 (frameOf [.str true z, iT (i : Int), .ptr ⟨false, 2, 0, 0⟩, .ptr ⟨false, 1, 0, 0⟩, .ptr ⟨false, 3, 0, 0⟩, .ptr ⟨false, 4, 0, 0⟩] 0 .e) (hpL [(0, .cells false 8 k (.fn fun j => elR (E j))), (1, .cells true 1 1 (.fn fun _ => [.slc true false ⟨false, 0, 0, 0⟩ k])), (2, .cells true 1 1 (.fn fun _ => [.str true y])), (3, .cells true 1 1 (.fn fun _ => [sL 5 (ps.length + 1)])), (4, .cells true 1 1 (.fn fun _ => [.fn (.func 67) [] [.ptr ⟨false, 2, 0, 0⟩, .ptr ⟨false, 1, 0, 0⟩, .ptr ⟨false, 3, 0, 0⟩, .ptr ⟨false, 4, 0, 0⟩]])), (5, .cells true 1 m (.fn (txR f)))]) (WPo k q y E)) :
  GoesB Try.prog (.seq (.seq (nav [1,1,0,1,0,0,1,1,0,0,1,1,1,1,1,0,0] (bodyOf Try.f67)) (nav [1,1,0,1,0,0,1,1,0,0,1,1,1,1,1,0,1] (bodyOf Try.f67))) (nav [1,1,0,1,0,0,1,1,0,0,1,1,1,1,1,1] (bodyOf Try.f67))) Try.f67.ntmps 5 6 6 (frL [(0, .str true x), (1, iT cm), (2, .ptr ⟨false, 2, 0, 0⟩), (3, .ptr ⟨false, 1, 0, 0⟩), (4, .ptr ⟨false, 3, 0, 0⟩), (5, .ptr ⟨false, 4, 0, 0⟩), (15, .slc true false ⟨false, 0, 0, 0⟩ k), (16, iT (k : Int)), (17, iT (i : Int)), (9, iT (i : Int)), (11, .str true z)]) (hpL [(0, .cells false 8 k (.fn fun j => elR (E j))), (1, .cells true 1 1 (.fn fun _ => [.slc true false ⟨false, 0, 0, 0⟩ k])), (2, .cells true 1 1 (.fn fun _ => [.str true y])), (3, .cells true 1 1 (.fn fun _ => [sL 5 (ps.length + 1)])), (4, .cells true 1 1 (.fn fun _ => [.fn (.func 67) [] [.ptr ⟨false, 2, 0, 0⟩, .ptr ⟨false, 1, 0, 0⟩, .ptr ⟨false, 3, 0, 0⟩, .ptr ⟨false, 4, 0, 0⟩]])), (5, .cells true 1 m (.fn (txR f)))]) (RPo k i ps q x y cm E) := by
 refine GoesB.seq (K1 := 6) (by omega) (GoesB.seq (K1 := 6) (by omega) ((wk_call i k E f x y z cm (ps.length + 1) m q ih).mono fun e fr' H' h => ?_))
 obtain ⟨rfl, m', f', rfl, rfl, h1, h2⟩ := h
 obtain ⟨b, qs⟩ := q
 cases b with
 | true =>
  refine (waL 5 (by omega) i k qs.length m' E f' x y cm true).mono fun e fr' H' h => ?_
  rw [cond_true] at h
  obtain ⟨rfl, rfl, rfl⟩ := h
  exact .inr ⟨rfl, rfl, m', f', rfl, rfl, h2, h1⟩
 | false =>
  obtain rfl := hq rfl
  refine (waL 5 (by omega) i k (ps ++ [nm]).length m' E f' x y cm false).mono fun e fr' H' h => ?_
  rw [cond_false] at h
  obtain ⟨rfl, rfl, rfl⟩ := h
  have e1 : (ps ++ [nm]).length = ps.length + 1 := by simp
  simp only [e1] at h1 h2 ⊢
  refine (waM 5 (by omega) i k (ps.length + 1) m' E f' x y cm (by omega) (by omega)).post fun e fr' H' h => ?_
  obtain ⟨rfl, rfl, rfl⟩ := h
  refine ⟨[(0, .str true x), (1, iT cm), (2, .ptr ⟨false, 2, 0, 0⟩), (3, .ptr ⟨false, 1, 0, 0⟩), (4, .ptr ⟨false, 3, 0, 0⟩), (5, .ptr ⟨false, 4, 0, 0⟩), (15, .slc true false ⟨false, 0, 0, 0⟩ k), (16, iT (k : Int)), (17, iT (i : Int))], [(0, .cells false 8 k (.fn fun j => elR (E j))), (1, .cells true 1 1 (.fn fun _ => [.slc true false ⟨false, 0, 0, 0⟩ k])), (2, .cells true 1 1 (.fn fun _ => [.str true y])), (3, .cells true 1 1 (.fn fun _ => [sL 5 ps.length])), (4, .cells true 1 1 (.fn fun _ => [.fn (.func 67) [] [.ptr ⟨false, 2, 0, 0⟩, .ptr ⟨false, 1, 0, 0⟩, .ptr ⟨false, 3, 0, 0⟩, .ptr ⟨false, 4, 0, 0⟩]])), (5, .cells true 1 m' (.fn (txR f')))], (eGg rfl), ⟨hs rfl, hs rfl, hs rfl, ⟨_, rfl, rfl, rfl, rfl, fun j hj => ?_⟩, eHh rfl⟩, .inl ⟨rfl, rfl, m', f', ⟨by omega, fun j hj => ?_⟩, rfl, rfl⟩⟩
  ·obtain rfl : j = 0 := by omega
   show [sL 5 (Int.toNat (((ps.length + 1 : Nat) : Int) - 1))] = [sL 5 ps.length]
   rw [show Int.toNat (((ps.length + 1 : Nat) : Int) - 1) = ps.length by omega]
  ·rw [h2 j (by omega)]
   simp [List.getElem?_append_left hj]


theorem nxt_goes {E : tE} {k i : Nat} {x : Tx} (hi : i < k) (h : ((E i).a == x) = true ∨ ((E i).b == x) = true) : Goes1 (edT E k) i x (nxt E i x) := by
 refine ⟨_, edT_get E hi, ?_⟩
 unfold nxt
 cases e : (E i).a == x with
 | true => rw [cond_true]; exact .inl ⟨(eq_of_beq e).symm, rfl⟩
 | false =>
  rw [cond_false]
  rcases h with h | h
  ·rw [e] at h; cases h
  ·exact .inr ⟨(eq_of_beq h).symm, rfl⟩
/-- in the block of a round: what is asked behind it -/
def BPo (k i : Nat) (ps : List Tx) (o : Bool) (q : Bool × List Tx) (x y : Tx) (cm : Int) (E : tE) : Po := fun e fr' H' => ((e = .exit 1 ∨ e = .normal) ∧ (o = true ∨ q.1 = false) ∧ ∃ (m' : Nat) (f' : tX), PsO ps m' f' ∧ Ge fr' [(0, .str true x), (1, iT cm), (2, .ptr ⟨false, 2, 0, 0⟩), (3, .ptr ⟨false, 1, 0, 0⟩), (4, .ptr ⟨false, 3, 0, 0⟩), (5, .ptr ⟨false, 4, 0, 0⟩), (15, .slc true false ⟨false, 0, 0, 0⟩ k), (16, iT (k : Int)), (17, iT (i : Int))] ∧ GeH H' [(0, .cells false 8 k (.fn fun j => elR (E j))), (1, .cells true 1 1 (.fn fun _ => [.slc true false ⟨false, 0, 0, 0⟩ k])), (2, .cells true 1 1 (.fn fun _ => [.str true y])), (3, .cells true 1 1 (.fn fun _ => [sL 5 ps.length])), (4, .cells true 1 1 (.fn fun _ => [.fn (.func 67) [] [.ptr ⟨false, 2, 0, 0⟩, .ptr ⟨false, 1, 0, 0⟩, .ptr ⟨false, 3, 0, 0⟩, .ptr ⟨false, 4, 0, 0⟩]])), (5, .cells true 1 m' (.fn (txR f')))]) ∨ (o = false ∧ q.1 = true ∧ WPo k q y E e fr' H')
abbrev IHo (k i : Nat) (E : tE) (ps : List Tx) (q : Bool × List Tx) (x y : Tx) (cm : Int) : Prop := Goes1 (edT E k) i x (nxt E i x) → (i : Int) ≠ cm → ∀ (m' : Nat) (f' : tX), PsO (ps ++ [(E i).n]) m' f' → GoesB Try.prog (bodyOf Try.f67) Try.f67.ntmps 5 6 6 (frameOf [.str true (nxt E i x), iT (i : Int), .ptr ⟨false, 2, 0, 0⟩, .ptr ⟨false, 1, 0, 0⟩, .ptr ⟨false, 3, 0, 0⟩, .ptr ⟨false, 4, 0, 0⟩] 0 .e) (hpL [(0, .cells false 8 k (.fn fun j => elR (E j))), (1, .cells true 1 1 (.fn fun _ => [.slc true false ⟨false, 0, 0, 0⟩ k])), (2, .cells true 1 1 (.fn fun _ => [.str true y])), (3, .cells true 1 1 (.fn fun _ => [sL 5 (ps.length + 1)])), (4, .cells true 1 1 (.fn fun _ => [.fn (.func 67) [] [.ptr ⟨false, 2, 0, 0⟩, .ptr ⟨false, 1, 0, 0⟩, .ptr ⟨false, 3, 0, 0⟩, .ptr ⟨false, 4, 0, 0⟩]])), (5, .cells true 1 m' (.fn (txR f')))]) (WPo k q y E)
theorem skp_false {E : tE} {i : Nat} {x : Tx} {cm : Int} (h : skp E i x cm = false) : (i : Int) ≠ cm ∧ (((E i).a == x) = true ∨ ((E i).b == x) = true) := by
 unfold skp at h
 rw [Bool.or_eq_false_iff] at h
 refine ⟨of_decide_eq_false h.1, ?_⟩
 have := h.2
 revert this
 cases ((E i).a == x) <;> cases ((E i).b == x) <;> simp
theorem wk_in (i k m : Nat) (E : tE) (f : tX) (x y : Tx) (cm : Int) (hk : k ≤ 256) (hi : i < k) (ps : List Tx) (hl : ps.length ≤ 1024) (hm : PsO ps m f) (q : Bool × List Tx) (hq : q.1 = false → q.2 = ps ++ [(E i).n]) (ih : IHo k i E ps q x y cm) :
  GoesB Try.prog (nav [1,1,0,1,0,0,1,1,0,0] (bodyOf Try.f67)) Try.f67.ntmps 5 6 7 (frL [(0, .str true x), (1, iT cm), (2, .ptr ⟨false, 2, 0, 0⟩), (3, .ptr ⟨false, 1, 0, 0⟩), (4, .ptr ⟨false, 3, 0, 0⟩), (5, .ptr ⟨false, 4, 0, 0⟩), (15, .slc true false ⟨false, 0, 0, 0⟩ k), (16, iT (k : Int)), (17, iT (i : Int))]) (hpL [(0, .cells false 8 k (.fn fun j => elR (E j))), (1, .cells true 1 1 (.fn fun _ => [.slc true false ⟨false, 0, 0, 0⟩ k])), (2, .cells true 1 1 (.fn fun _ => [.str true y])), (3, .cells true 1 1 (.fn fun _ => [sL 5 ps.length])), (4, .cells true 1 1 (.fn fun _ => [.fn (.func 67) [] [.ptr ⟨false, 2, 0, 0⟩, .ptr ⟨false, 1, 0, 0⟩, .ptr ⟨false, 3, 0, 0⟩, .ptr ⟨false, 4, 0, 0⟩]])), (5, .cells true 1 m (.fn (txR f)))]) (BPo k i ps (skp E i x cm) q x y cm E) := by
 rw [wk_ins]
 refine GoesB.seqN (K1 := 7) (F1 := [(0, .str true x), (1, iT cm), (2, .ptr ⟨false, 2, 0, 0⟩), (3, .ptr ⟨false, 1, 0, 0⟩), (4, .ptr ⟨false, 3, 0, 0⟩), (5, .ptr ⟨false, 4, 0, 0⟩), (15, .slc true false ⟨false, 0, 0, 0⟩ k), (16, iT (k : Int)), (17, iT (i : Int)), (9, iT (i : Int)), (10, .ptr ⟨false, 6, 0, 0⟩)]) (H1 := [(0, .cells false 8 k (.fn fun j => elR (E j))), (1, .cells true 1 1 (.fn fun _ => [.slc true false ⟨false, 0, 0, 0⟩ k])), (2, .cells true 1 1 (.fn fun _ => [.str true y])), (3, .cells true 1 1 (.fn fun _ => [sL 5 ps.length])), (4, .cells true 1 1 (.fn fun _ => [.fn (.func 67) [] [.ptr ⟨false, 2, 0, 0⟩, .ptr ⟨false, 1, 0, 0⟩, .ptr ⟨false, 3, 0, 0⟩, .ptr ⟨false, 4, 0, 0⟩]])), (5, .cells true 1 m (.fn (txR f))), (6, .cells true 8 1 (.fn fun _ => elR (E i)))]) (GoesB.toN (waF 5 (by omega) i k ps.length m E f x y cm (by omega) (by omega)) (eGg rfl) ⟨(Sx.hs rfl), (Sx.hs rfl), (Sx.hs rfl), (Sx.hs rfl), (Sx.hs rfl), (Sx.hs rfl), wk_hb rfl (by show elR (E (0 + i)) = elR (E i); rw [Nat.zero_add]), trivial⟩) (by omega) ?_
 refine GoesB.seqN (K1 := 7) (F1 := [(0, .str true x), (1, iT cm), (2, .ptr ⟨false, 2, 0, 0⟩), (3, .ptr ⟨false, 1, 0, 0⟩), (4, .ptr ⟨false, 3, 0, 0⟩), (5, .ptr ⟨false, 4, 0, 0⟩), (15, .slc true false ⟨false, 0, 0, 0⟩ k), (16, iT (k : Int)), (17, iT (i : Int)), (9, iT (i : Int)), (10, .ptr ⟨false, 6, 0, 0⟩), (11, .str true (E i).a)]) (H1 := [(0, .cells false 8 k (.fn fun j => elR (E j))), (1, .cells true 1 1 (.fn fun _ => [.slc true false ⟨false, 0, 0, 0⟩ k])), (2, .cells true 1 1 (.fn fun _ => [.str true y])), (3, .cells true 1 1 (.fn fun _ => [sL 5 ps.length])), (4, .cells true 1 1 (.fn fun _ => [.fn (.func 67) [] [.ptr ⟨false, 2, 0, 0⟩, .ptr ⟨false, 1, 0, 0⟩, .ptr ⟨false, 3, 0, 0⟩, .ptr ⟨false, 4, 0, 0⟩]])), (5, .cells true 1 m (.fn (txR f))), (6, .cells true 8 1 (.fn fun _ => elR (E i)))]) (GoesB.toN (waG 5 (by omega) i k ps.length m E f x y cm) (eGg rfl) (eHh rfl)) (by omega) ?_
 refine GoesB.seqN (K1 := 7) (F1 := [(0, .str true x), (1, iT cm), (2, .ptr ⟨false, 2, 0, 0⟩), (3, .ptr ⟨false, 1, 0, 0⟩), (4, .ptr ⟨false, 3, 0, 0⟩), (5, .ptr ⟨false, 4, 0, 0⟩), (15, .slc true false ⟨false, 0, 0, 0⟩ k), (16, iT (k : Int)), (17, iT (i : Int)), (9, iT (i : Int)), (10, .ptr ⟨false, 6, 0, 0⟩), (11, .str true (nxt E i x))]) (H1 := [(0, .cells false 8 k (.fn fun j => elR (E j))), (1, .cells true 1 1 (.fn fun _ => [.slc true false ⟨false, 0, 0, 0⟩ k])), (2, .cells true 1 1 (.fn fun _ => [.str true y])), (3, .cells true 1 1 (.fn fun _ => [sL 5 ps.length])), (4, .cells true 1 1 (.fn fun _ => [.fn (.func 67) [] [.ptr ⟨false, 2, 0, 0⟩, .ptr ⟨false, 1, 0, 0⟩, .ptr ⟨false, 3, 0, 0⟩, .ptr ⟨false, 4, 0, 0⟩]])), (5, .cells true 1 m (.fn (txR f))), (6, .cells true 8 1 (.fn fun _ => elR (E i)))]) ((waH 5 (by omega) i k ps.length m E f x y cm).post fun e fr' H' h => ?_) (by omega) ?_
 ·have key : e = .normal ∧ fr' = frL [(0, .str true x), (1, iT cm), (2, .ptr ⟨false, 2, 0, 0⟩), (3, .ptr ⟨false, 1, 0, 0⟩), (4, .ptr ⟨false, 3, 0, 0⟩), (5, .ptr ⟨false, 4, 0, 0⟩), (9, iT (i : Int)), (10, .ptr ⟨false, 6, 0, 0⟩), (11, .str true (nxt E i x)), (15, .slc true false ⟨false, 0, 0, 0⟩ k), (16, iT (k : Int)), (17, iT (i : Int))] ∧ H' = hpL [(0, .cells false 8 k (.fn fun j => elR (E j))), (1, .cells true 1 1 (.fn fun _ => [.slc true false ⟨false, 0, 0, 0⟩ k])), (2, .cells true 1 1 (.fn fun _ => [.str true y])), (3, .cells true 1 1 (.fn fun _ => [sL 5 ps.length])), (4, .cells true 1 1 (.fn fun _ => [.fn (.func 67) [] [.ptr ⟨false, 2, 0, 0⟩, .ptr ⟨false, 1, 0, 0⟩, .ptr ⟨false, 3, 0, 0⟩, .ptr ⟨false, 4, 0, 0⟩]])), (5, .cells true 1 m (.fn (txR f))), (6, .cells true 8 1 (.fn fun _ => elR (E i)))] := by
   unfold nxt
   cases q : (E i).a == x with
   | true => rw [q, cond_true] at h; rw [cond_true]; exact h
   | false => rw [q, cond_false] at h; rw [cond_false]; exact h
  obtain ⟨rfl, rfl, rfl⟩ := key
  exact ⟨[(0, .str true x), (1, iT cm), (2, .ptr ⟨false, 2, 0, 0⟩), (3, .ptr ⟨false, 1, 0, 0⟩), (4, .ptr ⟨false, 3, 0, 0⟩), (5, .ptr ⟨false, 4, 0, 0⟩), (15, .slc true false ⟨false, 0, 0, 0⟩ k), (16, iT (k : Int)), (17, iT (i : Int)), (9, iT (i : Int)), (10, .ptr ⟨false, 6, 0, 0⟩), (11, .str true (nxt E i x))], [(0, .cells false 8 k (.fn fun j => elR (E j))), (1, .cells true 1 1 (.fn fun _ => [.slc true false ⟨false, 0, 0, 0⟩ k])), (2, .cells true 1 1 (.fn fun _ => [.str true y])), (3, .cells true 1 1 (.fn fun _ => [sL 5 ps.length])), (4, .cells true 1 1 (.fn fun _ => [.fn (.func 67) [] [.ptr ⟨false, 2, 0, 0⟩, .ptr ⟨false, 1, 0, 0⟩, .ptr ⟨false, 3, 0, 0⟩, .ptr ⟨false, 4, 0, 0⟩]])), (5, .cells true 1 m (.fn (txR f))), (6, .cells true 8 1 (.fn fun _ => elR (E i)))], (eGg rfl), (eHh rfl), rfl, rfl, rfl⟩
 have out : skp E i x cm = true → ∀ (e : Ex) (fr' : Fr) (H' : T ABk), (e = .exit 1) → fr' = frL [(0, .str true x), (1, iT cm), (2, .ptr ⟨false, 2, 0, 0⟩), (3, .ptr ⟨false, 1, 0, 0⟩), (4, .ptr ⟨false, 3, 0, 0⟩), (5, .ptr ⟨false, 4, 0, 0⟩), (9, iT (i : Int)), (10, .ptr ⟨false, 6, 0, 0⟩), (11, .str true (nxt E i x)), (15, .slc true false ⟨false, 0, 0, 0⟩ k), (16, iT (k : Int)), (17, iT (i : Int))] → H' = hpL [(0, .cells false 8 k (.fn fun j => elR (E j))), (1, .cells true 1 1 (.fn fun _ => [.slc true false ⟨false, 0, 0, 0⟩ k])), (2, .cells true 1 1 (.fn fun _ => [.str true y])), (3, .cells true 1 1 (.fn fun _ => [sL 5 ps.length])), (4, .cells true 1 1 (.fn fun _ => [.fn (.func 67) [] [.ptr ⟨false, 2, 0, 0⟩, .ptr ⟨false, 1, 0, 0⟩, .ptr ⟨false, 3, 0, 0⟩, .ptr ⟨false, 4, 0, 0⟩]])), (5, .cells true 1 m (.fn (txR f))), (6, .cells true 8 1 (.fn fun _ => elR (E i)))] → BPo k i ps (skp E i x cm) q x y cm E e fr' H' := fun hs e fr' H' h1 h2 h3 => by
  subst h1 h2 h3
  exact .inl ⟨.inl rfl, .inl hs, m, f, hm, (eGg rfl), (eHh rfl)⟩
 refine GoesB.seq (K1 := 7) (by omega) ((waI 5 (by omega) i k ps.length m E f x y (nxt E i x) cm).mono fun e fr' H' h => ?_)
 cases q1 : decide ((i : Int) = cm) with
 | true =>
  rw [q1, cond_true] at h
  obtain ⟨rfl, h2, h3⟩ := h
  exact out (by unfold skp; rw [q1]; rfl) _ _ _ rfl h2 h3
 | false =>
  rw [q1, cond_false] at h
  have rest : skp E i x cm = false → GoesB Try.prog (.seq (nav [1,1,0,1,0,0,1,1,0,0,1,1,1,1,0] (bodyOf Try.f67)) (.seq (.seq (nav [1,1,0,1,0,0,1,1,0,0,1,1,1,1,1,0,0] (bodyOf Try.f67)) (nav [1,1,0,1,0,0,1,1,0,0,1,1,1,1,1,0,1] (bodyOf Try.f67))) (nav [1,1,0,1,0,0,1,1,0,0,1,1,1,1,1,1] (bodyOf Try.f67)))) Try.f67.ntmps 5 7 7 (frL [(0, .str true x), (1, iT cm), (2, .ptr ⟨false, 2, 0, 0⟩), (3, .ptr ⟨false, 1, 0, 0⟩), (4, .ptr ⟨false, 3, 0, 0⟩), (5, .ptr ⟨false, 4, 0, 0⟩), (9, iT (i : Int)), (10, .ptr ⟨false, 6, 0, 0⟩), (11, .str true (nxt E i x)), (15, .slc true false ⟨false, 0, 0, 0⟩ k), (16, iT (k : Int)), (17, iT (i : Int))]) (hpL [(0, .cells false 8 k (.fn fun j => elR (E j))), (1, .cells true 1 1 (.fn fun _ => [.slc true false ⟨false, 0, 0, 0⟩ k])), (2, .cells true 1 1 (.fn fun _ => [.str true y])), (3, .cells true 1 1 (.fn fun _ => [sL 5 ps.length])), (4, .cells true 1 1 (.fn fun _ => [.fn (.func 67) [] [.ptr ⟨false, 2, 0, 0⟩, .ptr ⟨false, 1, 0, 0⟩, .ptr ⟨false, 3, 0, 0⟩, .ptr ⟨false, 4, 0, 0⟩]])), (5, .cells true 1 m (.fn (txR f))), (6, .cells true 8 1 (.fn fun _ => elR (E i)))]) (BPo k i ps (skp E i x cm) q x y cm E) := fun hs => by
   obtain ⟨s1, s2⟩ := skp_false hs
   refine GoesB.weakL (fl := [(0, .str true x), (1, iT cm), (2, .ptr ⟨false, 2, 0, 0⟩), (3, .ptr ⟨false, 1, 0, 0⟩), (4, .ptr ⟨false, 3, 0, 0⟩), (5, .ptr ⟨false, 4, 0, 0⟩), (15, .slc true false ⟨false, 0, 0, 0⟩ k), (16, iT (k : Int)), (17, iT (i : Int)), (9, iT (i : Int)), (10, .ptr ⟨false, 6, 0, 0⟩), (11, .str true (nxt E i x))]) (bl := [(0, .cells false 8 k (.fn fun j => elR (E j))), (1, .cells true 1 1 (.fn fun _ => [.slc true false ⟨false, 0, 0, 0⟩ k])), (2, .cells true 1 1 (.fn fun _ => [.str true y])), (3, .cells true 1 1 (.fn fun _ => [sL 5 ps.length])), (4, .cells true 1 1 (.fn fun _ => [.fn (.func 67) [] [.ptr ⟨false, 2, 0, 0⟩, .ptr ⟨false, 1, 0, 0⟩, .ptr ⟨false, 3, 0, 0⟩, .ptr ⟨false, 4, 0, 0⟩]])), (5, .cells true 1 m (.fn (txR f))), (6, .cells true 8 1 (.fn fun _ => elR (E i)))]) (eGg rfl) (eHh rfl) ?_
   refine GoesB.seqN (K1 := 6) (F1 := [(0, .str true x), (1, iT cm), (2, .ptr ⟨false, 2, 0, 0⟩), (3, .ptr ⟨false, 1, 0, 0⟩), (4, .ptr ⟨false, 3, 0, 0⟩), (5, .ptr ⟨false, 4, 0, 0⟩), (15, .slc true false ⟨false, 0, 0, 0⟩ k), (16, iT (k : Int)), (17, iT (i : Int)), (9, iT (i : Int)), (11, .str true (nxt E i x))]) (H1 := [(0, .cells false 8 k (.fn fun j => elR (E j))), (1, .cells true 1 1 (.fn fun _ => [.slc true false ⟨false, 0, 0, 0⟩ k])), (2, .cells true 1 1 (.fn fun _ => [.str true y])), (3, .cells true 1 1 (.fn fun _ => [sL 5 (ps.length + 1)])), (4, .cells true 1 1 (.fn fun _ => [.fn (.func 67) [] [.ptr ⟨false, 2, 0, 0⟩, .ptr ⟨false, 1, 0, 0⟩, .ptr ⟨false, 3, 0, 0⟩, .ptr ⟨false, 4, 0, 0⟩]])), (5, .cells true 1 (ps.length + 1) (.fn (txR (fun j => bif decide (j < ps.length) then f j else (E i).n))))]) ((waJ 5 (by omega) i k ps.length m E f x y (nxt E i x) cm hm.1 (by omega) (by omega)).renG fun e fr' H' h => ?_) (by omega) ?_
   ·obtain ⟨rfl, rfl, rfl⟩ := h
    refine ⟨sg 5 8, [(0, .str true x), (1, iT cm), (2, .ptr ⟨false, 2, 0, 0⟩), (3, .ptr ⟨false, 1, 0, 0⟩), (4, .ptr ⟨false, 3, 0, 0⟩), (5, .ptr ⟨false, 4, 0, 0⟩), (15, .slc true false ⟨false, 0, 0, 0⟩ k), (16, iT (k : Int)), (17, iT (i : Int)), (9, iT (i : Int)), (11, .str true (nxt E i x))], [(0, .cells false 8 k (.fn fun j => elR (E j))), (1, .cells true 1 1 (.fn fun _ => [.slc true false ⟨false, 0, 0, 0⟩ k])), (2, .cells true 1 1 (.fn fun _ => [.str true y])), (3, .cells true 1 1 (.fn fun _ => [sL 5 (ps.length + 1)])), (4, .cells true 1 1 (.fn fun _ => [.fn (.func 67) [] [.ptr ⟨false, 2, 0, 0⟩, .ptr ⟨false, 1, 0, 0⟩, .ptr ⟨false, 3, 0, 0⟩, .ptr ⟨false, 4, 0, 0⟩]])), (5, .cells true 1 (ps.length + 1) (.fn (txR (fun j => bif decide (j < ps.length) then f j else (E i).n))))], sg_low (by omega), (eRr rfl), ⟨rgR rfl rfl (fun j _ => rfl) (fun j _ => rfl) (by omega), rgR rfl rfl (fun j _ => rfl) (fun j _ => rfl) (by omega), rgR rfl rfl (fun j _ => rfl) (fun j _ => rfl) (by omega), rgR rfl rfl (fun j hj => by
     obtain rfl : j = 0 := by omega
     rfl) (fun j _ => rfl) (by omega), rgR rfl rfl (fun j _ => rfl) (fun j _ => rfl) (by omega), rgR rfl rfl (fun j hj => by
     show (bif decide (j < ps.length) then txR f j else [AV.str true (E i).n]) = [AV.str true (bif decide (j < ps.length) then f j else (E i).n)]
     cases decide (j < ps.length) <;> rfl) (fun j _ => rfl) (by omega), trivial⟩, sg_inj (by omega), rfl, rfl, rfl⟩
   have hps : PsO (ps ++ [(E i).n]) (ps.length + 1) (fun j => bif decide (j < ps.length) then f j else (E i).n) := by
    refine ⟨by simp, fun j hj => ?_⟩
    by_cases c : j < ps.length
    ·show (bif decide (j < ps.length) then f j else (E i).n) = _
     rw [decide_eq_true c, cond_true, hm.2 j c]
     simp [List.getElem?_append_left c]
    ·show (bif decide (j < ps.length) then f j else (E i).n) = _
     have : j = ps.length := by simp at hj; omega
     rw [decide_eq_false c, cond_false, this]
     simp
   refine ((wk_tail i k (ps.length + 1) E _ x y (nxt E i x) cm hk ps (E i).n hl q hq (ih (nxt_goes hi s2) s1 _ _ hps)).up (by omega)).mono fun e fr' H' h => ?_
   rcases h with ⟨rfl, h0, m', f', h1, rfl, rfl⟩ | ⟨h0, h⟩
   ·exact .inl ⟨.inr rfl, .inr h0, m', f', h1, (eGg rfl), (eHh rfl)⟩
   ·exact .inr ⟨hs, h0, h⟩
  cases q2 : (E i).a == x with
  | true =>
   rw [q2, cond_true] at h
   obtain ⟨rfl, rfl, rfl⟩ := h
   exact rest (by unfold skp; rw [q1, q2]; rfl)
  | false =>
   rw [q2, cond_false] at h
   cases q3 : (E i).b == x with
   | true =>
    rw [q3, cond_true] at h
    obtain ⟨rfl, rfl, rfl⟩ := h
    exact rest (by unfold skp; rw [q1, q2, q3]; rfl)
   | false =>
    rw [q3, cond_false] at h
    obtain ⟨rfl, h2, h3⟩ := h
    exact out (by unfold skp; rw [q1, q2, q3]; rfl) _ _ _ rfl h2 h3
theorem wk_blk (i k m : Nat) (E : tE) (f : tX) (x y : Tx) (cm : Int) (hk : k ≤ 256) (hi : i < k) (ps : List Tx) (hl : ps.length ≤ 1024) (hm : PsO ps m f) (q : Bool × List Tx) (hq : q.1 = false → q.2 = ps ++ [(E i).n]) (ih : IHo k i E ps q x y cm) :
  GoesB Try.prog (.block 1 (nav [1,1,0,1,0,0,1,1,0,0] (bodyOf Try.f67))) Try.f67.ntmps 5 6 6 (frL [(0, .str true x), (1, iT cm), (2, .ptr ⟨false, 2, 0, 0⟩), (3, .ptr ⟨false, 1, 0, 0⟩), (4, .ptr ⟨false, 3, 0, 0⟩), (5, .ptr ⟨false, 4, 0, 0⟩), (15, .slc true false ⟨false, 0, 0, 0⟩ k), (16, iT (k : Int)), (17, iT (i : Int))]) (hpL [(0, .cells false 8 k (.fn fun j => elR (E j))), (1, .cells true 1 1 (.fn fun _ => [.slc true false ⟨false, 0, 0, 0⟩ k])), (2, .cells true 1 1 (.fn fun _ => [.str true y])), (3, .cells true 1 1 (.fn fun _ => [sL 5 ps.length])), (4, .cells true 1 1 (.fn fun _ => [.fn (.func 67) [] [.ptr ⟨false, 2, 0, 0⟩, .ptr ⟨false, 1, 0, 0⟩, .ptr ⟨false, 3, 0, 0⟩, .ptr ⟨false, 4, 0, 0⟩]])), (5, .cells true 1 m (.fn (txR f)))]) (fun e fr' H' => (e = .normal ∧ (skp E i x cm = true ∨ q.1 = false) ∧ ∃ (m' : Nat) (f' : tX), PsO ps m' f' ∧ fr' = frL [(0, .str true x), (1, iT cm), (2, .ptr ⟨false, 2, 0, 0⟩), (3, .ptr ⟨false, 1, 0, 0⟩), (4, .ptr ⟨false, 3, 0, 0⟩), (5, .ptr ⟨false, 4, 0, 0⟩), (15, .slc true false ⟨false, 0, 0, 0⟩ k), (16, iT (k : Int)), (17, iT (i : Int))] ∧ H' = hpL [(0, .cells false 8 k (.fn fun j => elR (E j))), (1, .cells true 1 1 (.fn fun _ => [.slc true false ⟨false, 0, 0, 0⟩ k])), (2, .cells true 1 1 (.fn fun _ => [.str true y])), (3, .cells true 1 1 (.fn fun _ => [sL 5 ps.length])), (4, .cells true 1 1 (.fn fun _ => [.fn (.func 67) [] [.ptr ⟨false, 2, 0, 0⟩, .ptr ⟨false, 1, 0, 0⟩, .ptr ⟨false, 3, 0, 0⟩, .ptr ⟨false, 4, 0, 0⟩]])), (5, .cells true 1 m' (.fn (txR f')))]) ∨ (skp E i x cm = false ∧ q.1 = true ∧ WPo k q y E e fr' H')) := by
 have h1 : GoesB Try.prog (.block 1 (nav [1,1,0,1,0,0,1,1,0,0] (bodyOf Try.f67))) Try.f67.ntmps 5 6 7 (frL [(0, .str true x), (1, iT cm), (2, .ptr ⟨false, 2, 0, 0⟩), (3, .ptr ⟨false, 1, 0, 0⟩), (4, .ptr ⟨false, 3, 0, 0⟩), (5, .ptr ⟨false, 4, 0, 0⟩), (15, .slc true false ⟨false, 0, 0, 0⟩ k), (16, iT (k : Int)), (17, iT (i : Int))]) (hpL [(0, .cells false 8 k (.fn fun j => elR (E j))), (1, .cells true 1 1 (.fn fun _ => [.slc true false ⟨false, 0, 0, 0⟩ k])), (2, .cells true 1 1 (.fn fun _ => [.str true y])), (3, .cells true 1 1 (.fn fun _ => [sL 5 ps.length])), (4, .cells true 1 1 (.fn fun _ => [.fn (.func 67) [] [.ptr ⟨false, 2, 0, 0⟩, .ptr ⟨false, 1, 0, 0⟩, .ptr ⟨false, 3, 0, 0⟩, .ptr ⟨false, 4, 0, 0⟩]])), (5, .cells true 1 m (.fn (txR f)))]) (fun e fr' H' => (e = .normal ∧ (skp E i x cm = true ∨ q.1 = false) ∧ ∃ (m' : Nat) (f' : tX), PsO ps m' f' ∧ Ge fr' [(0, .str true x), (1, iT cm), (2, .ptr ⟨false, 2, 0, 0⟩), (3, .ptr ⟨false, 1, 0, 0⟩), (4, .ptr ⟨false, 3, 0, 0⟩), (5, .ptr ⟨false, 4, 0, 0⟩), (15, .slc true false ⟨false, 0, 0, 0⟩ k), (16, iT (k : Int)), (17, iT (i : Int))] ∧ GeH H' [(0, .cells false 8 k (.fn fun j => elR (E j))), (1, .cells true 1 1 (.fn fun _ => [.slc true false ⟨false, 0, 0, 0⟩ k])), (2, .cells true 1 1 (.fn fun _ => [.str true y])), (3, .cells true 1 1 (.fn fun _ => [sL 5 ps.length])), (4, .cells true 1 1 (.fn fun _ => [.fn (.func 67) [] [.ptr ⟨false, 2, 0, 0⟩, .ptr ⟨false, 1, 0, 0⟩, .ptr ⟨false, 3, 0, 0⟩, .ptr ⟨false, 4, 0, 0⟩]])), (5, .cells true 1 m' (.fn (txR f')))]) ∨ (skp E i x cm = false ∧ q.1 = true ∧ WPo k q y E e fr' H')) :=
  GoesB.block ((wk_in i k m E f x y cm hk hi ps hl hm q hq ih).mono fun e fr' H' h => by
   rcases h with ⟨rfl | rfl, h⟩ | ⟨h0, h1, h⟩
   ·simp only [if_true]; exact .inl ⟨trivial, h⟩
   ·exact .inl ⟨rfl, h⟩
   ·have := h.1
    subst this
    exact .inr ⟨h0, h1, h⟩)
 refine (h1.post (Post' := fun e fr' H' => (e = .normal ∧ (skp E i x cm = true ∨ q.1 = false) ∧ ∃ (m' : Nat) (f' : tX), PsO ps m' f' ∧ fr' = frL [(0, .str true x), (1, iT cm), (2, .ptr ⟨false, 2, 0, 0⟩), (3, .ptr ⟨false, 1, 0, 0⟩), (4, .ptr ⟨false, 3, 0, 0⟩), (5, .ptr ⟨false, 4, 0, 0⟩), (15, .slc true false ⟨false, 0, 0, 0⟩ k), (16, iT (k : Int)), (17, iT (i : Int))] ∧ H' = hpL [(0, .cells false 8 k (.fn fun j => elR (E j))), (1, .cells true 1 1 (.fn fun _ => [.slc true false ⟨false, 0, 0, 0⟩ k])), (2, .cells true 1 1 (.fn fun _ => [.str true y])), (3, .cells true 1 1 (.fn fun _ => [sL 5 ps.length])), (4, .cells true 1 1 (.fn fun _ => [.fn (.func 67) [] [.ptr ⟨false, 2, 0, 0⟩, .ptr ⟨false, 1, 0, 0⟩, .ptr ⟨false, 3, 0, 0⟩, .ptr ⟨false, 4, 0, 0⟩]])), (5, .cells true 1 m' (.fn (txR f')))]) ∨ (skp E i x cm = false ∧ q.1 = true ∧ WPo k q y E e fr' H')) fun e fr' H' h => ?_).renG fun e fr' H' h => ?_
 ·rcases h with ⟨rfl, h0, m', f', h2, h3, h4⟩ | ⟨h0, h1, rfl, m', f', h2, rfl, h4, h5⟩
  ·exact ⟨_, _, h3, h4, .inl ⟨rfl, h0, m', f', h2, rfl, rfl⟩⟩
  ·exact ⟨[(8, .bool q.1)], [(0, .cells false 8 k (.fn fun j => elR (E j))), (1, .cells true 1 1 (.fn fun _ => [.slc true false ⟨false, 0, 0, 0⟩ k])), (2, .cells true 1 1 (.fn fun _ => [.str true y])), (3, .cells true 1 1 (.fn fun _ => [sL 5 q.2.length])), (4, .cells true 1 1 (.fn fun _ => [.fn (.func 67) [] [.ptr ⟨false, 2, 0, 0⟩, .ptr ⟨false, 1, 0, 0⟩, .ptr ⟨false, 3, 0, 0⟩, .ptr ⟨false, 4, 0, 0⟩]])), (5, .cells true 1 m' (.fn (txR f')))], ⟨⟨_, h2, AV.ge.refl _⟩, trivial⟩, (eHh rfl), .inr ⟨h0, h1, rfl, m', f', rfl, rfl, h4, h5⟩⟩
 ·rcases h with ⟨rfl, h0, m', f', h2, rfl, rfl⟩ | ⟨h0, h1, rfl, m', f', h2, rfl, h4, h5⟩
  ·exact ⟨id, [(0, .str true x), (1, iT cm), (2, .ptr ⟨false, 2, 0, 0⟩), (3, .ptr ⟨false, 1, 0, 0⟩), (4, .ptr ⟨false, 3, 0, 0⟩), (5, .ptr ⟨false, 4, 0, 0⟩), (15, .slc true false ⟨false, 0, 0, 0⟩ k), (16, iT (k : Int)), (17, iT (i : Int))], [(0, .cells false 8 k (.fn fun j => elR (E j))), (1, .cells true 1 1 (.fn fun _ => [.slc true false ⟨false, 0, 0, 0⟩ k])), (2, .cells true 1 1 (.fn fun _ => [.str true y])), (3, .cells true 1 1 (.fn fun _ => [sL 5 ps.length])), (4, .cells true 1 1 (.fn fun _ => [.fn (.func 67) [] [.ptr ⟨false, 2, 0, 0⟩, .ptr ⟨false, 1, 0, 0⟩, .ptr ⟨false, 3, 0, 0⟩, .ptr ⟨false, 4, 0, 0⟩]])), (5, .cells true 1 m' (.fn (txR f')))], fun g hg => rfl, (eRr rfl), ⟨rgR rfl rfl (fun j _ => rfl) (fun j _ => rfl) (by omega), rgR rfl rfl (fun j _ => rfl) (fun j _ => rfl) (by omega), rgR rfl rfl (fun j _ => rfl) (fun j _ => rfl) (by omega), rgR rfl rfl (fun j _ => rfl) (fun j _ => rfl) (by omega), rgR rfl rfl (fun j _ => rfl) (fun j _ => rfl) (by omega), rgR rfl rfl (fun j _ => rfl) (fun j _ => rfl) (by omega), trivial⟩, fun i j _ _ h => h, .inl ⟨rfl, h0, m', f', h2, rfl, rfl⟩⟩
  ·exact ⟨id, [(8, .bool q.1)], [(0, .cells false 8 k (.fn fun j => elR (E j))), (1, .cells true 1 1 (.fn fun _ => [.slc true false ⟨false, 0, 0, 0⟩ k])), (2, .cells true 1 1 (.fn fun _ => [.str true y])), (3, .cells true 1 1 (.fn fun _ => [sL 5 q.2.length])), (4, .cells true 1 1 (.fn fun _ => [.fn (.func 67) [] [.ptr ⟨false, 2, 0, 0⟩, .ptr ⟨false, 1, 0, 0⟩, .ptr ⟨false, 3, 0, 0⟩, .ptr ⟨false, 4, 0, 0⟩]])), (5, .cells true 1 m' (.fn (txR f')))], fun g hg => rfl, ⟨⟨_, h2, AV.ge.refl _, rfl⟩, trivial⟩, ⟨rgR rfl rfl (fun j _ => rfl) (fun j _ => rfl) (by omega), rgR rfl rfl (fun j _ => rfl) (fun j _ => rfl) (by omega), rgR rfl rfl (fun j _ => rfl) (fun j _ => rfl) (by omega), rgR rfl rfl (fun j _ => rfl) (fun j _ => rfl) (by omega), rgR rfl rfl (fun j _ => rfl) (fun j _ => rfl) (by omega), rgR rfl rfl (fun j _ => rfl) (fun j _ => rfl) (by omega), trivial⟩, fun i j _ _ h => h, .inr ⟨h0, h1, rfl, m', f', rfl, rfl, h4, h5⟩⟩
theorem wlp_succ (E : tE) (k : Nat) (rec : List Tx → Tx → Int → Bool × List Tx) (ps : List Tx) (x : Tx) (cm : Int) (r : Nat) : wlp E k rec ps x cm (r + 1) = bif skp E (k - (r + 1)) x cm then wlp E k rec ps x cm r else bif (rec (ps ++ [(E (k - (r + 1))).n]) (nxt E (k - (r + 1)) x) ((k - (r + 1) : Nat) : Int)).1 then rec (ps ++ [(E (k - (r + 1))).n]) (nxt E (k - (r + 1)) x) ((k - (r + 1) : Nat) : Int) else wlp E k rec ps x cm r := rfl
theorem wk_round (i k d m : Nat) (E : tE) (f : tX) (x y : Tx) (cm : Int) (hk : k ≤ 256) (hi : i ≤ k) (ps : List Tx) (hl : ps.length ≤ 1024) (hm : PsO ps m f) (ih : ∀ (i : Nat), i < k → IHo k i E ps (wks E k y d (ps ++ [(E i).n]) (nxt E i x) (i : Int)) x y cm) :
  GoesB Try.prog (nav [1,1,0,1,0,0] (bodyOf Try.f67)) Try.f67.ntmps 5 6 6 (frL [(0, .str true x), (1, iT cm), (2, .ptr ⟨false, 2, 0, 0⟩), (3, .ptr ⟨false, 1, 0, 0⟩), (4, .ptr ⟨false, 3, 0, 0⟩), (5, .ptr ⟨false, 4, 0, 0⟩), (15, .slc true false ⟨false, 0, 0, 0⟩ k), (16, iT (k : Int)), (17, iT (i : Int))]) (hpL [(0, .cells false 8 k (.fn fun j => elR (E j))), (1, .cells true 1 1 (.fn fun _ => [.slc true false ⟨false, 0, 0, 0⟩ k])), (2, .cells true 1 1 (.fn fun _ => [.str true y])), (3, .cells true 1 1 (.fn fun _ => [sL 5 ps.length])), (4, .cells true 1 1 (.fn fun _ => [.fn (.func 67) [] [.ptr ⟨false, 2, 0, 0⟩, .ptr ⟨false, 1, 0, 0⟩, .ptr ⟨false, 3, 0, 0⟩, .ptr ⟨false, 4, 0, 0⟩]])), (5, .cells true 1 m (.fn (txR f)))]) (fun e fr' H' => (e = .normal ∧ i < k ∧ (wlp E k (wks E k y d) ps x cm (k - i)) = (wlp E k (wks E k y d) ps x cm (k - (i + 1))) ∧ ∃ (m' : Nat) (f' : tX), PsO ps m' f' ∧ fr' = frL [(0, .str true x), (1, iT cm), (2, .ptr ⟨false, 2, 0, 0⟩), (3, .ptr ⟨false, 1, 0, 0⟩), (4, .ptr ⟨false, 3, 0, 0⟩), (5, .ptr ⟨false, 4, 0, 0⟩), (15, .slc true false ⟨false, 0, 0, 0⟩ k), (16, iT (k : Int)), (17, iT ((i + 1 : Nat) : Int))] ∧ H' = hpL [(0, .cells false 8 k (.fn fun j => elR (E j))), (1, .cells true 1 1 (.fn fun _ => [.slc true false ⟨false, 0, 0, 0⟩ k])), (2, .cells true 1 1 (.fn fun _ => [.str true y])), (3, .cells true 1 1 (.fn fun _ => [sL 5 ps.length])), (4, .cells true 1 1 (.fn fun _ => [.fn (.func 67) [] [.ptr ⟨false, 2, 0, 0⟩, .ptr ⟨false, 1, 0, 0⟩, .ptr ⟨false, 3, 0, 0⟩, .ptr ⟨false, 4, 0, 0⟩]])), (5, .cells true 1 m' (.fn (txR f')))]) ∨ (e = .exit 0 ∧ i = k ∧ fr' = frL [(0, .str true x), (1, iT cm), (2, .ptr ⟨false, 2, 0, 0⟩), (3, .ptr ⟨false, 1, 0, 0⟩), (4, .ptr ⟨false, 3, 0, 0⟩), (5, .ptr ⟨false, 4, 0, 0⟩), (15, .slc true false ⟨false, 0, 0, 0⟩ k), (16, iT (k : Int)), (17, iT (i : Int))] ∧ H' = hpL [(0, .cells false 8 k (.fn fun j => elR (E j))), (1, .cells true 1 1 (.fn fun _ => [.slc true false ⟨false, 0, 0, 0⟩ k])), (2, .cells true 1 1 (.fn fun _ => [.str true y])), (3, .cells true 1 1 (.fn fun _ => [sL 5 ps.length])), (4, .cells true 1 1 (.fn fun _ => [.fn (.func 67) [] [.ptr ⟨false, 2, 0, 0⟩, .ptr ⟨false, 1, 0, 0⟩, .ptr ⟨false, 3, 0, 0⟩, .ptr ⟨false, 4, 0, 0⟩]])), (5, .cells true 1 m (.fn (txR f)))]) ∨ WPo k (wlp E k (wks E k y d) ps x cm (k - i)) y E e fr' H') := by
 rw [wk_body]
 refine GoesB.seqN (K1 := 6) (F1 := [(0, .str true x), (1, iT cm), (2, .ptr ⟨false, 2, 0, 0⟩), (3, .ptr ⟨false, 1, 0, 0⟩), (4, .ptr ⟨false, 3, 0, 0⟩), (5, .ptr ⟨false, 4, 0, 0⟩), (15, .slc true false ⟨false, 0, 0, 0⟩ k), (16, iT (k : Int)), (17, iT (i : Int)), (18, .sbool (decide ((i : Int) < (k : Int))))]) (H1 := [(0, .cells false 8 k (.fn fun j => elR (E j))), (1, .cells true 1 1 (.fn fun _ => [.slc true false ⟨false, 0, 0, 0⟩ k])), (2, .cells true 1 1 (.fn fun _ => [.str true y])), (3, .cells true 1 1 (.fn fun _ => [sL 5 ps.length])), (4, .cells true 1 1 (.fn fun _ => [.fn (.func 67) [] [.ptr ⟨false, 2, 0, 0⟩, .ptr ⟨false, 1, 0, 0⟩, .ptr ⟨false, 3, 0, 0⟩, .ptr ⟨false, 4, 0, 0⟩]])), (5, .cells true 1 m (.fn (txR f)))]) (waD 5 (by omega) i k ps.length m E f x y cm) (by omega) ?_
 refine GoesB.seq (K1 := 6) (by omega) ((waE 5 (by omega) i k ps.length m E f x y cm (decide ((i : Int) < (k : Int)))).mono fun e fr' H' h => ?_)
 by_cases c : i < k
 ·rw [decide_eq_true (by omega), cond_true] at h
  obtain ⟨rfl, rfl, rfl⟩ := h
  have hstep : (wlp E k (wks E k y d) ps x cm (k - i)) = bif skp E i x cm then (wlp E k (wks E k y d) ps x cm (k - (i + 1))) else bif (wks E k y d (ps ++ [(E i).n]) (nxt E i x) (i : Int)).1 then wks E k y d (ps ++ [(E i).n]) (nxt E i x) (i : Int) else (wlp E k (wks E k y d) ps x cm (k - (i + 1))) := by
   rw [show k - i = (k - (i + 1)) + 1 by omega, wlp_succ, show k - (k - (i + 1) + 1) = i by omega]
  refine GoesB.seq (K1 := 6) (by omega) ((wk_blk i k m E f x y cm hk c ps hl hm (wks E k y d (ps ++ [(E i).n]) (nxt E i x) (i : Int)) wks_false (ih i c)).mono fun e fr' H' h => ?_)
  rcases h with ⟨rfl, h0, m', f', h1, rfl, rfl⟩ | ⟨h0, h1, h⟩
  ·refine (waN 5 (by omega) i k ps.length m' E f' x y cm (by omega)).post fun e fr' H' h => ?_
   obtain ⟨rfl, rfl, rfl⟩ := h
   refine ⟨[(0, .str true x), (1, iT cm), (2, .ptr ⟨false, 2, 0, 0⟩), (3, .ptr ⟨false, 1, 0, 0⟩), (4, .ptr ⟨false, 3, 0, 0⟩), (5, .ptr ⟨false, 4, 0, 0⟩), (15, .slc true false ⟨false, 0, 0, 0⟩ k), (16, iT (k : Int)), (17, iT ((i + 1 : Nat) : Int))], [(0, .cells false 8 k (.fn fun j => elR (E j))), (1, .cells true 1 1 (.fn fun _ => [.slc true false ⟨false, 0, 0, 0⟩ k])), (2, .cells true 1 1 (.fn fun _ => [.str true y])), (3, .cells true 1 1 (.fn fun _ => [sL 5 ps.length])), (4, .cells true 1 1 (.fn fun _ => [.fn (.func 67) [] [.ptr ⟨false, 2, 0, 0⟩, .ptr ⟨false, 1, 0, 0⟩, .ptr ⟨false, 3, 0, 0⟩, .ptr ⟨false, 4, 0, 0⟩]])), (5, .cells true 1 m' (.fn (txR f')))], ⟨re rfl, re rfl, re rfl, re rfl, re rfl, re rfl, re rfl, re rfl, ⟨_, rfl, AV.ge.int' _ _ _ (by omega)⟩, trivial⟩, (eHh rfl), .inl ⟨rfl, c, ?_, m', f', h1, rfl, rfl⟩⟩
   rw [hstep]
   rcases h0 with h0 | h0
   ·rw [h0, cond_true]
   ·rw [h0, cond_false]; cases skp E i x cm <;> rfl
  ·have := h.1
   subst this
   refine .inr (.inr ?_)
   rw [hstep, h0, cond_false, h1, cond_true]
   exact h
 ·rw [decide_eq_false (by omega), cond_false] at h
  obtain ⟨rfl, rfl, rfl⟩ := h
  exact .inr (.inl ⟨rfl, by omega, rfl, rfl⟩)
theorem wk_loop (k d m : Nat) (E : tE) (f : tX) (x y : Tx) (cm : Int) (hk : k ≤ 256) (ps : List Tx) (hl : ps.length ≤ 1024) (hm : PsO ps m f) (ih : ∀ (i : Nat), i < k → IHo k i E ps (wks E k y d (ps ++ [(E i).n]) (nxt E i x) (i : Int)) x y cm) :
  GoesB Try.prog (.block 0 (.loop (nav [1,1,0,1,0,0] (bodyOf Try.f67)))) Try.f67.ntmps 5 6 6 (frL [(0, .str true x), (1, iT cm), (2, .ptr ⟨false, 2, 0, 0⟩), (3, .ptr ⟨false, 1, 0, 0⟩), (4, .ptr ⟨false, 3, 0, 0⟩), (5, .ptr ⟨false, 4, 0, 0⟩), (15, .slc true false ⟨false, 0, 0, 0⟩ k), (16, iT (k : Int)), (17, iT ((0 : Nat) : Int))]) (hpL [(0, .cells false 8 k (.fn fun j => elR (E j))), (1, .cells true 1 1 (.fn fun _ => [.slc true false ⟨false, 0, 0, 0⟩ k])), (2, .cells true 1 1 (.fn fun _ => [.str true y])), (3, .cells true 1 1 (.fn fun _ => [sL 5 ps.length])), (4, .cells true 1 1 (.fn fun _ => [.fn (.func 67) [] [.ptr ⟨false, 2, 0, 0⟩, .ptr ⟨false, 1, 0, 0⟩, .ptr ⟨false, 3, 0, 0⟩, .ptr ⟨false, 4, 0, 0⟩]])), (5, .cells true 1 m (.fn (txR f)))]) (fun e fr' H' => (e = .normal ∧ (wlp E k (wks E k y d) ps x cm (k)) = (false, ps) ∧ ∃ (i m' : Nat) (f' : tX), PsO ps m' f' ∧ fr' = frL [(0, .str true x), (1, iT cm), (2, .ptr ⟨false, 2, 0, 0⟩), (3, .ptr ⟨false, 1, 0, 0⟩), (4, .ptr ⟨false, 3, 0, 0⟩), (5, .ptr ⟨false, 4, 0, 0⟩), (15, .slc true false ⟨false, 0, 0, 0⟩ k), (16, iT (k : Int)), (17, iT (i : Int))] ∧ H' = hpL [(0, .cells false 8 k (.fn fun j => elR (E j))), (1, .cells true 1 1 (.fn fun _ => [.slc true false ⟨false, 0, 0, 0⟩ k])), (2, .cells true 1 1 (.fn fun _ => [.str true y])), (3, .cells true 1 1 (.fn fun _ => [sL 5 ps.length])), (4, .cells true 1 1 (.fn fun _ => [.fn (.func 67) [] [.ptr ⟨false, 2, 0, 0⟩, .ptr ⟨false, 1, 0, 0⟩, .ptr ⟨false, 3, 0, 0⟩, .ptr ⟨false, 4, 0, 0⟩]])), (5, .cells true 1 m' (.fn (txR f')))]) ∨ WPo k (wlp E k (wks E k y d) ps x cm (k)) y E e fr' H') := by
 refine GoesB.block ((GoesB.loop (Post := fun e fr' H' => (e = .exit 0 ∧ (wlp E k (wks E k y d) ps x cm (k)) = (false, ps) ∧ ∃ (i m' : Nat) (f' : tX), PsO ps m' f' ∧ fr' = frL [(0, .str true x), (1, iT cm), (2, .ptr ⟨false, 2, 0, 0⟩), (3, .ptr ⟨false, 1, 0, 0⟩), (4, .ptr ⟨false, 3, 0, 0⟩), (5, .ptr ⟨false, 4, 0, 0⟩), (15, .slc true false ⟨false, 0, 0, 0⟩ k), (16, iT (k : Int)), (17, iT (i : Int))] ∧ H' = hpL [(0, .cells false 8 k (.fn fun j => elR (E j))), (1, .cells true 1 1 (.fn fun _ => [.slc true false ⟨false, 0, 0, 0⟩ k])), (2, .cells true 1 1 (.fn fun _ => [.str true y])), (3, .cells true 1 1 (.fn fun _ => [sL 5 ps.length])), (4, .cells true 1 1 (.fn fun _ => [.fn (.func 67) [] [.ptr ⟨false, 2, 0, 0⟩, .ptr ⟨false, 1, 0, 0⟩, .ptr ⟨false, 3, 0, 0⟩, .ptr ⟨false, 4, 0, 0⟩]])), (5, .cells true 1 m' (.fn (txR f')))]) ∨ WPo k (wlp E k (wks E k y d) ps x cm (k)) y E e fr' H') (fun r fr' H' => ∃ (i m' : Nat) (f' : tX), r = k - i ∧ i ≤ k ∧ (wlp E k (wks E k y d) ps x cm (k)) = (wlp E k (wks E k y d) ps x cm (k - i)) ∧ PsO ps m' f' ∧ fr' = frL [(0, .str true x), (1, iT cm), (2, .ptr ⟨false, 2, 0, 0⟩), (3, .ptr ⟨false, 1, 0, 0⟩), (4, .ptr ⟨false, 3, 0, 0⟩), (5, .ptr ⟨false, 4, 0, 0⟩), (15, .slc true false ⟨false, 0, 0, 0⟩ k), (16, iT (k : Int)), (17, iT (i : Int))] ∧ H' = hpL [(0, .cells false 8 k (.fn fun j => elR (E j))), (1, .cells true 1 1 (.fn fun _ => [.slc true false ⟨false, 0, 0, 0⟩ k])), (2, .cells true 1 1 (.fn fun _ => [.str true y])), (3, .cells true 1 1 (.fn fun _ => [sL 5 ps.length])), (4, .cells true 1 1 (.fn fun _ => [.fn (.func 67) [] [.ptr ⟨false, 2, 0, 0⟩, .ptr ⟨false, 1, 0, 0⟩, .ptr ⟨false, 3, 0, 0⟩, .ptr ⟨false, 4, 0, 0⟩]])), (5, .cells true 1 m' (.fn (txR f')))]) ?_ k _ _ ⟨0, m, f, by omega, by omega, rfl, hm, rfl, rfl⟩).mono fun e fr' H' h => ?_)
 ·rintro r fr' H' ⟨i, m', f', rfl, hi, hq, h1, rfl, rfl⟩
  refine (wk_round i k d m' E f' x y cm hk hi ps hl h1 ih).mono fun e fr' H' h => ?_
  rcases h with ⟨rfl, h2, hq2, m'', f'', h3, rfl, rfl⟩ | ⟨rfl, rfl, rfl, rfl⟩ | h
  ·exact ⟨k - (i + 1), by omega, i + 1, m'', f'', rfl, by omega, hq.trans hq2, h3, rfl, rfl⟩
  ·exact .inl ⟨rfl, by rw [hq, Nat.sub_self]; rfl, i, m', f', h1, rfl, rfl⟩
  ·have := h.1
   subst this
   refine .inr ?_
   rw [hq]; exact h
 ·rcases h with ⟨rfl, h⟩ | h
  ·simp only [if_true]; exact .inl ⟨trivial, h⟩
  ·have := h.1
   subst this
   exact .inr h
theorem walk_goes (k : Nat) (hk : k ≤ 256) (E : tE) {cl : Nat → Tx → Nat} (FR : Forest (edT E k) cl) (st y : Tx) : ∀ (d : Nat) (l : List Nat) (x : Tx) (m : Nat) (f : tX) (ps : List Tx), Way (edT E k) st l x → l.length + d = k + 1 → ps.length = l.length → PsO ps m f →
  GoesB Try.prog (bodyOf Try.f67) Try.f67.ntmps 5 6 6 (frameOf [.str true x, iT (cmOf l), .ptr ⟨false, 2, 0, 0⟩, .ptr ⟨false, 1, 0, 0⟩, .ptr ⟨false, 3, 0, 0⟩, .ptr ⟨false, 4, 0, 0⟩] 0 .e) (hpL [(0, .cells false 8 k (.fn fun j => elR (E j))), (1, .cells true 1 1 (.fn fun _ => [.slc true false ⟨false, 0, 0, 0⟩ k])), (2, .cells true 1 1 (.fn fun _ => [.str true y])), (3, .cells true 1 1 (.fn fun _ => [sL 5 ps.length])), (4, .cells true 1 1 (.fn fun _ => [.fn (.func 67) [] [.ptr ⟨false, 2, 0, 0⟩, .ptr ⟨false, 1, 0, 0⟩, .ptr ⟨false, 3, 0, 0⟩, .ptr ⟨false, 4, 0, 0⟩]])), (5, .cells true 1 m (.fn (txR f)))]) (WPo k (wks E k y d ps x (cmOf l)) y E)
 | 0, l, x, m, f, ps, hw, hd, hp, hm => by
  have := FR.short hw
  rw [edT_len] at this
  omega
 | d + 1, l, x, m, f, ps, hw, hd, hp, hm => by
  have hl := FR.short hw
  rw [edT_len] at hl
  have ih : ∀ (i : Nat), i < k → IHo k i E ps (wks E k y d (ps ++ [(E i).n]) (nxt E i x) (i : Int)) x y (cmOf l) := fun i hi hg hc m' f' hm' => by
   have := walk_goes k hk E FR st y d (l ++ [i]) (nxt E i x) m' f' (ps ++ [(E i).n]) (hw.snoc hg (cmOf_ne hc)) (by simp; omega) (by simp; omega) hm'
   rw [cmOf_snoc, show (ps ++ [(E i).n]).length = ps.length + 1 by simp] at this
   exact this
  rw [wk_is]
  refine GoesB.weakL (fl := [(0, .str true x), (1, iT (cmOf l)), (2, .ptr ⟨false, 2, 0, 0⟩), (3, .ptr ⟨false, 1, 0, 0⟩), (4, .ptr ⟨false, 3, 0, 0⟩), (5, .ptr ⟨false, 4, 0, 0⟩)]) (bl := [(0, .cells false 8 k (.fn fun j => elR (E j))), (1, .cells true 1 1 (.fn fun _ => [.slc true false ⟨false, 0, 0, 0⟩ k])), (2, .cells true 1 1 (.fn fun _ => [.str true y])), (3, .cells true 1 1 (.fn fun _ => [sL 5 ps.length])), (4, .cells true 1 1 (.fn fun _ => [.fn (.func 67) [] [.ptr ⟨false, 2, 0, 0⟩, .ptr ⟨false, 1, 0, 0⟩, .ptr ⟨false, 3, 0, 0⟩, .ptr ⟨false, 4, 0, 0⟩]])), (5, .cells true 1 m (.fn (txR f)))]) (eGg rfl) (eHh rfl) ?_
  refine GoesB.seqN (K1 := 6) (waA 5 (by omega) k ps.length m E f x y (cmOf l)) (by omega) ?_
  refine GoesB.seq (K1 := 6) (by omega) ((waB 5 (by omega) k ps.length m E f x y (cmOf l)).mono fun e fr' H' h => ?_)
  cases hxy : x == y with
  | true =>
   rw [hxy, cond_true] at h
   obtain ⟨rfl, rfl, rfl⟩ := h
   have e1 : wks E k y (d + 1) ps x (cmOf l) = (true, ps) := by unfold wks; rw [hxy, cond_true]
   rw [e1]
   exact ⟨rfl, m, f, rfl, rfl, hm.2, hm.1⟩
  | false =>
   rw [hxy, cond_false] at h
   obtain ⟨rfl, rfl, rfl⟩ := h
   have e1 : wks E k y (d + 1) ps x (cmOf l) = wlp E k (wks E k y d) ps x (cmOf l) k := by conv => lhs; unfold wks; rw [hxy, cond_false]
   rw [e1]
   refine GoesB.seq (K1 := 6) (by omega) (GoesB.seqN (K1 := 6) (F1 := [(0, .str true x), (1, iT (cmOf l)), (2, .ptr ⟨false, 2, 0, 0⟩), (3, .ptr ⟨false, 1, 0, 0⟩), (4, .ptr ⟨false, 3, 0, 0⟩), (5, .ptr ⟨false, 4, 0, 0⟩), (15, .slc true false ⟨false, 0, 0, 0⟩ k), (16, iT (k : Int)), (17, iT ((0 : Nat) : Int))]) (H1 := [(0, .cells false 8 k (.fn fun j => elR (E j))), (1, .cells true 1 1 (.fn fun _ => [.slc true false ⟨false, 0, 0, 0⟩ k])), (2, .cells true 1 1 (.fn fun _ => [.str true y])), (3, .cells true 1 1 (.fn fun _ => [sL 5 ps.length])), (4, .cells true 1 1 (.fn fun _ => [.fn (.func 67) [] [.ptr ⟨false, 2, 0, 0⟩, .ptr ⟨false, 1, 0, 0⟩, .ptr ⟨false, 3, 0, 0⟩, .ptr ⟨false, 4, 0, 0⟩]])), (5, .cells true 1 m (.fn (txR f)))]) (GoesB.toN (waC 5 (by omega) k ps.length m E f x y (cmOf l)) ⟨re rfl, re rfl, re rfl, re rfl, re rfl, re rfl, re rfl, re rfl, ⟨_, rfl, AV.ge.int _ _ _ _⟩, trivial⟩ (eHh rfl)) (by omega) ((wk_loop k d m E f x y (cmOf l) hk ps (by omega) hm ih).mono fun e fr' H' h => ?_))
   rcases h with ⟨rfl, hq, i, m', f', h1, rfl, rfl⟩ | h
   ·refine (waO 5 (by omega) i k ps.length m' E f' x y (cmOf l)).mono fun e fr' H' h => ?_
    obtain ⟨rfl, rfl, rfl⟩ := h
    rw [hq]
    exact ⟨rfl, m', f', rfl, rfl, h1.2, h1.1⟩
   ·have := h.1
    subst this
    exact h


theorem boA (B : Nat) (hB : B ≤ 1) (k : Nat) (E : tE) (f : Nat → List UInt8) (z y : List UInt8) : GoesB Try.prog ((nav [0] (bodyOf Try.f46))) Try.f46.ntmps B 1 3 (frameOf [.slc true false ⟨false, 0, 0, 0⟩ k, .str true z, .str true y] 0 .e) (hpL [(0, .cells false 8 k (.fn fun j => elR (E j)))]) (pP .normal [(0, .slc true false ⟨false, 0, 0, 0⟩ k), (1, .str true z), (3, .ptr ⟨false, 1, 0, 0⟩), (5, .ptr ⟨false, 2, 0, 0⟩)] [(0, .cells false 8 k (.fn fun j => (elR (E j)))), (1, .cells true 1 1 (.lit [] (.n .e (some [.slc true false ⟨false, 0, 0, 0⟩ k]) .e))), (2, .cells true 1 1 (.lit [] (.n .e (some [.str true y]) .e)))]) := rdE [] trivial hB
theorem boB (B : Nat) (hB : B ≤ 3) (k : Nat) (E : tE) (f : Nat → List UInt8) (z y : List UInt8) : GoesB Try.prog ((nav [1,0] (bodyOf Try.f46))) Try.f46.ntmps B 3 4 (frL [(0, .slc true false ⟨false, 0, 0, 0⟩ k), (1, .str true z), (3, .ptr ⟨false, 1, 0, 0⟩), (5, .ptr ⟨false, 2, 0, 0⟩)]) (hpL [(0, .cells false 8 k (.fn fun j => elR (E j))), (1, .cells true 1 1 (.fn fun _ => [.slc true false ⟨false, 0, 0, 0⟩ k])), (2, .cells true 1 1 (.fn fun _ => [.str true y]))]) (pP .normal [(0, .slc true false ⟨false, 0, 0, 0⟩ k), (1, .str true z), (3, .ptr ⟨false, 1, 0, 0⟩), (5, .ptr ⟨false, 2, 0, 0⟩), (7, .ptr ⟨false, 3, 0, 0⟩)] [(0, .cells false 8 k (.fn fun j => (elR (E j)))), (1, .cells true 1 1 (.fn fun x => [.slc true false ⟨false, 0, 0, 0⟩ k])), (2, .cells true 1 1 (.fn fun x => [.str true y])), (3, .cells true 1 1 (.lit [] (.n .e (some [.nils]) .e)))]) := rdE [] trivial hB
theorem boC (B : Nat) (hB : B ≤ 4) (k : Nat) (E : tE) (f : Nat → List UInt8) (z y : List UInt8) : GoesB Try.prog ((nav [1,1,0] (bodyOf Try.f46))) Try.f46.ntmps B 4 5 (frL [(0, .slc true false ⟨false, 0, 0, 0⟩ k), (1, .str true z), (3, .ptr ⟨false, 1, 0, 0⟩), (5, .ptr ⟨false, 2, 0, 0⟩), (7, .ptr ⟨false, 3, 0, 0⟩)]) (hpL [(0, .cells false 8 k (.fn fun j => elR (E j))), (1, .cells true 1 1 (.fn fun _ => [.slc true false ⟨false, 0, 0, 0⟩ k])), (2, .cells true 1 1 (.fn fun _ => [.str true y])), (3, .cells true 1 1 (.fn fun _ => [.nils]))]) (pP .normal [(0, .slc true false ⟨false, 0, 0, 0⟩ k), (1, .str true z), (3, .ptr ⟨false, 1, 0, 0⟩), (5, .ptr ⟨false, 2, 0, 0⟩), (7, .ptr ⟨false, 3, 0, 0⟩), (8, .ptr ⟨false, 4, 0, 0⟩)] [(0, .cells false 8 k (.fn fun j => (elR (E j)))), (1, .cells true 1 1 (.fn fun x => [.slc true false ⟨false, 0, 0, 0⟩ k])), (2, .cells true 1 1 (.fn fun x => [.str true y])), (3, .cells true 1 1 (.fn fun x => [.nils])), (4, .cells true 1 1 (.lit [] (.n .e (some [.nilf]) .e)))]) := rdE [] trivial hB
theorem boD (B : Nat) (hB : B ≤ 5) (k : Nat) (E : tE) (f : Nat → List UInt8) (z y : List UInt8) : GoesB Try.prog ((nav [1,1,1,0] (bodyOf Try.f46))) Try.f46.ntmps B 5 5 (frL [(0, .slc true false ⟨false, 0, 0, 0⟩ k), (1, .str true z), (3, .ptr ⟨false, 1, 0, 0⟩), (5, .ptr ⟨false, 2, 0, 0⟩), (7, .ptr ⟨false, 3, 0, 0⟩), (8, .ptr ⟨false, 4, 0, 0⟩)]) (hpL [(0, .cells false 8 k (.fn fun j => elR (E j))), (1, .cells true 1 1 (.fn fun _ => [.slc true false ⟨false, 0, 0, 0⟩ k])), (2, .cells true 1 1 (.fn fun _ => [.str true y])), (3, .cells true 1 1 (.fn fun _ => [.nils])), (4, .cells true 1 1 (.fn fun _ => [.nilf]))]) (pP .normal [(0, .slc true false ⟨false, 0, 0, 0⟩ k), (1, .str true z), (7, .ptr ⟨false, 3, 0, 0⟩), (8, .ptr ⟨false, 4, 0, 0⟩)] [(0, .cells false 8 k (.fn fun j => (elR (E j)))), (1, .cells true 1 1 (.fn fun x => [.slc true false ⟨false, 0, 0, 0⟩ k])), (2, .cells true 1 1 (.fn fun x => [.str true y])), (3, .cells true 1 1 (.fn fun x => [.nils])), (4, .cells true 1 1 (.fn fun j => bif Nat.beq j 0 then [.fn (Go.Fn.func 67) [] [.ptr ⟨false, 2, 0, 0⟩, .ptr ⟨false, 1, 0, 0⟩, .ptr ⟨false, 3, 0, 0⟩, .ptr ⟨false, 4, 0, 0⟩]] else [.nilf]))]) := rdE [] trivial hB
theorem boE_r0 (k L m : Nat) (E : tE) (f : Nat → List UInt8) (z y : List UInt8) : PieceN 6 (Ex.normal) [(7, .ptr ⟨false, 3, 0, 0⟩), (10, .fn (Go.Fn.func (67 : Go.FuncId)) [] [.ptr ⟨false, 2, 0, 0⟩, .ptr ⟨false, 1, 0, 0⟩, .ptr ⟨false, 3, 0, 0⟩, .ptr ⟨false, 4, 0, 0⟩]), (11, .str true z)] [(0, .cells false 8 k (.fn fun j => (elR (E j)))), (1, .cells true 1 1 (.fn fun x => [.slc true false ⟨false, 0, 0, 0⟩ k])), (2, .cells true 1 1 (.fn fun x => [.str true y])), (3, .cells true 1 1 (.fn fun x => [sL 5 L])), (4, .cells true 1 1 (.fn fun x => [.fn (Go.Fn.func (67 : Go.FuncId)) [] [.ptr ⟨false, 2, 0, 0⟩, .ptr ⟨false, 1, 0, 0⟩, .ptr ⟨false, 3, 0, 0⟩, .ptr ⟨false, 4, 0, 0⟩]])), (5, .cells true 1 m (.fn (txR f)))] (piececallE Try.f46 ((regPre 2 (nav [1,1,1,1,0] (bodyOf Try.f46)))) (frL [(0, .slc true false ⟨false, 0, 0, 0⟩ k), (1, .str true z), (7, .ptr ⟨false, 3, 0, 0⟩), (8, .ptr ⟨false, 4, 0, 0⟩)]) (hpL [(0, .cells false 8 k (.fn fun j => elR (E j))), (1, .cells true 1 1 (.fn fun _ => [.slc true false ⟨false, 0, 0, 0⟩ k])), (2, .cells true 1 1 (.fn fun _ => [.str true y])), (3, .cells true 1 1 (.fn fun _ => [sL 5 L])), (4, .cells true 1 1 (.fn fun _ => [.fn (.func 67) [] [.ptr ⟨false, 2, 0, 0⟩, .ptr ⟨false, 1, 0, 0⟩, .ptr ⟨false, 3, 0, 0⟩, .ptr ⟨false, 4, 0, 0⟩]])), (5, .cells true 1 m (.fn (txR f)))]) 6 []) := eN trivial
theorem boQ_r0 (k L m : Nat) (E : tE) (f : Nat → List UInt8) (y : List UInt8) (b : Bool) : PieceN 6 (Ex.normal) [(7, .ptr ⟨false, 3, 0, 0⟩)] [(0, .cells false 8 k (.fn fun j => (elR (E j)))), (1, .cells true 1 1 (.fn fun x => [.slc true false ⟨false, 0, 0, 0⟩ k])), (2, .cells true 1 1 (.fn fun x => [.str true y])), (3, .cells true 1 1 (.fn fun x => [sL 5 L])), (4, .cells true 1 1 (.fn fun x => [.fn (Go.Fn.func (67 : Go.FuncId)) [] [.ptr ⟨false, 2, 0, 0⟩, .ptr ⟨false, 1, 0, 0⟩, .ptr ⟨false, 3, 0, 0⟩, .ptr ⟨false, 4, 0, 0⟩]])), (5, .cells true 1 m (.fn (txR f)))] (piececallE Try.f46 ((regPost 3 (nav [1,1,1,1,0] (bodyOf Try.f46)))) (frL [(12, .sbool b), (7, .ptr ⟨false, 3, 0, 0⟩)]) (hpL [(0, .cells false 8 k (.fn fun j => elR (E j))), (1, .cells true 1 1 (.fn fun _ => [.slc true false ⟨false, 0, 0, 0⟩ k])), (2, .cells true 1 1 (.fn fun _ => [.str true y])), (3, .cells true 1 1 (.fn fun _ => [sL 5 L])), (4, .cells true 1 1 (.fn fun _ => [.fn (.func 67) [] [.ptr ⟨false, 2, 0, 0⟩, .ptr ⟨false, 1, 0, 0⟩, .ptr ⟨false, 3, 0, 0⟩, .ptr ⟨false, 4, 0, 0⟩]])), (5, .cells true 1 m (.fn (txR f)))]) 6 []) := eN trivial
theorem boF (B : Nat) (hB : B ≤ 6) (k L m : Nat) (E : tE) (f : Nat → List UInt8) (y : List UInt8) : GoesB Try.prog ((nav [1,1,1,1,1] (bodyOf Try.f46))) Try.f46.ntmps B 6 6 (frL [(7, .ptr ⟨false, 3, 0, 0⟩)]) (hpL [(0, .cells false 8 k (.fn fun j => elR (E j))), (1, .cells true 1 1 (.fn fun _ => [.slc true false ⟨false, 0, 0, 0⟩ k])), (2, .cells true 1 1 (.fn fun _ => [.str true y])), (3, .cells true 1 1 (.fn fun _ => [sL 5 L])), (4, .cells true 1 1 (.fn fun _ => [.fn (.func 67) [] [.ptr ⟨false, 2, 0, 0⟩, .ptr ⟨false, 1, 0, 0⟩, .ptr ⟨false, 3, 0, 0⟩, .ptr ⟨false, 4, 0, 0⟩]])), (5, .cells true 1 m (.fn (txR f)))]) (pP .ret [(6, sL 5 L)] [(5, .cells true 1 m (.fn (txR f)))]) := rdE [] trivial hB
theorem ao_is : (bodyOf Try.f46) = .seq (nav [0] (bodyOf Try.f46)) (.seq (nav [1,0] (bodyOf Try.f46)) (.seq (nav [1,1,0] (bodyOf Try.f46)) (.seq (nav [1,1,1,0] (bodyOf Try.f46)) (.seq (nav [1,1,1,1,0] (bodyOf Try.f46)) (nav [1,1,1,1,1] (bodyOf Try.f46)))))) := by kernel_rfl
noncomputable def opA : Oper := ((regOps (nav [1,1,1,1,0] (bodyOf Try.f46))).drop 2).headD ⟨none, .move (.tmp 0), 0, "", #[], none⟩
def clA : Call := ⟨.value (.tmp 10), #[.tmp 11, .const (.int .i64 (-1))], #[9, 3]⟩
theorem ao_call (k : Nat) (hk : k ≤ 256) (E : tE) {cl : Nat → Tx → Nat} (FR : Forest (edT E k) cl) (z y : Tx) :
  GoesB Try.prog (nav [1,1,1,1,0] (bodyOf Try.f46)) Try.f46.ntmps 1 6 6 (frL [(0, .slc true false ⟨false, 0, 0, 0⟩ k), (1, .str true z), (7, .ptr ⟨false, 3, 0, 0⟩), (8, .ptr ⟨false, 4, 0, 0⟩)]) (hpL [(0, .cells false 8 k (.fn fun j => elR (E j))), (1, .cells true 1 1 (.fn fun _ => [.slc true false ⟨false, 0, 0, 0⟩ k])), (2, .cells true 1 1 (.fn fun _ => [.str true y])), (3, .cells true 1 1 (.fn fun _ => [sL 5 0])), (4, .cells true 1 1 (.fn fun _ => [.fn (.func 67) [] [.ptr ⟨false, 2, 0, 0⟩, .ptr ⟨false, 1, 0, 0⟩, .ptr ⟨false, 3, 0, 0⟩, .ptr ⟨false, 4, 0, 0⟩]])), (5, .cells true 1 0 (.fn (txR (fun _ => []))))]) (fun e fr' H' => e = .normal ∧ ∃ (m' : Nat) (f' : tX), fr' = frL [(7, .ptr ⟨false, 3, 0, 0⟩)] ∧ H' = hpL [(0, .cells false 8 k (.fn fun j => elR (E j))), (1, .cells true 1 1 (.fn fun _ => [.slc true false ⟨false, 0, 0, 0⟩ k])), (2, .cells true 1 1 (.fn fun _ => [.str true y])), (3, .cells true 1 1 (.fn fun _ => [sL 5 (wks E k y (k + 1) [] z (-1)).2.length])), (4, .cells true 1 1 (.fn fun _ => [.fn (.func 67) [] [.ptr ⟨false, 2, 0, 0⟩, .ptr ⟨false, 1, 0, 0⟩, .ptr ⟨false, 3, 0, 0⟩, .ptr ⟨false, 4, 0, 0⟩]])), (5, .cells true 1 m' (.fn (txR f')))] ∧ PsO (wks E k y (k + 1) [] z (-1)).2 m' f') := by
 refine GoesB.callL (o := opA) (cl := clA) (fop := .tmp 10) (f := 67) (fn := Try.f67) (body := (bodyOf Try.f67)) (pre := []) (cap := [.ptr ⟨false, 2, 0, 0⟩, .ptr ⟨false, 1, 0, 0⟩, .ptr ⟨false, 3, 0, 0⟩, .ptr ⟨false, 4, 0, 0⟩]) (args := [.str true z, .int false .i64 (-1), .ptr ⟨false, 2, 0, 0⟩, .ptr ⟨false, 1, 0, 0⟩, .ptr ⟨false, 3, 0, 0⟩, .ptr ⟨false, 4, 0, 0⟩]) callE_ok 2 (by kernel_rfl) (by kernel_rfl) (by kernel_rfl) (by kernel_rfl) rfl (d := 12) (by kernel_rfl) (Nat.le_of_ble_eq_true (by kernel_rfl)) (K1 := 6) (K2 := 6) (by omega) (boE_r0 k 0 0 E (fun _ => []) z y) Try.func67 (by kernel_rfl) (by kernel_rfl) rfl (B0 := 5) (by omega) (by omega) (by omega) [(7, .ptr ⟨false, 3, 0, 0⟩)] rfl ⟨re rfl, trivial⟩ rfl
  (V := fun v H' => ∃ (m' : Nat) (f' : tX), v = .sbool (wks E k y (k + 1) [] z (-1)).1 ∧ H' = hpL [(0, .cells false 8 k (.fn fun j => elR (E j))), (1, .cells true 1 1 (.fn fun _ => [.slc true false ⟨false, 0, 0, 0⟩ k])), (2, .cells true 1 1 (.fn fun _ => [.str true y])), (3, .cells true 1 1 (.fn fun _ => [sL 5 (wks E k y (k + 1) [] z (-1)).2.length])), (4, .cells true 1 1 (.fn fun _ => [.fn (.func 67) [] [.ptr ⟨false, 2, 0, 0⟩, .ptr ⟨false, 1, 0, 0⟩, .ptr ⟨false, 3, 0, 0⟩, .ptr ⟨false, 4, 0, 0⟩]])), (5, .cells true 1 m' (.fn (txR f')))] ∧ PsO (wks E k y (k + 1) [] z (-1)).2 m' f') ?_ (fun v H' hv => by
   obtain ⟨m', f', rfl, rfl, h1⟩ := hv
   exact ⟨[], _, _, boQ_r0 k _ m' E f' y (wks E k y (k + 1) [] z (-1)).1, rfl, m', f', rfl, rfl, h1⟩)
 refine GoesB.weakL (fl := [(5, .ptr ⟨false, 4, 0, 0⟩), (4, .ptr ⟨false, 3, 0, 0⟩), (3, .ptr ⟨false, 1, 0, 0⟩), (2, .ptr ⟨false, 2, 0, 0⟩), (1, iT (-1)), (0, .str true z)]) (bl := [(0, .cells false 8 k (.fn fun j => elR (E j))), (1, .cells true 1 1 (.fn fun _ => [.slc true false ⟨false, 0, 0, 0⟩ k])), (2, .cells true 1 1 (.fn fun _ => [.str true y])), (3, .cells true 1 1 (.fn fun _ => [sL 5 0])), (4, .cells true 1 1 (.fn fun _ => [.fn (.func 67) [] [.ptr ⟨false, 2, 0, 0⟩, .ptr ⟨false, 1, 0, 0⟩, .ptr ⟨false, 3, 0, 0⟩, .ptr ⟨false, 4, 0, 0⟩]])), (5, .cells true 1 0 (.fn (txR (fun _ => []))))]) ⟨re rfl, re rfl, re rfl, re rfl, ⟨_, rfl, AV.ge.int _ _ _ _⟩, re rfl, trivial⟩ (eHh rfl) ?_
 refine (walk_goes k hk E FR z y (k + 1) [] z 0 (fun _ => []) [] (.nil _) (by simp) rfl ⟨Nat.le_refl _, fun j hj => by simp at hj⟩).mono fun e fr' H' h => ?_
 obtain ⟨he, m', f', hb, hH, h1, h2⟩ := h
 have hres : Try.f67.results.toList = [.tmp 8] := by kernel_rfl
 refine ⟨.inl he, [.bool (wks E k y (k + 1) [] z (-1)).1], ⟨H', 6, [], [], True⟩, ?_, trivial, .sbool (wks E k y (k + 1) [] z (-1)).1, fun N μ c h => by simpa only [Rep, packA] using h, m', f', rfl, hH, h2, h1⟩
 rw [hres]
 show M.andThen (M.ret ((fr'.get 8).getD .top)) _ _ = _
 rw [hb]
 rfl
theorem along_goes (k : Nat) (hk : k ≤ 256) (E : tE) {cl : Nat → Tx → Nat} (FR : Forest (edT E k) cl) (z y : Tx) :
  GoesB Try.prog (bodyOf Try.f46) Try.f46.ntmps 1 1 6 (frameOf [.slc true false ⟨false, 0, 0, 0⟩ k, .str true z, .str true y] 0 .e) (hpL [(0, .cells false 8 k (.fn fun j => elR (E j)))]) (fun e fr' H' => e = .ret ∧ fr' = frL [(6, sL 5 (wks E k y (k + 1) [] z (-1)).2.length)] ∧ H' = hpL [(5, .cells true 1 (wks E k y (k + 1) [] z (-1)).2.length (.fn (txR (fun j => (wks E k y (k + 1) [] z (-1)).2.getD j []))))]) := by
 rw [ao_is]
 refine GoesB.seqN (K1 := 3) (F1 := [(0, .slc true false ⟨false, 0, 0, 0⟩ k), (1, .str true z), (3, .ptr ⟨false, 1, 0, 0⟩), (5, .ptr ⟨false, 2, 0, 0⟩)]) (H1 := [(0, .cells false 8 k (.fn fun j => elR (E j))), (1, .cells true 1 1 (.fn fun _ => [.slc true false ⟨false, 0, 0, 0⟩ k])), (2, .cells true 1 1 (.fn fun _ => [.str true y]))]) (GoesB.toN (boA 1 (by omega) k E (fun _ => []) z y) (eGg rfl) ⟨hs rfl, wk_hb rfl rfl, wk_hb rfl rfl, trivial⟩) (by omega) ?_
 refine GoesB.seqN (K1 := 4) (F1 := [(0, .slc true false ⟨false, 0, 0, 0⟩ k), (1, .str true z), (3, .ptr ⟨false, 1, 0, 0⟩), (5, .ptr ⟨false, 2, 0, 0⟩), (7, .ptr ⟨false, 3, 0, 0⟩)]) (H1 := [(0, .cells false 8 k (.fn fun j => elR (E j))), (1, .cells true 1 1 (.fn fun _ => [.slc true false ⟨false, 0, 0, 0⟩ k])), (2, .cells true 1 1 (.fn fun _ => [.str true y])), (3, .cells true 1 1 (.fn fun _ => [.nils]))]) (GoesB.toN (boB 1 (by omega) k E (fun _ => []) z y) (eGg rfl) ⟨hs rfl, hs rfl, hs rfl, wk_hb rfl rfl, trivial⟩) (by omega) ?_
 refine GoesB.seqN (K1 := 5) (F1 := [(0, .slc true false ⟨false, 0, 0, 0⟩ k), (1, .str true z), (3, .ptr ⟨false, 1, 0, 0⟩), (5, .ptr ⟨false, 2, 0, 0⟩), (7, .ptr ⟨false, 3, 0, 0⟩), (8, .ptr ⟨false, 4, 0, 0⟩)]) (H1 := [(0, .cells false 8 k (.fn fun j => elR (E j))), (1, .cells true 1 1 (.fn fun _ => [.slc true false ⟨false, 0, 0, 0⟩ k])), (2, .cells true 1 1 (.fn fun _ => [.str true y])), (3, .cells true 1 1 (.fn fun _ => [.nils])), (4, .cells true 1 1 (.fn fun _ => [.nilf]))]) (GoesB.toN (boC 1 (by omega) k E (fun _ => []) z y) (eGg rfl) ⟨hs rfl, hs rfl, hs rfl, hs rfl, wk_hb rfl rfl, trivial⟩) (by omega) ?_
 refine GoesB.seqN (K1 := 5) (F1 := [(0, .slc true false ⟨false, 0, 0, 0⟩ k), (1, .str true z), (7, .ptr ⟨false, 3, 0, 0⟩), (8, .ptr ⟨false, 4, 0, 0⟩)]) (H1 := [(0, .cells false 8 k (.fn fun j => elR (E j))), (1, .cells true 1 1 (.fn fun _ => [.slc true false ⟨false, 0, 0, 0⟩ k])), (2, .cells true 1 1 (.fn fun _ => [.str true y])), (3, .cells true 1 1 (.fn fun _ => [.nils])), (4, .cells true 1 1 (.fn fun _ => [.fn (.func 67) [] [.ptr ⟨false, 2, 0, 0⟩, .ptr ⟨false, 1, 0, 0⟩, .ptr ⟨false, 3, 0, 0⟩, .ptr ⟨false, 4, 0, 0⟩]]))]) (GoesB.toN (boD 1 (by omega) k E (fun _ => []) z y) (eGg rfl) ⟨hs rfl, hs rfl, hs rfl, hs rfl, ⟨_, rfl, rfl, rfl, rfl, fun j hj => by
  obtain rfl : j = 0 := by omega
  rfl⟩, trivial⟩) (by omega) ?_
 refine GoesB.phantomB (c0 := .fn fun _ => [.nils]) (own := true) 3 1 (txR (fun _ => [])) rfl rfl (by omega) (by omega) ?_
 refine GoesB.weakL (fl := [(0, .slc true false ⟨false, 0, 0, 0⟩ k), (1, .str true z), (7, .ptr ⟨false, 3, 0, 0⟩), (8, .ptr ⟨false, 4, 0, 0⟩)]) (bl := [(0, .cells false 8 k (.fn fun j => elR (E j))), (1, .cells true 1 1 (.fn fun _ => [.slc true false ⟨false, 0, 0, 0⟩ k])), (2, .cells true 1 1 (.fn fun _ => [.str true y])), (3, .cells true 1 1 (.fn fun _ => [sL 5 0])), (4, .cells true 1 1 (.fn fun _ => [.fn (.func 67) [] [.ptr ⟨false, 2, 0, 0⟩, .ptr ⟨false, 1, 0, 0⟩, .ptr ⟨false, 3, 0, 0⟩, .ptr ⟨false, 4, 0, 0⟩]])), (5, .cells true 1 0 (.fn (txR (fun _ => []))))]) (eGg rfl) (eHh rfl) ?_
 refine GoesB.seq (K1 := 6) (by omega) ((ao_call k hk E FR z y).mono fun e fr' H' h => ?_)
 obtain ⟨rfl, m', f', rfl, rfl, h1, h2⟩ := h
 refine GoesB.weakL (fl := [(7, .ptr ⟨false, 3, 0, 0⟩)]) (bl := [(0, .cells false 8 k (.fn fun j => elR (E j))), (1, .cells true 1 1 (.fn fun _ => [.slc true false ⟨false, 0, 0, 0⟩ k])), (2, .cells true 1 1 (.fn fun _ => [.str true y])), (3, .cells true 1 1 (.fn fun _ => [sL 5 (wks E k y (k + 1) [] z (-1)).2.length])), (4, .cells true 1 1 (.fn fun _ => [.fn (.func 67) [] [.ptr ⟨false, 2, 0, 0⟩, .ptr ⟨false, 1, 0, 0⟩, .ptr ⟨false, 3, 0, 0⟩, .ptr ⟨false, 4, 0, 0⟩]])), (5, .cells true 1 m' (.fn (txR f')))]) ⟨re rfl, trivial⟩ (eHh rfl) ?_
 refine (boF 1 (by omega) k _ m' E f' y).less fun e fr' H' h => ?_
 obtain ⟨rfl, rfl, rfl⟩ := h
 refine ⟨[(5, .cells true 1 (wks E k y (k + 1) [] z (-1)).2.length (.fn (txR (fun j => (wks E k y (k + 1) [] z (-1)).2.getD j []))))], ⟨⟨_, rfl, .inr ⟨true, 1, m', _, _, _, rfl, rfl, rfl, h1, fun i hi => ?_⟩⟩, trivial⟩, rfl, rfl, rfl⟩
 show [AV.str true (f' i)] = [AV.str true ((wks E k y (k + 1) [] z (-1)).2.getD i [])]
 rw [h2 i hi]
def PEs (n : Nat) (f : Nat → List AV) : Prop := n ≤ 256 ∧ (∀ j, j < n → RowGe (f j) (elR (rowsE f j))) ∧ ∃ cl : Nat → Tx → Nat, Forest (edT (rowsE f) n) cl
/-- along's names, kept from unfolding -/
noncomputable def alX (E : tE) (k : Nat) (z y : Tx) : List Tx := Classical.choose (⟨_, rfl⟩ : ∃ l : List Tx, l = (wks E k y (k + 1) [] z (-1)).2)
theorem alX_is (E : tE) (k : Nat) (z y : Tx) : alX E k z y = (wks E k y (k + 1) [] z (-1)).2 := Classical.choose_spec (⟨_, rfl⟩ : ∃ l : List Tx, l = (wks E k y (k + 1) [] z (-1)).2)
theorem alX_len (E : tE) (k : Nat) (z y : Tx) : (alX E k z y).length ≤ k + 1 := by
 rw [alX_is]
 have := wks_len E k y (k + 1) [] z (-1)
 simpa using this
noncomputable def alN (E : tE) (k : Nat) (z y : Tx) : Nat := Classical.choose (⟨_, rfl⟩ : ∃ m : Nat, m = (alX E k z y).length)
theorem alN_is (E : tE) (k : Nat) (z y : Tx) : alN E k z y = (alX E k z y).length := Classical.choose_spec (⟨_, rfl⟩ : ∃ m : Nat, m = (alX E k z y).length)
noncomputable def alG (E : tE) (k : Nat) (z y : Tx) : Nat → Tx := Classical.choose (⟨_, rfl⟩ : ∃ f : Nat → Tx, f = fun j => (alX E k z y).getD j [])
theorem alG_is (E : tE) (k : Nat) (z y : Tx) : alG E k z y = fun j => (alX E k z y).getD j [] := Classical.choose_spec (⟨_, rfl⟩ : ∃ f : Nat → Tx, f = fun j => (alX E k z y).getD j [])
noncomputable def alongS : List AV → M AV
 | [x, .str _ z, .str _ y] => (rd 8 x PEs).andThen fun q => newS 1 (alN (rowsE q.2) q.1 z y) (txR (alG (rowsE q.2) q.1 z y))
 | _ => M.no
theorem alongS_tch : ∀ args, Tch (alongS args) := by
 intro args
 unfold alongS
 split
 ·exact (Tch.rd _ _ _).andThen fun _ => Tch.newS _ _ _
 ·exact Tch.no
theorem alongS_ok : ∀ args v g g', alongS args g = .done v g' → CallIs Try.prog 46 args v g g' := by
 intro args v g g' h
 unfold alongS at h
 split at h
 case h_2 => exact (no_done h).elim
 rename_i x s z s' y
 obtain ⟨⟨n, f⟩, g1, a1, h1⟩ := done_of h
 clear h
 obtain ⟨qv, kv, fv⟩ := rd_done a1 (by omega)
 dsimp only at h1 fv
 obtain ⟨rfl, e1, e2, e3⟩ := newS_done h1
 rw [kv.1, kv.2.1] at e1
 rw [kv.2.1] at e2 ⊢
 refine readsG (c := (bodyOf Try.f46)) Try.func46 (by kernel_rfl) (by kernel_rfl) kv [⟨x, 8, n, f⟩] (fun hp v hv => by rw [List.mem_singleton.1 hv]; exact (fv hp).1) (argsC := [slcV 0 n, .str true z, .str true y]) (fun hp N μ cs hcs => by
  simp only [Reps] at hcs ⊢
  obtain ⟨c, r, rfl, hc, c2, r2, rfl, hc2, c3, r3, rfl, hc3, rfl⟩ := hcs
  exact ⟨c, _, rfl, vw_val (l := [⟨x, 8, n, f⟩]) (fv hp).1 rfl hc, c2, _, rfl, by simpa only [Rep] using hc2, c3, [], rfl, by simpa only [Rep] using hc3, rfl⟩) (nms := [5]) (bs := [.cells true 1 (alN (rowsE f) n z y) (.fn (txR (alG (rowsE f) n z y)))]) (K' := 6) (fun hp => ?_) ?_ ?_ e1 (by rw [e2]; rfl) (fun hc => by rw [← e3]; exact hc)
 ·obtain ⟨_, hn, hr, cl, FR⟩ := fv hp
  have hg := GoesB.weakG (H0 := hpL [(0, .cells false 8 n (.fn fun j => elR (rowsE f j)))]) (H := hpL [(0, .cells false 8 n (.fn f))]) (fun t v ht => ⟨v, ht, AV.ge.refl _⟩) (fun i b hb => by
   have hm := hpL_get hb
   simp only [List.mem_cons, List.not_mem_nil, or_false] at hm
   cases hm
   exact ⟨_, rfl, rfl, rfl, rfl, fun j hj => hr j hj⟩) (along_goes n hn (rowsE f) FR z y)
  refine hg.mono fun e fr' H' h => ?_
  obtain ⟨rfl, rfl, rfl⟩ := h
  rw [alN_is, alG_is, alX_is]
  refine ⟨.inl rfl, [sL 5 (wks (rowsE f) n y (n + 1) [] z (-1)).2.length], _, rfl, trivial, ?_, rfl, ?_, by decide⟩
  ·simp only [AV.ren, AA.ren, getD_sub0]
   exact AV.ge.refl _
  ·intro i b hb
   match i, hb with
   | 0, hb =>
    cases hb
    exact ⟨5, _, rfl, rfl, ⟨rfl, rfl, rfl, fun j hj => rfl⟩, rfl, fun j hj v hv => by
     rw [List.mem_singleton.1 hv]; rfl, fun j hj o v hv => by
     rw [List.mem_singleton.1 (List.mem_of_getElem? hv)]; trivial⟩
 ·exact Nat.ble_eq_true_of_le (show Nat.succ g.nx ≤ g.nx + 1 by omega)
 ·show g.nx ≤ g.nx; omega


theorem roA (B : Nat) (hB : B ≤ 3) (n x : Nat) (u : Nat → Nat) : GoesB Try.prog ((nav [0] (bodyOf Try.f44))) Try.f44.ntmps B 3 3 (frameOf [.ptr ⟨false, 0, 0, 0⟩, iT (x : Int)] 0 .e) (hpL [(0, .cells false 2 1 (.fn fun _ => [.mp 2, .slc true false ⟨false, 1, 0, 0⟩ n])), (1, .cells false 1 n (.fn fun j => [iT ((u j : Nat) : Int)]))]) (pP .normal [(0, .ptr ⟨false, 0, 0, 0⟩), (1, iT (↑x : Int))] [(0, .cells false 2 1 (.fn fun x => [.mp 2, .slc true false ⟨false, 1, 0, 0⟩ n])), (1, .cells false 1 n (.fn fun j => [iT (↑(u j) : Int)]))]) := rdE [] trivial hB
theorem roL (B : Nat) (hB : B ≤ 3) (n x : Nat) (u : Nat → Nat) (x0 : ((↑x : Int) < (↑n : Int))) (x1 : (0 + x < n)) : GoesB Try.prog ((nav [1,0,0,0] (bodyOf Try.f44))) Try.f44.ntmps B 3 3 (frL [(0, .ptr ⟨false, 0, 0, 0⟩), (1, iT (x : Int))]) (hpL [(0, .cells false 2 1 (.fn fun _ => [.mp 2, .slc true false ⟨false, 1, 0, 0⟩ n])), (1, .cells false 1 n (.fn fun j => [iT ((u j : Nat) : Int)]))]) fun e fr' H' => (cond (decide ((↑(u (0 + x)) : Int) = (↑x : Int))) (pP (.exit 0) [(0, .ptr ⟨false, 0, 0, 0⟩), (1, iT (↑x : Int))] [(0, .cells false 2 1 (.fn fun x => [.mp 2, .slc true false ⟨false, 1, 0, 0⟩ n])), (1, .cells false 1 n (.fn fun j => [iT (↑(u j) : Int)]))] e fr' H') (pP .normal [(0, .ptr ⟨false, 0, 0, 0⟩), (1, iT (↑(u (0 + x)) : Int))] [(0, .cells false 2 1 (.fn fun x => [.mp 2, .slc true false ⟨false, 1, 0, 0⟩ n])), (1, .cells false 1 n (.fn fun j => [iT (↑(u j) : Int)]))] e fr' H')) := cD (fun q0 t0 => rdE [fF] (I3 (ai (show 0 ≤ (↑x : Int) by omega) x0) x1 (nt t0)) hB) (fun q0 t0 => rdE [tT] (I5 (ai (show 0 ≤ (↑x : Int) by omega) x0) x1 (nf t0) (ai (show 0 ≤ (↑x : Int) by omega) x0) x1) hB)
theorem roE (B : Nat) (hB : B ≤ 3) (n x : Nat) (u : Nat → Nat) : GoesB Try.prog ((nav [1,1] (bodyOf Try.f44))) Try.f44.ntmps B 3 3 (frL [(0, .ptr ⟨false, 0, 0, 0⟩), (1, iT (x : Int))]) (hpL [(0, .cells false 2 1 (.fn fun _ => [.mp 2, .slc true false ⟨false, 1, 0, 0⟩ n])), (1, .cells false 1 n (.fn fun j => [iT ((u j : Nat) : Int)]))]) (pP .ret [(4, iT (↑x : Int))] [(0, .cells false 2 1 (.fn fun x => [.mp 2, .slc true false ⟨false, 1, 0, 0⟩ n])), (1, .cells false 1 n (.fn fun j => [iT (↑(u j) : Int)]))]) := rdE [] trivial hB
theorem ro_is : (bodyOf Try.f44) = .seq (nav [0] (bodyOf Try.f44)) (.seq (.block 0 (.loop (nav [1,0,0,0] (bodyOf Try.f44)))) (nav [1,1] (bodyOf Try.f44))) := by kernel_rfl
theorem root_goes (n x : Nat) (u : Nat → Nat) (hu : ∀ j, u j ≤ j) (hx : x < n) (hn : n ≤ 9223372036854775807) : GoesB Try.prog (bodyOf Try.f44) Try.f44.ntmps 3 3 3 (frameOf [.ptr ⟨false, 0, 0, 0⟩, iT (x : Int)] 0 .e) (hpL [(0, .cells false 2 1 (.fn fun _ => [.mp 2, .slc true false ⟨false, 1, 0, 0⟩ n])), (1, .cells false 1 n (.fn fun j => [iT ((u j : Nat) : Int)]))]) (fun e fr' H' => e = .ret ∧ fr' = frL [(4, iT ((root u x : Nat) : Int))]) := by
 rw [ro_is]
 refine GoesB.seqN (K1 := 3) (F1 := [(0, .ptr ⟨false, 0, 0, 0⟩), (1, iT (x : Int))]) (H1 := [(0, .cells false 2 1 (.fn fun _ => [.mp 2, .slc true false ⟨false, 1, 0, 0⟩ n])), (1, .cells false 1 n (.fn fun j => [iT ((u j : Nat) : Int)]))]) (roA 3 (by omega) n x u) (by omega) ?_
 refine GoesB.seq (K1 := 3) (by omega) (GoesB.block ((GoesB.loop (Post := fun e fr' H' => e = .exit 0 ∧ fr' = frL [(0, .ptr ⟨false, 0, 0, 0⟩), (1, iT ((root u x : Nat) : Int))] ∧ H' = hpL [(0, .cells false 2 1 (.fn fun _ => [.mp 2, .slc true false ⟨false, 1, 0, 0⟩ n])), (1, .cells false 1 n (.fn fun j => [iT ((u j : Nat) : Int)]))]) (fun r fr' H' => r < n ∧ root u r = root u x ∧ fr' = frL [(0, .ptr ⟨false, 0, 0, 0⟩), (1, iT (r : Int))] ∧ H' = hpL [(0, .cells false 2 1 (.fn fun _ => [.mp 2, .slc true false ⟨false, 1, 0, 0⟩ n])), (1, .cells false 1 n (.fn fun j => [iT ((u j : Nat) : Int)]))]) ?_ x _ _ ⟨hx, rfl, rfl, rfl⟩).mono fun e fr' H' h => ?_))
 ·rintro r fr' H' ⟨hr, hq, rfl, rfl⟩
  refine (roL 3 (by omega) n r u (by omega) (by omega)).mono fun e fr' H' h => ?_
  rw [Nat.zero_add] at h
  have hur := hu r
  by_cases c : u r = r
  ·rw [decide_eq_true (by omega), cond_true] at h
   obtain ⟨rfl, rfl, rfl⟩ := h
   refine ⟨rfl, ?_, rfl⟩
   rw [← hq, root_self c]
  ·rw [decide_eq_false (by omega), cond_false] at h
   obtain ⟨rfl, rfl, rfl⟩ := h
   exact ⟨u r, by omega, by omega, (root_step hu r).trans hq, rfl, rfl⟩
 ·obtain ⟨rfl, rfl, rfl⟩ := h
  simp only [if_true]
  refine (roE 3 (by omega) n (root u x) u).mono fun e fr' H' h => ?_
  obtain ⟨rfl, rfl, rfl⟩ := h
  exact ⟨rfl, rfl⟩
/-- the sets' places, by their rows -/
def uO (n : Nat) (c : Nat → List AV) (j : Nat) : Nat := if j < n then (match c j with | [.int _ _ v] => v.toNat | _ => 0) else 0
def RQ (n m : Nat) (c : Nat → List AV) (v : Int) : Prop := n ≤ m ∧ n ≤ 4096 ∧ 0 ≤ v ∧ v < n ∧ ∀ j, j < n → RowGe (c j) [iT ((uO n c j : Nat) : Int)] ∧ uO n c j ≤ j
theorem rep_ptr0 {N K0 i : Nat} {μ : MM} {ρ : Nat → Nat} {a : AA} {c : Value} (h : Rep N μ (.ptr a) c) (h1 : a.i = 0) (h2 : a.o = 0) (hi : i < K0) (e : ρ i = a.g) : Rep K0 (μ.via ρ) (.ptr ⟨false, i, 0, 0⟩) c := by
 simp only [Rep] at h ⊢
 refine ⟨hi, h.2.trans ?_⟩
 simp only [MM.addr, MM.via, e, h1, h2]
theorem viewR {N : Nat} {μ : MM} {hp : Array Obj} {g sz n m : Nat} {own : Bool} {c : Cont} {rows : Nat → List AV} (h : BkOk N μ hp g (.cells own sz m c)) (hn : n ≤ m) (k : ∀ j, j < n → RowGe (c.row j) (rows j)) : BkOk N μ hp g (.cells false sz n (.fn rows)) := by
 refine ⟨h.1, h.2.1, fun hr => ?_⟩
 have hr' : 0 < n := by
  rcases hr with hr | hr
  ·exact hr
  ·cases hr.1
 obtain ⟨cur, ty, fz, p1, p2, p3, p4⟩ := h.2.2 (.inl (by omega))
 exact ⟨cur, ty, fz, p1, Nat.le_trans (Nat.add_le_add_left (Nat.mul_le_mul_right _ hn) _) p2, fun h => (by cases h), fun i hi => RowOk.ge (p4 i (by omega)) (k i hi)⟩
theorem ge_slv {s own : Bool} {a : AA} {len q : Nat} (h1 : a.i = 0) (h2 : a.o = 0) (e : a.g = q) : AV.ge (.slc s own a len) (.slc true false ⟨false, q, 0, 0⟩ len) := fun N μ c h => by
 simp only [Rep, RepS] at h ⊢
 obtain ⟨hg, A, C, rfl, hl, k1, k2, k3⟩ := h
 subst e
 exact ⟨hg, A, C, rfl, hl, fun h0 => (k1 h0).trans (by simp only [MM.addr, h1, h2]), fun h => (by cases h), fun h => (by cases h)⟩
noncomputable def rootS : List AV → M AV
 | [.ptr a, .int _ .i64 v] => (getC a.g).andThen fun b =>
  match b.2.2.2.row 0 with
  | [.mp p, .slc s1 o1 a1 len] => (getC a1.g).andThen fun b2 => (M.okIf (Nat.beq a.i 0 && Nat.beq a.o 0 && Nat.beq b.2.1 2 && Nat.beq b.2.2.1 1 && Nat.beq a1.i 0 && Nat.beq a1.o 0 && Nat.beq b2.2.1 1 && !Nat.beq a.g a1.g)).andThen fun _ => (M.req (RQ len b2.2.2.1 b2.2.2.2.row v)).andThen fun _ => M.ret (iT ((root (uO len b2.2.2.2.row) v.toNat : Nat) : Int))
  | _ => M.no
 | _ => M.no
theorem rootS_tch : ∀ args, Tch (rootS args) := by
 intro args
 unfold rootS
 split
 ·refine (Tch.getC _).andThen fun b => ?_
  split
  ·exact (Tch.getC _).andThen fun _ => (Tch.okIf _).andThen fun _ => (Tch.req _).andThen fun _ => Tch.ret _
  ·exact Tch.no
 ·exact Tch.no
theorem rootS_ok : ∀ args v g g', rootS args g = .done v g' → CallIs Try.prog 44 args v g g' := by
 intro args v g g' h
 unfold rootS at h
 split at h
 case h_2 => exact (no_done h).elim
 rename_i a s v
 obtain ⟨⟨ob, zb, mb, cb⟩, g1, a1, h1⟩ := done_of h
 clear h
 obtain ⟨t1, rfl⟩ := getC_done a1
 dsimp only at h1 t1
 generalize r1 : cb.row 0 = R1 at h1
 split at h1
 case h_2 => exact (no_done h1).elim
 rename_i p s1 o1 aa len
 obtain ⟨⟨ob2, zb2, mb2, cb2⟩, g2, a2, h2⟩ := done_of h1
 clear h1
 obtain ⟨t2, rfl⟩ := getC_done a2
 dsimp only at h2 t2
 obtain ⟨_, g3, a3, h3⟩ := done_of h2
 clear h2
 obtain ⟨hq, rfl⟩ := okIf_done a3
 simp only [Bool.and_eq_true, Bool.not_eq_true'] at hq
 obtain ⟨⟨⟨⟨⟨⟨⟨q1, q2⟩, q3⟩, q4⟩, q5⟩, q6⟩, q7⟩, q8⟩ := hq
 replace q1 := Nat.eq_of_beq_eq_true q1
 replace q2 := Nat.eq_of_beq_eq_true q2
 obtain rfl := Nat.eq_of_beq_eq_true q3
 obtain rfl := Nat.eq_of_beq_eq_true q4
 replace q5 := Nat.eq_of_beq_eq_true q5
 replace q6 := Nat.eq_of_beq_eq_true q6
 obtain rfl := Nat.eq_of_beq_eq_true q7
 replace q8 := Nat.ne_of_beq_eq_false q8
 obtain ⟨_, g4, a4, h4⟩ := done_of h3
 have kk := req_done a4
 obtain ⟨rfl, rfl⟩ := ret_done h4
 refine smallCall (c := (bodyOf Try.f44)) Try.func44 (by kernel_rfl) (by kernel_rfl) (argsC := [.ptr ⟨false, 0, 0, 0⟩, iT ((v.toNat : Nat) : Int)]) (bl := [(0, .cells false 2 1 (.fn fun _ => [.mp 2, .slc true false ⟨false, 1, 0, 0⟩ len])), (1, .cells false 1 len (.fn fun j => [iT ((uO len cb2.row j : Nat) : Int)]))]) (bl' := []) (B0 := 3) (K0 := 3) (K' := 3) (p := _) (fun hc => kk.2.2 hc) kk.2.1 (fun i => if i = 0 then a.g else if i = 1 then aa.g else p) ?_ ?_ ?_ ?_ rfl ?_
 ·intro hp N μ cs hr
  simp only [Reps] at hr ⊢
  obtain ⟨c1, r, rfl, h1, c2, r', rfl, h2, h3⟩ := hr
  refine ⟨c1, _, rfl, rep_ptr0 h1 q1 q2 (by omega) rfl, c2, _, rfl, ?_, h3⟩
  simp only [Rep] at h2 ⊢
  rw [h2, Int.toNat_of_nonneg hp.2.2.1]
 ·intro hp i b hbb
  have hm := hpL_get hbb
  simp only [List.mem_cons, List.not_mem_nil, or_false] at hm
  rcases hm with hm | hm <;> cases hm
  ·exact ⟨by omega, fun i0 _ v hv => by
    rcases List.mem_cons.1 hv with rfl | hv
    ·rfl
    ·rw [List.mem_singleton.1 hv]; rfl, _, t1, fun N μ hpp k => viewR k (Nat.le_refl _) (fun j hj => by
    obtain rfl : j = 0 := by omega
    rw [r1]
    exact ⟨AV.ge.refl _, rfl, ge_slv q5 q6 rfl, rfl, trivial⟩), fun h => (by cases h), fun μ j hr => .inl (by omega)⟩
  ·exact ⟨by omega, fun i0 _ v hv => by rw [List.mem_singleton.1 hv]; rfl, _, t2, fun N μ hpp k => viewR k hp.1 (fun j hj => (hp.2.2.2.2 j hj).1), fun h => (by cases h), fun μ j hr => by
    rcases hr with hr | hr
    ·exact .inl (by have := hp.1; omega)
    ·cases hr.1⟩
 ·intro hp i j b b' hi hj e
  have hm := hpL_get hi
  have hm' := hpL_get hj
  simp only [List.mem_cons, List.not_mem_nil, or_false] at hm hm'
  rcases hm with hm | hm <;> rcases hm' with hm' | hm' <;> cases hm <;> cases hm'
  ·rfl
  ·exact absurd e q8
  ·exact absurd e.symm q8
  ·rfl
 ·intro hp
  refine (root_goes len v.toNat (uO len cb2.row) (fun j => ?_) (by have := hp.2.2.1; have := hp.2.2.2.1; omega) (by have := hp.2.1; omega)).mono fun e fr' H' h => ?_
  ·by_cases c : j < len
   ·exact (hp.2.2.2.2 j c).2
   ·unfold uO; rw [if_neg c]; omega
  ·obtain ⟨rfl, rfl⟩ := h
   exact ⟨.inl rfl, _, _, res1 (t := 4) (by kernel_rfl) rfl, trivial, AV.ge.refl _, trivial⟩
 ·intro hp i b hi
  refine .inl ⟨by rw [← kk.1]; exact hi, fun j bj hj ho => ?_⟩
  have hm := hpL_get hj
  simp only [List.mem_cons, List.not_mem_nil, or_false] at hm
  rcases hm with hm | hm <;> cases hm <;> cases ho


noncomputable def gamR : Known := kc 71 ofBits (kc 74 toBits (kc 72 smallS (kc 61 kindS (kc 58 rowOfS (kc 73 ofS (kc 59 nameS (kc 60 nodeS (kc 35 chkS (kc 12 netofS (kc 29 elsS (kc 46 alongS (kc 44 rootS (kn)))))))))))))
theorem gamR_ok : KnownOk Try.prog gamR := kc_ok ((ofBits_is Try.prog).callIs Try.func71 (by kernel_rfl) (by kernel_rfl) (by kernel_rfl) (by kernel_rfl)) (kc_ok ((toBits_is Try.prog).callIs Try.func74 (by kernel_rfl) (by kernel_rfl) (by kernel_rfl) (by kernel_rfl)) (kc_ok smallS_ok (kc_ok kindS_ok (kc_ok rowOfS_ok (kc_ok ofS_ok (kc_ok nameS_ok (kc_ok nodeS_ok (kc_ok chkS_ok (kc_ok netofS_ok (kc_ok elsS_ok (kc_ok alongS_ok (kc_ok rootS_ok (kn_ok)))))))))))))
theorem gamR_tch : KnownT gamR := kc_tch Tch.ofBits (kc_tch Tch.toBits (kc_tch smallS_tch (kc_tch kindS_tch (kc_tch rowOfS_tch (kc_tch ofS_tch (kc_tch nameS_tch (kc_tch nodeS_tch (kc_tch chkS_tch (kc_tch netofS_tch (kc_tch elsS_tch (kc_tch alongS_tch (kc_tch rootS_tch (kn_tch)))))))))))))
noncomputable def callR : Calls' := Sx.runN Try.prog gamR (regionC Try.prog) 1000 50
theorem callR_ok : CallOk Try.prog callR := engineC gamR_ok gamR_tch (by kernel_rfl) (by kernel_rfl) 1000 50
theorem callR_reg (n : Nat) : RegionOk Try.prog (regionC Try.prog callR n) n := runN_regionC gamR_ok gamR_tch (by kernel_rfl) (by kernel_rfl) 1000 50 n
noncomputable abbrev piececallR (f : Func) (c : Code) (fr : Fr) (H : T ABk) (K : Nat) (path : List Bool) : Res (Ex × Fr) :=
 codeA Try.prog callR (regionC Try.prog callR f.ntmps) noLoops f.ntmps 1000 c fr ⟨H, K, [], path, True⟩


theorem rcR {fn : Func} {K K' B : Nat} {e : Ex} {F : tF} {Hl : tH} {c : Code} {fr : Fr} {H : T ABk} {path : List Bool} (h : PieceN K' e F Hl (piececallR fn c fr H K path)) (hB : B ≤ K) : GoesB Try.prog c fn.ntmps B K K' fr H fun e' fr' H' => e' = e ∧ fr' = frL F ∧ H' = hpL Hl := GoesB.runN callR_ok (callR_reg _) (LoopsIn.none _ _ _) h hB
theorem rdR {fn : Func} {K K' B : Nat} {e : Ex} {F : tF} {Hl : tH} {c : Code} {fr : Fr} {H : T ABk} (path : List Bool) {q : Prop} (hq : q) (hB : B ≤ K) (h : pieceN K' e F Hl (piececallR fn c fr H K path) = (e = e ∧ selfW F ∧ selfH Hl ∧ true = true ∧ q) := by kernel_rfl) : GoesB Try.prog c fn.ntmps B K K' fr H fun e' fr' H' => e' = e ∧ fr' = frL F ∧ H' = hpL Hl := rcR (eqn h hq) hB
theorem jnA (B : Nat) (hB : B ≤ 12) (n : Nat) (u : Nat → Nat) (zl : List (List UInt8 × Int)) (x y : List UInt8) (sb : Bool) : GoesB Try.prog ((nav [0] (bodyOf Try.f41))) Try.f41.ntmps B 12 12 (frameOf [.ptr ⟨false, 9, 0, 0⟩, .str true x, .str true y] 0 .e) (hpL [(9, .cells false 2 1 (.fn fun _ => [.mp 11, .slc true false ⟨false, 10, 0, 0⟩ n])), (10, .cells true 1 n (.fn fun k => [iT ((u k : Nat) : Int)])), (11, .mSI sb zl)]) (pP .normal [(0, .ptr ⟨false, 9, 0, 0⟩), (1, .str true x), (2, .str true y)] [(9, .cells false 2 1 (.fn fun x => [.mp 11, .slc true false ⟨false, 10, 0, 0⟩ n])), (10, .cells true 1 n (.fn fun k => [iT (↑(u k) : Int)])), (11, ABk.mSI sb zl)]) := rdR [] trivial hB
theorem jnB (B : Nat) (hB : B ≤ 12) (n : Nat) (u : Nat → Nat) (zl : List (List UInt8 × Int)) (x y : List UInt8) (j : Nat) (sb : Bool) (x0 : (n ≤ 4096)) (x1 : ((0 : Int) ≤ Option.getD (lfind seq x zl) (0 : Int))) (x2 : (Option.getD (lfind seq x zl) 0 < (↑n : Int))) (x3 : (∀ (j : Nat), j < n → RowGe [iT (↑(u j) : Int)] [iT (↑(uO n (Cont.row (.fn fun k => [.int true .i64 (↑(u k) : Int)])) j) : Int)] ∧ uO n (Cont.row (.fn fun k => [iT (↑(u k) : Int)])) j ≤ j)) (x4 : ((0 : Int) ≤ Option.getD (lfind seq y zl) (0 : Int))) (x5 : (Option.getD (lfind seq y zl) 0 < (↑n : Int))) : GoesB Try.prog ((nav [1,0] (bodyOf Try.f41))) Try.f41.ntmps B 12 12 (frL [(0, .ptr ⟨false, 9, 0, 0⟩), (1, .str true x), (2, .str true y)]) (hpL [(9, .cells false 2 1 (.fn fun _ => [.mp 11, .slc true false ⟨false, 10, 0, 0⟩ n])), (10, .cells true 1 n (.fn fun k => [iT ((u k : Nat) : Int)])), (11, .mSI sb zl)]) (pP .normal [(0, .ptr ⟨false, 9, 0, 0⟩), (7, iT (↑(root (uO n (Cont.row (.fn fun k => [.int true .i64 (↑(u k) : Int)]))) (Int.toNat (Option.getD (lfind seq x zl) (0 : Int)))) : Int)), (8, iT (↑(root (uO n (Cont.row (.fn fun k => [.int true .i64 (↑(u k) : Int)]))) (Int.toNat (Option.getD (lfind seq y zl) (0 : Int)))) : Int))] [(9, .cells false 2 1 (.fn fun x => [.mp 11, .slc true false ⟨false, 10, 0, 0⟩ n])), (10, .cells true 1 n (.fn fun k => [iT (↑(u k) : Int)])), (11, ABk.mSI sb zl)]) := rdR [] (I2 (ai (show n ≤ n by omega) (ai x0 (ai x1 (ai x2 x3)))) (ai (show n ≤ n by omega) (ai x0 (ai x4 (ai x5 x3))))) hB
theorem jnC (B : Nat) (hB : B ≤ 12) (n : Nat) (u : Nat → Nat) (zl : List (List UInt8 × Int)) (x : List UInt8) (i j : Nat) (sb : Bool) (x0 : ((if (↑j : Int) > (↑i : Int) then (↑j : Int) else (↑i : Int)) < (↑n : Int))) (x1 : (0 + Int.toNat (if (↑j : Int) > (↑i : Int) then (↑j : Int) else (↑i : Int)) < n)) : GoesB Try.prog ((nav [1,1,0] (bodyOf Try.f41))) Try.f41.ntmps B 12 12 (frL [(0, .ptr ⟨false, 9, 0, 0⟩), (7, iT (i : Int)), (8, iT (j : Int))]) (hpL [(9, .cells false 2 1 (.fn fun _ => [.mp 11, .slc true false ⟨false, 10, 0, 0⟩ n])), (10, .cells true 1 n (.fn fun k => [iT ((u k : Nat) : Int)])), (11, .mSI sb zl)]) (pP .normal [(7, iT (↑i : Int)), (8, iT (↑j : Int))] [(9, .cells false 2 1 (.fn fun x => [.mp 11, .slc true false ⟨false, 10, 0, 0⟩ n])), (10, .cells true 1 n (.fn fun j_1 => bif Nat.beq j_1 (0 + Int.toNat (if (↑j : Int) > (↑i : Int) then (↑j : Int) else (↑i : Int))) then [iT (if (↑j : Int) < (↑i : Int) then (↑j : Int) else (↑i : Int))] else [iT (↑(u j_1) : Int)])), (11, ABk.mSI sb zl)]) := rdR [] (I3 (ai (show (0 : Int) ≤ if (↑j : Int) > (↑i : Int) then (↑j : Int) else (↑i : Int) by omega) x0) x1 (show 1 ≤ 1 by omega)) hB
theorem jnD (B : Nat) (hB : B ≤ 12) (n : Nat) (u : Nat → Nat) (zl : List (List UInt8 × Int)) (x : List UInt8) (i j : Nat) (sb : Bool) : GoesB Try.prog ((nav [1,1,1] (bodyOf Try.f41))) Try.f41.ntmps B 12 12 (frL [(7, iT (i : Int)), (8, iT (j : Int))]) (hpL [(9, .cells false 2 1 (.fn fun _ => [.mp 11, .slc true false ⟨false, 10, 0, 0⟩ n])), (10, .cells true 1 n (.fn fun k => [iT ((u k : Nat) : Int)])), (11, .mSI sb zl)]) (pP .ret [(6, .sbool !decide ((↑i : Int) = (↑j : Int)))] [(9, .cells false 2 1 (.fn fun x => [.mp 11, .slc true false ⟨false, 10, 0, 0⟩ n])), (10, .cells true 1 n (.fn fun k => [iT (↑(u k) : Int)])), (11, ABk.mSI sb zl)]) := rdR [] trivial hB
theorem rt_congr {u u' : Nat → Nat} (hu : ∀ j, u j ≤ j) : ∀ (f k : Nat), (∀ j, j ≤ k → u j = u' j) → rt u f k = rt u' f k
 | 0, k, _ => rfl
 | f + 1, k, h => by
  unfold rt
  rw [← h k (Nat.le_refl _)]
  split
  ·rfl
  ·exact rt_congr hu f _ fun j hj => h j (Nat.le_trans hj (hu k))
theorem root_congr {u u' : Nat → Nat} (hu : ∀ j, u j ≤ j) {k : Nat} (h : ∀ j, j ≤ k → u j = u' j) : root u k = root u' k := rt_congr hu k k h
/-- where a name lies in the sets -/
def plc (zl : tM) (x : Tx) : Nat := ((lfind seq x zl).getD 0).toNat
theorem jn_is : (bodyOf Try.f41) = .seq (nav [0] (bodyOf Try.f41)) (.seq (nav [1,0] (bodyOf Try.f41)) (.seq (nav [1,1,0] (bodyOf Try.f41)) (nav [1,1,1] (bodyOf Try.f41)))) := by kernel_rfl
theorem join_goes (n : Nat) (u : Nat → Nat) (zl : tM) (x y : Tx) (sb : Bool) (hn : n ≤ 4096) (hu : ∀ j, u j ≤ j) (hz : ∀ x, 0 ≤ (lfind seq x zl).getD 0 ∧ (lfind seq x zl).getD 0 < (n : Int)) :
  GoesB Try.prog (bodyOf Try.f41) Try.f41.ntmps 12 12 12 (frameOf [.ptr ⟨false, 9, 0, 0⟩, .str true x, .str true y] 0 .e) (hpL [(9, .cells false 2 1 (.fn fun _ => [.mp 11, .slc true false ⟨false, 10, 0, 0⟩ n])), (10, .cells true 1 n (.fn fun k => [iT ((u k : Nat) : Int)])), (11, .mSI sb zl)]) (fun e fr' H' => e = .ret ∧ fr' = frL [(6, .sbool (!decide (((root u (plc zl x) : Nat) : Int) = ((root u (plc zl y) : Nat) : Int))))] ∧ H' = hpL [(9, .cells false 2 1 (.fn fun _ => [.mp 11, .slc true false ⟨false, 10, 0, 0⟩ n])), (10, .cells true 1 n (.fn fun k => [iT (((jn u (plc zl x) (plc zl y)) k : Nat) : Int)])), (11, .mSI sb zl)]) := by
 have hw : ∀ j, j < n → uO n (Cont.row (.fn fun k => [iT ((u k : Nat) : Int)])) j = u j := fun j hj => by
  unfold uO
  rw [if_pos hj]
  show ((u j : Nat) : Int).toNat = u j
  omega
 have lx : (plc zl x) < n := by have := hz x; unfold plc; omega
 have ly : (plc zl y) < n := by have := hz y; unfold plc; omega
 have rx := root_le hu (plc zl x)
 have ry := root_le hu (plc zl y)
 have ex : root (uO n (Cont.row (.fn fun k => [iT ((u k : Nat) : Int)]))) (plc zl x) = root u (plc zl x) := (root_congr hu fun j hj => (hw j (by omega)).symm).symm
 have ey : root (uO n (Cont.row (.fn fun k => [iT ((u k : Nat) : Int)]))) (plc zl y) = root u (plc zl y) := (root_congr hu fun j hj => (hw j (by omega)).symm).symm
 rw [jn_is]
 refine GoesB.seqN (K1 := 12) (jnA 12 (by omega) n u zl x y sb) (by omega) ?_
 refine GoesB.seqN (K1 := 12) (F1 := [(0, .ptr ⟨false, 9, 0, 0⟩), (7, iT ((root u (plc zl x) : Nat) : Int)), (8, iT ((root u (plc zl y) : Nat) : Int))]) (H1 := [(9, .cells false 2 1 (.fn fun _ => [.mp 11, .slc true false ⟨false, 10, 0, 0⟩ n])), (10, .cells true 1 n (.fn fun k => [iT ((u k : Nat) : Int)])), (11, .mSI sb zl)]) (GoesB.toN (jnB 12 (by omega) n u zl x y 0 sb hn (hz x).1 (hz x).2 (fun j hj => ⟨⟨by rw [hw j hj]; exact AV.ge.refl _, rfl, trivial⟩, by rw [hw j hj]; exact hu j⟩) (hz y).1 (hz y).2) ⟨re rfl, ⟨_, rfl, by
  show AV.ge (iT ((root (uO n (Cont.row (.fn fun k => [AV.int true .i64 ((u k : Nat) : Int)]))) (plc zl x) : Nat) : Int)) _
  rw [ex]; exact AV.ge.refl _⟩, ⟨_, rfl, by
  show AV.ge (iT ((root (uO n (Cont.row (.fn fun k => [AV.int true .i64 ((u k : Nat) : Int)]))) (plc zl y) : Nat) : Int)) _
  rw [ey]; exact AV.ge.refl _⟩, trivial⟩ (eHh rfl)) (by omega) ?_
 have mx : (if ((root u (plc zl y) : Nat) : Int) > ((root u (plc zl x) : Nat) : Int) then ((root u (plc zl y) : Nat) : Int) else ((root u (plc zl x) : Nat) : Int)) = ((max (root u (plc zl x)) (root u (plc zl y)) : Nat) : Int) := by split <;> omega
 have mn : (if ((root u (plc zl y) : Nat) : Int) < ((root u (plc zl x) : Nat) : Int) then ((root u (plc zl y) : Nat) : Int) else ((root u (plc zl x) : Nat) : Int)) = ((min (root u (plc zl x)) (root u (plc zl y)) : Nat) : Int) := by split <;> omega
 refine GoesB.seqN (K1 := 12) (F1 := [(7, iT ((root u (plc zl x) : Nat) : Int)), (8, iT ((root u (plc zl y) : Nat) : Int))]) (H1 := [(9, .cells false 2 1 (.fn fun _ => [.mp 11, .slc true false ⟨false, 10, 0, 0⟩ n])), (10, .cells true 1 n (.fn fun k => [iT (((jn u (plc zl x) (plc zl y)) k : Nat) : Int)])), (11, .mSI sb zl)]) (GoesB.toN (jnC 12 (by omega) n u zl x (root u (plc zl x)) (root u (plc zl y)) sb (by rw [mx]; omega) (by rw [mx]; omega)) (eGg rfl) ⟨hs rfl, ⟨_, rfl, rfl, rfl, rfl, fun k hk => ?_⟩, hs rfl, trivial⟩) (by omega) ?_
 ·show (bif Nat.beq k (0 + Int.toNat (if ((root u (plc zl y) : Nat) : Int) > ((root u (plc zl x) : Nat) : Int) then ((root u (plc zl y) : Nat) : Int) else ((root u (plc zl x) : Nat) : Int))) then [iT (if ((root u (plc zl y) : Nat) : Int) < ((root u (plc zl x) : Nat) : Int) then ((root u (plc zl y) : Nat) : Int) else ((root u (plc zl x) : Nat) : Int))] else [iT ((u k : Nat) : Int)]) = [iT ((jn u (plc zl x) (plc zl y) k : Nat) : Int)]
  rw [mx, mn, Nat.zero_add, Int.toNat_natCast]
  unfold jn
  cases q : Nat.beq k (max (root u (plc zl x)) (root u (plc zl y))) with
  | true => rw [cond_true, if_pos (Nat.eq_of_beq_eq_true q)]
  | false => rw [cond_false, if_neg (Nat.ne_of_beq_eq_false q)]
 ·exact (jnD 12 (by omega) n _ zl x (root u (plc zl x)) (root u (plc zl y)) sb).mono fun e fr' H' h => h


def JQ (len m : Nat) (c2 : Nat → List AV) (zl : tM) : Prop := len = m ∧ len ≤ 4096 ∧ (∀ j, j < len → RowGe (c2 j) [iT ((uO len c2 j : Nat) : Int)] ∧ uO len c2 j ≤ j) ∧ ∀ z, 0 ≤ (lfind seq z zl).getD 0 ∧ (lfind seq z zl).getD 0 < (len : Int)
noncomputable def joinS : List AV → M AV
 | [.ptr a, .str _ x, .str _ y] => (getC a.g).andThen fun b =>
  match b.2.2.2.row 0 with
  | [.mp p, .slc s1 o1 a1 len] => (M.getB p).andThen fun mb => (M.ofOpt (asSI mb)).andThen fun my => (getC a1.g).andThen fun b2 => (M.okIf (Nat.beq a.i 0 && Nat.beq a.o 0 && Nat.beq b.2.1 2 && Nat.beq b.2.2.1 1 && Nat.beq a1.i 0 && Nat.beq a1.o 0 && Nat.beq b2.2.1 1 && !Nat.beq a.g a1.g && b2.1)).andThen fun _ => (M.req (JQ len b2.2.2.1 b2.2.2.2.row my.2)).andThen fun _ =>
   (M.setB a1.g (.cells true 1 len (.fn fun k => [iT ((jn (uO len b2.2.2.2.row) (plc my.2 x) (plc my.2 y) k : Nat) : Int)]))).andThen fun _ => M.ret (.sbool (!decide (((root (uO len b2.2.2.2.row) (plc my.2 x) : Nat) : Int) = ((root (uO len b2.2.2.2.row) (plc my.2 y) : Nat) : Int))))
  | _ => M.no
 | _ => M.no
theorem joinS_tch : ∀ args, Tch (joinS args) := by
 intro args
 unfold joinS
 split
 ·refine (Tch.getC _).andThen fun b => ?_
  split
  ·exact (Tch.getB _).andThen fun _ => (Tch.ofOpt _).andThen fun _ => (Tch.getC _).andThen fun _ => (Tch.okIf _).andThen fun _ => (Tch.req _).andThen fun _ => (Tch.setB _ _).andThen fun _ => Tch.ret _
  ·exact Tch.no
 ·exact Tch.no
theorem asSI_some {b : ABk} {y : Bool × List (Tx × Int)} (h : asSI b = some y) : b = .mSI y.1 y.2 := by
 cases b <;> simp [asSI] at h
 subst h; rfl
theorem joinS_ok : ∀ args v g g', joinS args g = .done v g' → CallIs Try.prog 41 args v g g' := by
 intro args v g g' h
 unfold joinS at h
 split at h
 case h_2 => exact (no_done h).elim
 rename_i a s x s' y
 obtain ⟨⟨ob, zb, mb, cb⟩, g1, a1, h1⟩ := done_of h
 clear h
 obtain ⟨t1, rfl⟩ := getC_done a1
 dsimp only at h1 t1
 generalize r1 : cb.row 0 = R1 at h1
 split at h1
 case h_2 => exact (no_done h1).elim
 rename_i p s1 o1 aa len
 obtain ⟨mbk, g2, a2, h2⟩ := done_of h1
 clear h1
 obtain ⟨tp, rfl⟩ := getB_done a2
 obtain ⟨⟨sb, zl⟩, g3, a3, h3⟩ := done_of h2
 clear h2
 obtain ⟨ts, rfl⟩ := ofOpt_done a3
 obtain rfl := asSI_some ts
 obtain ⟨⟨ob2, zb2, mb2, cb2⟩, g4, a4, h4⟩ := done_of h3
 clear h3
 obtain ⟨t2, rfl⟩ := getC_done a4
 dsimp only at h4 t2 tp
 obtain ⟨_, g5, a5, h5⟩ := done_of h4
 clear h4
 obtain ⟨hq, rfl⟩ := okIf_done a5
 simp only [Bool.and_eq_true, Bool.not_eq_true'] at hq
 obtain ⟨⟨⟨⟨⟨⟨⟨⟨q1, q2⟩, q3⟩, q4⟩, q5⟩, q6⟩, q7⟩, q8⟩, rfl⟩ := hq
 replace q1 := Nat.eq_of_beq_eq_true q1
 replace q2 := Nat.eq_of_beq_eq_true q2
 obtain rfl := Nat.eq_of_beq_eq_true q3
 obtain rfl := Nat.eq_of_beq_eq_true q4
 replace q5 := Nat.eq_of_beq_eq_true q5
 replace q6 := Nat.eq_of_beq_eq_true q6
 obtain rfl := Nat.eq_of_beq_eq_true q7
 replace q8 := Nat.ne_of_beq_eq_false q8
 obtain ⟨_, g6, a6, h6⟩ := done_of h5
 have kk := req_done a6
 obtain ⟨_, g7, a7, h7⟩ := done_of h6
 obtain ⟨rfl, rfl⟩ := ret_done h7
 obtain ⟨e1, e2, e3⟩ := setB_done a7
 have hu : JQ len mb2 cb2.row zl → ∀ j, uO len cb2.row j ≤ j := fun hp j => by
  by_cases c : j < len
  ·exact (hp.2.2.1 j c).2
  ·unfold uO; rw [if_neg c]; omega
 have pa : p ≠ a.g := fun e => by rw [e, t1] at tp; cases tp
 have pb : p ≠ aa.g := fun e => by rw [e, t2] at tp; cases tp
 refine smallCall (c := (bodyOf Try.f41)) Try.func41 (by kernel_rfl) (by kernel_rfl) (argsC := [.ptr ⟨false, 9, 0, 0⟩, .str true x, .str true y]) (bl := [(9, .cells false 2 1 (.fn fun _ => [.mp 11, .slc true false ⟨false, 10, 0, 0⟩ len])), (10, .cells true 1 len (.fn fun k => [iT ((uO len cb2.row k : Nat) : Int)])), (11, .mSI sb zl)]) (bl' := [(10, .cells true 1 len (.fn fun k => [iT ((jn (uO len cb2.row) (plc zl x) (plc zl y) k : Nat) : Int)])), (11, .mSI sb zl)]) (B0 := 12) (K0 := 12) (K' := 12) (p := JQ len mb2 cb2.row zl) (fun hc => kk.2.2 (by rw [← e3]; exact hc)) (by rw [e2]; exact kk.2.1) (fun i => if i = 9 then a.g else if i = 10 then aa.g else p) ?_ ?_ ?_ ?_ rfl ?_
 ·intro hp N μ cs hr
  simp only [Reps] at hr ⊢
  obtain ⟨c1, r, rfl, h1, c2, r', rfl, h2, c3, r3, rfl, h3, h4⟩ := hr
  exact ⟨c1, _, rfl, rep_ptr0 h1 q1 q2 (by omega) rfl, c2, _, rfl, by simpa only [Rep] using h2, c3, _, rfl, by simpa only [Rep] using h3, h4⟩
 ·intro hp i b hbb
  have hm := hpL_get hbb
  simp only [List.mem_cons, List.not_mem_nil, or_false] at hm
  rcases hm with hm | hm | hm <;> cases hm
  ·exact ⟨by omega, fun i0 _ v hv => by
    rcases List.mem_cons.1 hv with rfl | hv
    ·rfl
    ·rw [List.mem_singleton.1 hv]; rfl, _, t1, fun N μ hpp k => viewR k (Nat.le_refl _) (fun j hj => by
    obtain rfl : j = 0 := by omega
    rw [r1]
    exact ⟨AV.ge.refl _, rfl, ge_slv q5 q6 rfl, rfl, trivial⟩), fun h => (by cases h), fun μ j hr => .inl (by omega)⟩
  ·obtain ⟨rfl, hp2⟩ := hp
   refine ⟨by omega, fun i0 _ v hv => by rw [List.mem_singleton.1 hv]; rfl, _, t2, fun N μ hpp k => ?_, fun h => rfl, fun μ j hr => hr⟩
   refine ⟨k.1, k.2.1, fun hr => ?_⟩
   obtain ⟨cur, ty, fz, p1, p2, p3, p4⟩ := k.2.2 hr
   exact ⟨cur, ty, fz, p1, p2, p3, fun i hi => RowOk.ge (p4 i hi) (hp2.2.1 i hi).1⟩
  ·exact ⟨by omega, trivial, _, tp, fun N μ hpp k => k, fun h => rfl, fun μ j hr => hr⟩
 ·intro hp i j b b' hi hj e
  have hm := hpL_get hi
  have hm' := hpL_get hj
  simp only [List.mem_cons, List.not_mem_nil, or_false] at hm hm'
  rcases hm with hm | hm | hm <;> rcases hm' with hm' | hm' | hm' <;> cases hm <;> cases hm' <;> first | rfl | exact absurd e q8 | exact absurd e.symm q8 | exact absurd e pa | exact absurd e.symm pa | exact absurd e pb | exact absurd e.symm pb
 ·intro hp
  refine (join_goes len (uO len cb2.row) zl x y sb hp.2.1 (hu hp) hp.2.2.2).mono fun e fr' H' h => ?_
  obtain ⟨rfl, rfl, rfl⟩ := h
  exact ⟨.inl rfl, _, _, res1 (t := 6) (by kernel_rfl) rfl, trivial, AV.ge.refl _, eHh rfl⟩
 ·intro hp i b hi
  rw [e1, T.get_upd] at hi
  split at hi
  ·rename_i e
   cases hi
   refine .inr ⟨10, _, by omega, e.symm, rfl, fun j hj v hv => ?_, rfl, rfl, fun μ m hr => hr⟩
   rw [List.mem_singleton.1 hv]; rfl
  ·rename_i e
   rw [kk.1] at hi
   by_cases c : i = p
   ·subst c
    rw [tp] at hi
    cases hi
    exact .inr ⟨11, _, by omega, rfl, rfl, trivial, rfl, rfl, fun μ m hr => hr⟩
   ·refine .inl ⟨hi, fun j bj hj ho => ?_⟩
    have hm := hpL_get hj
    simp only [List.mem_cons, List.not_mem_nil, or_false] at hm
    rcases hm with hm | hm | hm <;> cases hm
    ·cases ho
    ·exact fun k => e k.symm
    ·exact fun k => c k.symm


theorem ofgA (B : Nat) (hB : B ≤ 9) (n q r : Nat) (E : tE) (nd br : Nat → List UInt8) (M1 M2 M3 zl : List (List UInt8 × Int)) (x : List UInt8) : GoesB Try.prog ((nav [0] (bodyOf Try.f40))) Try.f40.ntmps B 9 9 (frameOf [.ptr ⟨false, 2, 0, 0⟩] 0 .e) (hpL [(2, .cells false 7 1 (.fn fun _ => netR 6 7 8 n q r)), (3, .mSI true M1), (4, .mSI true M2), (5, .mSI true M3), (6, .cells false 8 n (.fn fun j => elR (E j))), (7, .cells false 1 q (.fn (txR nd))), (8, .cells false 1 r (.fn (txR br)))]) (pP .normal [(0, .ptr ⟨false, 2, 0, 0⟩)] [(2, .cells false 7 1 (.fn fun x => (netR 6 7 8 n q r))), (3, ABk.mSI true M1), (4, ABk.mSI true M2), (5, ABk.mSI true M3), (6, .cells false 8 n (.fn fun j => (elR (E j)))), (7, .cells false 1 q (.fn (txR nd))), (8, .cells false 1 r (.fn (txR br)))]) := rdR [] trivial hB
theorem ofgB (B : Nat) (hB : B ≤ 9) (n q r : Nat) (E : tE) (nd br : Nat → List UInt8) (M1 M2 M3 zl : List (List UInt8 × Int)) (x : List UInt8) : GoesB Try.prog ((nav [1,0] (bodyOf Try.f40))) Try.f40.ntmps B 9 12 (frL [(0, .ptr ⟨false, 2, 0, 0⟩)]) (hpL [(2, .cells false 7 1 (.fn fun _ => netR 6 7 8 n q r)), (3, .mSI true M1), (4, .mSI true M2), (5, .mSI true M3), (6, .cells false 8 n (.fn fun j => elR (E j))), (7, .cells false 1 q (.fn (txR nd))), (8, .cells false 1 r (.fn (txR br)))]) (pP .normal [(0, .ptr ⟨false, 2, 0, 0⟩), (3, .ptr ⟨false, 11, 0, 0⟩)] [(2, .cells false 7 1 (.fn fun x => (netR 6 7 8 n q r))), (3, ABk.mSI true M1), (4, ABk.mSI true M2), (5, ABk.mSI true M3), (6, .cells false 8 n (.fn fun j => (elR (E j)))), (7, .cells false 1 q (.fn (txR nd))), (8, .cells false 1 r (.fn (txR br))), (9, ABk.mSI false (lput seq [(48 : UInt8)] (0 : Int) [])), (10, .cells true 1 1 (.lit [.int false .i64 0] (.n .e (some [.int false .i64 0]) .e))), (11, .cells true 2 1 (.lit [] (.n .e (some [.mp 9, .slc false true ⟨false, 10, 0, 0⟩ 1]) .e)))]) := rdR [] trivial hB
theorem ofgC (B : Nat) (hB : B ≤ 12) (n q r i : Nat) (E : tE) (nd br : Nat → List UInt8) (M1 M2 M3 zl : List (List UInt8 × Int)) (x : List UInt8) (x0 : (q * 16 ≤ 140737488355328)) (x1 : (q ≤ 9223372036854775807)) : GoesB Try.prog ((nav [1,1,0,0] (bodyOf Try.f40))) Try.f40.ntmps B 12 13 (frL [(0, .ptr ⟨false, 2, 0, 0⟩), (3, .ptr ⟨false, 11, 0, 0⟩)]) (hpL [(2, .cells false 7 1 (.fn fun _ => netR 6 7 8 n q r)), (3, .mSI true M1), (4, .mSI true M2), (5, .mSI true M3), (6, .cells false 8 n (.fn fun j => elR (E j))), (7, .cells false 1 q (.fn (txR nd))), (8, .cells false 1 r (.fn (txR br))), (9, .mSI true zl), (10, .cells true 1 (i + 1) (.fn fun k => [iT ((k : Nat) : Int)])), (11, .cells true 2 1 (.fn fun _ => [.mp 9, sL 10 (i + 1)]))]) (pP .normal [(3, .ptr ⟨false, 11, 0, 0⟩), (12, sL 12 q), (13, iT (↑q : Int)), (14, .int false .i64 0)] [(2, .cells false 7 1 (.fn fun x => (netR 6 7 8 n q r))), (3, ABk.mSI true M1), (4, ABk.mSI true M2), (5, ABk.mSI true M3), (6, .cells false 8 n (.fn fun j => (elR (E j)))), (7, .cells false 1 q (.fn (txR nd))), (8, .cells false 1 r (.fn (txR br))), (9, ABk.mSI true zl), (10, .cells true 1 (i + 1) (.fn fun k => [iT (↑k : Int)])), (11, .cells true 2 1 (.fn fun x => [.mp 9, sL 10 (i + 1)])), (12, .cells true 1 q (.fn fun j => [.str true (nd (0 + j))]))]) := rdR [] (I2 (show 0 + q ≤ q by omega) (ai x0 x1)) hB
theorem ofgD (B : Nat) (hB : B ≤ 13) (q i : Nat) (nd br : Nat → List UInt8) (M1 M2 M3 zl : List (List UInt8 × Int)) (x : List UInt8) : GoesB Try.prog ((nav [1,1,0,1,0,0,0] (bodyOf Try.f40))) Try.f40.ntmps B 13 13 (frL [(3, .ptr ⟨false, 11, 0, 0⟩), (12, sL 12 q), (13, iT (q : Int)), (14, iT (i : Int))]) (hpL [(9, .mSI true zl), (10, .cells true 1 (i + 1) (.fn fun k => [iT ((k : Nat) : Int)])), (11, .cells true 2 1 (.fn fun _ => [.mp 9, sL 10 (i + 1)])), (12, .cells true 1 q (.fn (txR nd)))]) (pP .normal [(3, .ptr ⟨false, 11, 0, 0⟩), (12, sL 12 q), (13, iT (↑q : Int)), (14, iT (↑i : Int)), (15, .sbool (decide ((↑i : Int) < (↑q : Int))))] [(9, ABk.mSI true zl), (10, .cells true 1 (i + 1) (.fn fun k => [iT (↑k : Int)])), (11, .cells true 2 1 (.fn fun x => [.mp 9, sL 10 (i + 1)])), (12, .cells true 1 q (.fn (txR nd)))]) := rdR [] trivial hB
theorem ofgX (B : Nat) (hB : B ≤ 13) (q i : Nat) (nd br : Nat → List UInt8) (M1 M2 M3 zl : List (List UInt8 × Int)) (x : List UInt8) (b : Bool) : GoesB Try.prog ((nav [1,1,0,1,0,0,1,0] (bodyOf Try.f40))) Try.f40.ntmps B 13 13 (frL [(3, .ptr ⟨false, 11, 0, 0⟩), (12, sL 12 q), (13, iT (q : Int)), (14, iT (i : Int)), (15, .sbool b)]) (hpL [(9, .mSI true zl), (10, .cells true 1 (i + 1) (.fn fun k => [iT ((k : Nat) : Int)])), (11, .cells true 2 1 (.fn fun _ => [.mp 9, sL 10 (i + 1)])), (12, .cells true 1 q (.fn (txR nd)))]) fun e fr' H' => (cond (b) (pP .normal [(3, .ptr ⟨false, 11, 0, 0⟩), (12, sL 12 q), (13, iT (↑q : Int)), (14, iT (↑i : Int))] [(9, ABk.mSI true zl), (10, .cells true 1 (i + 1) (.fn fun k => [iT (↑k : Int)])), (11, .cells true 2 1 (.fn fun x => [.mp 9, sL 10 (i + 1)])), (12, .cells true 1 q (.fn (txR nd)))] e fr' H') (pP (.exit 0) [(3, .ptr ⟨false, 11, 0, 0⟩), (12, sL 12 q), (13, iT (↑q : Int)), (14, iT (↑i : Int))] [(9, ABk.mSI true zl), (10, .cells true 1 (i + 1) (.fn fun k => [iT (↑k : Int)])), (11, .cells true 2 1 (.fn fun x => [.mp 9, sL 10 (i + 1)])), (12, .cells true 1 q (.fn (txR nd)))] e fr' H')) := cI (fun t0 => rdR [tT] (I1 t0) hB) (fun t0 => rdR [fF] (I1 t0) hB)
theorem ofgE (B : Nat) (hB : B ≤ 13) (q i : Nat) (nd br : Nat → List UInt8) (M1 M2 M3 zl : List (List UInt8 × Int)) (x : List UInt8) (x0 : ((↑i : Int) < (↑q : Int))) (x1 : (0 + i < q)) : GoesB Try.prog ((nav [1,1,0,1,0,0,1,1,0,0,0] (bodyOf Try.f40))) Try.f40.ntmps B 13 13 (frL [(3, .ptr ⟨false, 11, 0, 0⟩), (12, sL 12 q), (13, iT (q : Int)), (14, iT (i : Int))]) (hpL [(9, .mSI true zl), (10, .cells true 1 (i + 1) (.fn fun k => [iT ((k : Nat) : Int)])), (11, .cells true 2 1 (.fn fun _ => [.mp 9, sL 10 (i + 1)])), (12, .cells true 1 q (.fn (txR nd)))]) (pP .normal [(3, .ptr ⟨false, 11, 0, 0⟩), (5, .str true (nd (0 + i))), (12, sL 12 q), (13, iT (↑q : Int)), (14, iT (↑i : Int))] [(9, ABk.mSI true zl), (10, .cells true 1 (i + 1) (.fn fun k => [iT (↑k : Int)])), (11, .cells true 2 1 (.fn fun x => [.mp 9, sL 10 (i + 1)])), (12, .cells true 1 q (.fn (txR nd)))]) := rdR [] (I2 (ai (show 0 ≤ (↑i : Int) by omega) x0) x1) hB
theorem ofgF (B : Nat) (hB : B ≤ 13) (q i : Nat) (nd br : Nat → List UInt8) (M1 M2 M3 zl : List (List UInt8 × Int)) (x : List UInt8) : GoesB Try.prog ((nav [1,1,0,1,0,0,1,1,0,0,1,0] (bodyOf Try.f40))) Try.f40.ntmps B 13 13 (frL [(3, .ptr ⟨false, 11, 0, 0⟩), (12, sL 12 q), (13, iT (q : Int)), (14, iT (i : Int)), (5, .str true x)]) (hpL [(9, .mSI true zl), (10, .cells true 1 (i + 1) (.fn fun k => [iT ((k : Nat) : Int)])), (11, .cells true 2 1 (.fn fun _ => [.mp 9, sL 10 (i + 1)])), (12, .cells true 1 q (.fn (txR nd)))]) (pP .normal [(3, .ptr ⟨false, 11, 0, 0⟩), (12, sL 12 q), (13, iT (↑q : Int)), (14, iT (↑i : Int))] [(9, ABk.mSI true (lput seq x (↑(i + 1) : Int) zl)), (10, .cells true 1 (i + 1) (.fn fun k => [iT (↑k : Int)])), (11, .cells true 2 1 (.fn fun x => [.mp 9, sL 10 (i + 1)])), (12, .cells true 1 q (.fn (txR nd)))]) := rdR [] trivial hB
theorem ofgG (B : Nat) (hB : B ≤ 13) (q i : Nat) (nd br : Nat → List UInt8) (M1 M2 M3 zl : List (List UInt8 × Int)) (x0 : ((i + 1 + 1) * 8 ≤ 140737488355328)) (x1 : (i + 1 + 1 ≤ 9223372036854775807)) : GoesB Try.prog ((nav [1,1,0,1,0,0,1,1,0,0,1,1] (bodyOf Try.f40))) Try.f40.ntmps B 13 15 (frL [(3, .ptr ⟨false, 11, 0, 0⟩), (12, sL 12 q), (13, iT (q : Int)), (14, iT (i : Int))]) (hpL [(9, .mSI true zl), (10, .cells true 1 (i + 1) (.fn fun k => [iT ((k : Nat) : Int)])), (11, .cells true 2 1 (.fn fun _ => [.mp 9, sL 10 (i + 1)])), (12, .cells true 1 q (.fn (txR nd)))]) (pP .normal [(3, .ptr ⟨false, 11, 0, 0⟩), (12, sL 12 q), (13, iT (↑q : Int)), (14, iT (↑i : Int))] [(9, ABk.mSI true zl), (11, .cells true 2 1 (.fn fun j => bif Nat.beq j 0 then [.mp 9, sL 14 (i + 1 + 1)] else [.mp 9, sL 10 (i + 1)])), (12, .cells true 1 q (.fn (txR nd))), (14, .cells true 1 (i + 1 + 1) (.fn fun j => bif decide (j < i + 1) then [iT (↑j : Int)] else [iT (↑(i + 1) : Int)]))]) := rdR [] (I1 (ai (show i + 1 ≤ i + 1 by omega) (ai x0 x1))) hB
theorem ofgH (B : Nat) (hB : B ≤ 13) (n q i : Nat) (nd br : Nat → List UInt8) (M1 M2 M3 zl : List (List UInt8 × Int)) (x : List UInt8) (x0 : ((↑i : Int) + 1 ≤ (9223372036854775807 : Int))) : GoesB Try.prog ((nav [1,1,0,1,0,0,1,1,1] (bodyOf Try.f40))) Try.f40.ntmps B 13 13 (frL [(3, .ptr ⟨false, 11, 0, 0⟩), (12, sL 12 q), (13, iT (q : Int)), (14, iT (i : Int))]) (hpL [(9, .mSI true zl), (10, .cells true 1 (n + 1) (.fn fun k => [iT ((k : Nat) : Int)])), (11, .cells true 2 1 (.fn fun _ => [.mp 9, sL 10 (n + 1)])), (12, .cells true 1 q (.fn (txR nd)))]) (pP .normal [(3, .ptr ⟨false, 11, 0, 0⟩), (12, sL 12 q), (13, iT (↑q : Int)), (14, iT ((↑i : Int) + 1))] [(9, ABk.mSI true zl), (10, .cells true 1 (n + 1) (.fn fun k => [iT (↑k : Int)])), (11, .cells true 2 1 (.fn fun x => [.mp 9, sL 10 (n + 1)])), (12, .cells true 1 q (.fn (txR nd)))]) := rdR [] (I1 (ai (show -9223372036854775808 ≤ (↑i : Int) + 1 by omega) x0)) hB
theorem ofgI (B : Nat) (hB : B ≤ 13) (n q r i : Nat) (E : tE) (nd br : Nat → List UInt8) (M1 M2 M3 zl : List (List UInt8 × Int)) (x : List UInt8) : GoesB Try.prog ((nav [1,1,1] (bodyOf Try.f40))) Try.f40.ntmps B 13 13 (frL [(3, .ptr ⟨false, 11, 0, 0⟩)]) (hpL [(2, .cells false 7 1 (.fn fun _ => netR 6 7 8 n q r)), (3, .mSI true M1), (4, .mSI true M2), (5, .mSI true M3), (6, .cells false 8 n (.fn fun j => elR (E j))), (7, .cells false 1 q (.fn (txR nd))), (8, .cells false 1 r (.fn (txR br))), (9, .mSI true zl), (10, .cells true 1 (i + 1) (.fn fun k => [iT ((k : Nat) : Int)])), (11, .cells true 2 1 (.fn fun _ => [.mp 9, sL 10 (i + 1)]))]) (pP .ret [(2, .ptr ⟨false, 11, 0, 0⟩)] [(2, .cells false 7 1 (.fn fun x => (netR 6 7 8 n q r))), (3, ABk.mSI true M1), (4, ABk.mSI true M2), (5, ABk.mSI true M3), (6, .cells false 8 n (.fn fun j => (elR (E j)))), (7, .cells false 1 q (.fn (txR nd))), (8, .cells false 1 r (.fn (txR br))), (9, ABk.mSI true zl), (10, .cells true 1 (i + 1) (.fn fun k => [iT (↑k : Int)])), (11, .cells true 2 1 (.fn fun x => [.mp 9, sL 10 (i + 1)]))]) := rdR [] trivial hB
def g0 : Tx := [48]
theorem og_is : (bodyOf Try.f40) = .seq (nav [0] (bodyOf Try.f40)) (.seq (nav [1,0] (bodyOf Try.f40)) (.seq (.seq (nav [1,1,0,0] (bodyOf Try.f40)) (.block 0 (.loop (nav [1,1,0,1,0,0] (bodyOf Try.f40))))) (nav [1,1,1] (bodyOf Try.f40)))) := by kernel_rfl
theorem og_body : (nav [1,1,0,1,0,0] (bodyOf Try.f40)) = .seq (nav [1,1,0,1,0,0,0] (bodyOf Try.f40)) (.seq (nav [1,1,0,1,0,0,1,0] (bodyOf Try.f40)) (.seq (.block 1 (.seq (nav [1,1,0,1,0,0,1,1,0,0,0] (bodyOf Try.f40)) (.seq (nav [1,1,0,1,0,0,1,1,0,0,1,0] (bodyOf Try.f40)) (nav [1,1,0,1,0,0,1,1,0,0,1,1] (bodyOf Try.f40))))) (nav [1,1,0,1,0,0,1,1,1] (bodyOf Try.f40)))) := by kernel_rfl
instance : Inhabited El := ⟨⟨0, [], [], [], [], [], 0, 0⟩⟩
theorem take_snoc (l : List Tx) (i : Nat) (h : i < l.length) : l.take (i + 1) = l.take i ++ [l.getD i []] := by
 rw [List.take_add_one, List.getElem?_eq_getElem h]
 simp [List.getElem?_eq_getElem h]
theorem og_step (l : List Tx) (i : Nat) (hi : i < l.length) (hq : l.length ≤ 1024) (hp : pos (lget l i) (g0 :: l.take i) = none) :
  GoesB Try.prog (nav [1,1,0,1,0,0] (bodyOf Try.f40)) Try.f40.ntmps 9 13 13 (frL [(3, .ptr ⟨false, 11, 0, 0⟩), (12, sL 12 l.length), (13, iT (l.length : Int)), (14, iT (i : Int))]) (hpL [(9, .mSI true (zipF 0 (g0 :: l.take i))), (10, .cells true 1 (i + 1) (.fn fun k => [iT ((k : Nat) : Int)])), (11, .cells true 2 1 (.fn fun _ => [.mp 9, sL 10 (i + 1)])), (12, .cells true 1 l.length (.fn (txR (lget l))))]) (Nm [(3, .ptr ⟨false, 11, 0, 0⟩), (12, sL 12 l.length), (13, iT (l.length : Int)), (14, iT ((i + 1 : Nat) : Int))] [(9, .mSI true (zipF 0 (g0 :: l.take (i + 1)))), (10, .cells true 1 ((i + 1) + 1) (.fn fun k => [iT ((k : Nat) : Int)])), (11, .cells true 2 1 (.fn fun _ => [.mp 9, sL 10 ((i + 1) + 1)])), (12, .cells true 1 l.length (.fn (txR (lget l))))]) := by
 rw [og_body]
 refine GoesB.seqN (K1 := 13) (ofgD 9 (by omega) l.length i (lget l) (fun _ => []) [] [] [] (zipF 0 (g0 :: l.take i)) []) (by omega) ?_
 refine GoesB.seqN (K1 := 13) (F1 := [(3, .ptr ⟨false, 11, 0, 0⟩), (12, sL 12 l.length), (13, iT (l.length : Int)), (14, iT (i : Int))]) (H1 := [(9, .mSI true (zipF 0 (g0 :: l.take i))), (10, .cells true 1 (i + 1) (.fn fun k => [iT ((k : Nat) : Int)])), (11, .cells true 2 1 (.fn fun _ => [.mp 9, sL 10 (i + 1)])), (12, .cells true 1 l.length (.fn (txR (lget l))))]) ((ofgX 9 (by omega) l.length i (lget l) (fun _ => []) [] [] [] (zipF 0 (g0 :: l.take i)) [] (decide ((i : Int) < (l.length : Int)))).mono fun e fr' H' h => ?_) (by omega) ?_
 ·rw [decide_eq_true (by omega), cond_true] at h
  exact h
 refine GoesB.seqN (K1 := 13) (F1 := [(3, .ptr ⟨false, 11, 0, 0⟩), (12, sL 12 l.length), (13, iT (l.length : Int)), (14, iT (i : Int))]) (H1 := [(9, .mSI true (zipF 0 (g0 :: l.take (i + 1)))), (10, .cells true 1 ((i + 1) + 1) (.fn fun k => [iT ((k : Nat) : Int)])), (11, .cells true 2 1 (.fn fun _ => [.mp 9, sL 10 ((i + 1) + 1)])), (12, .cells true 1 l.length (.fn (txR (lget l))))]) (GoesB.blockN ?_) (by omega) ?_
 ·refine GoesB.seqN (K1 := 13) (F1 := [(3, .ptr ⟨false, 11, 0, 0⟩), (12, sL 12 l.length), (13, iT (l.length : Int)), (14, iT (i : Int)), (5, .str true (lget l i))]) (H1 := [(9, .mSI true (zipF 0 (g0 :: l.take i))), (10, .cells true 1 (i + 1) (.fn fun k => [iT ((k : Nat) : Int)])), (11, .cells true 2 1 (.fn fun _ => [.mp 9, sL 10 (i + 1)])), (12, .cells true 1 l.length (.fn (txR (lget l))))]) (GoesB.toN (ofgE 9 (by omega) l.length i (lget l) (fun _ => []) [] [] [] (zipF 0 (g0 :: l.take i)) [] (by omega) (by omega)) ⟨re rfl, re rfl, re rfl, re rfl, ⟨_, rfl, by
   show AV.ge (.str true (lget l (0 + i))) _
   rw [Nat.zero_add]; exact AV.ge.refl _⟩, trivial⟩ (eHh rfl)) (by omega) ?_
  refine GoesB.seqN (K1 := 13) (F1 := [(3, .ptr ⟨false, 11, 0, 0⟩), (12, sL 12 l.length), (13, iT (l.length : Int)), (14, iT (i : Int))]) (H1 := [(9, .mSI true (zipF 0 (g0 :: l.take (i + 1)))), (10, .cells true 1 (i + 1) (.fn fun k => [iT ((k : Nat) : Int)])), (11, .cells true 2 1 (.fn fun _ => [.mp 9, sL 10 (i + 1)])), (12, .cells true 1 l.length (.fn (txR (lget l))))]) (GoesB.toN (ofgF 9 (by omega) l.length i (lget l) (fun _ => []) [] [] [] (zipF 0 (g0 :: l.take i)) (lget l i)) (eGg rfl) ⟨⟨_, rfl, by
   rw [put_zip0 (l := g0 :: l.take i) (by simp; omega) hp, take_snoc l i hi]
   exact SameC.refl _⟩, eHh rfl⟩) (by omega) ?_
  refine (ofgG 9 (by omega) l.length i (lget l) (fun _ => []) [] [] [] (zipF 0 (g0 :: l.take (i + 1))) (by omega) (by omega)).renG fun e fr' H' h => ?_
  obtain ⟨rfl, rfl, rfl⟩ := h
  exact ⟨sg 10 14, [(3, .ptr ⟨false, 11, 0, 0⟩), (12, sL 12 l.length), (13, iT (l.length : Int)), (14, iT (i : Int))], [(9, .mSI true (zipF 0 (g0 :: l.take (i + 1)))), (10, .cells true 1 ((i + 1) + 1) (.fn fun k => [iT ((k : Nat) : Int)])), (11, .cells true 2 1 (.fn fun _ => [.mp 9, sL 10 ((i + 1) + 1)])), (12, .cells true 1 l.length (.fn (txR (lget l))))], sg_low (by omega), (eRr rfl), ⟨rgM rfl rfl (by omega), rgR rfl rfl (fun j hj => by
   show (bif decide (j < i + 1) then [iT (j : Int)] else [iT ((i + 1 : Nat) : Int)]) = [iT (j : Int)]
   by_cases c : j < i + 1
   ·rw [decide_eq_true c, cond_true]
   ·rw [decide_eq_false c, cond_false]
    have : j = i + 1 := by omega
    rw [this]) (fun j _ => rfl) (by omega), rgR rfl rfl (fun j hj => by
   obtain rfl : j = 0 := by omega
   rfl) (fun j _ => rfl) (by omega), rgR rfl rfl (fun j _ => rfl) (fun j _ => rfl) (by omega), trivial⟩, sg_inj (by omega), rfl, rfl, rfl⟩
 ·refine (GoesB.toN (ofgH 9 (by omega) (i + 1) l.length i (lget l) (fun _ => []) [] [] [] (zipF 0 (g0 :: l.take (i + 1))) [] (by omega)) ⟨re rfl, re rfl, re rfl, ⟨_, rfl, AV.ge.int' _ _ _ (by omega)⟩, trivial⟩ (eHh rfl))
theorem og_end (l : List Tx) (hq : l.length ≤ 1024) :
  GoesB Try.prog (nav [1,1,0,1,0,0] (bodyOf Try.f40)) Try.f40.ntmps 9 13 13 (frL [(3, .ptr ⟨false, 11, 0, 0⟩), (12, sL 12 l.length), (13, iT (l.length : Int)), (14, iT (l.length : Int))]) (hpL [(9, .mSI true (zipF 0 (g0 :: l.take l.length))), (10, .cells true 1 (l.length + 1) (.fn fun k => [iT ((k : Nat) : Int)])), (11, .cells true 2 1 (.fn fun _ => [.mp 9, sL 10 (l.length + 1)])), (12, .cells true 1 l.length (.fn (txR (lget l))))]) (Xm 0 [(3, .ptr ⟨false, 11, 0, 0⟩), (12, sL 12 l.length), (13, iT (l.length : Int)), (14, iT (l.length : Int))] [(9, .mSI true (zipF 0 (g0 :: l.take l.length))), (10, .cells true 1 (l.length + 1) (.fn fun k => [iT ((k : Nat) : Int)])), (11, .cells true 2 1 (.fn fun _ => [.mp 9, sL 10 (l.length + 1)])), (12, .cells true 1 l.length (.fn (txR (lget l))))]) := by
 rw [og_body]
 refine GoesB.seqN (K1 := 13) (ofgD 9 (by omega) l.length l.length (lget l) (fun _ => []) [] [] [] (zipF 0 (g0 :: l.take l.length)) []) (by omega) ?_
 refine GoesB.seqX (K1 := 13) ((ofgX 9 (by omega) l.length l.length (lget l) (fun _ => []) [] [] [] (zipF 0 (g0 :: l.take l.length)) [] (decide ((l.length : Int) < (l.length : Int)))).mono fun e fr' H' h => ?_) (by omega)
 rw [decide_eq_false (by omega), cond_false] at h
 exact h
theorem ge_sls {own : Bool} {a : AA} {len : Nat} : AV.ge (.slc false own a len) (.slc true own a len) := fun N μ c h => by
 simp only [Rep, RepS] at h ⊢
 obtain ⟨hg, A, C, e, hl, k1, k2, k3⟩ := h
 exact ⟨hg, A, C, e, hl, k1, fun h => (by cases h), k3⟩
def sw9 (x : Nat) : Nat := if x = 9 then 11 else if x = 11 then 9 else x
theorem og_goes (l : List Tx) (n r : Nat) (E : tE) (br : tX) (M1 M2 M3 : tM) (hq : l.length ≤ 1024) (hp : ∀ i, i < l.length → pos (lget l i) (g0 :: l.take i) = none) :
  GoesB Try.prog (bodyOf Try.f40) Try.f40.ntmps 9 9 13 (frameOf [.ptr ⟨false, 2, 0, 0⟩] 0 .e) (hpL [(2, .cells false 7 1 (.fn fun _ => netR 6 7 8 n l.length r)), (3, .mSI true M1), (4, .mSI true M2), (5, .mSI true M3), (6, .cells false 8 n (.fn fun j => elR (E j))), (7, .cells false 1 l.length (.fn (txR (lget l)))), (8, .cells false 1 r (.fn (txR br)))]) (fun e fr' H' => e = .ret ∧ fr' = frL [(2, .ptr ⟨false, 9, 0, 0⟩)] ∧ H' = hpL [(2, .cells false 7 1 (.fn fun _ => netR 6 7 8 n l.length r)), (3, .mSI true M1), (4, .mSI true M2), (5, .mSI true M3), (6, .cells false 8 n (.fn fun j => elR (E j))), (7, .cells false 1 l.length (.fn (txR (lget l)))), (8, .cells false 1 r (.fn (txR br))), (9, .cells true 2 1 (.fn fun _ => [.mp 11, sL 10 (l.length + 1)])), (10, .cells true 1 (l.length + 1) (.fn fun k => [iT ((k : Nat) : Int)])), (11, .mSI true (zipF 0 (g0 :: l)))]) := by
 rw [og_is]
 refine GoesB.seqN (K1 := 9) (ofgA 9 (by omega) n l.length r E (lget l) br M1 M2 M3 [] []) (by omega) ?_
 refine GoesB.seq (K1 := 12) (by omega) ((ofgB 9 (by omega) n l.length r E (lget l) br M1 M2 M3 [] []).mono fun e fr' H' h => ?_)
 obtain ⟨rfl, rfl, rfl⟩ := h
 refine GoesB.weakML (fl := [(0, .ptr ⟨false, 2, 0, 0⟩), (3, .ptr ⟨false, 11, 0, 0⟩)]) (bl := [(2, .cells false 7 1 (.fn fun _ => netR 6 7 8 n l.length r)), (3, .mSI true M1), (4, .mSI true M2), (5, .mSI true M3), (6, .cells false 8 n (.fn fun j => elR (E j))), (7, .cells false 1 l.length (.fn (txR (lget l)))), (8, .cells false 1 r (.fn (txR br))), (9, .mSI true (zipF 0 (g0 :: l.take 0))), (10, .cells true 1 (0 + 1) (.fn fun k => [iT ((k : Nat) : Int)])), (11, .cells true 2 1 (.fn fun _ => [.mp 9, sL 10 (0 + 1)]))]) (eGg rfl) ⟨⟨_, rfl, .inl ⟨rfl, rfl, rfl, fun j _ => RowGe_refl _ rfl⟩⟩, ⟨_, rfl, .inr ⟨_, _, _, rfl, rfl⟩⟩, ⟨_, rfl, .inr ⟨_, _, _, rfl, rfl⟩⟩, ⟨_, rfl, .inr ⟨_, _, _, rfl, rfl⟩⟩, ⟨_, rfl, .inl ⟨rfl, rfl, rfl, fun j _ => RowGe_refl _ rfl⟩⟩, ⟨_, rfl, .inl ⟨rfl, rfl, rfl, fun j _ => RowGe_refl _ rfl⟩⟩, ⟨_, rfl, .inl ⟨rfl, rfl, rfl, fun j _ => RowGe_refl _ rfl⟩⟩, ⟨_, rfl, .inr ⟨_, _, _, rfl, rfl⟩⟩, ⟨_, rfl, .inl ⟨rfl, rfl, rfl, fun j hj => by
  obtain rfl : j = 0 := by omega
  exact ⟨AV.ge.int _ _ _ _, rfl, trivial⟩⟩⟩, ⟨_, rfl, .inl ⟨rfl, rfl, rfl, fun j hj => by
  obtain rfl : j = 0 := by omega
  exact ⟨AV.ge.refl _, rfl, ge_sls, rfl, trivial⟩⟩⟩, trivial⟩ ?_
 refine GoesB.seqN (K1 := 13) (F1 := [(3, .ptr ⟨false, 11, 0, 0⟩), (12, sL 12 l.length), (13, iT (l.length : Int)), (14, iT (l.length : Int))]) (H1 := [(9, .mSI true (zipF 0 (g0 :: l.take l.length))), (10, .cells true 1 (l.length + 1) (.fn fun k => [iT ((k : Nat) : Int)])), (11, .cells true 2 1 (.fn fun _ => [.mp 9, sL 10 (l.length + 1)])), (12, .cells true 1 l.length (.fn (txR (lget l)))), (2, .cells false 7 1 (.fn fun _ => netR 6 7 8 n l.length r)), (3, .mSI true M1), (4, .mSI true M2), (5, .mSI true M3), (6, .cells false 8 n (.fn fun j => elR (E j))), (7, .cells false 1 l.length (.fn (txR (lget l)))), (8, .cells false 1 r (.fn (txR br)))]) ?_ (by omega) ?_
 ·refine GoesB.seqN (K1 := 13) (F1 := [(3, .ptr ⟨false, 11, 0, 0⟩), (12, sL 12 l.length), (13, iT (l.length : Int)), (14, iT ((0 : Nat) : Int))]) (H1 := [(9, .mSI true (zipF 0 (g0 :: l.take 0))), (10, .cells true 1 (0 + 1) (.fn fun k => [iT ((k : Nat) : Int)])), (11, .cells true 2 1 (.fn fun _ => [.mp 9, sL 10 (0 + 1)])), (12, .cells true 1 l.length (.fn (txR (lget l)))), (2, .cells false 7 1 (.fn fun _ => netR 6 7 8 n l.length r)), (3, .mSI true M1), (4, .mSI true M2), (5, .mSI true M3), (6, .cells false 8 n (.fn fun j => elR (E j))), (7, .cells false 1 l.length (.fn (txR (lget l)))), (8, .cells false 1 r (.fn (txR br)))]) (GoesB.toN (ofgC 9 (by omega) n l.length r 0 E (lget l) br M1 M2 M3 (zipF 0 (g0 :: l.take 0)) [] (by omega) (by omega)) ⟨re rfl, re rfl, re rfl, ⟨_, rfl, AV.ge.int _ _ _ _⟩, trivial⟩ ⟨hs rfl, hs rfl, hs rfl, ⟨_, rfl, rfl, rfl, rfl, fun j hj => by
   show [AV.str true (lget l (0 + j))] = [AV.str true (lget l j)]
   rw [Nat.zero_add]⟩, eHh rfl⟩) (by omega) ?_
  have hr := GoesB.rounds (P := Try.prog) (n := Try.f40.ntmps) (B := 9) (K := 13) (id := 0) l.length (fun i => [(3, .ptr ⟨false, 11, 0, 0⟩), (12, sL 12 l.length), (13, iT (l.length : Int)), (14, iT (i : Int))]) (fun i => [(9, .mSI true (zipF 0 (g0 :: l.take i))), (10, .cells true 1 (i + 1) (.fn fun k => [iT ((k : Nat) : Int)])), (11, .cells true 2 1 (.fn fun _ => [.mp 9, sL 10 (i + 1)])), (12, .cells true 1 l.length (.fn (txR (lget l))))]) (fun i hi => og_step l i hi hq (hp i hi)) (og_end l hq)
  exact hr.frameN (xl := [(2, .cells false 7 1 (.fn fun _ => netR 6 7 8 n l.length r)), (3, .mSI true M1), (4, .mSI true M2), (5, .mSI true M3), (6, .cells false 8 n (.fn fun j => elR (E j))), (7, .cells false 1 l.length (.fn (txR (lget l)))), (8, .cells false 1 r (.fn (txR br)))]) (by omega) ⟨⟨by omega, fun j hj v hv => List.all_eq_true.1 (show (netR 6 7 8 n l.length r).all (fun v => v.low 9) = true from rfl) v hv⟩, ⟨by omega, trivial⟩, ⟨by omega, trivial⟩, ⟨by omega, trivial⟩, ⟨by omega, fun j hj v hv => List.all_eq_true.1 (show (elR (E j)).all (fun v => v.low 9) = true from rfl) v hv⟩, ⟨by omega, fun j hj v hv => List.all_eq_true.1 (show (txR (lget l) j).all (fun v => v.low 9) = true from rfl) v hv⟩, ⟨by omega, fun j hj v hv => List.all_eq_true.1 (show (txR br j).all (fun v => v.low 9) = true from rfl) v hv⟩, trivial⟩ rfl rfl ⟨.inl rfl, .inl rfl, .inl rfl, .inl rfl, trivial⟩
 ·refine GoesB.weakL (fl := [(3, .ptr ⟨false, 11, 0, 0⟩)]) (bl := [(2, .cells false 7 1 (.fn fun _ => netR 6 7 8 n l.length r)), (3, .mSI true M1), (4, .mSI true M2), (5, .mSI true M3), (6, .cells false 8 n (.fn fun j => elR (E j))), (7, .cells false 1 l.length (.fn (txR (lget l)))), (8, .cells false 1 r (.fn (txR br))), (9, .mSI true (zipF 0 (g0 :: l.take l.length))), (10, .cells true 1 (l.length + 1) (.fn fun k => [iT ((k : Nat) : Int)])), (11, .cells true 2 1 (.fn fun _ => [.mp 9, sL 10 (l.length + 1)]))]) ⟨re rfl, trivial⟩ (eHh rfl) ?_
  refine (ofgI 9 (by omega) n l.length r l.length E (lget l) br M1 M2 M3 (zipF 0 (g0 :: l.take l.length)) []).renG fun e fr' H' h => ?_
  obtain ⟨rfl, rfl, rfl⟩ := h
  refine ⟨sw9, [(2, .ptr ⟨false, 9, 0, 0⟩)], [(2, .cells false 7 1 (.fn fun _ => netR 6 7 8 n l.length r)), (3, .mSI true M1), (4, .mSI true M2), (5, .mSI true M3), (6, .cells false 8 n (.fn fun j => elR (E j))), (7, .cells false 1 l.length (.fn (txR (lget l)))), (8, .cells false 1 r (.fn (txR br))), (9, .cells true 2 1 (.fn fun _ => [.mp 11, sL 10 (l.length + 1)])), (10, .cells true 1 (l.length + 1) (.fn fun k => [iT ((k : Nat) : Int)])), (11, .mSI true (zipF 0 (g0 :: l)))], fun g hg => by unfold sw9; rw [if_neg (by omega), if_neg (by omega)], ⟨⟨_, rfl, AV.ge.refl _, rfl⟩, trivial⟩, ⟨rgR rfl rfl (fun j _ => rfl) (fun j _ => rfl) (by omega), rgM rfl rfl (by omega), rgM rfl rfl (by omega), rgM rfl rfl (by omega), rgR rfl rfl (fun j _ => rfl) (fun j _ => rfl) (by omega), rgR rfl rfl (fun j _ => rfl) (fun j _ => rfl) (by omega), rgR rfl rfl (fun j _ => rfl) (fun j _ => rfl) (by omega), rgR rfl rfl (fun j _ => rfl) (fun j _ => rfl) (by omega), rgR rfl rfl (fun j _ => rfl) (fun j _ => rfl) (by omega), rgM rfl (by rw [List.take_length]) (by omega), trivial⟩, fun i j _ _ e => by
   unfold sw9 at e
   split at e <;> split at e <;> (try split at e) <;> (try split at e) <;> omega, rfl, rfl, rfl⟩


/-- the zero element, as it is built -/
def zrow : List AV := [AV.int false .u8 0, AV.str false [], AV.str false [], AV.str false [], AV.str false [], AV.str false [], AV.flt false 0, AV.int false .i64 0]
/-- a net's elements and the zero element -/
def apz (E : tE) (n j : Nat) : List AV := bif decide (0 + j < n) then elR (E (0 + (0 + j))) else zrow
def apz0 (E : tE) (n j : Nat) : List AV := bif decide (j < n) then elR (E (0 + j)) else zrow
theorem cz1 {b : Bool} {x y : Int} (hx : x ≠ 1) (hy : y ≠ 1) : (bif b then x else y) ≠ 1 := by cases b <;> assumption
theorem chk_ne1 (k : Int) (n a b c d : List UInt8) (v : Nat) (ph : Int) : chk_0 k n a b c d v ph ≠ 1 := by
 unfold chk_0
 repeat' (first | decide | apply cz1)
theorem bad_ne1 (E : tE) (i : Nat) : badE chkE E i ≠ 1 := by
 unfold badE
 refine cz1 (cz1 (by decide) (by decide)) (chk_ne1 _ _ _ _ _ _ _ _)
theorem ofE_ne1 (E : tE) (n : Nat) : ∀ m, (ofE chkE E n m).1 ≠ 1
 | 0 => by
  unfold ofE
  cases decide (32 < (ND E n).length) || decide (64 < (ND E n).length + (BR E n).length) <;> decide
 | m + 1 => by
  unfold ofE
  cases decide (badE chkE E (n - (m + 1)) = 0)
  ·exact bad_ne1 _ _
  ·exact ofE_ne1 E n m
theorem ofR_ne1 (E : tE) (n : Nat) : (ofR chkE E n).1 ≠ 1 := by
 unfold ofR
 cases decide (256 < n)
 ·exact ofE_ne1 _ _ _
 ·show (3 : Int) ≠ 1
  decide
theorem ofE_zero {E : tE} {n : Nat} : ∀ m, m ≤ n → (ofE chkE E n m).1 = 0 → ∀ j, n - m ≤ j → j < n → badE chkE E j = 0
 | 0, _, _, j, h1, h2 => by omega
 | m + 1, hm, h, j, h1, h2 => by
  unfold ofE at h
  by_cases c : badE chkE E (n - (m + 1)) = 0
  ·rw [decide_eq_true c, cond_true] at h
   by_cases q : j = n - (m + 1)
   ·rw [q]; exact c
   ·exact ofE_zero m (by omega) h j (by omega) h2
  ·rw [decide_eq_false c, cond_false] at h
   exact absurd h c
theorem ofR_zero {E : tE} {n : Nat} (h : (ofR chkE E n).1 = 0) : n ≤ 256 ∧ ∀ j, j < n → badE chkE E j = 0 := by
 unfold ofR at h
 by_cases c : 256 < n
 ·rw [decide_eq_true c] at h; exact absurd (show (3 : Int) = 0 from h) (by decide)
 ·rw [decide_eq_false c, cond_false] at h
  exact ⟨by omega, fun j hj => ofE_zero n (Nat.le_refl _) h j (by omega) hj⟩
theorem apz_last (E : tE) (n : Nat) : rowsE (apz E n) n = ⟨0, [], [], [], [], [], 0, 0⟩ := by
 unfold rowsE apz
 rw [decide_eq_false (by omega), cond_false]; rfl
theorem apz_err (E : tE) (n : Nat) : (ofX (rowsE (apz E n)) (n + 1)).1 ≠ 0 ∧ (ofX (rowsE (apz E n)) (n + 1)).1 ≠ 1 := by
 rw [ofX_is]
 refine ⟨fun h => ?_, ofR_ne1 _ _⟩
 have := (ofR_zero h).2 n (by omega)
 have c : chkE (rowsE (apz E n) n) ≠ 0 := by rw [apz_last]; decide +kernel
 rw [bad_chk c] at this
 exact c this
theorem ge_fltraw (s s' : Bool) : AV.ge (.flt s 0) (.raw s' 0) := fun N μ c h => by
 simp only [Rep] at h ⊢
 obtain ⟨x, rfl, h2, h3⟩ := h
 cases q : isnan x with
 | true => unfold cn at h2; rw [q] at h2; exact absurd (show qn = 0 from h2) (by decide)
 | false =>
  rw [cn_of_not q] at h2
  subst h2
  exact ⟨rfl, h3⟩
theorem peq_apz (E : tE) (n : Nat) : PEQ (n + 1) (apz E n) := by
 refine ⟨⟨fun j hj => ?_⟩, fun j hj u hu => ?_⟩
 ·unfold rowsE apz
  by_cases c : 0 + j < n
  ·rw [decide_eq_true c, cond_true]; exact RowGe_refl _ rfl
  ·rw [decide_eq_false c, cond_false]
   exact ⟨AV.ge.int _ _ _ _, rfl, AV.ge.str' _ _ rfl, rfl, AV.ge.str' _ _ rfl, rfl, AV.ge.str' _ _ rfl, rfl, AV.ge.str' _ _ rfl, rfl, AV.ge.str' _ _ rfl, rfl, ge_fltraw _ _, rfl, AV.ge.int _ _ _ _, rfl, trivial⟩
 ·unfold apz at hu
  by_cases c : 0 + j < n
  ·rw [decide_eq_true c, cond_true] at hu; exact List.all_eq_true.1 (elR_low 0 _) u hu
  ·rw [decide_eq_false c, cond_false] at hu; exact List.all_eq_true.1 (show zrow.all (fun v => v.low 0) = true from rfl) u hu
theorem apz0_inS {S : Nat → Prop} {E : tE} {n i o : Nat} {v : AV} (h : (apz0 E n i)[o]? = some v) : v.inS S := by
 unfold apz0 at h
 by_cases c : i < n
 ·rw [decide_eq_true c] at h
  exact elR_inS h
 ·rw [decide_eq_false c, cond_false] at h
  unfold zrow at h
  match o, h with
  | 0, h => cases h; trivial
  | 1, h => cases h; trivial
  | 2, h => cases h; trivial
  | 3, h => cases h; trivial
  | 4, h => cases h; trivial
  | 5, h => cases h; trivial
  | 6, h => cases h; trivial
  | 7, h => cases h; trivial



theorem noB (B : Nat) (hB : B ≤ 9) (n q r : Nat) (E : tE) (nd br : Nat → List UInt8) (M1 M2 M3 : List (List UInt8 × Int)) : GoesB Try.prog ((nav [0] (bodyOf Try.f39))) Try.f39.ntmps B 9 9 (frameOf [.ptr ⟨false, 2, 0, 0⟩] 0 .e) (hpL [(2, .cells false 7 1 (.fn fun _ => netR 6 7 8 n q r)), (3, .mSI true M1), (4, .mSI true M2), (5, .mSI true M3), (6, .cells false 8 n (.fn fun j => elR (E j))), (7, .cells false 1 q (.fn (txR nd))), (8, .cells false 1 r (.fn (txR br)))]) (pP .normal [(0, .ptr ⟨false, 2, 0, 0⟩)] [(2, .cells false 7 1 (.fn fun x => (netR 6 7 8 n q r))), (3, ABk.mSI true M1), (4, ABk.mSI true M2), (5, ABk.mSI true M3), (6, .cells false 8 n (.fn fun j => (elR (E j)))), (7, .cells false 1 q (.fn (txR nd))), (8, .cells false 1 r (.fn (txR br)))]) := rdR [] trivial hB
theorem noC (B : Nat) (hB : B ≤ 9) (n q r : Nat) (E : tE) (nd br : Nat → List UInt8) (M1 M2 M3 : List (List UInt8 × Int)) : GoesB Try.prog ((nav [1,0] (bodyOf Try.f39))) Try.f39.ntmps B 9 9 (frL [(0, .ptr ⟨false, 2, 0, 0⟩)]) (hpL [(2, .cells false 7 1 (.fn fun _ => netR 6 7 8 n q r)), (3, .mSI true M1), (4, .mSI true M2), (5, .mSI true M3), (6, .cells false 8 n (.fn fun j => elR (E j))), (7, .cells false 1 q (.fn (txR nd))), (8, .cells false 1 r (.fn (txR br)))]) (pP .normal [(0, .ptr ⟨false, 2, 0, 0⟩)] [(2, .cells false 7 1 (.fn fun x => (netR 6 7 8 n q r))), (3, ABk.mSI true M1), (4, ABk.mSI true M2), (5, ABk.mSI true M3), (6, .cells false 8 n (.fn fun j => (elR (E j)))), (7, .cells false 1 q (.fn (txR nd))), (8, .cells false 1 r (.fn (txR br)))]) := rdR [] trivial hB
theorem noE (B : Nat) (hB : B ≤ 10) (n q r : Nat) (E : tE) (nd br : Nat → List UInt8) (M1 M2 M3 : List (List UInt8 × Int)) (u v : Int) : GoesB Try.prog ((nav [1,1,1] (bodyOf Try.f39))) Try.f39.ntmps B 10 10 (frL [(4, .ptr ⟨false, 9, 0, 0⟩)]) (hpL [(2, .cells false 7 1 (.fn fun _ => netR 6 7 8 n q r)), (3, .mSI true M1), (4, .mSI true M2), (5, .mSI true M3), (6, .cells false 8 n (.fn fun j => elR (E j))), (7, .cells false 1 q (.fn (txR nd))), (8, .cells false 1 r (.fn (txR br))), (9, .cells true 2 1 (.fn fun _ => [iT u, iT v]))]) (pP .ret [(2, .sbool (decide (u = (1 : Int))))] [(2, .cells false 7 1 (.fn fun x => (netR 6 7 8 n q r))), (3, ABk.mSI true M1), (4, ABk.mSI true M2), (5, ABk.mSI true M3), (6, .cells false 8 n (.fn fun j => (elR (E j)))), (7, .cells false 1 q (.fn (txR nd))), (8, .cells false 1 r (.fn (txR br)))]) := rdR [] trivial hB
theorem noD_xt (n q r : Nat) (E : tE) (nd br : Nat → List UInt8) (M1 M2 M3 : List (List UInt8 × Int)) (c0 : 0 + n ≤ n) (c1 : n * 104 ≤ 140737488355328) (c2 : n ≤ 9223372036854775807) (c3 : ∀ (i : Nat), i < n → ∀ (o : Nat) (v : AV), (elR (E (0 + i)))[o]? = Option.some v → AV.inS (fun g => inR [(0, 11), (11, 12), (11, 11)] g = true) v) (c4 : n ≤ n) (c5 : (n + 1) * 104 ≤ 140737488355328) (c6 : n + 1 ≤ 9223372036854775807) (c7 : ∀ (i : Nat), i < n + 1 → ∀ (o : Nat) (v : AV), (apz0 E n i)[o]? = Option.some v → AV.inS (fun g => inR [(0, 11), (13, 14), (12, 13), (12, 12), (11, 12), (11, 11)] g = true) v) (c8 : 0 + (n + 1) ≤ n + 1) (c9 : PEQ (n + 1) (apz E n)) (c10 : decide (Prod.fst (ofX (rowsE (apz E n)) (n + 1)) = (0 : Int)) = false) : PieceN 40 (Ex.normal) [(4, .ptr ⟨false, 14, 0, 0⟩)] [(2, .cells false 7 1 (.fn fun x => (netR 6 7 8 n q r))), (3, ABk.mSI true M1), (4, ABk.mSI true M2), (5, ABk.mSI true M3), (6, .cells false 8 n (.fn fun j => (elR (E j)))), (7, .cells false 1 q (.fn (txR nd))), (8, .cells false 1 r (.fn (txR br))), (14, .cells true 2 1 (.lit [] (.n .e (some [iT (Prod.fst (ofX (rowsE (apz E n)) (n + 1))), iT (Prod.snd (ofX (rowsE (apz E n)) (n + 1)))]) .e)))] (piececallR Try.f39 ((nav [1,1,0] (bodyOf Try.f39))) (frL [(0, .ptr ⟨false, 2, 0, 0⟩)]) (hpL [(2, .cells false 7 1 (.fn fun _ => netR 6 7 8 n q r)), (3, .mSI true M1), (4, .mSI true M2), (5, .mSI true M3), (6, .cells false 8 n (.fn fun j => elR (E j))), (7, .cells false 1 q (.fn (txR nd))), (8, .cells false 1 r (.fn (txR br)))]) 9 [false]) := eN (I8 c0 (ai c1 c2) c3 (ai c4 (ai c5 c6)) c7 c8 c9 c10)


theorem no_is : (bodyOf Try.f39) = .seq (nav [0] (bodyOf Try.f39)) (.seq (nav [1,0] (bodyOf Try.f39)) (.seq (nav [1,1,0] (bodyOf Try.f39)) (nav [1,1,1] (bodyOf Try.f39)))) := by kernel_rfl
theorem none_goes (n q r : Nat) (E : tE) (nd br : tX) (M1 M2 M3 : tM) (hn : n ≤ 1024) :
  GoesB Try.prog (bodyOf Try.f39) Try.f39.ntmps 9 9 40 (frameOf [.ptr ⟨false, 2, 0, 0⟩] 0 .e) (hpL [(2, .cells false 7 1 (.fn fun _ => netR 6 7 8 n q r)), (3, .mSI true M1), (4, .mSI true M2), (5, .mSI true M3), (6, .cells false 8 n (.fn fun j => elR (E j))), (7, .cells false 1 q (.fn (txR nd))), (8, .cells false 1 r (.fn (txR br)))]) (fun e fr' H' => e = .ret ∧ fr' = frL [(2, .bool false)] ∧ H' = hpL [(2, .cells false 7 1 (.fn fun _ => netR 6 7 8 n q r)), (3, .mSI true M1), (4, .mSI true M2), (5, .mSI true M3), (6, .cells false 8 n (.fn fun j => elR (E j))), (7, .cells false 1 q (.fn (txR nd))), (8, .cells false 1 r (.fn (txR br)))]) := by
 obtain ⟨z0, z1⟩ := apz_err E n
 rw [no_is]
 refine GoesB.seqN (K1 := 9) (noB 9 (by omega) n q r E nd br M1 M2 M3) (by omega) ?_
 refine GoesB.seqN (K1 := 9) (noC 9 (by omega) n q r E nd br M1 M2 M3) (by omega) ?_
 refine GoesB.seqN (K1 := 10) (F1 := [(4, .ptr ⟨false, 9, 0, 0⟩)]) (H1 := [(2, .cells false 7 1 (.fn fun _ => netR 6 7 8 n q r)), (3, .mSI true M1), (4, .mSI true M2), (5, .mSI true M3), (6, .cells false 8 n (.fn fun j => elR (E j))), (7, .cells false 1 q (.fn (txR nd))), (8, .cells false 1 r (.fn (txR br))), (9, .cells true 2 1 (.fn fun _ => [iT (ofX (rowsE (apz E n)) (n + 1)).1, iT (ofX (rowsE (apz E n)) (n + 1)).2]))]) ((rcR (noD_xt n q r E nd br M1 M2 M3 (by omega) (by omega) (by omega) (fun i hi o v hv => elR_inS hv) (Nat.le_refl _) (by omega) (by omega) (fun i hi o v hv => apz0_inS hv) (by omega) (peq_apz E n) (decide_eq_false z0)) (show 9 ≤ 9 by omega)).renG fun e fr' H' h => ?_) (by omega) ?_
 ·obtain ⟨rfl, rfl, rfl⟩ := h
  exact ⟨sg 9 14, [(4, .ptr ⟨false, 9, 0, 0⟩)], [(2, .cells false 7 1 (.fn fun _ => netR 6 7 8 n q r)), (3, .mSI true M1), (4, .mSI true M2), (5, .mSI true M3), (6, .cells false 8 n (.fn fun j => elR (E j))), (7, .cells false 1 q (.fn (txR nd))), (8, .cells false 1 r (.fn (txR br))), (9, .cells true 2 1 (.fn fun _ => [iT (ofX (rowsE (apz E n)) (n + 1)).1, iT (ofX (rowsE (apz E n)) (n + 1)).2]))], sg_low (by omega), ⟨⟨_, rfl, AV.ge.refl _, rfl⟩, trivial⟩, ⟨rgR rfl rfl (fun j _ => rfl) (fun j _ => rfl) (by omega), rgM rfl rfl (by omega), rgM rfl rfl (by omega), rgM rfl rfl (by omega), rgR rfl rfl (fun j _ => rfl) (fun j _ => rfl) (by omega), rgR rfl rfl (fun j _ => rfl) (fun j _ => rfl) (by omega), rgR rfl rfl (fun j _ => rfl) (fun j _ => rfl) (by omega), ⟨_, rfl, ⟨rfl, rfl, rfl, fun j hj => by
   obtain rfl : j = 0 := by omega
   rfl⟩, fun j hj v hv => List.all_eq_true.1 (show ([iT (ofX (rowsE (apz E n)) (n + 1)).1, iT (ofX (rowsE (apz E n)) (n + 1)).2] : List AV).all (fun v => v.low 10) = true from rfl) v hv, by omega⟩, trivial⟩, sg_inj (by omega), rfl, rfl, rfl⟩
 refine ((noE 9 (by omega) n q r E nd br M1 M2 M3 (ofX (rowsE (apz E n)) (n + 1)).1 (ofX (rowsE (apz E n)) (n + 1)).2).up (by omega)).post fun e fr' H' h => ?_
 obtain ⟨rfl, rfl, rfl⟩ := h
 refine ⟨[(2, .bool false)], [(2, .cells false 7 1 (.fn fun _ => netR 6 7 8 n q r)), (3, .mSI true M1), (4, .mSI true M2), (5, .mSI true M3), (6, .cells false 8 n (.fn fun j => elR (E j))), (7, .cells false 1 q (.fn (txR nd))), (8, .cells false 1 r (.fn (txR br)))], ⟨⟨_, rfl, fun N μ c h => ?_⟩, trivial⟩, (eHh rfl), rfl, rfl, rfl⟩
 simp only [Rep] at h ⊢
 rw [h, decide_eq_false z1]


noncomputable def gamS : Known := kc 71 ofBits (kc 74 toBits (kc 72 smallS (kc 61 kindS (kc 58 rowOfS (kc 73 ofS (kc 59 nameS (kc 60 nodeS (kc 35 chkS (kc 12 netofS (kc 29 elsS (kc 46 alongS (kc 44 rootS (kc 41 joinS (kn))))))))))))))
theorem gamS_ok : KnownOk Try.prog gamS := kc_ok ((ofBits_is Try.prog).callIs Try.func71 (by kernel_rfl) (by kernel_rfl) (by kernel_rfl) (by kernel_rfl)) (kc_ok ((toBits_is Try.prog).callIs Try.func74 (by kernel_rfl) (by kernel_rfl) (by kernel_rfl) (by kernel_rfl)) (kc_ok smallS_ok (kc_ok kindS_ok (kc_ok rowOfS_ok (kc_ok ofS_ok (kc_ok nameS_ok (kc_ok nodeS_ok (kc_ok chkS_ok (kc_ok netofS_ok (kc_ok elsS_ok (kc_ok alongS_ok (kc_ok rootS_ok (kc_ok joinS_ok (kn_ok))))))))))))))
theorem gamS_tch : KnownT gamS := kc_tch Tch.ofBits (kc_tch Tch.toBits (kc_tch smallS_tch (kc_tch kindS_tch (kc_tch rowOfS_tch (kc_tch ofS_tch (kc_tch nameS_tch (kc_tch nodeS_tch (kc_tch chkS_tch (kc_tch netofS_tch (kc_tch elsS_tch (kc_tch alongS_tch (kc_tch rootS_tch (kc_tch joinS_tch (kn_tch))))))))))))))
noncomputable def callS : Calls' := Sx.runN Try.prog gamS (regionC Try.prog) 1000 50
theorem callS_ok : CallOk Try.prog callS := engineC gamS_ok gamS_tch (by kernel_rfl) (by kernel_rfl) 1000 50
theorem callS_reg (n : Nat) : RegionOk Try.prog (regionC Try.prog callS n) n := runN_regionC gamS_ok gamS_tch (by kernel_rfl) (by kernel_rfl) 1000 50 n
noncomputable abbrev piececallS (f : Func) (c : Code) (fr : Fr) (H : T ABk) (K : Nat) (path : List Bool) : Res (Ex × Fr) :=
 codeA Try.prog callS (regionC Try.prog callS f.ntmps) noLoops f.ntmps 1000 c fr ⟨H, K, [], path, True⟩


theorem rcS {fn : Func} {K K' B : Nat} {e : Ex} {F : tF} {Hl : tH} {c : Code} {fr : Fr} {H : T ABk} {path : List Bool} (h : PieceN K' e F Hl (piececallS fn c fr H K path)) (hB : B ≤ K) : GoesB Try.prog c fn.ntmps B K K' fr H fun e' fr' H' => e' = e ∧ fr' = frL F ∧ H' = hpL Hl := GoesB.runN callS_ok (callS_reg _) (LoopsIn.none _ _ _) h hB
theorem rdS {fn : Func} {K K' B : Nat} {e : Ex} {F : tF} {Hl : tH} {c : Code} {fr : Fr} {H : T ABk} (path : List Bool) {q : Prop} (hq : q) (hB : B ≤ K) (h : pieceN K' e F Hl (piececallS fn c fr H K path) = (e = e ∧ selfW F ∧ selfH Hl ∧ true = true ∧ q) := by kernel_rfl) : GoesB Try.prog c fn.ntmps B K K' fr H fun e' fr' H' => e' = e ∧ fr' = frL F ∧ H' = hpL Hl := rcS (eqn h hq) hB
theorem voD (B : Nat) (hB : B ≤ 13) (n m i : Nat) (u : Nat → Nat) (E : tE) (zl : List (List UInt8 × Int)) : GoesB Try.prog ((nav [1,1,1,0,1,0,0,0] (bodyOf Try.f15))) Try.f15.ntmps B 13 13 (frL [(3, .ptr ⟨false, 9, 0, 0⟩), (11, sL 12 n), (12, iT (n : Int)), (13, iT (i : Int))]) (hpL [(9, .cells true 2 1 (.fn fun _ => [.mp 11, sL 10 m])), (10, .cells true 1 m (.fn fun k => [iT ((u k : Nat) : Int)])), (11, .mSI true zl), (12, .cells true 8 n (.fn fun j => elR (E j)))]) (pP .normal [(3, .ptr ⟨false, 9, 0, 0⟩), (11, sL 12 n), (12, iT (↑n : Int)), (13, iT (↑i : Int)), (14, .sbool (decide ((↑i : Int) < (↑n : Int))))] [(9, .cells true 2 1 (.fn fun x => [.mp 11, sL 10 m])), (10, .cells true 1 m (.fn fun k => [iT (↑(u k) : Int)])), (11, ABk.mSI true zl), (12, .cells true 8 n (.fn fun j => (elR (E j))))]) := rdS [] trivial hB
theorem voX (B : Nat) (hB : B ≤ 13) (n m i : Nat) (u : Nat → Nat) (E : tE) (zl : List (List UInt8 × Int)) (b : Bool) : GoesB Try.prog ((nav [1,1,1,0,1,0,0,1,0] (bodyOf Try.f15))) Try.f15.ntmps B 13 13 (frL [(3, .ptr ⟨false, 9, 0, 0⟩), (11, sL 12 n), (12, iT (n : Int)), (13, iT (i : Int)), (14, .sbool b)]) (hpL [(9, .cells true 2 1 (.fn fun _ => [.mp 11, sL 10 m])), (10, .cells true 1 m (.fn fun k => [iT ((u k : Nat) : Int)])), (11, .mSI true zl), (12, .cells true 8 n (.fn fun j => elR (E j)))]) fun e fr' H' => (cond (b) (pP .normal [(3, .ptr ⟨false, 9, 0, 0⟩), (11, sL 12 n), (12, iT (↑n : Int)), (13, iT (↑i : Int))] [(9, .cells true 2 1 (.fn fun x => [.mp 11, sL 10 m])), (10, .cells true 1 m (.fn fun k => [iT (↑(u k) : Int)])), (11, ABk.mSI true zl), (12, .cells true 8 n (.fn fun j => (elR (E j))))] e fr' H') (pP (.exit 0) [(3, .ptr ⟨false, 9, 0, 0⟩), (11, sL 12 n), (12, iT (↑n : Int)), (13, iT (↑i : Int))] [(9, .cells true 2 1 (.fn fun x => [.mp 11, sL 10 m])), (10, .cells true 1 m (.fn fun k => [iT (↑(u k) : Int)])), (11, ABk.mSI true zl), (12, .cells true 8 n (.fn fun j => (elR (E j))))] e fr' H')) := cI (fun t0 => rdS [tT] (I1 t0) hB) (fun t0 => rdS [fF] (I1 t0) hB)
theorem voE (B : Nat) (hB : B ≤ 13) (n m i : Nat) (u : Nat → Nat) (E : tE) (zl : List (List UInt8 × Int)) (x0 : ((↑i : Int) < (↑n : Int))) (x1 : (0 + i < n)) : GoesB Try.prog ((nav [1,1,1,0,1,0,0,1,1,0,0,0] (bodyOf Try.f15))) Try.f15.ntmps B 13 14 (frL [(3, .ptr ⟨false, 9, 0, 0⟩), (11, sL 12 n), (12, iT (n : Int)), (13, iT (i : Int))]) (hpL [(9, .cells true 2 1 (.fn fun _ => [.mp 11, sL 10 m])), (10, .cells true 1 m (.fn fun k => [iT ((u k : Nat) : Int)])), (11, .mSI true zl), (12, .cells true 8 n (.fn fun j => elR (E j)))]) (pP .normal [(3, .ptr ⟨false, 9, 0, 0⟩), (5, .ptr ⟨false, 13, 0, 0⟩), (11, sL 12 n), (12, iT (↑n : Int)), (13, iT (↑i : Int))] [(9, .cells true 2 1 (.fn fun x => [.mp 11, sL 10 m])), (10, .cells true 1 m (.fn fun k => [iT (↑(u k) : Int)])), (11, ABk.mSI true zl), (12, .cells true 8 n (.fn fun j => (elR (E j)))), (13, .cells true 8 1 (.lit [] (T.n T.e (Option.some (elR (E (0 + i)))) T.e)))]) := rdS [] (I3 (ai (show 0 ≤ (↑i : Int) by omega) x0) x1 (show 8 ≤ 8 by omega)) hB
theorem voF (B : Nat) (hB : B ≤ 14) (n m i : Nat) (u : Nat → Nat) (E : tE) (zl : List (List UInt8 × Int)) (x0 : (m = m)) (x1 : (m ≤ 4096)) (x2 : (∀ (j : Nat), j < m → RowGe [iT (↑(u j) : Int)] [iT (↑(uO m (Cont.row (.fn fun k => [.int true .i64 (↑(u k) : Int)])) j) : Int)] ∧ uO m (Cont.row (.fn fun k => [iT (↑(u k) : Int)])) j ≤ j)) (x3 : (∀ (z : List UInt8), (0 : Int) ≤ Option.getD (lfind seq z zl) (0 : Int) ∧ Option.getD (lfind seq z zl) 0 < (↑m : Int))) : GoesB Try.prog ((nav [1,1,1,0,1,0,0,1,1,0,0,1,0] (bodyOf Try.f15))) Try.f15.ntmps B 14 14 (frL [(3, .ptr ⟨false, 9, 0, 0⟩), (11, sL 12 n), (12, iT (n : Int)), (13, iT (i : Int)), (5, .ptr ⟨false, 13, 0, 0⟩)]) (hpL [(9, .cells true 2 1 (.fn fun _ => [.mp 11, sL 10 m])), (10, .cells true 1 m (.fn fun k => [iT ((u k : Nat) : Int)])), (11, .mSI true zl), (12, .cells true 8 n (.fn fun j => elR (E j))), (13, .cells true 8 1 (.fn fun _ => elR (E i)))]) fun e fr' H' => (cond (decide (El.k (E i) = (5 : Int))) (pP .normal [(3, .ptr ⟨false, 9, 0, 0⟩), (11, sL 12 n), (12, iT (↑n : Int)), (13, iT (↑i : Int)), (33, .sbool !!decide ((↑(root (uO m (Cont.row (.fn fun k => [iT (↑(u k) : Int)]))) (plc zl (El.a (E i)))) : Int) = (↑(root (uO m (Cont.row (.fn fun k => [iT (↑(u k) : Int)]))) (plc zl (El.b (E i)))) : Int)))] [(9, .cells true 2 1 (.fn fun x => [.mp 11, sL 10 m])), (10, .cells true 1 m (.fn fun k => [iT (↑(jn (uO m (Cont.row (.fn fun k => [.int true .i64 (↑(u k) : Int)]))) (plc zl (El.a (E i))) (plc zl (El.b (E i))) k) : Int)])), (11, ABk.mSI true zl), (12, .cells true 8 n (.fn fun j => (elR (E j))))] e fr' H') (cond (decide (El.k (E i) = (7 : Int))) (pP .normal [(3, .ptr ⟨false, 9, 0, 0⟩), (11, sL 12 n), (12, iT (↑n : Int)), (13, iT (↑i : Int)), (33, .sbool !!decide ((↑(root (uO m (Cont.row (.fn fun k => [iT (↑(u k) : Int)]))) (plc zl (El.a (E i)))) : Int) = (↑(root (uO m (Cont.row (.fn fun k => [iT (↑(u k) : Int)]))) (plc zl (El.b (E i)))) : Int)))] [(9, .cells true 2 1 (.fn fun x => [.mp 11, sL 10 m])), (10, .cells true 1 m (.fn fun k => [iT (↑(jn (uO m (Cont.row (.fn fun k => [.int true .i64 (↑(u k) : Int)]))) (plc zl (El.a (E i))) (plc zl (El.b (E i))) k) : Int)])), (11, ABk.mSI true zl), (12, .cells true 8 n (.fn fun j => (elR (E j))))] e fr' H') (pP .normal [(3, .ptr ⟨false, 9, 0, 0⟩), (11, sL 12 n), (12, iT (↑n : Int)), (13, iT (↑i : Int)), (33, .bool false)] [(9, .cells true 2 1 (.fn fun x => [.mp 11, sL 10 m])), (10, .cells true 1 m (.fn fun k => [iT (↑(u k) : Int)])), (11, ABk.mSI true zl), (12, .cells true 8 n (.fn fun j => (elR (E j))))] e fr' H'))) := cD (fun q0 t0 => rdS [tT] (I2 t0 (ai x0 (ai x1 (ai x2 x3)))) hB) (fun q0 t0 => cD (fun q1 t1 => rdS [fF, tT] (I3 t0 t1 (ai x0 (ai x1 (ai x2 x3)))) hB) (fun q1 t1 => rdS [fF, fF] (I2 t0 t1) hB))
theorem voG (B : Nat) (hB : B ≤ 13) (n m i : Nat) (u : Nat → Nat) (E : tE) (zl : List (List UInt8 × Int)) (b : Bool) : GoesB Try.prog ((nav [1,1,1,0,1,0,0,1,1,0,0,1,1] (bodyOf Try.f15))) Try.f15.ntmps B 13 13 (frL [(3, .ptr ⟨false, 9, 0, 0⟩), (11, sL 12 n), (12, iT (n : Int)), (13, iT (i : Int)), (33, .sbool b)]) (hpL [(9, .cells true 2 1 (.fn fun _ => [.mp 11, sL 10 m])), (10, .cells true 1 m (.fn fun k => [iT ((u k : Nat) : Int)])), (11, .mSI true zl), (12, .cells true 8 n (.fn fun j => elR (E j)))]) fun e fr' H' => (cond (b) (pP .ret [(2, .bool true), (3, .ptr ⟨false, 9, 0, 0⟩), (11, sL 12 n), (12, iT (↑n : Int)), (13, iT (↑i : Int))] [(9, .cells true 2 1 (.fn fun x => [.mp 11, sL 10 m])), (10, .cells true 1 m (.fn fun k => [iT (↑(u k) : Int)])), (11, ABk.mSI true zl), (12, .cells true 8 n (.fn fun j => (elR (E j))))] e fr' H') (pP .normal [(3, .ptr ⟨false, 9, 0, 0⟩), (11, sL 12 n), (12, iT (↑n : Int)), (13, iT (↑i : Int))] [(9, .cells true 2 1 (.fn fun x => [.mp 11, sL 10 m])), (10, .cells true 1 m (.fn fun k => [iT (↑(u k) : Int)])), (11, ABk.mSI true zl), (12, .cells true 8 n (.fn fun j => (elR (E j))))] e fr' H')) := cI (fun t0 => rdS [tT] (I1 t0) hB) (fun t0 => rdS [fF] (I1 t0) hB)
theorem voH (B : Nat) (hB : B ≤ 13) (n m i : Nat) (u : Nat → Nat) (E : tE) (zl : List (List UInt8 × Int)) (x0 : ((↑i : Int) + 1 ≤ (9223372036854775807 : Int))) : GoesB Try.prog ((nav [1,1,1,0,1,0,0,1,1,1] (bodyOf Try.f15))) Try.f15.ntmps B 13 13 (frL [(3, .ptr ⟨false, 9, 0, 0⟩), (11, sL 12 n), (12, iT (n : Int)), (13, iT (i : Int))]) (hpL [(9, .cells true 2 1 (.fn fun _ => [.mp 11, sL 10 m])), (10, .cells true 1 m (.fn fun k => [iT ((u k : Nat) : Int)])), (11, .mSI true zl), (12, .cells true 8 n (.fn fun j => elR (E j)))]) (pP .normal [(3, .ptr ⟨false, 9, 0, 0⟩), (11, sL 12 n), (12, iT (↑n : Int)), (13, iT ((↑i : Int) + 1))] [(9, .cells true 2 1 (.fn fun x => [.mp 11, sL 10 m])), (10, .cells true 1 m (.fn fun k => [iT (↑(u k) : Int)])), (11, ABk.mSI true zl), (12, .cells true 8 n (.fn fun j => (elR (E j))))]) := rdS [] (I1 (ai (show -9223372036854775808 ≤ (↑i : Int) + 1 by omega) x0)) hB
theorem voI (B : Nat) (hB : B ≤ 13) (n m i : Nat) (u : Nat → Nat) (E : tE) (zl : List (List UInt8 × Int)) : GoesB Try.prog ((nav [1,1,1,1] (bodyOf Try.f15))) Try.f15.ntmps B 13 13 (frL [(3, .ptr ⟨false, 9, 0, 0⟩), (11, sL 12 n), (12, iT (n : Int)), (13, iT (i : Int))]) (hpL [(9, .cells true 2 1 (.fn fun _ => [.mp 11, sL 10 m])), (10, .cells true 1 m (.fn fun k => [iT ((u k : Nat) : Int)])), (11, .mSI true zl), (12, .cells true 8 n (.fn fun j => elR (E j)))]) (pP .ret [(2, .bool false)] [(9, .cells true 2 1 (.fn fun x => [.mp 11, sL 10 m]))]) := rdS [] trivial hB
/-- is it a Voltage or an Amplifier? -/
def vsel (z : El) : Bool := decide (z.k = 5) || decide (z.k = 7)
/-- their ends, of the first so many elements -/
def vl (E : tE) : Nat → List (Tx × Tx)
 | 0 => []
 | i + 1 => bif vsel (E i) then vl E i ++ [((E i).a, (E i).b)] else vl E i
/-- element i closes a loop -/
def vfail (zl : tM) (E : tE) (i : Nat) : Bool := vsel (E i) && decide (cls (plc zl) (vl E i) (E i).a = cls (plc zl) (vl E i) (E i).b)
theorem uO_row {m : Nat} {u : Nat → Nat} {j : Nat} (hj : j < m) : uO m (Cont.row (.fn fun k => [iT ((u k : Nat) : Int)])) j = u j := by
 unfold uO
 rw [if_pos hj]
 show ((u j : Nat) : Int).toNat = u j
 omega
theorem root_uO {m : Nat} {u : Nat → Nat} (hu : ∀ j, u j ≤ j) {x : Nat} (hx : x < m) : root (uO m (Cont.row (.fn fun k => [iT ((u k : Nat) : Int)]))) x = root u x :=
 (root_congr hu fun j hj => (uO_row (by omega)).symm).symm
theorem jn_uO {m : Nat} {u : Nat → Nat} (hu : ∀ j, u j ≤ j) {x y k : Nat} (hx : x < m) (hy : y < m) (hk : k < m) : jn (uO m (Cont.row (.fn fun k => [iT ((u k : Nat) : Int)]))) x y k = jn u x y k := by
 unfold jn
 rw [root_uO hu hx, root_uO hu hy, uO_row hk]
end Go.Proofs.Ytgjdeclenlgaeaa
