/- GraphRounds: returns true for every input; no conditions. By the engine's runs, checked by the kernel. -/
import Derived.Test.YtgjdeclenlgaeaaRows
import Derived.ProofKit
import Derived.OpenShut
import Derived.KernelRfl
import Derived.SizedLaws
import Derived.Carry
import Derived.ChangeMaps5
import Derived.Test.YtgjdeclenlgaeaaGraphRoundsPC
namespace Go.Proofs.Ytgjdeclenlgaeaa
open Go.ChangeShapes Go.WideShapes Go.ChangeAt Go.RowKit Go.Sx
set_option linter.unusedVariables false
set_option linter.unusedSimpArgs false
set_option maxRecDepth 100000

theorem own : ownKnob Try.prog.godebug = none := by kernel_rfl
theorem laidOut : laidOutB Try.prog = true := by kernel_rfl
theorem zrG (B : Nat) (hB : B ≤ 10) (t s : Nat) (h : Nat → List UInt8) (lf : Nat → Nat → List UInt8) (M1 M2 M3 M4 M5 M6 : List (List UInt8 × Int)) (nd br nd2 br2 : Nat → List UInt8) : GoesB Try.prog ((nav [1,1,1,1,1,1,0,0] (bodyOf Try.f8))) Try.f8.ntmps B 10 10 (frL [(3, .bool true), (4, ZA 2), (6, sL 1 t), (7, sL 9 s)]) (hpL []) (pP .normal [(3, .bool true), (4, ZA 2), (6, sL 1 t), (7, sL 9 s), (8, Zc)] []) := rdO [] trivial hB
noncomputable abbrev ZDi (v0 v1 v2 : Nat) (w0 w1 w2) := frL [(3, .bool true), (4, ZA 2), (6, sL 1 v0), (w0, sL w1 v1), (w2, iT (v2 : Int))]
noncomputable abbrev ZEI (v0 v1 v2 : Nat) (w0 w1 w2) := ([(3, .bool true), (4, ZA 2), (6, sL 1 v0), (w0, sL w1 v1), (w2, ZEt v2)] : tF)
theorem zrH (B : Nat) (hB : B ≤ 10) (t s i : Nat) (h : Nat → List UInt8) (lf : Nat → Nat → List UInt8) (M1 M2 M3 M4 M5 M6 : List (List UInt8 × Int)) (nd br nd2 br2 : Nat → List UInt8) : GoesB Try.prog ((nav [1,1,1,1,1,1,0,1,0,0,0] (bodyOf Try.f8))) Try.f8.ntmps B 10 10 (ZDi t s i 7 9 8) (hpL []) fun e fr' H' => (cond (decide ((↑i : Int) < (↑s : Int))) (pP .normal (ZEI t s i 7 9 8) [] e fr' H') (pP (.exit 0) (ZEI t s i 7 9 8) [] e fr' H')) := cD (fun q0 t0 => rdO [tT] (I1 t0) hB) (fun q0 t0 => rdO [fF] (I1 t0) hB)
theorem zrI (B : Nat) (hB : B ≤ 10) (n q r t s i j : Nat) (E : tE) (h : Nat → List UInt8) (ln : Nat → Nat) (lf : Nat → Nat → List UInt8) (M1 M2 M3 M4 M5 M6 : List (List UInt8 × Int)) (nd br nd2 br2 : Nat → List UInt8) (x0 : ((↑i : Int) < (↑s : Int))) (x1 : (0 + i < s)) (x2 : ((decide ((↑(ln (0 + i)) : Int) < 2)) = false → (NetQ n q r n q r M1 M2 M3 (Cont.row (.fn fun j => elR (E j))) (Cont.row (.fn (txR nd))) (Cont.row (.fn (txR br)))))) (x3 : ((decide ((↑(ln (0 + i)) : Int) < 2)) = false → (RndQ n (rowsE (Cont.row (.fn fun j => elR (E j)))) (ln (0 + i)) (lf (0 + i)) t t (Cont.row (.fn (txR h)))))) : GoesB Try.prog ((nav [1,1,1,1,1,1,0,1,0,0,1,0,0,0] (bodyOf Try.f8))) Try.f8.ntmps B 10 10 (ZDi t s i 7 9 8) (hpL [(2, ZY n q r), (3, .mSI true M1), (4, .mSI true M2), (5, .mSI true M3), (6, ZB n E), (7, ZI q nd), (8, ZI r br), (1, ZP t h), (9, Zp s ln lf)]) fun e fr' H' => (cond (decide ((↑(ln (0 + i)) : Int) < 2)) (pP .ret [(2, .bool false), (3, .bool true), (4, ZA 2), (6, sL 1 t), (7, sL 9 s), (8, iT (↑i : Int))] [(2, ZX n q r), (3, Zd M1), (4, Zd M2), (5, Zd M3), (6, ZQ n E), (7, ZI q nd), (8, ZI r br), (1, ZP t h), (9, Zp s ln lf)] e fr' H') (pP .normal (ZEI t s i 7 9 8) [(2, ZX n q r), (3, Zx E n), (4, Zy E n), (5, Zz E n), (6, ZQ n E), (7, ZI q nd), (8, ZI r br), (1, ZP t h), (9, Zp s ln lf)] e fr' H')) := cD (fun q0 t0 => rdO [tT] (I3 (ai (show 0 ≤ (↑i : Int) by omega) x0) x1 t0) hB) (fun q0 t0 => rdO [fF] (I7 (ai (show 0 ≤ (↑i : Int) by omega) x0) x1 t0 (ai (show 0 ≤ (↑i : Int) by omega) x0) x1 (x2 t0) (x3 t0)) hB)
theorem zrJ (B : Nat) (hB : B ≤ 10) (t s i : Nat) (h : Nat → List UInt8) (lf : Nat → Nat → List UInt8) (M1 M2 M3 M4 M5 M6 : List (List UInt8 × Int)) (nd br nd2 br2 : Nat → List UInt8) : GoesB Try.prog ((nav [1,1,1,1,1,1,0,1,0,0,1,0,0,1,0] (bodyOf Try.f8))) Try.f8.ntmps B 10 10 (ZDi t s i 7 9 8) (hpL []) (pP .normal [(3, .bool true), (4, ZA 2), (6, sL 1 t), (7, sL 9 s), (8, iT (↑i : Int)), (9, Zc)] []) := rdO [] trivial hB
noncomputable abbrev ZEU (v0 v1 v2 v3 : Nat) := frL [(3, .bool true), (4, ZA 2), (6, sL 1 v0), (7, sL 9 v1), (8, iT (v2 : Int)), (9, iT (v3 : Int))]
noncomputable abbrev ZEa (v0 v1 v2 v3 : Nat) := ([(3, .bool true), (4, ZA 2), (6, sL 1 v0), (7, sL 9 v1), (8, ZEt v2), (9, ZEt v3)] : tF)
theorem zrK (B : Nat) (hB : B ≤ 10) (t s i j : Nat) (h : Nat → List UInt8) (lf : Nat → Nat → List UInt8) (M1 M2 M3 M4 M5 M6 : List (List UInt8 × Int)) (nd br nd2 br2 : Nat → List UInt8) : GoesB Try.prog ((nav [1,1,1,1,1,1,0,1,0,0,1,0,0,1,1,0,0,0] (bodyOf Try.f8))) Try.f8.ntmps B 10 10 (ZEU t s i j) (hpL []) fun e fr' H' => (cond (decide ((↑j : Int) < (↑t : Int))) (pP .normal (ZEa t s i j) [] e fr' H') (pP (.exit 2) (ZEa t s i j) [] e fr' H')) := cD (fun q0 t0 => rdO [tT] (I1 t0) hB) (fun q0 t0 => rdO [fF] (I1 t0) hB)
theorem zrL (B : Nat) (hB : B ≤ 10) (t s i j : Nat) (h : Nat → List UInt8) (ln : Nat → Nat) (lf : Nat → Nat → List UInt8) (M1 M2 M3 M4 M5 M6 : List (List UInt8 × Int)) (nd br nd2 br2 : Nat → List UInt8) (x0 : ((↑j : Int) < (↑t : Int))) (x1 : (0 + j < t)) (x2 : ((↑i : Int) < (↑s : Int))) (x3 : (0 + i < s)) (x4 : (0 < (↑(ln (0 + i)) : Int))) : GoesB Try.prog ((nav [1,1,1,1,1,1,0,1,0,0,1,0,0,1,1,0,0,1,0,0] (bodyOf Try.f8))) Try.f8.ntmps B 10 10 (ZEU t s i j) (hpL [(1, ZP t h), (9, Zp s ln lf)]) fun e fr' H' => (cond (h (0 + j) == lf (0 + i) 0) (pP .ret [(2, .bool false), (3, .bool true), (4, ZA 2), (6, sL 1 t), (7, sL 9 s), (8, iT (↑i : Int)), (9, iT (↑j : Int))] [(1, ZP t h), (9, Zp s ln lf)] e fr' H') (pP .normal (ZEa t s i j) [(1, ZP t h), (9, Zp s ln lf)] e fr' H')) := cI (fun t0 => rdO [tT] (I6 (ai (show 0 ≤ (↑j : Int) by omega) x0) x1 (ai (show 0 ≤ (↑i : Int) by omega) x2) x3 (ai (show (0 : Int) ≤ 0 by omega) x4) t0) hB) (fun t0 => rdO [fF] (I6 (ai (show 0 ≤ (↑j : Int) by omega) x0) x1 (ai (show 0 ≤ (↑i : Int) by omega) x2) x3 (ai (show (0 : Int) ≤ 0 by omega) x4) t0) hB)
theorem zrM (B : Nat) (hB : B ≤ 10) (t s i j : Nat) (h : Nat → List UInt8) (lf : Nat → Nat → List UInt8) (M1 M2 M3 M4 M5 M6 : List (List UInt8 × Int)) (nd br nd2 br2 : Nat → List UInt8) (x0 : ((↑j : Int) + 1 ≤ (9223372036854775807 : Int))) : GoesB Try.prog ((nav [1,1,1,1,1,1,0,1,0,0,1,0,0,1,1,0,0,1,1] (bodyOf Try.f8))) Try.f8.ntmps B 10 10 (ZEU t s i j) (hpL []) (pP .normal [(3, .bool true), (4, ZA 2), (6, sL 1 t), (7, sL 9 s), (8, iT (↑i : Int)), (9, ZBw j)] []) := rdO [] (I1 (ai (show -9223372036854775808 ≤ (↑j : Int) + 1 by omega) x0)) hB
theorem zrN (B : Nat) (hB : B ≤ 10) (t s i : Nat) (h : Nat → List UInt8) (lf : Nat → Nat → List UInt8) (M1 M2 M3 M4 M5 M6 : List (List UInt8 × Int)) (nd br nd2 br2 : Nat → List UInt8) (x0 : ((↑i : Int) + 1 ≤ (9223372036854775807 : Int))) : GoesB Try.prog ((nav [1,1,1,1,1,1,0,1,0,0,1,1] (bodyOf Try.f8))) Try.f8.ntmps B 10 10 (ZDi t s i 7 9 8) (hpL []) (pP .normal [(3, .bool true), (4, ZA 2), (6, sL 1 t), (7, sL 9 s), (8, ZBw i)] []) := rdO [] (I1 (ai (show -9223372036854775808 ≤ (↑i : Int) + 1 by omega) x0)) hB
theorem zrO (B : Nat) (hB : B ≤ 10) (t : Nat) (h : Nat → List UInt8) (lf : Nat → Nat → List UInt8) (M1 M2 M3 M4 M5 M6 : List (List UInt8 × Int)) (nd br nd2 br2 : Nat → List UInt8) : GoesB Try.prog ((nav [1,1,1,1,1,1,1,0] (bodyOf Try.f8))) Try.f8.ntmps B 10 10 (frL [(3, .bool true), (4, ZA 2), (6, sL 1 t)]) (hpL []) (pP .normal [(3, .bool true), (4, ZA 2), (6, sL 1 t), (10, .nils)] []) := rdO [] trivial hB
theorem zrP (B : Nat) (hB : B ≤ 11) (t : Nat) (h : Nat → List UInt8) (lf : Nat → Nat → List UInt8) (M1 M2 M3 M4 M5 M6 : List (List UInt8 × Int)) (nd br nd2 br2 : Nat → List UInt8) : GoesB Try.prog ((nav [1,1,1,1,1,1,1,1,0,0] (bodyOf Try.f8))) Try.f8.ntmps B 11 11 (frL [(3, .bool true), (4, ZA 2), (6, sL 1 t), (10, sL 10 0)]) (hpL []) (pP .normal [(3, .bool true), (4, ZA 2), (6, sL 1 t), (10, sL 10 0), (11, Zc)] []) := rdO [] trivial hB
theorem zrQ (B : Nat) (hB : B ≤ 11) (t k i : Nat) (h : Nat → List UInt8) (lf : Nat → Nat → List UInt8) (M1 M2 M3 M4 M5 M6 : List (List UInt8 × Int)) (nd br nd2 br2 : Nat → List UInt8) : GoesB Try.prog ((nav [1,1,1,1,1,1,1,1,0,1,0,0,0] (bodyOf Try.f8))) Try.f8.ntmps B 11 11 (ZDi t k i 10 10 11) (hpL []) fun e fr' H' => (cond (decide ((↑i : Int) < (↑t : Int))) (pP .normal (ZEI t k i 10 10 11) [] e fr' H') (pP (.exit 4) (ZEI t k i 10 10 11) [] e fr' H')) := cD (fun q0 t0 => rdO [tT] (I1 t0) hB) (fun q0 t0 => rdO [fF] (I1 t0) hB)
noncomputable abbrev ZCF := nav [1,1,1,1,1,1,1,1,0,1,0,0,1,0,0,0] (bodyOf Try.f8)
theorem zrR (B : Nat) (hB : B ≤ 11) (n q r t k i j : Nat) (E : tE) (h : Nat → List UInt8) (lf : Nat → Nat → List UInt8) (M1 M2 M3 M4 M5 M6 : List (List UInt8 × Int)) (nd br nd2 br2 : Nat → List UInt8) (x0 : ((↑i : Int) < (↑t : Int))) (x1 : (0 + i < t)) (x2 : ((Option.isSome (lfind seq (h (0 + i)) M1)) = true → ((0 : Int) ≤ Option.getD (lfind seq (h (0 + i)) M1) (0 : Int)))) (x3 : ((Option.isSome (lfind seq (h (0 + i)) M1)) = true → (Option.getD (lfind seq (h (0 + i)) M1) 0 < (↑n : Int)))) (x4 : ((Option.isSome (lfind seq (h (0 + i)) M1)) = true → (0 + Int.toNat (Option.rec (0 : Int) (fun val => val) (lfind seq (h (0 + i)) M1)) < n))) : GoesB Try.prog ZCF Try.f8.ntmps B 11 15 (frL [(3, .bool true), (4, .ptr ⟨false, 2, 0, 0⟩), (6, sL 1 t), (10, sL 10 k), (11, iT (i : Int))]) (hpL [(2, .cells false 7 1 (.fn fun _ => netR 6 7 8 n q r)), (3, .mSI true M1), (4, .mSI true M2), (5, .mSI true M3), (6, .cells false 8 n (.fn fun j => elR (E j))), (7, .cells false 1 q (.fn (txR nd))), (8, .cells false 1 r (.fn (txR br))), (1, .cells true 1 t (.fn (txR h)))]) fun e fr' H' => (cond (Option.isSome (lfind seq (h (0 + i)) M1)) (pP .normal [(3, .bool true), (4, .ptr ⟨false, 2, 0, 0⟩), (6, sL 1 t), (10, sL 10 k), (11, iT (↑i : Int)), (12, .ptr ⟨false, 12, 0, 0⟩), (13, .bool true)] [(2, .cells false 7 1 (.fn fun x => (netR 6 7 8 n q r))), (3, ABk.mSI true M1), (4, ABk.mSI true M2), (5, ABk.mSI true M3), (6, .cells false 8 n (.fn fun j => (elR (E j)))), (7, .cells false 1 q (.fn (txR nd))), (8, .cells false 1 r (.fn (txR br))), (1, .cells true 1 t (.fn (txR h))), (11, .cells true 8 1 (.lit [] (T.n T.e (Option.some (elR (E (0 + Int.toNat (Option.getD (lfind seq (h (0 + i)) M1) (0 : Int)))))) T.e))), (12, .cells true 8 1 (.lit [] (T.n T.e (Option.some (elR (E (0 + Int.toNat (Option.getD (lfind seq (h (0 + i)) M1) (0 : Int)))))) T.e)))] e fr' H') (pP .normal [(3, .bool true), (4, .ptr ⟨false, 2, 0, 0⟩), (6, sL 1 t), (10, sL 10 k), (11, iT (↑i : Int)), (12, .ptr ⟨false, 12, 0, 0⟩), (13, .bool false)] [(2, .cells false 7 1 (.fn fun x => (netR 6 7 8 n q r))), (3, ABk.mSI true M1), (4, ABk.mSI true M2), (5, ABk.mSI true M3), (6, .cells false 8 n (.fn fun j => (elR (E j)))), (7, .cells false 1 q (.fn (txR nd))), (8, .cells false 1 r (.fn (txR br))), (1, .cells true 1 t (.fn (txR h))), (11, .cells true 8 1 (.lit [] (.n .e (some [.int false .u8 0, .str false [], .str false [], .str false [], .str false [], .str false [], .flt false 0, .int false .i64 0]) .e))), (12, .cells true 8 1 (.lit [] (.n .e (some [.int false .u8 0, .str false [], .str false [], .str false [], .str false [], .str false [], .flt false 0, .int false .i64 0]) .e)))] e fr' H')) := cI (fun t0 => rdO [fF] (I6 (ai (show 0 ≤ (↑i : Int) by omega) x0) x1 (nt t0) (ai (x2 t0) (x3 t0)) (x4 t0) (show 8 ≤ 8 by omega)) hB) (fun t0 => rdO [tT] (I3 (ai (show 0 ≤ (↑i : Int) by omega) x0) x1 (nf t0)) hB)
theorem zrS (B : Nat) (hB : B ≤ 12) (t k i : Nat) (h : Nat → List UInt8) (lf : Nat → Nat → List UInt8) (M1 M2 M3 M4 M5 M6 : List (List UInt8 × Int)) (nd br nd2 br2 : Nat → List UInt8) : GoesB Try.prog ((nav [1,1,1,1,1,1,1,1,0,1,0,0,1,0,0,1,0] (bodyOf Try.f8))) Try.f8.ntmps B 12 12 (frL [(3, .bool true), (4, ZA 2), (6, sL 1 t), (10, sL 10 k), (11, iT (i : Int)), (12, ZA 11), (13, .bool true)]) (hpL []) (pP .normal [(3, .bool true), (4, ZA 2), (6, sL 1 t), (10, sL 10 k), (11, iT (↑i : Int)), (12, ZA 11)] []) := rdO [] trivial hB
theorem zrT (B : Nat) (hB : B ≤ 12) (t k i j : Nat) (O : tE) (y : El) (h : Nat → List UInt8) (lf : Nat → Nat → List UInt8) (M1 M2 M3 M4 M5 M6 : List (List UInt8 × Int)) (nd br nd2 br2 : Nat → List UInt8) (x0 : ((k + 1) * 104 ≤ 140737488355328)) (x1 : (k + 1 ≤ 9223372036854775807)) : GoesB Try.prog ((nav [1,1,1,1,1,1,1,1,0,1,0,0,1,0,0,1,1] (bodyOf Try.f8))) Try.f8.ntmps B 12 14 (frL [(3, .bool true), (4, ZA 2), (6, sL 1 t), (10, sL 10 k), (11, iT (i : Int)), (12, ZA 11)]) (hpL [(10, ZG k O), (11, ZR y)]) (pP .normal [(3, .bool true), (4, ZA 2), (6, sL 1 t), (10, sL 13 (k + 1)), (11, iT (↑i : Int))] [(13, .cells true 8 (k + 1) (.fn fun j => bif decide (j < k) then (elR (O j)) else (elR y)))]) := rdO [] (I1 (ai (show k ≤ k by omega) (ai x0 x1))) hB
theorem zrU (B : Nat) (hB : B ≤ 11) (t k i : Nat) (h : Nat → List UInt8) (lf : Nat → Nat → List UInt8) (M1 M2 M3 M4 M5 M6 : List (List UInt8 × Int)) (nd br nd2 br2 : Nat → List UInt8) (x0 : ((↑i : Int) + 1 ≤ (9223372036854775807 : Int))) : GoesB Try.prog ((nav [1,1,1,1,1,1,1,1,0,1,0,0,1,1] (bodyOf Try.f8))) Try.f8.ntmps B 11 11 (ZDi t k i 10 10 11) (hpL []) (pP .normal [(3, .bool true), (4, ZA 2), (6, sL 1 t), (10, sL 10 k), (11, ZBw i)] []) := rdO [] (I1 (ai (show -9223372036854775808 ≤ (↑i : Int) + 1 by omega) x0)) hB
noncomputable abbrev ZEH (v0 : Nat) := ([(3, .bool true), (10, sL 10 v0), (14, ZA 17), (15, ZA 18)] : tF)
theorem zrV (B : Nat) (hB : B ≤ 11) (k j : Nat) (O : tE) (h : Nat → List UInt8) (lf : Nat → Nat → List UInt8) (M1 M2 M3 M4 M5 M6 : List (List UInt8 × Int)) (nd br nd2 br2 : Nat → List UInt8) (x0 : (PEQ k fun j => (elR (O (0 + j))))) : GoesB Try.prog ((nav [1,1,1,1,1,1,1,1,1,0] (bodyOf Try.f8))) Try.f8.ntmps B 11 19 (frL [(3, .bool true), (4, .ptr ⟨false, 2, 0, 0⟩), (10, sL 10 k)]) (hpL [(10, .cells true 8 k (.fn fun j => elR (O j)))]) fun e fr' H' => (cond (decide (Prod.fst (ofX (rowsE fun j => (elR (O (0 + j)))) k) = (0 : Int))) (pP .normal [(3, .bool true), (10, sL 10 k), (14, .ptr ⟨false, 17, 0, 0⟩), (15, .ptr ⟨false, 18, 0, 0⟩)] [(10, .cells true 8 k (.fn fun j => (elR (O j)))), (11, ABk.mSI true (zipF 0 (NM (rowsE (rowsOf ⟨false, 10, 0, 0⟩ 8 8 (.fn fun j => elR (O j)))) k))), (12, ABk.mSI true (zipF 0 (ND (rowsE (rowsOf ⟨false, 10, 0, 0⟩ 8 8 (.fn fun j => elR (O j)))) k))), (13, ABk.mSI true (zipF 0 (BR (rowsE (rowsOf ⟨false, 10, 0, 0⟩ 8 8 (.fn fun j => elR (O j)))) k))), (14, .cells true 8 k (.fn fun j => (elR (O (0 + j))))), (15, .cells true 1 (List.length (ND (rowsE (rowsOf ⟨false, 10, 0, 0⟩ 8 8 (.fn fun j => elR (O j)))) k)) (.fn fun j => [.str true (lget (ND (rowsE (rowsOf ⟨false, 10, 0, 0⟩ 8 8 (.fn fun j => elR (O j)))) k) j)])), (16, .cells true 1 (List.length (BR (rowsE (rowsOf ⟨false, 10, 0, 0⟩ 8 8 (.fn fun j => elR (O j)))) k)) (.fn fun j => [.str true (lget (BR (rowsE (rowsOf ⟨false, 10, 0, 0⟩ 8 8 (.fn fun j => elR (O j)))) k) j)])), (17, .cells true 7 1 (.fn fun x => [.bool true, sL 14 k, AV.mp 11, sL 15 (List.length (ND (rowsE fun j => (elR (O (0 + j)))) k)), AV.mp 12, sL 16 (List.length (BR (rowsE fun j => (elR (O (0 + j)))) k)), AV.mp 13])), (18, .cells true 2 1 (.lit [] (.n .e (some [.int false .i64 0, .int false .i64 0]) .e)))] e fr' H') (pP .normal [(3, .bool true), (10, sL 10 k), (14, .nilp), (15, .ptr ⟨false, 11, 0, 0⟩)] [(10, .cells true 8 k (.fn fun j => (elR (O j)))), (11, .cells true 2 1 (.lit [] (.n .e (some [iT (Prod.fst (ofX (rowsE (rowsOf ⟨false, 10, 0, 0⟩ 8 8 (.fn fun j => elR (O j)))) k)), iT (Prod.snd (ofX (rowsE (rowsOf ⟨false, 10, 0, 0⟩ 8 8 (.fn fun j => elR (O j)))) k))]) .e)))] e fr' H')) := cD (fun q0 t0 => rdO [tT] (I3 (show 0 + k ≤ k by omega) x0 t0) hB) (fun q0 t0 => rdO [fF] (I3 (show 0 + k ≤ k by omega) x0 t0) hB)
noncomputable abbrev ZCd := nav [1,1,1,1,1,1,1,1,1,1] (bodyOf Try.f8)
noncomputable abbrev ZCj (v0 : Nat) (v1 : Nat → List UInt8) := (.cells true 1 (v0) (.fn (txR v1)) : ABk)
noncomputable abbrev ZCt (v0 v1 v2 : Nat) := (.cells true 7 1 (.fn fun _ => netG 11 12 13 14 15 16 v0 v1 v2) : ABk)
noncomputable abbrev ZEr (v0 v1 v2 : List (List UInt8 × Int)) (v3 : Nat) (v4 : tE) (v5 : Nat) (v6 : Nat → List UInt8) (v7 : Nat) (v8 : Nat → List UInt8) := hpL [(11, .mSI true v0), (12, .mSI true v1), (13, .mSI true v2), (14, Zb v3 v4), (15, ZCj v5 v6), (16, ZCj v7 v8), (17, ZCt v3 v5 v7), (18, ZDh)]
theorem zrZ_r0 (k j q2 r2 : Nat) (O : tE) (M4 M5 M6 : List (List UInt8 × Int)) (nd2 br2 : Nat → List UInt8) (c0 : decide ((↑k : Int) = 0) = true) : PieceN 20 (Ex.ret) [(2, .bool true)] [] (piececallO Try.f8 (ZCd) (frL (ZEH k)) (ZEr M4 M5 M6 k O q2 nd2 r2 br2) 19 [true]) := eN (I1 c0)
theorem zrZ_r1 (k j q2 r2 : Nat) (O : tE) (M4 M5 M6 : List (List UInt8 × Int)) (nd2 br2 : Nat → List UInt8) (c0 : decide ((↑k : Int) = 0) = false) (c1 : NetQ k q2 r2 k q2 r2 M4 M5 M6 (Cont.row (.fn fun j => elR (O j))) (Cont.row (.fn (txR nd2))) (Cont.row (.fn (txR br2)))) (c2 : decide ((↑(List.length (restL (rowsE (Cont.row (.fn fun j => elR (O j)))) k)) : Int) = 0) = true) (c3 : NetQ k q2 r2 k q2 r2 (zipF 0 (NM (rowsE (Cont.row (.fn fun j => elR (O j)))) k)) (zipF 0 (ND (rowsE (Cont.row (.fn fun j => elR (O j)))) k)) (zipF 0 (BR (rowsE (Cont.row (.fn fun j => elR (O j)))) k)) (Cont.row (.fn fun j => elR (O j))) (Cont.row (.fn (txR nd2))) (Cont.row (.fn (txR br2)))) : PieceN 20 (Ex.ret) [(2, .sbool !voltB (rowsE (Cont.row (.fn fun j => elR (O j)))) k)] [] (piececallO Try.f8 (ZCd) (frL (ZEH k)) (ZEr M4 M5 M6 k O q2 nd2 r2 br2) 19 [false, true]) := eN (I4 c0 c1 c2 c3)
theorem zrZ_r2 (k j q2 r2 : Nat) (O : tE) (M4 M5 M6 : List (List UInt8 × Int)) (nd2 br2 : Nat → List UInt8) (c0 : decide ((↑k : Int) = 0) = false) (c1 : NetQ k q2 r2 k q2 r2 M4 M5 M6 (Cont.row (.fn fun j => elR (O j))) (Cont.row (.fn (txR nd2))) (Cont.row (.fn (txR br2)))) (c2 : decide ((↑(List.length (restL (rowsE (Cont.row (.fn fun j => elR (O j)))) k)) : Int) = 0) = false) : PieceN 20 (Ex.ret) [(2, .bool false)] [] (piececallO Try.f8 (ZCd) (frL (ZEH k)) (ZEr M4 M5 M6 k O q2 nd2 r2 br2) 19 [false, false]) := eN (I3 c0 c1 c2)
theorem zrZ (B : Nat) (hB : B ≤ 19) (k j q2 r2 : Nat) (T O : tE) (h : Nat → List UInt8) (lf : Nat → Nat → List UInt8) (M1 M2 M3 M4 M5 M6 : List (List UInt8 × Int)) (nd br nd2 br2 : Nat → List UInt8) (x0 : ((decide ((↑k : Int) = 0)) = false → (NetQ k q2 r2 k q2 r2 M4 M5 M6 (Cont.row (.fn fun j => elR (O j))) (Cont.row (.fn (txR nd2))) (Cont.row (.fn (txR br2)))))) (x1 : ((decide ((↑k : Int) = 0)) = false → ((decide ((↑(List.length (restL (rowsE (Cont.row (.fn fun j => elR (O j)))) k)) : Int) = 0)) = true → (NetQ k q2 r2 k q2 r2 (zipF 0 (NM (rowsE (Cont.row (.fn fun j => elR (O j)))) k)) (zipF 0 (ND (rowsE (Cont.row (.fn fun j => elR (O j)))) k)) (zipF 0 (BR (rowsE (Cont.row (.fn fun j => elR (O j)))) k)) (Cont.row (.fn fun j => elR (O j))) (Cont.row (.fn (txR nd2))) (Cont.row (.fn (txR br2))))))) : GoesB Try.prog ZCd Try.f8.ntmps B 19 20 (frL [(3, .bool true), (10, sL 10 k), (14, .ptr ⟨false, 17, 0, 0⟩), (15, .ptr ⟨false, 18, 0, 0⟩)]) (hpL [(11, .mSI true M4), (12, .mSI true M5), (13, .mSI true M6), (14, .cells true 8 (k) (.fn fun j => elR (O j))), (15, .cells true 1 (q2) (.fn (txR nd2))), (16, .cells true 1 (r2) (.fn (txR br2))), (17, .cells true 7 1 (.fn fun _ => netG 11 12 13 14 15 16 k q2 r2)), (18, .cells true 2 1 (.fn fun _ => [.int false .i64 0, .int false .i64 0]))]) fun e fr' H' => (cond (decide ((↑k : Int) = 0)) (e = .ret ∧ fr' = frL [(2, .bool true)] ∧ H' = hpL []) (cond (decide ((↑(List.length (restL (rowsE (Cont.row (.fn fun j => elR (O j)))) k)) : Int) = 0)) (e = .ret ∧ fr' = frL [(2, .sbool !voltB (rowsE (Cont.row (.fn fun j => elR (O j)))) k)] ∧ H' = hpL []) (e = .ret ∧ fr' = frL [(2, .bool false)] ∧ H' = hpL []))) := by
 cases t0 : decide ((↑k : Int) = 0) with
 | true =>
  exact (rcO (zrZ_r0 k j q2 r2 O M4 M5 M6 nd2 br2 t0) hB).mono fun e fr' H' h => by first | (simp only [t0, cond_true, cond_false]; exact h) | (simp only [t0, cond_true, cond_false] at h ⊢; exact h)
 | false =>
  cases t1 : decide ((↑(List.length (restL (rowsE (Cont.row (.fn fun j => elR (O j)))) k)) : Int) = 0) with
  | true =>
   exact (rcO (zrZ_r1 k j q2 r2 O M4 M5 M6 nd2 br2 t0 (x0 t0) t1 (x1 t0 t1)) hB).mono fun e fr' H' h => by first | (simp only [t0, t1, cond_true, cond_false]; exact h) | (simp only [t0, t1, cond_true, cond_false] at h ⊢; exact h)
  | false =>
   exact (rcO (zrZ_r2 k j q2 r2 O M4 M5 M6 nd2 br2 t0 (x0 t0) t1) hB).mono fun e fr' H' h => by first | (simp only [t0, t1, cond_true, cond_false]; exact h) | (simp only [t0, t1, cond_true, cond_false] at h ⊢; exact h)


/-! ### ways in a forest -/
section
variable {α : Type} {T : List (α × α)}
theorem Way.app : ∀ {l1 l2 : List Nat} {a b c : α}, Way T a l1 b → Way T b l2 c → (∀ i j, l1.getLast? = some i → l2.head? = some j → j ≠ i) → Way T a (l1 ++ l2) c
 | [], l2, a, b, c, h1, h2, _ => by cases h1; exact h2
 | x :: l1, l2, a, b, c, h1, h2, hn => by
  cases h1 with
  | cons g w nb =>
   refine .cons g (w.app h2 fun i j hi hj => hn i j ?_ hj) fun j hj => ?_
   ·cases l1 with
    | nil => simp at hi
    | cons y l => rw [List.getLast?_cons_cons]; exact hi
   ·cases l1 with
    | nil => exact hn x j (by simp) (by simpa using hj)
    | cons y l => exact nb j (by simpa using hj)
/-- who is in one class is joined by a way -/
theorem way_of (A : α → Nat) {V : α → Prop} (hA : ∀ x y, V x → V y → A x = A y → x = y) (hT : ∀ p ∈ T, V p.1 ∧ V p.2) : ∀ M x y, V x → V y → cls A (T.take M) x = cls A (T.take M) y → ∃ l, Way T x l y ∧ ∀ i ∈ l, i < M
 | 0, x, y, hx, hy, h => by
  rw [List.take_zero, cls_nil, cls_nil] at h
  rw [hA x y hx hy h]
  exact ⟨[], .nil _, fun i hi => by cases hi⟩
 | M + 1, x, y, hx, hy, h => by
  have up : ∀ {a b : α}, (∃ l, Way T a l b ∧ ∀ i ∈ l, i < M) → ∃ l, Way T a l b ∧ ∀ i ∈ l, i < M + 1 := fun ⟨l, h1, h2⟩ => ⟨l, h1, fun i hi => by have := h2 i hi; omega⟩
  cases q : T[M]? with
  | none =>
   have hl := List.getElem?_eq_none_iff.1 q
   rw [List.take_of_length_le (by omega)] at h
   exact up (way_of A hA hT M x y hx hy (by rw [List.take_of_length_le hl]; exact h))
  | some p =>
   rw [List.take_add_one, q, Option.toList, cls_join] at h
   obtain ⟨v1, v2⟩ := hT p (List.mem_of_getElem? q)
   have mid : ∀ {c d : α}, V c → V d → Goes1 T M c d → cls A (T.take M) x = cls A (T.take M) c → cls A (T.take M) y = cls A (T.take M) d → ∃ l, Way T x l y ∧ ∀ i ∈ l, i < M + 1 := fun {c d} vc vd g h1 h2 => by
    obtain ⟨l1, w1, k1⟩ := way_of A hA hT M x c hx vc h1
    obtain ⟨l2, w2, k2⟩ := way_of A hA hT M d y vd hy h2.symm
    have w3 : Way T c (M :: l2) y := .cons g w2 fun j hj => by
     have := k2 j (List.mem_of_mem_head? hj)
     omega
    refine ⟨l1 ++ M :: l2, w1.app w3 fun i j hi hj => ?_, fun i hi => ?_⟩
    ·have := k1 i (List.mem_of_getLast? hi)
     simp at hj
     omega
    ·rcases List.mem_append.1 hi with hi | hi
     ·have := k1 i hi; omega
     ·rcases List.mem_cons.1 hi with rfl | hi
      ·omega
      ·have := k2 i hi; omega
   rcases h with h | ⟨ha | ha, hb | hb⟩
   ·exact up (way_of A hA hT M x y hx hy h)
   ·exact up (way_of A hA hT M x y hx hy (ha.trans hb.symm))
   ·exact mid v1 v2 ⟨p, q, .inl ⟨rfl, rfl⟩⟩ ha hb
   ·exact mid v2 v1 ⟨p, q, .inr ⟨rfl, rfl⟩⟩ ha hb
   ·exact up (way_of A hA hT M x y hx hy (ha.trans hb.symm))
end
/-! ### what the search finds -/
section
variable {E : tE} {k : Nat} {y : Tx}
theorem skp_true {i : Nat} {x : Tx} {cm : Int} (h1 : (i : Int) ≠ cm) (h2 : (E i).a = x ∨ (E i).b = x) : skp E i x cm = false := by
 unfold skp
 rw [decide_eq_false h1, Bool.false_or, Bool.not_eq_false']
 rcases h2 with h | h
 ·rw [beq_iff_eq.2 h, Bool.true_or]
 ·rw [beq_iff_eq.2 h, Bool.or_true]
theorem wlp_sound {rec : List Tx → Tx → Int → Bool × List Tx} {ps : List Tx} {x : Tx} {cm : Int} : ∀ r, r ≤ k → (wlp E k rec ps x cm r).1 = true → ∃ i, i < k ∧ skp E i x cm = false ∧ (rec (ps ++ [(E i).n]) (nxt E i x) (i : Int)).1 = true ∧ wlp E k rec ps x cm r = rec (ps ++ [(E i).n]) (nxt E i x) (i : Int)
 | 0, _, h => by cases h
 | r + 1, hr, h => by
  unfold wlp at h ⊢
  cases s : skp E (k - (r + 1)) x cm with
  | true => rw [s, cond_true] at h; rw [cond_true]; exact wlp_sound r (by omega) h
  | false =>
   rw [s, cond_false] at h
   rw [cond_false]
   cases q : (rec (ps ++ [(E (k - (r + 1))).n]) (nxt E (k - (r + 1)) x) ((k - (r + 1) : Nat) : Int)).1 with
   | true => exact ⟨k - (r + 1), by omega, s, q, by rw [cond_true]⟩
   | false => rw [q, cond_false] at h; rw [cond_false]; exact wlp_sound r (by omega) h
theorem wlp_finds {rec : List Tx → Tx → Int → Bool × List Tx} {ps : List Tx} {x : Tx} {cm : Int} {i : Nat} (hi : i < k) (hs : skp E i x cm = false) (hr : (rec (ps ++ [(E i).n]) (nxt E i x) (i : Int)).1 = true) : ∀ r, r ≤ k → k - r ≤ i → (wlp E k rec ps x cm r).1 = true
 | 0, h, h' => absurd hi (by omega)
 | r + 1, h, h' => by
  unfold wlp
  by_cases c : k - (r + 1) = i
  ·rw [c, hs, cond_false, hr, cond_true]; exact hr
  ·have ih := wlp_finds hi hs hr r (by omega) (by omega)
   cases s : skp E (k - (r + 1)) x cm with
   | true => rw [cond_true]; exact ih
   | false =>
    rw [cond_false]
    cases q : (rec (ps ++ [(E (k - (r + 1))).n]) (nxt E (k - (r + 1)) x) ((k - (r + 1) : Nat) : Int)).1 with
    | true => rw [cond_true]; exact q
    | false => rw [cond_false]; exact ih
theorem wks_sound : ∀ {d : Nat} {ps : List Tx} {x : Tx} {cm : Int}, (wks E k y d ps x cm).1 = true → ∃ l, Way (edT E k) x l y ∧ (wks E k y d ps x cm).2 = ps ++ l.map (fun i => (E i).n) ∧ ∀ j, l.head? = some j → (j : Int) ≠ cm
 | 0, _, _, _, h => by cases h
 | d + 1, ps, x, cm, h => by
  unfold wks at h ⊢
  cases e : x == y with
  | true =>
   rw [cond_true]
   obtain rfl : x = y := eq_of_beq e
   exact ⟨[], .nil _, by simp, fun j hj => by simp at hj⟩
  | false =>
   rw [e, cond_false] at h
   rw [cond_false]
   obtain ⟨i, hi, hs, hr, he⟩ := wlp_sound k (Nat.le_refl _) h
   obtain ⟨l, w, h1, h2⟩ := wks_sound hr
   obtain ⟨s1, s2⟩ := skp_false hs
   refine ⟨i :: l, .cons (nxt_goes hi s2) w fun j hj e => h2 j hj (by rw [e]), ?_, fun j hj => ?_⟩
   ·rw [he, h1]; simp
   ·simp at hj; rw [← hj]; exact s1
/-- the other end of an edge -/
theorem nxt_of {i : Nat} {a b : Tx} (hi : i < k) (hne : (E i).a ≠ (E i).b) (g : Goes1 (edT E k) i a b) : nxt E i a = b ∧ ((E i).a = a ∨ (E i).b = a) := by
 obtain ⟨p, h1, h2⟩ := g
 rw [edT_get E hi] at h1
 cases h1
 unfold nxt
 rcases h2 with ⟨rfl, rfl⟩ | ⟨rfl, rfl⟩
 ·rw [beq_self_eq_true, cond_true]; exact ⟨rfl, .inl rfl⟩
 ·rw [beq_false_of_ne hne, cond_false]; exact ⟨rfl, .inr rfl⟩
theorem wks_finds (hne : ∀ i, i < k → (E i).a ≠ (E i).b) : ∀ {d : Nat} {ps : List Tx} {x : Tx} {cm : Int} {l : List Nat}, Way (edT E k) x l y → l.length < d → (∀ j, l.head? = some j → (j : Int) ≠ cm) → (wks E k y d ps x cm).1 = true
 | 0, _, _, _, _, _, h, _ => absurd h (Nat.not_lt_zero _)
 | d + 1, ps, x, cm, l, w, h, hc => by
  unfold wks
  cases e : x == y with
  | true => rfl
  | false =>
   rw [cond_false]
   cases w with
   | nil => rw [beq_self_eq_true] at e; cases e
   | cons g w nb =>
    rename_i b i l
    have hi : i < k := by obtain ⟨p, q, _⟩ := g; have := (List.getElem?_eq_some_iff.1 q).1; rwa [edT_len] at this
    obtain ⟨n1, n2⟩ := nxt_of hi (hne i hi) g
    refine wlp_finds hi (skp_true (hc i rfl) n2) ?_ k (Nat.le_refl _) (by omega)
    rw [n1]
    refine wks_finds hne w (by simp at h; omega) fun j hj e => nb j hj ?_
    exact Int.ofNat.inj e
/-- where one stands after the first so many edges -/
def stp (E : tE) : Tx → List Nat → Tx
 | x, [] => x
 | x, i :: l => stp E (nxt E i x) l
theorem stp_app (E : tE) : ∀ (l1 l2 : List Nat) (x : Tx), stp E x (l1 ++ l2) = stp E (stp E x l1) l2
 | [], _, _ => rfl
 | i :: l1, l2, x => stp_app E l1 l2 (nxt E i x)
theorem way_end (hne : ∀ i, i < k → (E i).a ≠ (E i).b) : ∀ {l : List Nat} {x z : Tx}, Way (edT E k) x l z → stp E x l = z
 | [], x, z, w => by cases w; rfl
 | i :: l, x, z, w => by
  cases w with
  | cons g w nb =>
   have hi : i < k := by obtain ⟨p, q, _⟩ := g; have := (List.getElem?_eq_some_iff.1 q).1; rwa [edT_len] at this
   show stp E (nxt E i x) l = z
   rw [(nxt_of hi (hne i hi) g).1]
   exact way_end hne w
/-- one step of a way -/
theorem way_step (hne : ∀ i, i < k → (E i).a ≠ (E i).b) {l : List Nat} {x z : Tx} (w : Way (edT E k) x l z) {i : Nat} (hi : i < l.length) : l[i] < k ∧ ((E l[i]).a = stp E x (l.take i) ∨ (E l[i]).b = stp E x (l.take i)) ∧ stp E x (l.take (i + 1)) = nxt E l[i] (stp E x (l.take i)) := by
 have e : l = l.take i ++ l[i] :: l.drop (i + 1) := by
  rw [← List.drop_eq_getElem_cons hi, List.take_append_drop]
 rw [e] at w
 obtain ⟨b, w1, w2⟩ := w.split
 have e1 := way_end hne w1
 cases w2 with
 | cons g w nb =>
  have hk : l[i] < k := by obtain ⟨p, q, _⟩ := g; have := (List.getElem?_eq_some_iff.1 q).1; rwa [edT_len] at this
  refine ⟨hk, ?_, ?_⟩
  ·rw [e1]; exact (nxt_of hk (hne _ hk) g).2
  ·rw [List.take_succ_eq_append_getElem hi, stp_app]; rfl
/-- no node twice -/
theorem way_new (hne : ∀ i, i < k → (E i).a ≠ (E i).b) {cl : Nat → Tx → Nat} (F : Forest (edT E k) cl) {l : List Nat} {x z : Tx} (w : Way (edT E k) x l z) {i j : Nat} (hij : i < j) (hj : j ≤ l.length) : stp E x (l.take i) ≠ stp E x (l.take j) := fun h => by
 have e : l = l.take i ++ ((l.drop i).take (j - i) ++ l.drop j) := by
  have : (l.drop i).take (j - i) ++ l.drop j = l.drop i := by
   have h2 := List.take_append_drop (j - i) (l.drop i)
   rw [List.drop_drop, show i + (j - i) = j by omega] at h2
   exact h2
  rw [this, List.take_append_drop]
 rw [e] at w
 obtain ⟨b, w1, w2⟩ := w.split
 obtain ⟨c, w3, w4⟩ := w2.split
 have e1 := way_end hne w1
 have e3 := way_end hne w3
 have e4 : stp E x (l.take j) = c := by
  have : l.take j = l.take i ++ (l.drop i).take (j - i) := by
   rw [← List.take_add, show i + (j - i) = j by omega]
  rw [this, stp_app, e1, e3]
 rw [e1, e4] at h
 rw [← h] at w3
 have := F.no_round k (fun i hi => by have := w3.lt i hi; rwa [edT_len] at this) w3
 have hl := congrArg List.length this
 simp at hl
 omega
end
/-! ### the tree's elements among all -/
theorem eget_lt {l : List El} {z : El} {j : Nat} (h : j < l.length) : eget (l ++ [z]) j = eget l j := by
 unfold eget
 rw [List.getD_eq_getElem?_getD, List.getElem?_append_left h, ← List.getD_eq_getElem?_getD]
theorem eget_eq {l : List El} {z : El} : eget (l ++ [z]) l.length = z := by
 unfold eget
 rw [List.getD_eq_getElem?_getD, List.getElem?_append_right (Nat.le_refl _), Nat.sub_self]; rfl
theorem spT_U (zl : tM) (E : tE) : ∀ n, ∃ U : Nat → Nat, ∀ j, j < (spT zl E n).length → U j < n ∧ eget (spT zl E n) j = E (U j) ∧ jsel (E (U j)) = true ∧ jsame zl E (U j) = false ∧ ∀ i, i < j → U i < U j
 | 0 => ⟨fun _ => 0, fun j h => absurd h (by simp [spT])⟩
 | n + 1 => by
  obtain ⟨U, hU⟩ := spT_U zl E n
  cases s : jsel (E n) && !jsame zl E n with
  | false =>
   rw [spT_f zl E s]
   exact ⟨U, fun j hj => by obtain ⟨h1, h2⟩ := hU j hj; exact ⟨by omega, h2⟩⟩
  | true =>
   rw [spT_t zl E s]
   rw [Bool.and_eq_true, Bool.not_eq_true'] at s
   refine ⟨fun j => if j < (spT zl E n).length then U j else n, fun j hj => ?_⟩
   simp only [List.length_append, List.length_cons, List.length_nil] at hj
   by_cases c : j < (spT zl E n).length
   ·obtain ⟨h1, h2, h3, h4, h5⟩ := hU j c
    simp only [c, if_true]
    rw [eget_lt c]
    refine ⟨by omega, h2, h3, h4, fun i hi => ?_⟩
    have : i < (spT zl E n).length := by omega
    simp only [this, if_true]
    exact h5 i hi
   ·obtain rfl : j = (spT zl E n).length := by omega
    simp only [Nat.lt_irrefl, if_false]
    rw [eget_eq]
    refine ⟨by omega, rfl, s.1, s.2, fun i hi => ?_⟩
    simp only [hi, if_true]
    exact (hU i hi).1
theorem spR_U (zl : tM) (E : tE) : ∀ n j, j < (spR zl E n).length → ∃ v, v < n ∧ eget (spR zl E n) j = E v ∧ jsel (E v) = true ∧ jsame zl E v = true
 | 0, j, h => absurd h (by simp [spR])
 | n + 1, j, hj => by
  cases s : jsel (E n) && jsame zl E n with
  | false =>
   rw [spR_f zl E s] at hj ⊢
   obtain ⟨v, h1, h2⟩ := spR_U zl E n j hj
   exact ⟨v, by omega, h2⟩
  | true =>
   rw [spR_t zl E s] at hj ⊢
   rw [Bool.and_eq_true] at s
   simp only [List.length_append, List.length_cons, List.length_nil] at hj
   by_cases c : j < (spR zl E n).length
   ·obtain ⟨v, h1, h2⟩ := spR_U zl E n j c
    exact ⟨v, by omega, by rw [eget_lt c]; exact h2⟩
   ·obtain rfl : j = (spR zl E n).length := by omega
    exact ⟨n, by omega, eget_eq, s.1, s.2⟩
/-! ### names -/
theorem nm_ne {n : Nat} {E : tE} (hb : ∀ j, j < n → badE chkE E j = 0) {u v : Nat} (h : u < v) (hv : v < n) : (E u).n ≠ (E v).n := fun e =>
 pos_none.1 (bad_of (hb v hv)).2 (mem_NM.2 ⟨u, h, e.symm⟩)
theorem pos_app {x y : Tx} : ∀ {l : List Tx}, pos x (l ++ [y]) = match pos x l with | some i => some i | none => bif x == y then some l.length else none
 | [] => by
  show pos x [y] = _
  unfold pos
  show (bif x == y then some 0 else (pos x []).map (· + 1)) = _
  cases x == y <;> rfl
 | z :: l => by
  show pos x (z :: (l ++ [y])) = _
  have ih := pos_app (x := x) (y := y) (l := l)
  unfold pos
  cases e : x == z with
  | true => rfl
  | false =>
   rw [cond_false, cond_false, ih]
   cases pos x l with
   | some i => rfl
   | none => cases x == y <;> rfl
theorem pos_NM {E : tE} : ∀ {n : Nat}, (∀ j, j < n → badE chkE E j = 0) → ∀ {u : Nat}, u < n → pos (E u).n (NM E n) = some u
 | 0, _, u, h => absurd h (Nat.not_lt_zero _)
 | n + 1, hb, u, h => by
  have hN : NM E (n + 1) = NM E n ++ [(E n).n] := rfl
  rw [hN, pos_app]
  by_cases c : u < n
  ·rw [pos_NM (fun j hj => hb j (by omega)) c]
  ·obtain rfl : u = n := by omega
   rw [(bad_of (hb u (by omega))).2, beq_self_eq_true, cond_true, NM_len]
/-! ### the net of the tree alone -/
theorem BR_nodup {E : tE} : ∀ {n : Nat}, (∀ j, j < n → badE chkE E j = 0) → (BR E n).Nodup
 | 0, _ => List.nodup_nil
 | n + 1, hb => by
  have ih := BR_nodup (n := n) fun j hj => hb j (by omega)
  unfold BR
  cases isBr (E n) with
  | false => exact ih
  | true =>
   rw [cond_true, List.nodup_append]
   exact ⟨ih, by simp, fun a ha b hb' e => by
    rw [List.mem_singleton.1 hb'] at e
    rw [e] at ha
    exact pos_none.1 (BR_new E (bad_of (hb n (by omega))).2) ha⟩
theorem mem_BR {E : tE} {x : Tx} : ∀ {n : Nat}, x ∈ BR E n ↔ ∃ i, i < n ∧ isBr (E i) = true ∧ x = (E i).n
 | 0 => ⟨fun h => by simp [BR] at h, fun ⟨i, h, _⟩ => absurd h (Nat.not_lt_zero _)⟩
 | n + 1 => by
  unfold BR
  cases s : isBr (E n) with
  | false =>
   rw [cond_false, mem_BR]
   exact ⟨fun ⟨i, h1, h2⟩ => ⟨i, by omega, h2⟩, fun ⟨i, h1, h2⟩ => ⟨i, by
    by_cases c : i = n
    ·rw [c, s] at h2; cases h2.1
    ·omega, h2⟩⟩
  | true =>
   rw [cond_true, List.mem_append, mem_BR, List.mem_singleton]
   constructor
   ·rintro (⟨i, h1, h2⟩ | rfl)
    ·exact ⟨i, by omega, h2⟩
    ·exact ⟨n, by omega, s, rfl⟩
   ·rintro ⟨i, h1, h2, rfl⟩
    by_cases c : i < n
    ·exact .inl ⟨i, c, h2, rfl⟩
    ·obtain rfl : i = n := by omega
     exact .inr rfl
theorem of_sum {n : Nat} {E : tE} (h : (ofX E n).1 = 0) : (ND E n).length + (BR E n).length ≤ 64 := by
 have g := of_gdn h
 rw [ofX_is] at h
 unfold ofR at h
 rw [decide_eq_false (by have := g.n256; omega), cond_false, ofE_of g.bad n (Nat.le_refl _)] at h
 unfold ofE at h
 by_cases c : 64 < (ND E n).length + (BR E n).length
 ·rw [decide_eq_true c, Bool.or_true, cond_true] at h
  exact absurd h (by decide)
 ·omega
theorem of_part {n t : Nat} {E T : tE} {U : Nat → Nat} (h : (ofX E n).1 = 0) (ht : t ≤ n) (hU : ∀ j, j < t → U j < n ∧ T j = E (U j) ∧ ∀ i, i < j → U i < U j) : (ofX T t).1 = 0 := by
 have g := of_gdn h
 have gs := of_sum h
 have hbad : ∀ j, j < t → badE chkE T j = 0 := fun j hj => by
  obtain ⟨h1, h2, h3⟩ := hU j hj
  refine of_bad (by rw [h2]; exact (bad_of (g.bad _ h1)).1) (pos_none.2 fun hm => ?_)
  obtain ⟨i, hi, e⟩ := mem_NM.1 hm
  rw [h2, (hU i (by omega)).2.1] at e
  exact nm_ne g.bad (h3 i hi) h1 e.symm
 have hnd : (ND T t).length ≤ (ND E n).length := nodup_sub (ND_nodup _ _) fun x hx => by
  obtain ⟨⟨j, hj, hx⟩, hn⟩ := mem_ND.1 hx
  obtain ⟨h1, h2, _⟩ := hU j hj
  rw [h2] at hx
  exact mem_ND.2 ⟨⟨_, h1, hx⟩, hn⟩
 have hbr : (BR T t).length ≤ (BR E n).length := nodup_sub (BR_nodup hbad) fun x hx => by
  obtain ⟨j, hj, hb, rfl⟩ := mem_BR.1 hx
  obtain ⟨h1, h2, _⟩ := hU j hj
  rw [h2] at hb ⊢
  exact mem_BR.2 ⟨_, h1, hb, rfl⟩
 have := g.nd
 have := g.n256
 rw [ofX_is]
 unfold ofR
 rw [decide_eq_false (by omega), cond_false, ofE_of hbad t (Nat.le_refl _)]
 unfold ofE
 rw [decide_eq_false (by omega), decide_eq_false (by omega)]
 rfl
/-! ### the forest closes nothing -/
theorem vl_jl (A : Tx → Nat) (E : tE) : ∀ n a b, cls A (vl E n) a = cls A (vl E n) b → cls A (jl E n) a = cls A (jl E n) b
 | 0, a, b, h => h
 | n + 1, a, b, h => by
  have ih := vl_jl A E n
  unfold vl at h
  cases s : vsel (E n) with
  | false =>
   rw [s, cond_false] at h
   cases q : jsel (E n) with
   | false => rw [jl_f E q]; exact ih a b h
   | true => rw [jl_t E q]; exact cls_mono A _ _ (ih a b h)
  | true =>
   have q : jsel (E n) = true := by
    unfold vsel at s
    unfold jsel
    rcases Bool.or_eq_true _ _ ▸ s with s | s
    ·rw [of_decide_eq_true s]; rfl
    ·rw [of_decide_eq_true s]; rfl
   rw [s, cond_true, cls_join] at h
   rw [jl_t E q, cls_join]
   exact h.imp (ih a b) fun ⟨h1, h2⟩ => ⟨h1.imp (ih _ _) (ih _ _), h2.imp (ih _ _) (ih _ _)⟩
theorem vl_shut (A : Tx → Nat) (E : tE) : ∀ n, shut A (vl E n) → shut A (jl E n)
 | 0, h => h
 | n + 1, h => by
  have ih := vl_shut A E n
  unfold vl at h
  cases s : vsel (E n) with
  | false =>
   rw [s, cond_false] at h
   cases q : jsel (E n) with
   | false => rw [jl_f E q]; exact ih h
   | true => rw [jl_t E q, shut_snoc]; exact .inl (ih h)
  | true =>
   have q : jsel (E n) = true := by
    unfold vsel at s
    unfold jsel
    rcases Bool.or_eq_true _ _ ▸ s with s | s
    ·rw [of_decide_eq_true s]; rfl
    ·rw [of_decide_eq_true s]; rfl
   rw [s, cond_true, shut_snoc] at h
   rw [jl_t E q, shut_snoc]
   exact h.imp ih (vl_jl A E n _ _)
theorem jl_mono (A : Tx → Nat) (E : tE) {a b : Tx} : ∀ {n m : Nat}, m ≤ n → cls A (jl E m) a = cls A (jl E m) b → cls A (jl E n) a = cls A (jl E n) b
 | 0, m, h, k => by rw [show m = 0 by omega] at k; exact k
 | n + 1, m, h, k => by
  by_cases e : m = n + 1
  ·rw [← e]; exact k
  ·have ih := jl_mono A E (n := n) (m := m) (by omega) k
   cases q : jsel (E n) with
   | false => rw [jl_f E q]; exact ih
   | true => rw [jl_t E q]; exact cls_mono A _ _ ih
structure RLaw (n : Nat) (G : tE) : Prop where
 a : ∀ j, j < (restL G n).length → 2 ≤ (lpN (eget (treeL G n)) (treeL G n).length (eget (restL G n))) j ∧ ∃ ix p, Rnd n G ((lpN (eget (treeL G n)) (treeL G n).length (eget (restL G n))) j) ((lpG (eget (treeL G n)) (treeL G n).length (eget (restL G n))) j) (treeL G n).length (nmT (eget (treeL G n))) ix p
 b : ∀ j, j < (restL G n).length → ∀ i, i < (treeL G n).length → (nmT (eget (treeL G n)) i == (lpG (eget (treeL G n)) (treeL G n).length (eget (restL G n))) j 0) = false
 c : ∀ i, i < (treeL G n).length → ∃ u, u < n ∧ pos (nmT (eget (treeL G n)) i) (NM G n) = some u ∧ (eget (treeL G n)) i = G u
 d : (ofX (eget (treeL G n)) (treeL G n).length).1 = 0
 e : restL (eget (treeL G n)) (treeL G n).length = []
 f : voltB (eget (treeL G n)) (treeL G n).length = false
theorem rounds_law {n : Nat} {G : tE} (h : (ofX G n).1 = 0) : RLaw n G := by
 have g := of_gdn h
 have hT : treeL G n = spT (zipF 0 (g0 :: ND G n)) G n := by rw [treeL_is]
 have hR : restL G n = spR (zipF 0 (g0 :: ND G n)) G n := by rw [restL_is]
 obtain ⟨U, hU⟩ := spT_U (zipF 0 (g0 :: ND G n)) G n
 have ht := spT_len (zipF 0 (g0 :: ND G n)) G n
 have hinv := sp_inv (zipF 0 (g0 :: ND G n)) G n
 have hRv := spR_U (zipF 0 (g0 :: ND G n)) G n
 rw [← hT] at hU ht hinv
 rw [← hR] at hRv
 generalize hL : treeL G n = L at hU ht hinv
 generalize hQ : restL G n = Q at hRv
 have hA : ∀ x y, x ∈ g0 :: ND G n → y ∈ g0 :: ND G n → plc (zipF 0 (g0 :: ND G n)) x = plc (zipF 0 (g0 :: ND G n)) y → x = y := fun x y hx hy => (plc_inj hx hy).1
 have hV : ∀ i, i < n → ∀ x, (x = (G i).a ∨ x = (G i).b) → x ∈ g0 :: ND G n := fun i hi x hx => by
  have f := chk_facts (bad_of (g.bad i hi)).1
  by_cases c : x = [48]
  ·rw [c]; exact List.mem_cons.2 (.inl rfl)
  ·refine List.mem_cons.2 (.inr (mem_ND.2 ⟨⟨i, hi, hx.elim .inl fun h => .inr (.inl h)⟩, ?_, c⟩))
   rcases hx with rfl | rfl
   ·exact node_ne f.2.2.1
   ·exact node_ne f.2.2.2.1
 have hTV : ∀ p ∈ ends L, p.1 ∈ g0 :: ND G n ∧ p.2 ∈ g0 :: ND G n := fun p hp => by
  obtain ⟨z, hz, rfl⟩ := List.mem_map.1 hp
  obtain ⟨i, hi, e⟩ := List.mem_iff_getElem.1 hz
  obtain ⟨h1, h2, _⟩ := hU i hi
  rw [eget_is hi, e] at h2
  rw [h2]
  exact ⟨hV _ h1 _ (.inl rfl), hV _ h1 _ (.inr rfl)⟩
 have hne : ∀ i, i < L.length → (eget L i).a ≠ (eget L i).b := fun i hi e => by
  obtain ⟨h1, h2, _⟩ := hU i hi
  have := (chk_facts (bad_of (g.bad _ h1)).1).2.2.2.2
  rw [← h2, e, beq_self_eq_true] at this
  cases this
 have F : Forest (edT (eget L) L.length) (fun M => cls (plc (zipF 0 (g0 :: ND G n))) ((ends L).take M)) := by
  rw [edT_eget]
  exact forest_of _ _ hinv.2
 have hof : (ofX (eget L) L.length).1 = 0 := of_part (U := U) h ht fun j hj => ⟨(hU j hj).1, (hU j hj).2.1, (hU j hj).2.2.2.2⟩
 have hns : ¬ shut (plc (zipF 0 (g0 :: ND (eget L) L.length))) (ends L) := by
  have hsub : ∀ x, x ∈ g0 :: ND (eget L) L.length → x ∈ g0 :: ND G n := fun x hx => by
   rcases List.mem_cons.1 hx with rfl | hx
   ·exact List.mem_cons.2 (.inl rfl)
   ·obtain ⟨⟨j, hj, hx⟩, hn⟩ := mem_ND.1 hx
    obtain ⟨h1, h2, _⟩ := hU j hj
    rw [h2] at hx
    exact List.mem_cons.2 (.inr (mem_ND.2 ⟨⟨_, h1, hx⟩, hn⟩))
  have hmem : ∀ p ∈ ends L, p.1 ∈ g0 :: ND (eget L) L.length ∧ p.2 ∈ g0 :: ND (eget L) L.length := fun p hp => by
   obtain ⟨z, hz, rfl⟩ := List.mem_map.1 hp
   obtain ⟨i, hi, e⟩ := List.mem_iff_getElem.1 hz
   obtain ⟨h1, h2, _⟩ := hU i hi
   have e2 : eget L i = z := by rw [eget_is hi, e]
   have f := chk_facts (bad_of (g.bad _ h1)).1
   rw [← h2, e2] at f
   constructor
   ·by_cases c : z.a = [48]
    ·rw [c]; exact List.mem_cons.2 (.inl rfl)
    ·exact List.mem_cons.2 (.inr (mem_ND.2 ⟨⟨i, hi, .inl (by rw [e2])⟩, node_ne f.2.2.1, c⟩))
   ·by_cases c : z.b = [48]
    ·rw [c]; exact List.mem_cons.2 (.inl rfl)
    ·exact List.mem_cons.2 (.inr (mem_ND.2 ⟨⟨i, hi, .inr (.inl (by rw [e2]))⟩, node_ne f.2.2.2.1, c⟩))
  rw [← shut_sim (A := plc (zipF 0 (g0 :: ND G n))) (V := fun x => x ∈ g0 :: ND (eget L) L.length) (fun a b ha hb => (plc_inj (hsub a ha) (hsub b hb)).trans (plc_inj ha hb).symm) (ends L) hmem]
  rintro ⟨i, p, h1, h2⟩
  exact hinv.2 i p h1 h2
 have hjl : jl (eget L) L.length = ends L := by
  rw [jl_all L (fun z hz => by
   obtain ⟨i, hi, e⟩ := List.mem_iff_getElem.1 hz
   obtain ⟨h1, h2, h3, _⟩ := hU i hi
   rw [← e, ← eget_is hi, h2]
   exact h3) _ (Nat.le_refl _), ← ends_len, List.take_length]
 refine ⟨?_, ?_, ?_, ?_, ?_, ?_⟩ <;> rw [hL] <;> (try rw [hQ])
 ·intro j hj
  obtain ⟨v, hv, ev, sv, jv⟩ := hRv j hj
  have hc := jl_mono (plc (zipF 0 (g0 :: ND G n))) G (Nat.le_of_lt hv) (of_decide_eq_true jv)
  have hc2 := (hinv.1 _ _).1 hc
  obtain ⟨l0, w0, _⟩ := way_of (plc (zipF 0 (g0 :: ND G n))) hA hTV (ends L).length (G v).b (G v).a (hV v hv _ (.inr rfl)) (hV v hv _ (.inl rfl)) (by rw [List.take_length]; exact hc2.symm)
  rw [← edT_eget] at w0
  have hs := F.short w0
  rw [edT_len] at hs
  have hf := wks_finds hne (d := L.length + 1) (ps := []) (cm := -1) w0 (by omega) fun j _ e => by omega
  obtain ⟨l, w, e1, _⟩ := wks_sound hf
  have hs2 := F.short w
  rw [edT_len] at hs2
  have hX : alX (eget L) L.length (eget Q j).b (eget Q j).a = l.map fun i => (eget L i).n := by rw [ev, alX_is, e1, List.nil_append]
  have hN : lpN (eget L) L.length (eget Q) j = 1 + l.length := by unfold lpN; rw [alN_is, hX, List.length_map]
  have hG0 : lpG (eget L) L.length (eget Q) j 0 = (G v).n := by unfold lpG; rw [decide_eq_true (by omega), cond_true, ev]
  have hG1 : ∀ i (hi : i < l.length), lpG (eget L) L.length (eget Q) j (i + 1) = (eget L l[i]).n := fun i hi => by
   unfold lpG
   rw [decide_eq_false (by omega), cond_false, alG_is, hX, Nat.add_sub_cancel]
   show (l.map fun i => (eget L i).n).getD i [] = _
   rw [List.getD_eq_getElem?_getD, List.getElem?_map, List.getElem?_eq_getElem hi]
   rfl
  have hl1 : 1 ≤ l.length := by
   cases l with
   | nil =>
    have := way_end hne w
    have f := (chk_facts (bad_of (g.bad v hv)).1).2.2.2.2
    rw [show (G v).b = (G v).a from this, beq_self_eq_true] at f
    cases f
   | cons i l => simp
  have hst := fun i (hi : i < l.length) => way_step hne w hi
  have hlg : ∀ i (hi : i < l.length), l.getD i 0 = l[i] := fun i hi => by rw [List.getD_eq_getElem?_getD, List.getElem?_eq_getElem hi]; rfl
  have n256 := g.n256
  refine ⟨by omega, fun i => if i = 0 then v else U (l.getD (i - 1) 0), fun i => stp (eget L) (G v).b (l.take i), ?_⟩
  rw [hN]
  have hix : ∀ i (hi : i < l.length), (if i + 1 = 0 then v else U (l.getD (i + 1 - 1) 0)) = U l[i] := fun i hi => by
   rw [if_neg (by omega), Nat.add_sub_cancel, hlg i hi]
  refine ⟨by omega, by omega, by omega, fun i hi => ?_, ?_, ?_, rfl, fun i hi => ?_, fun i j' hij hj' => ?_, fun i hi => ?_, ?_⟩
  ·match i, hi with
   | 0, _ => exact ⟨hv, by rw [hG0]; exact pos_NM g.bad hv⟩
   | i + 1, hi =>
    have hi' : i < l.length := by omega
    obtain ⟨k1, _⟩ := hst i hi'
    obtain ⟨h1, h2, _⟩ := hU _ k1
    simp only [hix i hi']
    refine ⟨h1, ?_⟩
    rw [hG1 i hi', h2]
    exact pos_NM g.bad h1
  ·intro e
   have e : (G v).k = 4 := e
   unfold jsel at sv
   rw [e] at sv
   exact absurd sv (by decide)
  ·intro e
   have e : (G v).k = 6 := e
   unfold jsel at sv
   rw [e] at sv
   exact absurd sv (by decide)
  ·have hi' : i < l.length := by omega
   obtain ⟨k1, k2, k3⟩ := hst i hi'
   obtain ⟨h1, h2, _⟩ := hU _ k1
   simp only [hix i hi']
   refine ⟨by rw [← h2]; exact k2, ?_⟩
   rw [k3]
   unfold nxt
   rw [h2]
  ·exact way_new hne F w hij (by omega)
  ·have hi' : i < l.length := by omega
   obtain ⟨k1, _⟩ := hst i hi'
   exact ⟨l[i], k1, (hG1 i hi').symm⟩
  ·show stp (eget L) (G v).b (l.take (1 + l.length - 1)) = (G v).a
   rw [show 1 + l.length - 1 = l.length by omega, List.take_length]
   exact way_end hne w
 ·intro j hj i hi
  obtain ⟨v, hv, ev, sv, jv⟩ := hRv j hj
  obtain ⟨h1, h2, h3, h4, _⟩ := hU i hi
  apply beq_false_of_ne
  intro e
  have e : (eget L i).n = lpG (eget L) L.length (eget Q) j 0 := e
  unfold lpG at e
  rw [decide_eq_true (by omega), cond_true, ev, h2] at e
  by_cases c : U i = v
  ·rw [c, jv] at h4; cases h4
  ·rcases Nat.lt_or_gt_of_ne c with c | c
   ·exact nm_ne g.bad c hv e
   ·exact nm_ne g.bad c h1 e.symm
 ·intro i hi
  obtain ⟨h1, h2, _⟩ := hU i hi
  refine ⟨U i, h1, ?_, h2⟩
  show pos (eget L i).n (NM G n) = _
  rw [h2]
  exact pos_NM g.bad h1
 ·exact hof
 ·have h2 := spR_shut (zipF 0 (g0 :: ND (eget L) L.length)) (eget L) L.length
  rw [hjl] at h2
  rw [restL_is]
  apply List.eq_nil_of_length_eq_zero
  exact (Nat.eq_zero_or_pos _).resolve_right fun c => hns (h2.1 c)
 ·rw [voltB_is]
  have h1 := shV_shut (zipF 0 (g0 :: ND (eget L) L.length)) (eget L) L.length
  show shV (zipF 0 (g0 :: ND (eget L) L.length)) (eget L) L.length = false
  cases q : shV (zipF 0 (g0 :: ND (eget L) L.length)) (eget L) L.length with
  | false => rfl
  | true =>
   have := vl_shut _ _ _ (h1.1 q)
   rw [hjl] at this
   exact absurd this hns


/-- the same block, or one that is only seen -/
def VwR (b0 b : ABk) : Prop := SameC b0 b ∨ ∃ own sz m c, b0 = .cells own sz m c ∧ b = .cells false sz m c
theorem VwR.own {b0 b : ABk} (h : VwR b0 b) (ho : b.owned = true) : b0.owned = true := by
 rcases h with h | ⟨own, sz, m, c, rfl, rfl⟩
 ·exact h.owned.trans ho
 ·cases ho
theorem VwR.rl {b0 b : ABk} (h : VwR b0 b) {μ : MM} {g : Nat} (hr : b.real μ g) : b0.real μ g := by
 rcases h with h | ⟨own, sz, m, c, rfl, rfl⟩
 ·exact (h.real μ g).2 hr
 ·exact hr.elim .inl fun c => by cases c.1
theorem VwR.ok {b0 b : ABk} (h : VwR b0 b) {N : Nat} {μ : MM} {hp : Array Obj} {g : Nat} (k : BkOk N μ hp g b0) : BkOk N μ hp g b := by
 rcases h with h | ⟨own, sz, m, c, rfl, rfl⟩
 ·exact h.ok k
 ·refine ⟨k.1, k.2.1, fun hr => ?_⟩
  obtain ⟨cur, ty, fz, p1, p2, p3, p4⟩ := k.2.2 (hr.elim .inl fun c => by cases c.1)
  exact ⟨cur, ty, fz, p1, p2, fun h => (by cases h), p4⟩
def VwH (H : T ABk) : List (Nat × ABk) → Prop
 | [] => True
 | p :: l => (∃ b0, H.get p.1 = some b0 ∧ VwR b0 p.2) ∧ VwH H l
theorem VwH.get {H : T ABk} : ∀ {l : tH}, VwH H l → ∀ p ∈ l, ∃ b0, H.get p.1 = some b0 ∧ VwR b0 p.2
 | q :: l, h, p, hp => by
  rcases List.mem_cons.1 hp with rfl | hp
  ·exact h.1
  ·exact VwH.get h.2 p hp
theorem goes_view {P : Program} {n B K K' : Nat} {c : Code} {fr : Fr} {H : T ABk} {Post Post' : Po} (h : GoesB P c n B K K' fr H Post) (k : ∀ e fr' H', Post e fr' H' → ∃ bl, VwH H' bl ∧ Post' e fr' (hpL bl)) : GoesB P c n B K K' fr H Post' :=
 fun μ w a hg hf Q hQ => h μ w a hg hf Q fun e fr' H' a' w' hp ha => by
  obtain ⟨bl, h1, h2⟩ := k _ _ _ hp
  obtain ⟨μ', k1, k2, k3, k4⟩ := ha.of
  have G : ∀ i b, (hpL bl).get i = some b → ∃ b0, H'.get i = some b0 ∧ VwR b0 b := fun i b hb => h1.get _ (hpL_get hb)
  have mayT : ∀ b, May μ' (hpL bl) b → May μ' H' b := fun b hm => by
   obtain ⟨i, x, m1, m2, m3, m4⟩ := hm
   obtain ⟨b0, q1, q2⟩ := G i x m1
   exact ⟨i, b0, q1, q2.own m2, q2.rl m3, m4⟩
  refine hQ e fr' _ a' w' h2 ⟨μ', ⟨fun i b hb => ?_, fun i b hb => ?_, fun i b j b' hi hj ho hr hr' he => ?_, fun b o q => ⟨(k1.fz b o q).1, fun hm => (k1.fz b o q).2 (mayT b hm)⟩⟩, ⟨k2.names, k2.os, k2.tape, k2.output, k2.size, k2.block, fun b hb hm => k2.may b hb (mayT b hm), k2.fz⟩, k3, k4⟩
  ·obtain ⟨b0, q1, q2⟩ := G i b hb
   exact k1.lt _ _ q1
  ·obtain ⟨b0, q1, q2⟩ := G i b hb
   exact q2.ok (k1.ok _ _ q1)
  ·obtain ⟨b0, q1, q2⟩ := G i b hi
   obtain ⟨b1, r1, r2⟩ := G j b' hj
   exact k1.sep _ _ _ _ q1 r1 (q2.own ho) (q2.rl hr) (r2.rl hr') he
theorem rowsZ_el (a : Nat) (G : tE) : rowsZ (rowsOf ⟨false, a, 0, 0⟩ 8 8 (.fn fun j => zR (G j))) = G := funext fun j => by
 show unZ (zR (G (0 + j))) = G j
 rw [Nat.zero_add]
 rfl
def sgN (i : Nat) : Nat := if i = 2 then 8 else if 3 ≤ i ∧ i ≤ 8 then i - 1 else i
theorem sgN_inj : ∀ i j : Nat, sgN i = sgN j → i = j := fun i j h => by
 unfold sgN at h
 split at h <;> split at h <;> (try split at h) <;> (try split at h) <;> omega
noncomputable def opL : Oper := ((regOps ZCU).drop 1).headD ⟨none, .move (.tmp 0), 0, "", #[], none⟩
def clL : Call := ⟨.value (.func 19), #[.tmp 33], #[24]⟩
noncomputable abbrev ZDL (v0 : Nat) (v1 : tE) (w0) := ([(2, ZC v0 v1), (3, ZK v1 v0), (4, ZL v1 v0), (5, ZM v1 v0), (6, ZB v0 v1), (7, ZD v1 v0), (8, ZE v1 v0), (w0, ZJ v1 v0)] : tH)
noncomputable abbrev ZDc (v0 : tE) (v1 : Nat) := ([(9, ZH v0 v1), (2, ZC v1 v0), (3, ZK v0 v1), (4, ZL v0 v1), (5, ZM v0 v1), (6, ZB v1 v0), (7, ZD v0 v1), (8, ZE v0 v1), (1, ZJ v0 v1)] : tH)
noncomputable abbrev ZD6 (v0 : tE) (v1 : Nat) := ([(3, .bool true), (4, ZA 2), (6, Zm v0 v1 1), (7, ZBI v0 v1 9)] : tF)
noncomputable abbrev ZEN (v0 : tE) (v1 : Nat) (w0 w1) := ([(3, .bool true), (4, ZA 2), (w0, Zm v0 v1 w1)] : tF)
theorem zr_loops (n : Nat) (G : tE) (hn : n ≤ 256) :
  GoesB Try.prog ZCU Try.f8.ntmps 1 9 10 (frL (ZEN G n 6 1)) (hpL (ZDL n G 1)) (Nm (ZD6 G n) (ZDc G n)) := by
 have h0 : GoesB Try.prog ZCU Try.f8.ntmps 1 9 12 (frL (ZEN G n 6 1)) (hpL (ZDL n G 1)) (Nm (ZD6 G n) (ZDc G n)) := by
  refine GoesB.callL (o := opL) (cl := clL) (fop := .func 19) (f := 19) (fn := Try.f19) (body := (bodyOf Try.f19)) (pre := []) (cap := []) (args := [ZA 2]) callO_ok 1 (by kernel_rfl) (by kernel_rfl) (by kernel_rfl) (by kernel_rfl) rfl (d := 34) (by kernel_rfl) (Nat.le_of_ble_eq_true (by kernel_rfl)) (K1 := 9) (K2 := 12) (by omega) (zrF_r0 n (ND G n).length (BR G n).length (treeL G n).length 0 G (nmT (eget (treeL G n))) (zipF 0 (NM G n)) (zipF 0 (ND G n)) (zipF 0 (BR G n)) (lget (ND G n)) (lget (BR G n))) Try.func19 (by kernel_rfl) (by kernel_rfl) rfl (B0 := 9) (by omega) (by omega) (by omega) (ZEN G n 6 1) rfl (eGg rfl) rfl
   (V := fun v H' => v = sL 9 (restL G n).length ∧ H' = hpL (ZDc G n)) ?_ (fun v H' hv => by
    obtain ⟨rfl, rfl⟩ := hv
    exact ⟨[], _, _, zrFq_r0 n (ND G n).length (BR G n).length (treeL G n).length (restL G n).length 0 G (nmT (eget (treeL G n))) (lpN (eget (treeL G n)) (treeL G n).length (eget (restL G n))) (lpG (eget (treeL G n)) (treeL G n).length (eget (restL G n))) (zipF 0 (NM G n)) (zipF 0 (ND G n)) (zipF 0 (BR G n)) (lget (ND G n)) (lget (BR G n)), rfl, rfl, rfl⟩)
  refine GoesB.weakL (fl := [(0, ZA 2)]) (bl := (ZDL n G 1)) ⟨re rfl, trivial⟩ (eHh rfl) ?_
  refine GoesB.frameL (bl := (ZDG n G)) (xl := [(1, ZJ G n)]) (loc_goes n G hn) (by omega) ⟨⟨by omega, fun j hj v hv => List.all_eq_true.1 (show ((txR (nmT (eget (treeL G n)))) j).all (fun v => v.low 9) = true from rfl) v hv⟩, trivial⟩ rfl fun e fr' H0' hh => ?_
  obtain ⟨rfl, rfl, rfl⟩ := hh
  refine ⟨(ZEO G n), rfl, rfl, ⟨.inl rfl, .inr ⟨by omega, _, rfl, fun μ h => h⟩, .inr ⟨by omega, _, rfl, fun μ h => h⟩, .inr ⟨by omega, _, rfl, fun μ h => h⟩, .inr ⟨by omega, _, rfl, fun μ h => h⟩, .inr ⟨by omega, _, rfl, fun μ h => h⟩, .inr ⟨by omega, _, rfl, fun μ h => h⟩, .inr ⟨by omega, _, rfl, fun μ h => h⟩, trivial⟩, .inl rfl, _, _, res1 (t := 2) (by kernel_rfl) rfl, trivial, _, AV.ge.refl _, rfl, rfl⟩
 exact h0.renG fun e fr' H' hh => by
  obtain ⟨rfl, rfl, rfl⟩ := hh
  exact ⟨id, (ZD6 G n), (ZDc G n), fun g hg => rfl, (eRr rfl), ⟨rgR rfl rfl (fun j _ => rfl) (fun j _ => rfl) (by omega), rgR rfl rfl (fun j _ => rfl) (fun j _ => rfl) (by omega), rgM rfl rfl (by omega), rgM rfl rfl (by omega), rgM rfl rfl (by omega), rgR rfl rfl (fun j _ => rfl) (fun j _ => rfl) (by omega), rgR rfl rfl (fun j _ => rfl) (fun j _ => rfl) (by omega), rgR rfl rfl (fun j _ => rfl) (fun j _ => rfl) (by omega), rgR rfl rfl (fun j _ => rfl) (fun j _ => rfl) (by omega), trivial⟩, fun i j _ _ h => h, rfl, rfl, rfl⟩
theorem zr_l2 : (nav [1,1,1,1,1,1,0,1,0,0,1,0,0,1,1,0,0] (bodyOf Try.f8)) = .seq (nav [1,1,1,1,1,1,0,1,0,0,1,0,0,1,1,0,0,0] (bodyOf Try.f8)) (.seq (.block 3 (nav [1,1,1,1,1,1,0,1,0,0,1,0,0,1,1,0,0,1,0,0] (bodyOf Try.f8))) (nav [1,1,1,1,1,1,0,1,0,0,1,0,0,1,1,0,0,1,1] (bodyOf Try.f8))) := by kernel_rfl
theorem zr_i0 : (nav [1,1,1,1,1,1,0,1,0,0,1,0,0] (bodyOf Try.f8)) = .seq (nav [1,1,1,1,1,1,0,1,0,0,1,0,0,0] (bodyOf Try.f8)) (.seq (nav [1,1,1,1,1,1,0,1,0,0,1,0,0,1,0] (bodyOf Try.f8)) (.block 2 (.loop (nav [1,1,1,1,1,1,0,1,0,0,1,0,0,1,1,0,0] (bodyOf Try.f8))))) := by kernel_rfl
theorem zr_l0 : (nav [1,1,1,1,1,1,0,1,0,0] (bodyOf Try.f8)) = .seq (nav [1,1,1,1,1,1,0,1,0,0,0] (bodyOf Try.f8)) (.seq (.block 1 (nav [1,1,1,1,1,1,0,1,0,0,1,0,0] (bodyOf Try.f8))) (nav [1,1,1,1,1,1,0,1,0,0,1,1] (bodyOf Try.f8))) := by kernel_rfl
noncomputable abbrev ZDI (v0 : Nat) (v1 : tE) := ([(2, ZC v0 v1), (3, ZK v1 v0), (4, ZL v1 v0), (5, ZM v1 v0), (6, ZB v0 v1), (7, ZD v1 v0), (8, ZE v1 v0), (1, ZJ v1 v0), (9, ZH v1 v0)] : tH)
noncomputable abbrev ZEB (v0 : tE) (v1 v2 : Nat) (v3) := ([(3, .bool true), (4, ZA 2), (6, Zm v0 v1 1), (7, ZBI v0 v1 9), (8, iT (v2 : Int)), (9, iT (v3 : Int))] : tF)
theorem zr_inner (n : Nat) (G : tE) (hn : n ≤ 256) (L : RLaw n G) (i : Nat) (hi : i < (restL G n).length) :
  GoesB Try.prog (nav [1,1,1,1,1,1,0,1,0,0,1,0,0] (bodyOf Try.f8)) Try.f8.ntmps 10 10 10 (frL [(3, .bool true), (4, ZA 2), (6, Zm G n 1), (7, ZBI G n 9), (8, iT (i : Int))]) (hpL (ZDI n G)) (Nm [(3, .bool true), (4, ZA 2), (6, Zm G n 1), (7, ZBI G n 9), (8, iT (i : Int)), (9, iT ((treeL G n).length : Int))] (ZDI n G)) := by
 have ht : (treeL G n).length ≤ n := by rw [treeL_is]; exact spT_len _ G n
 have hq := net_q n G hn
 obtain ⟨l2, ix, p, Rn⟩ := L.a i hi
 rw [zr_i0]
 refine GoesB.seqN (K1 := 10) (F1 := [(3, .bool true), (4, ZA 2), (6, Zm G n 1), (7, ZBI G n 9), (8, iT (i : Int))]) (H1 := (ZDI n G)) ((zrI 10 (by omega) n (ND G n).length (BR G n).length (treeL G n).length (restL G n).length i 0 G (nmT (eget (treeL G n))) (lpN (eget (treeL G n)) (treeL G n).length (eget (restL G n))) (lpG (eget (treeL G n)) (treeL G n).length (eget (restL G n))) (zipF 0 (NM G n)) (zipF 0 (ND G n)) (zipF 0 (BR G n)) [] [] [] (lget (ND G n)) (lget (BR G n)) (fun _ => []) (fun _ => []) (by omega) (by omega) (fun _ => hq) (fun _ => ?_)).post fun e fr' H' hh => ?_) (by omega) ?_
 ·refine ⟨rfl, fun j hj => RowGe_refl _ rfl, ix, p, ?_⟩
  rw [Nat.zero_add]
  exact Rn
 ·rw [decide_eq_false (by rw [Nat.zero_add]; omega), cond_false] at hh
  obtain ⟨rfl, rfl, rfl⟩ := hh
  exact ⟨[(3, .bool true), (4, ZA 2), (6, Zm G n 1), (7, ZBI G n 9), (8, iT (i : Int))], (ZDI n G), (eGg rfl), (eHh rfl), rfl, rfl, rfl⟩
 refine GoesB.seqN (K1 := 10) (F1 := [(3, .bool true), (4, ZA 2), (6, Zm G n 1), (7, ZBI G n 9), (8, iT (i : Int)), (9, ZBn)]) (H1 := (ZDI n G)) (GoesB.toN ((zrJ 10 (by omega) (treeL G n).length (restL G n).length i (nmT (eget (treeL G n))) (lpG (eget (treeL G n)) (treeL G n).length (eget (restL G n))) (zipF 0 (NM G n)) (zipF 0 (ND G n)) (zipF 0 (BR G n)) [] [] [] (lget (ND G n)) (lget (BR G n)) (fun _ => []) (fun _ => [])).idleN (by omega) ⟨⟨by omega, fun j hj v hv => List.all_eq_true.1 (show (netR 6 7 8 n (ND G n).length (BR G n).length).all (fun v => v.low 10) = true from rfl) v hv⟩, ⟨by omega, trivial⟩, ⟨by omega, trivial⟩, ⟨by omega, trivial⟩, ⟨by omega, fun j hj v hv => List.all_eq_true.1 (show (elR (G j)).all (fun v => v.low 10) = true from rfl) v hv⟩, ⟨by omega, fun j hj v hv => List.all_eq_true.1 (show ((txR (lget (ND G n))) j).all (fun v => v.low 10) = true from rfl) v hv⟩, ⟨by omega, fun j hj v hv => List.all_eq_true.1 (show ((txR (lget (BR G n))) j).all (fun v => v.low 10) = true from rfl) v hv⟩, ⟨by omega, fun j hj v hv => List.all_eq_true.1 (show ((txR (nmT (eget (treeL G n)))) j).all (fun v => v.low 10) = true from rfl) v hv⟩, ⟨by omega, fun j hj v hv => List.all_eq_true.1 (show ([AV.txs ((lpN (eget (treeL G n)) (treeL G n).length (eget (restL G n))) j) ((lpG (eget (treeL G n)) (treeL G n).length (eget (restL G n))) j)]).all (fun v => v.low 10) = true from rfl) v hv⟩, trivial⟩) ⟨re rfl, re rfl, re rfl, re rfl, re rfl, ⟨_, rfl, AV.ge.int _ _ _ _⟩, trivial⟩ (eHh rfl)) (by omega) ?_
 refine GoesB.rounds (P := Try.prog) (n := Try.f8.ntmps) (B := 10) (K := 10) (id := 2) (treeL G n).length (fun j => [(3, .bool true), (4, ZA 2), (6, Zm G n 1), (7, ZBI G n 9), (8, iT (i : Int)), (9, iT (((j : Nat)) : Int))]) (fun _ => (ZDI n G)) (fun j hj => ?_) ?_
 ·rw [zr_l2]
  refine GoesB.seqN (K1 := 10) (F1 := (ZEB G n i j)) (H1 := (ZDI n G)) (((zrK 10 (by omega) (treeL G n).length (restL G n).length i j (nmT (eget (treeL G n))) (lpG (eget (treeL G n)) (treeL G n).length (eget (restL G n))) (zipF 0 (NM G n)) (zipF 0 (ND G n)) (zipF 0 (BR G n)) [] [] [] (lget (ND G n)) (lget (BR G n)) (fun _ => []) (fun _ => [])).mono fun e fr' H' hh => ?_).idleN (by omega) ⟨⟨by omega, fun j hj v hv => List.all_eq_true.1 (show (netR 6 7 8 n (ND G n).length (BR G n).length).all (fun v => v.low 10) = true from rfl) v hv⟩, ⟨by omega, trivial⟩, ⟨by omega, trivial⟩, ⟨by omega, trivial⟩, ⟨by omega, fun j hj v hv => List.all_eq_true.1 (show (elR (G j)).all (fun v => v.low 10) = true from rfl) v hv⟩, ⟨by omega, fun j hj v hv => List.all_eq_true.1 (show ((txR (lget (ND G n))) j).all (fun v => v.low 10) = true from rfl) v hv⟩, ⟨by omega, fun j hj v hv => List.all_eq_true.1 (show ((txR (lget (BR G n))) j).all (fun v => v.low 10) = true from rfl) v hv⟩, ⟨by omega, fun j hj v hv => List.all_eq_true.1 (show ((txR (nmT (eget (treeL G n)))) j).all (fun v => v.low 10) = true from rfl) v hv⟩, ⟨by omega, fun j hj v hv => List.all_eq_true.1 (show ([AV.txs ((lpN (eget (treeL G n)) (treeL G n).length (eget (restL G n))) j) ((lpG (eget (treeL G n)) (treeL G n).length (eget (restL G n))) j)]).all (fun v => v.low 10) = true from rfl) v hv⟩, trivial⟩) (by omega) ?_
  ·rw [decide_eq_true (by omega), cond_true] at hh
   exact hh
  refine GoesB.seqN (K1 := 10) (F1 := (ZEB G n i j)) (H1 := (ZDI n G)) (GoesB.blockN ?_) (by omega) ?_
  ·refine GoesB.weakL (fl := (ZEB G n i j)) (bl := [(1, ZJ G n), (9, ZH G n), (2, ZC n G), (3, ZK G n), (4, ZL G n), (5, ZM G n), (6, ZB n G), (7, ZD G n), (8, ZE G n)]) (eGg rfl) (eHh rfl) ?_
   refine GoesB.toN (F := (ZEB G n i j)) (H1 := [(1, ZJ G n), (9, ZH G n), (2, ZC n G), (3, ZK G n), (4, ZL G n), (5, ZM G n), (6, ZB n G), (7, ZD G n), (8, ZE G n)]) (GoesB.frameN (bl := [(1, ZJ G n), (9, ZH G n)]) (bl' := [(1, ZJ G n), (9, ZH G n)]) (xl := (ZDG n G)) ((zrL 10 (by omega) (treeL G n).length (restL G n).length i j (nmT (eget (treeL G n))) (lpN (eget (treeL G n)) (treeL G n).length (eget (restL G n))) (lpG (eget (treeL G n)) (treeL G n).length (eget (restL G n))) (zipF 0 (NM G n)) (zipF 0 (ND G n)) (zipF 0 (BR G n)) [] [] [] (lget (ND G n)) (lget (BR G n)) (fun _ => []) (fun _ => []) (by omega) (by omega) (by omega) (by omega) (by rw [Nat.zero_add]; omega)).mono fun e fr' H' hh => ?_) (by omega) ⟨⟨by omega, fun j hj v hv => List.all_eq_true.1 (show (netR 6 7 8 n (ND G n).length (BR G n).length).all (fun v => v.low 10) = true from rfl) v hv⟩, ⟨by omega, trivial⟩, ⟨by omega, trivial⟩, ⟨by omega, trivial⟩, ⟨by omega, fun j hj v hv => List.all_eq_true.1 (show (elR (G j)).all (fun v => v.low 10) = true from rfl) v hv⟩, ⟨by omega, fun j hj v hv => List.all_eq_true.1 (show ((txR (lget (ND G n))) j).all (fun v => v.low 10) = true from rfl) v hv⟩, ⟨by omega, fun j hj v hv => List.all_eq_true.1 (show ((txR (lget (BR G n))) j).all (fun v => v.low 10) = true from rfl) v hv⟩, trivial⟩ rfl rfl ⟨.inl rfl, .inl rfl, trivial⟩) (eGg rfl) (eHh rfl)
   rw [show (nmT (eget (treeL G n)) (0 + j) == (lpG (eget (treeL G n)) (treeL G n).length (eget (restL G n))) (0 + i) 0) = false by rw [Nat.zero_add, Nat.zero_add]; exact L.b i hi j hj, cond_false] at hh
   exact hh
  exact GoesB.toN ((zrM 10 (by omega) (treeL G n).length (restL G n).length i j (nmT (eget (treeL G n))) (lpG (eget (treeL G n)) (treeL G n).length (eget (restL G n))) (zipF 0 (NM G n)) (zipF 0 (ND G n)) (zipF 0 (BR G n)) [] [] [] (lget (ND G n)) (lget (BR G n)) (fun _ => []) (fun _ => []) (by omega)).idleN (by omega) ⟨⟨by omega, fun j hj v hv => List.all_eq_true.1 (show (netR 6 7 8 n (ND G n).length (BR G n).length).all (fun v => v.low 10) = true from rfl) v hv⟩, ⟨by omega, trivial⟩, ⟨by omega, trivial⟩, ⟨by omega, trivial⟩, ⟨by omega, fun j hj v hv => List.all_eq_true.1 (show (elR (G j)).all (fun v => v.low 10) = true from rfl) v hv⟩, ⟨by omega, fun j hj v hv => List.all_eq_true.1 (show ((txR (lget (ND G n))) j).all (fun v => v.low 10) = true from rfl) v hv⟩, ⟨by omega, fun j hj v hv => List.all_eq_true.1 (show ((txR (lget (BR G n))) j).all (fun v => v.low 10) = true from rfl) v hv⟩, ⟨by omega, fun j hj v hv => List.all_eq_true.1 (show ((txR (nmT (eget (treeL G n)))) j).all (fun v => v.low 10) = true from rfl) v hv⟩, ⟨by omega, fun j hj v hv => List.all_eq_true.1 (show ([AV.txs ((lpN (eget (treeL G n)) (treeL G n).length (eget (restL G n))) j) ((lpG (eget (treeL G n)) (treeL G n).length (eget (restL G n))) j)]).all (fun v => v.low 10) = true from rfl) v hv⟩, trivial⟩) ⟨re rfl, re rfl, re rfl, re rfl, re rfl, ⟨_, rfl, AV.ge.int' _ _ _ (by omega)⟩, trivial⟩ (eHh rfl)
 ·rw [zr_l2]
  refine GoesB.seqX (K1 := 10) (((zrK 10 (by omega) (treeL G n).length (restL G n).length i (treeL G n).length (nmT (eget (treeL G n))) (lpG (eget (treeL G n)) (treeL G n).length (eget (restL G n))) (zipF 0 (NM G n)) (zipF 0 (ND G n)) (zipF 0 (BR G n)) [] [] [] (lget (ND G n)) (lget (BR G n)) (fun _ => []) (fun _ => [])).mono fun e fr' H' hh => ?_).idleX (by omega) ⟨⟨by omega, fun j hj v hv => List.all_eq_true.1 (show (netR 6 7 8 n (ND G n).length (BR G n).length).all (fun v => v.low 10) = true from rfl) v hv⟩, ⟨by omega, trivial⟩, ⟨by omega, trivial⟩, ⟨by omega, trivial⟩, ⟨by omega, fun j hj v hv => List.all_eq_true.1 (show (elR (G j)).all (fun v => v.low 10) = true from rfl) v hv⟩, ⟨by omega, fun j hj v hv => List.all_eq_true.1 (show ((txR (lget (ND G n))) j).all (fun v => v.low 10) = true from rfl) v hv⟩, ⟨by omega, fun j hj v hv => List.all_eq_true.1 (show ((txR (lget (BR G n))) j).all (fun v => v.low 10) = true from rfl) v hv⟩, ⟨by omega, fun j hj v hv => List.all_eq_true.1 (show ((txR (nmT (eget (treeL G n)))) j).all (fun v => v.low 10) = true from rfl) v hv⟩, ⟨by omega, fun j hj v hv => List.all_eq_true.1 (show ([AV.txs ((lpN (eget (treeL G n)) (treeL G n).length (eget (restL G n))) j) ((lpG (eget (treeL G n)) (treeL G n).length (eget (restL G n))) j)]).all (fun v => v.low 10) = true from rfl) v hv⟩, trivial⟩) (by omega)
  rw [decide_eq_false (by omega), cond_false] at hh
  exact hh
theorem zr_loop0 (n : Nat) (G : tE) (hn : n ≤ 256) (L : RLaw n G) :
  GoesB Try.prog (.seq (nav [1,1,1,1,1,1,0,0] (bodyOf Try.f8)) (.block 0 (.loop (nav [1,1,1,1,1,1,0,1,0,0] (bodyOf Try.f8))))) Try.f8.ntmps 10 10 10 (frL (ZD6 G n)) (hpL (ZDI n G)) (Nm [(3, .bool true), (4, ZA 2), (6, Zm G n 1), (7, ZBI G n 9), (8, ZCW G n)] (ZDI n G)) := by
 have hr : (restL G n).length ≤ n := by rw [restL_is]; exact spR_len _ G n
 refine GoesB.seqN (K1 := 10) (F1 := [(3, .bool true), (4, ZA 2), (6, Zm G n 1), (7, ZBI G n 9), (8, ZBn)]) (H1 := (ZDI n G)) (GoesB.toN ((zrG 10 (by omega) (treeL G n).length (restL G n).length (nmT (eget (treeL G n))) (lpG (eget (treeL G n)) (treeL G n).length (eget (restL G n))) (zipF 0 (NM G n)) (zipF 0 (ND G n)) (zipF 0 (BR G n)) [] [] [] (lget (ND G n)) (lget (BR G n)) (fun _ => []) (fun _ => [])).idleN (by omega) ⟨⟨by omega, fun j hj v hv => List.all_eq_true.1 (show (netR 6 7 8 n (ND G n).length (BR G n).length).all (fun v => v.low 10) = true from rfl) v hv⟩, ⟨by omega, trivial⟩, ⟨by omega, trivial⟩, ⟨by omega, trivial⟩, ⟨by omega, fun j hj v hv => List.all_eq_true.1 (show (elR (G j)).all (fun v => v.low 10) = true from rfl) v hv⟩, ⟨by omega, fun j hj v hv => List.all_eq_true.1 (show ((txR (lget (ND G n))) j).all (fun v => v.low 10) = true from rfl) v hv⟩, ⟨by omega, fun j hj v hv => List.all_eq_true.1 (show ((txR (lget (BR G n))) j).all (fun v => v.low 10) = true from rfl) v hv⟩, ⟨by omega, fun j hj v hv => List.all_eq_true.1 (show ((txR (nmT (eget (treeL G n)))) j).all (fun v => v.low 10) = true from rfl) v hv⟩, ⟨by omega, fun j hj v hv => List.all_eq_true.1 (show ([AV.txs ((lpN (eget (treeL G n)) (treeL G n).length (eget (restL G n))) j) ((lpG (eget (treeL G n)) (treeL G n).length (eget (restL G n))) j)]).all (fun v => v.low 10) = true from rfl) v hv⟩, trivial⟩) ⟨re rfl, re rfl, re rfl, re rfl, ⟨_, rfl, AV.ge.int _ _ _ _⟩, trivial⟩ (eHh rfl)) (by omega) ?_
 refine GoesB.rounds (P := Try.prog) (n := Try.f8.ntmps) (B := 10) (K := 10) (id := 0) (restL G n).length (fun i => [(3, .bool true), (4, ZA 2), (6, Zm G n 1), (7, ZBI G n 9), (8, iT (((i : Nat)) : Int))]) (fun _ => (ZDI n G)) (fun i hi => ?_) ?_
 ·rw [zr_l0]
  refine GoesB.seqN (K1 := 10) (F1 := [(3, .bool true), (4, ZA 2), (6, Zm G n 1), (7, ZBI G n 9), (8, iT (i : Int))]) (H1 := (ZDI n G)) (((zrH 10 (by omega) (treeL G n).length (restL G n).length i (nmT (eget (treeL G n))) (lpG (eget (treeL G n)) (treeL G n).length (eget (restL G n))) (zipF 0 (NM G n)) (zipF 0 (ND G n)) (zipF 0 (BR G n)) [] [] [] (lget (ND G n)) (lget (BR G n)) (fun _ => []) (fun _ => [])).mono fun e fr' H' hh => ?_).idleN (by omega) ⟨⟨by omega, fun j hj v hv => List.all_eq_true.1 (show (netR 6 7 8 n (ND G n).length (BR G n).length).all (fun v => v.low 10) = true from rfl) v hv⟩, ⟨by omega, trivial⟩, ⟨by omega, trivial⟩, ⟨by omega, trivial⟩, ⟨by omega, fun j hj v hv => List.all_eq_true.1 (show (elR (G j)).all (fun v => v.low 10) = true from rfl) v hv⟩, ⟨by omega, fun j hj v hv => List.all_eq_true.1 (show ((txR (lget (ND G n))) j).all (fun v => v.low 10) = true from rfl) v hv⟩, ⟨by omega, fun j hj v hv => List.all_eq_true.1 (show ((txR (lget (BR G n))) j).all (fun v => v.low 10) = true from rfl) v hv⟩, ⟨by omega, fun j hj v hv => List.all_eq_true.1 (show ((txR (nmT (eget (treeL G n)))) j).all (fun v => v.low 10) = true from rfl) v hv⟩, ⟨by omega, fun j hj v hv => List.all_eq_true.1 (show ([AV.txs ((lpN (eget (treeL G n)) (treeL G n).length (eget (restL G n))) j) ((lpG (eget (treeL G n)) (treeL G n).length (eget (restL G n))) j)]).all (fun v => v.low 10) = true from rfl) v hv⟩, trivial⟩) (by omega) ?_
  ·rw [decide_eq_true (by omega), cond_true] at hh
   exact hh
  refine GoesB.seqN (K1 := 10) (F1 := [(3, .bool true), (4, ZA 2), (6, Zm G n 1), (7, ZBI G n 9), (8, iT (i : Int))]) (H1 := (ZDI n G)) (GoesB.blockN (GoesB.toN (zr_inner n G hn L i hi) (eGg rfl) (eHh rfl))) (by omega) ?_
  exact GoesB.toN ((zrN 10 (by omega) (treeL G n).length (restL G n).length i (nmT (eget (treeL G n))) (lpG (eget (treeL G n)) (treeL G n).length (eget (restL G n))) (zipF 0 (NM G n)) (zipF 0 (ND G n)) (zipF 0 (BR G n)) [] [] [] (lget (ND G n)) (lget (BR G n)) (fun _ => []) (fun _ => []) (by omega)).idleN (by omega) ⟨⟨by omega, fun j hj v hv => List.all_eq_true.1 (show (netR 6 7 8 n (ND G n).length (BR G n).length).all (fun v => v.low 10) = true from rfl) v hv⟩, ⟨by omega, trivial⟩, ⟨by omega, trivial⟩, ⟨by omega, trivial⟩, ⟨by omega, fun j hj v hv => List.all_eq_true.1 (show (elR (G j)).all (fun v => v.low 10) = true from rfl) v hv⟩, ⟨by omega, fun j hj v hv => List.all_eq_true.1 (show ((txR (lget (ND G n))) j).all (fun v => v.low 10) = true from rfl) v hv⟩, ⟨by omega, fun j hj v hv => List.all_eq_true.1 (show ((txR (lget (BR G n))) j).all (fun v => v.low 10) = true from rfl) v hv⟩, ⟨by omega, fun j hj v hv => List.all_eq_true.1 (show ((txR (nmT (eget (treeL G n)))) j).all (fun v => v.low 10) = true from rfl) v hv⟩, ⟨by omega, fun j hj v hv => List.all_eq_true.1 (show ([AV.txs ((lpN (eget (treeL G n)) (treeL G n).length (eget (restL G n))) j) ((lpG (eget (treeL G n)) (treeL G n).length (eget (restL G n))) j)]).all (fun v => v.low 10) = true from rfl) v hv⟩, trivial⟩) ⟨re rfl, re rfl, re rfl, re rfl, ⟨_, rfl, AV.ge.int' _ _ _ (by omega)⟩, trivial⟩ (eHh rfl)
 ·rw [zr_l0]
  refine GoesB.seqX (K1 := 10) (((zrH 10 (by omega) (treeL G n).length (restL G n).length (restL G n).length (nmT (eget (treeL G n))) (lpG (eget (treeL G n)) (treeL G n).length (eget (restL G n))) (zipF 0 (NM G n)) (zipF 0 (ND G n)) (zipF 0 (BR G n)) [] [] [] (lget (ND G n)) (lget (BR G n)) (fun _ => []) (fun _ => [])).mono fun e fr' H' hh => ?_).idleX (by omega) ⟨⟨by omega, fun j hj v hv => List.all_eq_true.1 (show (netR 6 7 8 n (ND G n).length (BR G n).length).all (fun v => v.low 10) = true from rfl) v hv⟩, ⟨by omega, trivial⟩, ⟨by omega, trivial⟩, ⟨by omega, trivial⟩, ⟨by omega, fun j hj v hv => List.all_eq_true.1 (show (elR (G j)).all (fun v => v.low 10) = true from rfl) v hv⟩, ⟨by omega, fun j hj v hv => List.all_eq_true.1 (show ((txR (lget (ND G n))) j).all (fun v => v.low 10) = true from rfl) v hv⟩, ⟨by omega, fun j hj v hv => List.all_eq_true.1 (show ((txR (lget (BR G n))) j).all (fun v => v.low 10) = true from rfl) v hv⟩, ⟨by omega, fun j hj v hv => List.all_eq_true.1 (show ((txR (nmT (eget (treeL G n)))) j).all (fun v => v.low 10) = true from rfl) v hv⟩, ⟨by omega, fun j hj v hv => List.all_eq_true.1 (show ([AV.txs ((lpN (eget (treeL G n)) (treeL G n).length (eget (restL G n))) j) ((lpG (eget (treeL G n)) (treeL G n).length (eget (restL G n))) j)]).all (fun v => v.low 10) = true from rfl) v hv⟩, trivial⟩) (by omega)
  rw [decide_eq_false (by omega), cond_false] at hh
  exact hh
noncomputable abbrev ZCJ := nav [1,1,1,1,1,1,1,1,0,1,0,0,1,0,0] (bodyOf Try.f8)
theorem zr_l4 : (nav [1,1,1,1,1,1,1,1,0,1,0,0] (bodyOf Try.f8)) = .seq (nav [1,1,1,1,1,1,1,1,0,1,0,0,0] (bodyOf Try.f8)) (.seq (.block 5 ZCJ) (nav [1,1,1,1,1,1,1,1,0,1,0,0,1,1] (bodyOf Try.f8))) := by kernel_rfl
theorem zr_i4 : ZCJ = .seq ZCF (.seq (nav [1,1,1,1,1,1,1,1,0,1,0,0,1,0,0,1,0] (bodyOf Try.f8)) (nav [1,1,1,1,1,1,1,1,0,1,0,0,1,0,0,1,1] (bodyOf Try.f8))) := by kernel_rfl
noncomputable abbrev ZBd (v0 : tE) (v1 v2 : Nat) := (.cells true 8 1 (.fn fun _ => elR ((eget (treeL v0 v1)) v2)) : ABk)
noncomputable abbrev ZBo (v0 : Nat) (v1 : tE) (v2 : Nat) := (.cells true 8 v0 (.fn fun j => elR ((eget (treeL v1 v2)) j)) : ABk)
noncomputable abbrev ZCi (v0 : Nat) (v1 : tE) (v2 : Nat) := (.cells true 8 (v0 + 1) (.fn fun j => elR ((eget (treeL v1 v2)) j)) : ABk)
noncomputable abbrev ZDd (v0 : tE) (v1 v2 : Nat) (w0) := ([(w0, ZBd v0 v1 v2), (2, ZC v1 v0), (3, ZK v0 v1), (4, ZL v0 v1), (5, ZM v0 v1), (6, ZB v1 v0), (7, ZD v0 v1), (8, ZE v0 v1), (1, ZJ v0 v1)] : tH)
noncomputable abbrev ZDo (v0 : tE) (v1 v2 : Nat) (w0) := ([(3, .bool true), (4, ZA 2), (6, Zm v0 v1 1), (10, sL 10 v2), (11, ZB7 v2), (12, ZA w0), (13, .bool true)] : tF)
noncomputable abbrev ZED (v0 : tE) (v1 v2 : Nat) := ([(3, .bool true), (4, ZA 2), (6, Zm v0 v1 1), (10, sL 10 v2), (11, ZB7 v2)] : tF)
noncomputable abbrev ZEM (v0 : Nat) (v1 : tE) (v2 : Nat) (w0) := ([(w0, ZCi v0 v1 v2), (2, ZC v2 v1), (3, ZK v1 v2), (4, ZL v1 v2), (5, ZM v1 v2), (6, ZB v2 v1), (7, ZD v1 v2), (8, ZE v1 v2), (1, ZJ v1 v2)] : tH)
theorem zr_only (n : Nat) (G : tE) (hn : n ≤ 256) (L : RLaw n G) (i : Nat) (hi : i < (treeL G n).length) :
  GoesB Try.prog ZCJ Try.f8.ntmps 10 11 11 (frL (ZED G n i)) (hpL [(10, ZBo i G n), (2, ZC n G), (3, ZK G n), (4, ZL G n), (5, ZM G n), (6, ZB n G), (7, ZD G n), (8, ZE G n), (1, ZJ G n)]) (Nm [(3, .bool true), (4, ZA 2), (6, Zm G n 1), (10, sL 10 (i + 1)), (11, ZB7 i)] (ZEM i G n 10)) := by
 have ht : (treeL G n).length ≤ n := by rw [treeL_is]; exact spT_len _ G n
 obtain ⟨u, hu, hp, he⟩ := L.c i hi
 have hf := find_at hp
 have h14 : GoesB Try.prog ZCJ Try.f8.ntmps 10 11 14 (frL (ZED G n i)) (hpL [(10, ZBo i G n), (2, ZC n G), (3, ZK G n), (4, ZL G n), (5, ZM G n), (6, ZB n G), (7, ZD G n), (8, ZE G n), (1, ZJ G n)]) (Nm [(3, .bool true), (4, ZA 2), (6, Zm G n 1), (10, sL 13 (i + 1)), (11, ZB7 i)] (ZEM i G n 13)) := by
  rw [zr_i4]
  refine GoesB.seqN (K1 := 12) (F1 := (ZDo G n i 11)) (H1 := [(11, ZBd G n i), (10, ZBo i G n), (2, ZC n G), (3, ZK G n), (4, ZL G n), (5, ZM G n), (6, ZB n G), (7, ZD G n), (8, ZE G n), (1, ZJ G n)]) ?_ (by omega) ?_
  ·have h0 : GoesB Try.prog ZCF Try.f8.ntmps 11 11 15 (frL (ZED G n i)) (hpL (ZDL n G 1)) (Nm (ZDo G n i 12) (ZDd G n i 12)) := by
    refine (zrR 11 (by omega) n (ND G n).length (BR G n).length (treeL G n).length i i 0 G (nmT (eget (treeL G n))) (lpG (eget (treeL G n)) (treeL G n).length (eget (restL G n))) (zipF 0 (NM G n)) (zipF 0 (ND G n)) (zipF 0 (BR G n)) [] [] [] (lget (ND G n)) (lget (BR G n)) (fun _ => []) (fun _ => []) (by omega) (by omega) (fun _ => ?_) (fun _ => ?_) (fun _ => ?_)).post fun e fr' H' hh => ?_
    ·rw [Nat.zero_add, hf]; exact Int.natCast_nonneg _
    ·rw [Nat.zero_add, hf]; exact Int.ofNat_lt.2 hu
    ·rw [Nat.zero_add, Nat.zero_add, hf]; show Int.toNat ((u : Nat) : Int) < n; rw [Int.toNat_natCast]; exact hu
    ·rw [Nat.zero_add, hf, Option.isSome_some, cond_true] at hh
     obtain ⟨rfl, rfl, rfl⟩ := hh
     refine ⟨(ZDo G n i 12), (ZDd G n i 12), (eGg rfl), ⟨wk_hb rfl ?_, eHh rfl⟩, rfl, rfl, rfl⟩
     show elR (G (0 + Int.toNat ((u : Nat) : Int))) = elR ((eget (treeL G n)) i)
     rw [Int.toNat_natCast, Nat.zero_add, he]
   have h1 : GoesB Try.prog ZCF Try.f8.ntmps 11 11 12 (frL (ZED G n i)) (hpL (ZDL n G 1)) (Nm (ZDo G n i 11) (ZDd G n i 11)) := h0.renG fun e fr' H' hh => by
    obtain ⟨rfl, rfl, rfl⟩ := hh
    exact ⟨sg 11 12, (ZDo G n i 11), (ZDd G n i 11), sg_low (by omega), (eRr rfl), ⟨rgR rfl rfl (fun j _ => rfl) (fun j _ => rfl) (by omega), rgR rfl rfl (fun j _ => rfl) (fun j _ => rfl) (by omega), rgM rfl rfl (by omega), rgM rfl rfl (by omega), rgM rfl rfl (by omega), rgR rfl rfl (fun j _ => rfl) (fun j _ => rfl) (by omega), rgR rfl rfl (fun j _ => rfl) (fun j _ => rfl) (by omega), rgR rfl rfl (fun j _ => rfl) (fun j _ => rfl) (by omega), rgR rfl rfl (fun j _ => rfl) (fun j _ => rfl) (by omega), trivial⟩, sg_inj (by omega), rfl, rfl, rfl⟩
   refine GoesB.weakL (fl := (ZED G n i)) (bl := [(2, ZC n G), (3, ZK G n), (4, ZL G n), (5, ZM G n), (6, ZB n G), (7, ZD G n), (8, ZE G n), (1, ZJ G n), (10, ZBo i G n)]) (eGg rfl) (eHh rfl) ?_
   exact GoesB.toN (GoesB.lower (GoesB.frameN (bl := (ZDL n G 1)) (bl' := (ZDd G n i 11)) (xl := [(10, ZBo i G n)]) (h1) (by omega) ⟨⟨by omega, fun j hj v hv => List.all_eq_true.1 (show (elR ((eget (treeL G n)) j)).all (fun v => v.low 11) = true from rfl) v hv⟩, trivial⟩ rfl rfl ⟨.inl rfl, .inr ⟨by omega, _, rfl, fun μ h => h⟩, .inr ⟨by omega, _, rfl, fun μ h => h⟩, .inr ⟨by omega, _, rfl, fun μ h => h⟩, .inr ⟨by omega, _, rfl, fun μ h => h⟩, .inr ⟨by omega, _, rfl, fun μ h => h⟩, .inr ⟨by omega, _, rfl, fun μ h => h⟩, .inr ⟨by omega, _, rfl, fun μ h => h⟩, .inl rfl, trivial⟩) (by omega)) (eGg rfl) (eHh rfl)
  refine GoesB.seqN (K1 := 12) (F1 := [(3, .bool true), (4, ZA 2), (6, Zm G n 1), (10, sL 10 i), (11, ZB7 i), (12, ZA 11)]) (H1 := [(10, ZBo i G n), (11, ZBd G n i), (2, ZC n G), (3, ZK G n), (4, ZL G n), (5, ZM G n), (6, ZB n G), (7, ZD G n), (8, ZE G n), (1, ZJ G n)]) (GoesB.toN (GoesB.lower ((zrS 12 (by omega) (treeL G n).length i i (nmT (eget (treeL G n))) (lpG (eget (treeL G n)) (treeL G n).length (eget (restL G n))) (zipF 0 (NM G n)) (zipF 0 (ND G n)) (zipF 0 (BR G n)) [] [] [] (lget (ND G n)) (lget (BR G n)) (fun _ => []) (fun _ => [])).idleN (by omega) ⟨⟨by omega, fun j hj v hv => List.all_eq_true.1 (show (elR ((eget (treeL G n)) i)).all (fun v => v.low 12) = true from rfl) v hv⟩, ⟨by omega, fun j hj v hv => List.all_eq_true.1 (show (elR ((eget (treeL G n)) j)).all (fun v => v.low 12) = true from rfl) v hv⟩, ⟨by omega, fun j hj v hv => List.all_eq_true.1 (show (netR 6 7 8 n (ND G n).length (BR G n).length).all (fun v => v.low 12) = true from rfl) v hv⟩, ⟨by omega, trivial⟩, ⟨by omega, trivial⟩, ⟨by omega, trivial⟩, ⟨by omega, fun j hj v hv => List.all_eq_true.1 (show (elR (G j)).all (fun v => v.low 12) = true from rfl) v hv⟩, ⟨by omega, fun j hj v hv => List.all_eq_true.1 (show ((txR (lget (ND G n))) j).all (fun v => v.low 12) = true from rfl) v hv⟩, ⟨by omega, fun j hj v hv => List.all_eq_true.1 (show ((txR (lget (BR G n))) j).all (fun v => v.low 12) = true from rfl) v hv⟩, ⟨by omega, fun j hj v hv => List.all_eq_true.1 (show ((txR (nmT (eget (treeL G n)))) j).all (fun v => v.low 12) = true from rfl) v hv⟩, trivial⟩) (by omega)) (eGg rfl) (eHh rfl)) (by omega) ?_
  refine GoesB.frameN (bl := [(10, ZBo i G n), (11, ZBd G n i)]) (bl' := [(13, ZCi i G n)]) (xl := (ZDL n G 1)) (GoesB.toN (zrT 10 (by omega) (treeL G n).length i i 0 (eget (treeL G n)) ((eget (treeL G n)) i) (nmT (eget (treeL G n))) (lpG (eget (treeL G n)) (treeL G n).length (eget (restL G n))) (zipF 0 (NM G n)) (zipF 0 (ND G n)) (zipF 0 (BR G n)) [] [] [] (lget (ND G n)) (lget (BR G n)) (fun _ => []) (fun _ => []) (by omega) (by omega)) (eGg rfl) ⟨⟨_, rfl, rfl, rfl, rfl, fun j hj => ?_⟩, trivial⟩) (by omega) ⟨⟨by omega, fun j hj v hv => List.all_eq_true.1 (show (netR 6 7 8 n (ND G n).length (BR G n).length).all (fun v => v.low 10) = true from rfl) v hv⟩, ⟨by omega, trivial⟩, ⟨by omega, trivial⟩, ⟨by omega, trivial⟩, ⟨by omega, fun j hj v hv => List.all_eq_true.1 (show (elR (G j)).all (fun v => v.low 10) = true from rfl) v hv⟩, ⟨by omega, fun j hj v hv => List.all_eq_true.1 (show ((txR (lget (ND G n))) j).all (fun v => v.low 10) = true from rfl) v hv⟩, ⟨by omega, fun j hj v hv => List.all_eq_true.1 (show ((txR (lget (BR G n))) j).all (fun v => v.low 10) = true from rfl) v hv⟩, ⟨by omega, fun j hj v hv => List.all_eq_true.1 (show ((txR (nmT (eget (treeL G n)))) j).all (fun v => v.low 10) = true from rfl) v hv⟩, trivial⟩ rfl rfl ⟨.inl rfl, trivial⟩
  show (bif decide (j < i) then elR ((eget (treeL G n)) j) else elR ((eget (treeL G n)) i)) = elR ((eget (treeL G n)) j)
  by_cases c : j < i
  ·rw [decide_eq_true c, cond_true]
  ·obtain rfl : j = i := by omega
   rw [decide_eq_false c, cond_false]
 exact h14.renG fun e fr' H' hh => by
  obtain ⟨rfl, rfl, rfl⟩ := hh
  exact ⟨sg 10 13, [(3, .bool true), (4, ZA 2), (6, Zm G n 1), (10, sL 10 (i + 1)), (11, ZB7 i)], (ZEM i G n 10), sg_low (by omega), (eRr rfl), ⟨rgR rfl rfl (fun j _ => rfl) (fun j _ => rfl) (by omega), rgR rfl rfl (fun j _ => rfl) (fun j _ => rfl) (by omega), rgM rfl rfl (by omega), rgM rfl rfl (by omega), rgM rfl rfl (by omega), rgR rfl rfl (fun j _ => rfl) (fun j _ => rfl) (by omega), rgR rfl rfl (fun j _ => rfl) (fun j _ => rfl) (by omega), rgR rfl rfl (fun j _ => rfl) (fun j _ => rfl) (by omega), rgR rfl rfl (fun j _ => rfl) (fun j _ => rfl) (by omega), trivial⟩, sg_inj (by omega), rfl, rfl, rfl⟩
noncomputable abbrev ZC4 (v0 : tE) (v1 : Nat) := (.cells true 8 (treeL v0 v1).length (.fn fun j => elR ((eget (treeL v0 v1)) j)) : ABk)
noncomputable abbrev ZDs (v0 : tE) (v1 : Nat) := ([(10, .cells true 8 0 (.fn fun j => elR ((eget (treeL v0 v1)) j))), (2, ZC v1 v0), (3, ZK v0 v1), (4, ZL v0 v1), (5, ZM v0 v1), (6, ZB v1 v0), (7, ZD v0 v1), (8, ZE v0 v1), (1, ZJ v0 v1)] : tH)
noncomputable abbrev ZEZ (v0) (v1 : tE) (v2 : Nat) := ([(10, .cells true 8 v0 (.fn fun j => elR ((eget (treeL v1 v2)) j))), (2, ZC v2 v1), (3, ZK v1 v2), (4, ZL v1 v2), (5, ZM v1 v2), (6, ZB v2 v1), (7, ZD v1 v2), (8, ZE v1 v2), (1, ZJ v1 v2)] : tH)
theorem zr_loop4 (n : Nat) (G : tE) (hn : n ≤ 256) (L : RLaw n G) :
  GoesB Try.prog (.seq (nav [1,1,1,1,1,1,1,1,0,0] (bodyOf Try.f8)) (.block 4 (.loop (nav [1,1,1,1,1,1,1,1,0,1,0,0] (bodyOf Try.f8))))) Try.f8.ntmps 10 11 11 (frL [(3, .bool true), (4, ZA 2), (6, Zm G n 1), (10, sL 10 0)]) (hpL (ZDs G n)) (Nm [(3, .bool true), (4, ZA 2), (6, Zm G n 1), (10, Zm G n 10), (11, iT (((treeL G n).length : Nat) : Int))] [(10, ZC4 G n), (2, ZC n G), (3, ZK G n), (4, ZL G n), (5, ZM G n), (6, ZB n G), (7, ZD G n), (8, ZE G n), (1, ZJ G n)]) := by
 have ht : (treeL G n).length ≤ n := by rw [treeL_is]; exact spT_len _ G n
 refine GoesB.seqN (K1 := 11) (F1 := [(3, .bool true), (4, ZA 2), (6, Zm G n 1), (10, sL 10 0), (11, ZBn)]) (H1 := (ZDs G n)) (GoesB.toN (GoesB.lower ((zrP 11 (by omega) (treeL G n).length (nmT (eget (treeL G n))) (lpG (eget (treeL G n)) (treeL G n).length (eget (restL G n))) (zipF 0 (NM G n)) (zipF 0 (ND G n)) (zipF 0 (BR G n)) [] [] [] (lget (ND G n)) (lget (BR G n)) (fun _ => []) (fun _ => [])).idleN (by omega) ⟨⟨by omega, fun j hj v hv => List.all_eq_true.1 (show (elR ((eget (treeL G n)) j)).all (fun v => v.low 11) = true from rfl) v hv⟩, ⟨by omega, fun j hj v hv => List.all_eq_true.1 (show (netR 6 7 8 n (ND G n).length (BR G n).length).all (fun v => v.low 11) = true from rfl) v hv⟩, ⟨by omega, trivial⟩, ⟨by omega, trivial⟩, ⟨by omega, trivial⟩, ⟨by omega, fun j hj v hv => List.all_eq_true.1 (show (elR (G j)).all (fun v => v.low 11) = true from rfl) v hv⟩, ⟨by omega, fun j hj v hv => List.all_eq_true.1 (show ((txR (lget (ND G n))) j).all (fun v => v.low 11) = true from rfl) v hv⟩, ⟨by omega, fun j hj v hv => List.all_eq_true.1 (show ((txR (lget (BR G n))) j).all (fun v => v.low 11) = true from rfl) v hv⟩, ⟨by omega, fun j hj v hv => List.all_eq_true.1 (show ((txR (nmT (eget (treeL G n)))) j).all (fun v => v.low 11) = true from rfl) v hv⟩, trivial⟩) (by omega)) ⟨re rfl, re rfl, re rfl, re rfl, ⟨_, rfl, AV.ge.int _ _ _ _⟩, trivial⟩ (eHh rfl)) (by omega) ?_
 refine GoesB.rounds (P := Try.prog) (n := Try.f8.ntmps) (B := 10) (K := 11) (id := 4) (treeL G n).length (fun i => [(3, .bool true), (4, ZA 2), (6, Zm G n 1), (10, sL 10 i), (11, iT ((i : Nat) : Int))]) (fun i => (ZEZ i G n)) (fun i hi => ?_) ?_
 ·rw [zr_l4]
  refine GoesB.seqN (K1 := 11) (F1 := [(3, .bool true), (4, ZA 2), (6, Zm G n 1), (10, sL 10 i), (11, iT ((i : Nat) : Int))]) (H1 := (ZEZ i G n)) (GoesB.lower (((zrQ 11 (by omega) (treeL G n).length i i (nmT (eget (treeL G n))) (lpG (eget (treeL G n)) (treeL G n).length (eget (restL G n))) (zipF 0 (NM G n)) (zipF 0 (ND G n)) (zipF 0 (BR G n)) [] [] [] (lget (ND G n)) (lget (BR G n)) (fun _ => []) (fun _ => [])).mono fun e fr' H' hh => ?_).idleN (by omega) ⟨⟨by omega, fun j hj v hv => List.all_eq_true.1 (show (elR ((eget (treeL G n)) j)).all (fun v => v.low 11) = true from rfl) v hv⟩, ⟨by omega, fun j hj v hv => List.all_eq_true.1 (show (netR 6 7 8 n (ND G n).length (BR G n).length).all (fun v => v.low 11) = true from rfl) v hv⟩, ⟨by omega, trivial⟩, ⟨by omega, trivial⟩, ⟨by omega, trivial⟩, ⟨by omega, fun j hj v hv => List.all_eq_true.1 (show (elR (G j)).all (fun v => v.low 11) = true from rfl) v hv⟩, ⟨by omega, fun j hj v hv => List.all_eq_true.1 (show ((txR (lget (ND G n))) j).all (fun v => v.low 11) = true from rfl) v hv⟩, ⟨by omega, fun j hj v hv => List.all_eq_true.1 (show ((txR (lget (BR G n))) j).all (fun v => v.low 11) = true from rfl) v hv⟩, ⟨by omega, fun j hj v hv => List.all_eq_true.1 (show ((txR (nmT (eget (treeL G n)))) j).all (fun v => v.low 11) = true from rfl) v hv⟩, trivial⟩) (by omega)) (by omega) ?_
  ·rw [decide_eq_true (by omega), cond_true] at hh
   exact hh
  refine GoesB.seqN (K1 := 11) (F1 := [(3, .bool true), (4, ZA 2), (6, Zm G n 1), (10, sL 10 (i + 1)), (11, iT ((i : Nat) : Int))]) (H1 := [(10, .cells true 8 (i + 1) (.fn fun j => elR ((eget (treeL G n)) j))), (2, ZC n G), (3, ZK G n), (4, ZL G n), (5, ZM G n), (6, ZB n G), (7, ZD G n), (8, ZE G n), (1, ZJ G n)]) (GoesB.blockN (zr_only n G hn L i hi)) (by omega) ?_
  exact GoesB.toN (GoesB.lower ((zrU 11 (by omega) (treeL G n).length (i + 1) i (nmT (eget (treeL G n))) (lpG (eget (treeL G n)) (treeL G n).length (eget (restL G n))) (zipF 0 (NM G n)) (zipF 0 (ND G n)) (zipF 0 (BR G n)) [] [] [] (lget (ND G n)) (lget (BR G n)) (fun _ => []) (fun _ => []) (by omega)).idleN (by omega) ⟨⟨by omega, fun j hj v hv => List.all_eq_true.1 (show (elR ((eget (treeL G n)) j)).all (fun v => v.low 11) = true from rfl) v hv⟩, ⟨by omega, fun j hj v hv => List.all_eq_true.1 (show (netR 6 7 8 n (ND G n).length (BR G n).length).all (fun v => v.low 11) = true from rfl) v hv⟩, ⟨by omega, trivial⟩, ⟨by omega, trivial⟩, ⟨by omega, trivial⟩, ⟨by omega, fun j hj v hv => List.all_eq_true.1 (show (elR (G j)).all (fun v => v.low 11) = true from rfl) v hv⟩, ⟨by omega, fun j hj v hv => List.all_eq_true.1 (show ((txR (lget (ND G n))) j).all (fun v => v.low 11) = true from rfl) v hv⟩, ⟨by omega, fun j hj v hv => List.all_eq_true.1 (show ((txR (lget (BR G n))) j).all (fun v => v.low 11) = true from rfl) v hv⟩, ⟨by omega, fun j hj v hv => List.all_eq_true.1 (show ((txR (nmT (eget (treeL G n)))) j).all (fun v => v.low 11) = true from rfl) v hv⟩, trivial⟩) (by omega)) ⟨re rfl, re rfl, re rfl, re rfl, ⟨_, rfl, AV.ge.int' _ _ _ (by omega)⟩, trivial⟩ (eHh rfl)
 ·rw [zr_l4]
  refine GoesB.seqX (K1 := 11) (GoesB.lower (((zrQ 11 (by omega) (treeL G n).length (treeL G n).length (treeL G n).length (nmT (eget (treeL G n))) (lpG (eget (treeL G n)) (treeL G n).length (eget (restL G n))) (zipF 0 (NM G n)) (zipF 0 (ND G n)) (zipF 0 (BR G n)) [] [] [] (lget (ND G n)) (lget (BR G n)) (fun _ => []) (fun _ => [])).mono fun e fr' H' hh => ?_).idleX (by omega) ⟨⟨by omega, fun j hj v hv => List.all_eq_true.1 (show (elR ((eget (treeL G n)) j)).all (fun v => v.low 11) = true from rfl) v hv⟩, ⟨by omega, fun j hj v hv => List.all_eq_true.1 (show (netR 6 7 8 n (ND G n).length (BR G n).length).all (fun v => v.low 11) = true from rfl) v hv⟩, ⟨by omega, trivial⟩, ⟨by omega, trivial⟩, ⟨by omega, trivial⟩, ⟨by omega, fun j hj v hv => List.all_eq_true.1 (show (elR (G j)).all (fun v => v.low 11) = true from rfl) v hv⟩, ⟨by omega, fun j hj v hv => List.all_eq_true.1 (show ((txR (lget (ND G n))) j).all (fun v => v.low 11) = true from rfl) v hv⟩, ⟨by omega, fun j hj v hv => List.all_eq_true.1 (show ((txR (lget (BR G n))) j).all (fun v => v.low 11) = true from rfl) v hv⟩, ⟨by omega, fun j hj v hv => List.all_eq_true.1 (show ((txR (nmT (eget (treeL G n)))) j).all (fun v => v.low 11) = true from rfl) v hv⟩, trivial⟩) (by omega)) (by omega)
  rw [decide_eq_false (by omega), cond_false] at hh
  exact hh
noncomputable abbrev ZBh (v0 : Nat) (v1 : tE) := (.cells false 7 1 (.fn fun _ => netG 2 3 4 5 6 7 v0 (ND v1 v0).length (BR v1 v0).length) : ABk)
noncomputable abbrev ZB8 (v0 : tE) (v1 : Nat) := (.cells false 1 ((ND v0 v1).length) (.fn (txR (lget (ND v0 v1)))) : ABk)
noncomputable abbrev ZB9 (v0 : tE) (v1 : Nat) := (.cells false 1 ((BR v0 v1).length) (.fn (txR (lget (BR v0 v1)))) : ABk)
noncomputable abbrev ZCu (v0 : Nat) (v1 : tE) := (.cells false 8 (v0) (.fn fun j => elR (v1 j)) : ABk)
noncomputable abbrev ZEs (v0 : tE) (v1 : Nat) := ([(9, ZDh), (2, ZK v0 v1), (3, ZL v0 v1), (4, ZM v0 v1), (5, ZCu v1 v0), (6, ZB8 v0 v1), (7, ZB9 v0 v1), (8, ZBh v1 v0)] : tH)
theorem law_goes (n : Nat) (G : tE) (hn : n * 104 ≤ 140737488351232) (hv : ∀ j, j < n → (G j).v < 18446744073709551616) : GoesB Try.prog (bodyOf Try.f8) Try.f8.ntmps 1 1 20 (frameOf [ZF n 0] 0 .e) (hpL [(0, Zt n G)]) (fun e fr' H' => (e = .ret ∨ e = .normal) ∧ ∃ u, fr'.get 2 = some u ∧ AV.ge u (.bool true)) := by
 rw [show (bodyOf Try.f8) = .seq (nav [0] (bodyOf Try.f8)) (.seq (nav [1,0] (bodyOf Try.f8)) (.seq (nav [1,1,0] (bodyOf Try.f8)) (.seq (nav [1,1,1,0] (bodyOf Try.f8)) (.seq (nav [1,1,1,1,0] (bodyOf Try.f8)) (.seq (nav [1,1,1,1,1,0] (bodyOf Try.f8)) (.seq (.seq (nav [1,1,1,1,1,1,0,0] (bodyOf Try.f8)) (.block 0 (.loop (nav [1,1,1,1,1,1,0,1,0,0] (bodyOf Try.f8))))) (.seq (nav [1,1,1,1,1,1,1,0] (bodyOf Try.f8)) (.seq (.seq (nav [1,1,1,1,1,1,1,1,0,0] (bodyOf Try.f8)) (.block 4 (.loop (nav [1,1,1,1,1,1,1,1,0,1,0,0] (bodyOf Try.f8))))) (.seq (nav [1,1,1,1,1,1,1,1,1,0] (bodyOf Try.f8)) (nav [1,1,1,1,1,1,1,1,1,1] (bodyOf Try.f8))))))))))) by kernel_rfl]
 refine GoesB.seqN (K1 := 1) (F1 := [(0, ZF n 0)]) (H1 := [(0, Zt n G)]) (GoesB.toN (zrA 1 (by omega) n 0 G (nmT (eget (treeL G n))) (lpG (eget (treeL G n)) (treeL G n).length (eget (restL G n))) (zipF 0 (NM G n)) (zipF 0 (ND G n)) (zipF 0 (BR G n)) [] [] [] (lget (ND G n)) (lget (BR G n)) (fun _ => []) (fun _ => [])) ⟨re rfl, trivial⟩ ⟨hs rfl, trivial⟩) (by omega) ?_
 refine GoesB.seqN (K1 := 1) (F1 := [(0, ZF n 0), (3, .bool true)]) (H1 := [(0, Zt n G)]) (GoesB.toN (zrB 1 (by omega) n 0 G (nmT (eget (treeL G n))) (lpG (eget (treeL G n)) (treeL G n).length (eget (restL G n))) (zipF 0 (NM G n)) (zipF 0 (ND G n)) (zipF 0 (BR G n)) [] [] [] (lget (ND G n)) (lget (BR G n)) (fun _ => []) (fun _ => [])) (eGg rfl) ⟨hs rfl, trivial⟩) (by omega) ?_
 have hC := zrC 1 (by omega) n 0 G (nmT (eget (treeL G n))) (lpG (eget (treeL G n)) (treeL G n).length (eget (restL G n))) (zipF 0 (NM G n)) (zipF 0 (ND G n)) (zipF 0 (BR G n)) [] [] [] (lget (ND G n)) (lget (BR G n)) (fun _ => []) (fun _ => []) (by omega) (fun j hj => ⟨RowGe_refl (zR (G (0 + j))) rfl, by rw [Nat.zero_add]; exact hv j hj⟩) (fun j hj u hu => List.all_eq_true.1 (show (zR (G (0 + j))).all (fun v => v.low 0) = true from rfl) u hu) ⟨⟨fun j hj => RowGe_refl _ rfl⟩, fun j hj u hu => List.all_eq_true.1 (elR_low 0 _) u hu⟩
 simp only [rowsZ_el, rowsO_el, rowsE_el, Nat.zero_add] at hC
 by_cases t : (ofX G n).1 = 0
 ·have hn2 := (of_gdn t).n256
  have L := rounds_law t
  have hq := net_q n G hn2
  have go := of_gdn L.d
  have hq2 := net_q (treeL G n).length (eget (treeL G n)) go.n256
  have hC2 : GoesB Try.prog (nav [1,1,0] (bodyOf Try.f8)) Try.f8.ntmps 1 1 10 (frL [(0, ZF n 0), (3, .bool true)]) (hpL [(0, Zt n G)]) (Nm ZEV [(9, ZDh), (2, ZK G n), (3, ZL G n), (4, ZM G n), (5, Zb n G), (6, Ze G n), (7, Zf G n), (8, .cells true 7 1 (.fn fun _ => netG 2 3 4 5 6 7 n (ND G n).length (BR G n).length))]) := GoesB.toN (hC.mono fun e fr' H' h => by rw [decide_eq_true t, cond_true] at h; exact h) (eGg rfl) ⟨hbl1 rfl rfl, eHh rfl⟩
  refine GoesB.seqN (K1 := 10) (F1 := ZEV) (H1 := (ZEs G n)) (goes_view hC2 fun e fr' H' hh => ?_) (by omega) ?_
  ·obtain ⟨rfl, rfl, rfl⟩ := hh
   exact ⟨(ZEs G n), ⟨⟨_, rfl, .inl (SameC.refl _)⟩, ⟨_, rfl, .inl (SameC.refl _)⟩, ⟨_, rfl, .inl (SameC.refl _)⟩, ⟨_, rfl, .inl (SameC.refl _)⟩, ⟨_, rfl, .inr ⟨_, _, _, _, rfl, rfl⟩⟩, ⟨_, rfl, .inr ⟨_, _, _, _, rfl, rfl⟩⟩, ⟨_, rfl, .inr ⟨_, _, _, _, rfl, rfl⟩⟩, ⟨_, rfl, .inr ⟨_, _, _, _, rfl, rfl⟩⟩, trivial⟩, rfl, rfl, rfl⟩
  refine GoesB.seqN (K1 := 9) (F1 := [(3, .bool true), (4, ZA 2)]) (H1 := (ZDG n G)) ?_ (by omega) ?_
  ·have h0 : GoesB Try.prog (nav [1,1,1,0] (bodyOf Try.f8)) Try.f8.ntmps 1 10 10 (frL ZEV) (hpL (ZEs G n)) (Nm [(3, .bool true), (4, ZA 8)] [(2, ZK G n), (3, ZL G n), (4, ZM G n), (5, ZCu n G), (6, ZB8 G n), (7, ZB9 G n), (8, ZBh n G)]) := (GoesB.lower (GoesB.frameN (bl := [(9, ZDh)]) (bl' := []) (xl := [(2, ZK G n), (3, ZL G n), (4, ZM G n), (5, ZCu n G), (6, ZB8 G n), (7, ZB9 G n), (8, ZBh n G)]) (zrD 10 (by omega) (nmT (eget (treeL G n))) (lpG (eget (treeL G n)) (treeL G n).length (eget (restL G n))) (zipF 0 (NM G n)) (zipF 0 (ND G n)) (zipF 0 (BR G n)) [] [] [] (lget (ND G n)) (lget (BR G n)) (fun _ => []) (fun _ => [])) (by omega) ⟨⟨by omega, trivial⟩, ⟨by omega, trivial⟩, ⟨by omega, trivial⟩, ⟨by omega, fun j hj v hv => List.all_eq_true.1 (show (elR (G j)).all (fun v => v.low 10) = true from rfl) v hv⟩, ⟨by omega, fun j hj v hv => List.all_eq_true.1 (show ((txR (lget (ND G n))) j).all (fun v => v.low 10) = true from rfl) v hv⟩, ⟨by omega, fun j hj v hv => List.all_eq_true.1 (show ((txR (lget (BR G n))) j).all (fun v => v.low 10) = true from rfl) v hv⟩, ⟨by omega, fun j hj v hv => List.all_eq_true.1 (show (netG 2 3 4 5 6 7 n (ND G n).length (BR G n).length).all (fun v => v.low 10) = true from rfl) v hv⟩, trivial⟩ rfl rfl trivial) (by omega))
   exact h0.renG fun e fr' H' hh => by
    obtain ⟨rfl, rfl, rfl⟩ := hh
    exact ⟨sgN, [(3, .bool true), (4, ZA 2)], (ZDG n G), fun g hg => by (obtain rfl : g = 0 := by omega); rfl, (eRr rfl), ⟨rgB rfl rfl rfl (by omega), rgM rfl rfl (by omega), rgM rfl rfl (by omega), rgM rfl rfl (by omega), rgR rfl rfl (fun j _ => rfl) (fun j _ => rfl) (by omega), rgR rfl rfl (fun j _ => rfl) (fun j _ => rfl) (by omega), rgR rfl rfl (fun j _ => rfl) (fun j _ => rfl) (by omega), trivial⟩, fun i j _ _ h => sgN_inj i j h, rfl, rfl, rfl⟩
  refine GoesB.seqN (K1 := 9) (F1 := (ZEN G n 6 1)) (H1 := (ZDL n G 1)) ?_ (by omega) ?_
  ·have h0 : GoesB Try.prog (nav [1,1,1,1,0] (bodyOf Try.f8)) Try.f8.ntmps 1 9 10 (frL [(3, .bool true), (4, ZA 2)]) (hpL (ZDG n G)) (Nm (ZEN G n 6 9) (ZDL n G 9)) := GoesB.toN (zrE 1 (by omega) n (ND G n).length (BR G n).length 0 G (nmT (eget (treeL G n))) (lpG (eget (treeL G n)) (treeL G n).length (eget (restL G n))) (zipF 0 (NM G n)) (zipF 0 (ND G n)) (zipF 0 (BR G n)) [] [] [] (lget (ND G n)) (lget (BR G n)) (fun _ => []) (fun _ => []) hq) (eGg rfl) (eHh rfl)
   exact h0.renG fun e fr' H' hh => by
    obtain ⟨rfl, rfl, rfl⟩ := hh
    exact ⟨sg 1 9, (ZEN G n 6 1), (ZDL n G 1), sg_low (by omega), (eRr rfl), ⟨rgR rfl rfl (fun j _ => rfl) (fun j _ => rfl) (by omega), rgM rfl rfl (by omega), rgM rfl rfl (by omega), rgM rfl rfl (by omega), rgR rfl rfl (fun j _ => rfl) (fun j _ => rfl) (by omega), rgR rfl rfl (fun j _ => rfl) (fun j _ => rfl) (by omega), rgR rfl rfl (fun j _ => rfl) (fun j _ => rfl) (by omega), rgR rfl rfl (fun j _ => rfl) (fun j _ => rfl) (by omega), trivial⟩, sg_inj (by omega), rfl, rfl, rfl⟩
  refine GoesB.seqN (K1 := 10) (F1 := (ZD6 G n)) (H1 := (ZDc G n)) (zr_loops n G hn2) (by omega) ?_
  refine GoesB.weakL (fl := (ZD6 G n)) (bl := (ZDI n G)) (eGg rfl) (eHh rfl) ?_
  refine GoesB.seqN (K1 := 10) (F1 := (ZEN G n 6 1)) (H1 := (ZDL n G 1)) (GoesB.lower (GoesB.toN (zr_loop0 n G hn2 L) (eGg rfl) (eHh rfl)) (by omega)) (by omega) ?_
  refine GoesB.seqN (K1 := 10) (F1 := [(3, .bool true), (4, ZA 2), (6, Zm G n 1), (10, .nils)]) (H1 := (ZDL n G 1)) (GoesB.lower ((zrO 10 (by omega) (treeL G n).length (nmT (eget (treeL G n))) (lpG (eget (treeL G n)) (treeL G n).length (eget (restL G n))) (zipF 0 (NM G n)) (zipF 0 (ND G n)) (zipF 0 (BR G n)) [] [] [] (lget (ND G n)) (lget (BR G n)) (fun _ => []) (fun _ => [])).idleN (by omega) ⟨⟨by omega, fun j hj v hv => List.all_eq_true.1 (show (netR 6 7 8 n (ND G n).length (BR G n).length).all (fun v => v.low 10) = true from rfl) v hv⟩, ⟨by omega, trivial⟩, ⟨by omega, trivial⟩, ⟨by omega, trivial⟩, ⟨by omega, fun j hj v hv => List.all_eq_true.1 (show (elR (G j)).all (fun v => v.low 10) = true from rfl) v hv⟩, ⟨by omega, fun j hj v hv => List.all_eq_true.1 (show ((txR (lget (ND G n))) j).all (fun v => v.low 10) = true from rfl) v hv⟩, ⟨by omega, fun j hj v hv => List.all_eq_true.1 (show ((txR (lget (BR G n))) j).all (fun v => v.low 10) = true from rfl) v hv⟩, ⟨by omega, fun j hj v hv => List.all_eq_true.1 (show ((txR (nmT (eget (treeL G n)))) j).all (fun v => v.low 10) = true from rfl) v hv⟩, trivial⟩) (by omega)) (by omega) ?_
  refine GoesB.phantom 10 8 (fun j => elR ((eget (treeL G n)) j)) rfl (by omega) (by omega) ?_
  refine GoesB.weakL (fl := [(3, .bool true), (4, ZA 2), (6, Zm G n 1), (10, sL 10 0)]) (bl := (ZDs G n)) (eGg rfl) (eHh rfl) ?_
  refine GoesB.seqN (K1 := 11) (F1 := [(3, .bool true), (4, ZA 2), (6, Zm G n 1), (10, Zm G n 10), (11, iT (((treeL G n).length : Nat) : Int))]) (H1 := [(10, ZC4 G n), (2, ZC n G), (3, ZK G n), (4, ZL G n), (5, ZM G n), (6, ZB n G), (7, ZD G n), (8, ZE G n), (1, ZJ G n)]) (GoesB.lower (zr_loop4 n G hn2 L) (by omega)) (by omega) ?_
  have hV := zrV 1 (by omega) (treeL G n).length 0 (eget (treeL G n)) (nmT (eget (treeL G n))) (lpG (eget (treeL G n)) (treeL G n).length (eget (restL G n))) (zipF 0 (NM G n)) (zipF 0 (ND G n)) (zipF 0 (BR G n)) [] [] [] (lget (ND G n)) (lget (BR G n)) (fun _ => []) (fun _ => []) ⟨⟨fun j hj => RowGe_refl _ rfl⟩, fun j hj u hu => List.all_eq_true.1 (elR_low 0 _) u hu⟩
  simp only [rowsZ_el, rowsO_el, rowsE_el, Nat.zero_add] at hV
  refine GoesB.weakL (fl := (ZEN G n 10 10)) (bl := [(10, ZC4 G n)]) (eGg rfl) ⟨hs rfl, trivial⟩ ?_
  refine GoesB.seqN (K1 := 19) (F1 := [(3, .bool true), (10, Zm G n 10), (14, ZA 17), (15, ZA 18)]) (H1 := [(11, .mSI true (zipF 0 (NM (eget (treeL G n)) (treeL G n).length))), (12, .mSI true (zipF 0 (ND (eget (treeL G n)) (treeL G n).length))), (13, .mSI true (zipF 0 (BR (eget (treeL G n)) (treeL G n).length))), (14, .cells true 8 ((treeL G n).length) (.fn fun j => elR ((eget (treeL G n)) j))), (15, .cells true 1 ((ND (eget (treeL G n)) (treeL G n).length).length) (.fn (txR (lget (ND (eget (treeL G n)) (treeL G n).length))))), (16, .cells true 1 ((BR (eget (treeL G n)) (treeL G n).length).length) (.fn (txR (lget (BR (eget (treeL G n)) (treeL G n).length))))), (17, .cells true 7 1 (.fn fun _ => netG 11 12 13 14 15 16 (treeL G n).length (ND (eget (treeL G n)) (treeL G n).length).length (BR (eget (treeL G n)) (treeL G n).length).length)), (18, ZDh)]) (GoesB.toN (hV.mono fun e fr' H' h => by rw [decide_eq_true L.d, cond_true] at h; exact h) (eGg rfl) ⟨hs rfl, hs rfl, hs rfl, hs rfl, hs rfl, hs rfl, hs rfl, hbl1 rfl rfl, trivial⟩) (by omega) ?_
  refine (zrZ 1 (by omega) (treeL G n).length 0 (ND (eget (treeL G n)) (treeL G n).length).length (BR (eget (treeL G n)) (treeL G n).length).length G (eget (treeL G n)) (nmT (eget (treeL G n))) (lpG (eget (treeL G n)) (treeL G n).length (eget (restL G n))) (zipF 0 (NM G n)) (zipF 0 (ND G n)) (zipF 0 (BR G n)) (zipF 0 (NM (eget (treeL G n)) (treeL G n).length)) (zipF 0 (ND (eget (treeL G n)) (treeL G n).length)) (zipF 0 (BR (eget (treeL G n)) (treeL G n).length)) (lget (ND G n)) (lget (BR G n)) (lget (ND (eget (treeL G n)) (treeL G n).length)) (lget (BR (eget (treeL G n)) (treeL G n).length)) (fun _ => hq2) (fun _ _ => hq2)).mono fun e fr' H' h => ?_
  have e1 : restL (rowsE (Cont.row (.fn fun j => elR ((eget (treeL G n)) j)))) (treeL G n).length = [] := L.e
  have e2 : voltB (rowsE (Cont.row (.fn fun j => elR ((eget (treeL G n)) j)))) (treeL G n).length = false := L.f
  rw [e1, e2] at h
  by_cases c : (((treeL G n).length : Nat) : Int) = 0
  ·rw [decide_eq_true c, cond_true] at h
   obtain ⟨rfl, rfl, rfl⟩ := h
   exact ⟨.inl rfl, _, rfl, AV.ge.refl _⟩
  ·rw [decide_eq_false c, cond_false] at h
   obtain ⟨rfl, rfl, rfl⟩ := h
   exact ⟨.inl rfl, _, rfl, AV.ge.sboolb rfl⟩
 ·refine GoesB.seqN (K1 := 10) (F1 := [(3, .bool true), (4, .nilp), (5, ZA 2)]) (H1 := [(2, .cells true 2 1 (.fn fun _ => [iT (ofX G n).1, iT (ofX G n).2]))]) (GoesB.toN (hC.mono fun e fr' H' h => by rw [decide_eq_false t, cond_false] at h; exact h) (eGg rfl) ⟨hbl1 rfl rfl, trivial⟩) (by omega) ?_
  refine GoesB.seq (K1 := 10) (by omega) ((zrDf 1 (by omega) (nmT (eget (treeL G n))) (lpG (eget (treeL G n)) (treeL G n).length (eget (restL G n))) (zipF 0 (NM G n)) (zipF 0 (ND G n)) (zipF 0 (BR G n)) [] [] [] (lget (ND G n)) (lget (BR G n)) (fun _ => []) (fun _ => []) (ofX G n).1 (ofX G n).2).mono fun e fr' H' h => ?_)
  revert h
  cases (decide ((ofX G n).1 = 0) && (decide ((ofX G n).2 = 0) && true)) <;> rintro ⟨rfl, rfl, rfl⟩ <;> exact ⟨.inl rfl, _, rfl, AV.ge.refl _⟩


theorem viewN {N : Nat} {μ : MM} {hp : Array Obj} {g sz m : Nat} {c : Cont} {rows : Nat → List AV} (h : BkOk N μ hp g (.cells false sz m c)) (k : ∀ j, j < m → RowGe (c.row j) (rows j)) : BkOk N μ hp g (.cells false sz m (.fn rows)) := by
 refine ⟨h.1, h.2.1, fun hr => ?_⟩
 obtain ⟨cur, ty, fz, p1, p2, p3, p4⟩ := h.2.2 hr
 exact ⟨cur, ty, fz, p1, p2, p3, fun i hi => RowOk.ge (p4 i hi) (k i hi)⟩
theorem law_walk {H : Type} {enc : TypeId × Value → H} {base : Nat} {d0 : DataW H} {p0 : List MemPlace} {wd : World} (v0 : Value) (hv0 : Value.okWide Try.prog wd .any base 42 v0) (h0 : DataW.Trod enc Try.prog wd 0 (fun _ => true) true 42 v0 d0 p0) (z0 : (DataW.weightsEach Try.prog [42] [d0]).all (· ≤ reachBytes) = true) (w' : World) (hw : w' = wd) :
  Calls Try.prog 8 #[v0] wd fun e w' => e = .returned (.bool true) ∧ Below wd.heap.size wd w' := by
 obtain ⟨a0, len0, cap0, rfl⟩ := okWide_slice Try.underlying42 hv0
 obtain ⟨fuel0, hx0⟩ := h0
 obtain ⟨n0, blk0, bs0, c0, hval0, hbk0, hok0, hlen0⟩ := open_slc (n := 3) (shs := [.int .u8, .str, .str, .str, .str, .str, .int .u64, .int .i64]) (v := .slice a0 len0 cap0) Try.underlying42 (by kernel_rfl) (by kernel_rfl) (by decide) hx0
 have hn0 : n0 * 104 ≤ 140737488351232 := by
  rcases hlen0 with ⟨rfl, _⟩ | ⟨es, sps, e1, e2⟩
  ·omega
  ·dsimp only at e1
   have h := sized_slice z0 (j := 0) (t := 42) (e := 92) (elems := es) (spare := sps) rfl (by rw [← e1]; rfl) Try.underlying42
   rw [show Try.prog.bytesOf 92 = 104 by kernel_rfl, e2] at h
   have hR : reachBytes = 140737488351232 := rfl
   rw [hR] at h
   exact Nat.le_trans (Nat.mul_le_mul_right 104 (Nat.le_add_right n0 sps.length)) h
 have bd : ∀ {x : Value}, (Sh.int .u64).ok x → 0 ≤ Sx.intOf x ∧ Sx.intOf x < 18446744073709551616 := fun {x} h => by
  obtain ⟨n, rfl, hw⟩ := h
  have := bounds_u64 hw
  simp only [Sx.intOf]; omega
 have hg := gv_gok (l := [⟨8, n0, blk0, bs0, fun j => zR ((fun j => (⟨Sx.intOf (c0 j 0), Sx.strOf (c0 j 1), Sx.strOf (c0 j 2), Sx.strOf (c0 j 3), Sx.strOf (c0 j 4), Sx.strOf (c0 j 5), (Sx.intOf (c0 j 6)).toNat, Sx.intOf (c0 j 7)⟩ : El)) j)⟩]) (hp := wd.heap) fun i v hi μ N e1 e2 e3 => by
  match i, hi with
  | 0, hi =>
   cases hi
   refine viewN (hbk0 μ 0 N e1 e2 e3) fun j hj => ?_
   have e : (((Sx.intOf (c0 j 6)).toNat : Nat) : Int) = Sx.intOf (c0 j 6) := Int.toNat_of_nonneg (bd (hok0 j hj 6 _ rfl)).1
   show RowGe [.int true .u8 (Sx.intOf (c0 j 0)), .str true (Sx.strOf (c0 j 1)), .str true (Sx.strOf (c0 j 2)), .str true (Sx.strOf (c0 j 3)), .str true (Sx.strOf (c0 j 4)), .str true (Sx.strOf (c0 j 5)), .int true .u64 (Sx.intOf (c0 j 6)), iT (Sx.intOf (c0 j 7))] [.int true .u8 (Sx.intOf (c0 j 0)), .str true (Sx.strOf (c0 j 1)), .str true (Sx.strOf (c0 j 2)), .str true (Sx.strOf (c0 j 3)), .str true (Sx.strOf (c0 j 4)), .str true (Sx.strOf (c0 j 5)), .int true .u64 (((Sx.intOf (c0 j 6)).toNat : Nat) : Int), iT (Sx.intOf (c0 j 7))]
   rw [e]
   exact RowGe_refl _ rfl
  | i + 1, hi => simp at hi
 exact goes_true Try.func8 rfl (by kernel_rfl) (t := 2) (by kernel_rfl) (law_goes n0 (fun j => (⟨Sx.intOf (c0 j 0), Sx.strOf (c0 j 1), Sx.strOf (c0 j 2), Sx.strOf (c0 j 3), Sx.strOf (c0 j 4), Sx.strOf (c0 j 5), (Sx.intOf (c0 j 6)).toNat, Sx.intOf (c0 j 7)⟩ : El)) (by omega) (fun j hj => by have := bd (hok0 j hj 6 _ rfl); show (Sx.intOf (c0 j 6)).toNat < 18446744073709551616; omega)) hg (fun B => gv_may (l := [⟨8, n0, blk0, bs0, fun j => zR ((fun j => (⟨Sx.intOf (c0 j 0), Sx.strOf (c0 j 1), Sx.strOf (c0 j 2), Sx.strOf (c0 j 3), Sx.strOf (c0 j 4), Sx.strOf (c0 j 5), (Sx.intOf (c0 j 6)).toNat, Sx.intOf (c0 j 7)⟩ : El)) j)⟩])) (by simp only [Reps]; exact ⟨_, _, rfl, hval0 _ 0 _ (by decide) rfl rfl rfl, rfl⟩)






set_option maxRecDepth 100000 in
theorem law_lifted (os : Os) (started : os.Started) (H : Type) (enc : TypeId × Value → H) :
  ReturnsInHanded {} Try.checked os 8 .any (Rows.graphRoundsSpec.pre6 enc Try.prog Try.f8 Rows.graphRoundsRow.domain false) (Rows.graphRoundsSpec.post enc Try.prog Try.f8 false true false false) := by
 refine returnsInHanded_of_change_sized (C := Try.checked) own started (by kernel_rfl) Try.func8
  (ChangeSpec.witness6 (enc := enc) (C := Try.checked) false ⟨#[], #[.slice none 0 0], []⟩ 8 (by kernel_rfl) (by kernel_rfl) (by kernel_rfl) (by kernel_rfl)) ?_
 intro W base args ds gs before hval0 hW hcnd hsz0 _
 have hval : ∀ (j : Nat) t v, Try.f8.params[j]? = some t → args[j]? = some v → Value.okWide Try.prog W .any base t v := hval0
 have hsz1 : (DataW.weightsEach Try.prog (Try.f8.params.toList ++ Rows.graphRoundsSpec.plain.varTypes Try.prog) (ds ++ gs)).all (· ≤ reachBytes) = true := hsz0
 have hsz : (DataW.weightsEach Try.prog [42] (ds ++ gs)).all (· ≤ reachBytes) = true := by
  have e : Try.f8.params.toList ++ Rows.graphRoundsSpec.plain.varTypes Try.prog = [42] := by rw [Try.params8]; kernel_rfl
  rw [← e]; exact hsz1
 have hW' := hW
 obtain ⟨p, q, hA0, hV, rfl, hfz, hnd⟩ := hW
 have hA : DataW.TrodAll enc Try.prog W 0 (fun _ => true) true Try.f8.params.toList args.toList ds p := hA0
 rw [Try.params8] at hA hval
 obtain ⟨v0, vs0, d0, ds0, p0, q0, hargs, rfl, rfl, h0, r0⟩ := trodAll_cons hA
 obtain ⟨rfl, rfl, rfl⟩ := trodAll_nil r0
 obtain rfl : args = #[v0] := by cases args; simp_all
 obtain ⟨rfl, rfl⟩ := trodVars_none hV
 rw [List.append_nil] at hsz
 have hk0 := h0
 have hlt0 : ∀ x ∈ p0, x.block < W.heap.size := DataW.TrodAll.lt (trodAll_mk1 h0)
 clear hA0 hval0 hsz0 hsz1
 refine (law_walk v0 (hval 0 42 v0 rfl rfl) h0 hsz W rfl).mono fun e W' ⟨he, bel⟩ => ?_
 subst he
 exact ⟨_, rfl, _, _, _, [], _, [], hW', trodAll_mk1 (shut_bool Try.underlying4 _), (trodAll_cons_mk (Below.trod laidOut (by kernel_rfl) (of_decide_eq_true (by kernel_rfl)) hk0 bel hlt0) trodAll_mk0), rfl, bel.frame _, fun h => by cases h⟩
theorem law_over : Rows.graphRoundsRow.holds Try.pinned (OpenSpec.ofChange Rows.graphRoundsSpec) :=
 OpenClaim.holds_of_wide 8 Try.f8 rfl rfl rfl rfl rfl rfl rfl ⟨rfl, rfl, rfl, rfl, rfl⟩ rfl rfl rfl rfl rfl (by kernel_rfl) Try.func8 (by kernel_rfl)
  (of_decide_eq_true (by kernel_rfl)) (by unfold Func.isWrapper; first | (rw [if_pos (by decide +kernel)]; kernel_rfl) | (rw [if_neg (by decide +kernel)]; exact ⟨rfl, rfl⟩))
  (fun os started H enc _ => law_lifted os started H enc)
/-- THE STATEMENT -/
theorem graphRounds_proved : Rows.GraphRoundsSaid := law_over
#print axioms graphRounds_proved
end Go.Proofs.Ytgjdeclenlgaeaa
