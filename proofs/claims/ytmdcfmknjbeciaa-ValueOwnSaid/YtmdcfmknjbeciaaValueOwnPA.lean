/- ValueOwn: a part: summaries of functions that the statement reaches, printed by program, checked by the kernel. -/
import Derived.ProofKit
import Derived.OpenShut
import Derived.KernelRfl
import Derived.SizedLaws
import Derived.Test.YtmdcfmknjbeciaaProg
import Derived.Test.YtmdcfmknjbeciaaSm3
namespace Go.Proofs.Ytmdcfmknjbeciaa
open Go.ChangeShapes Go.WideShapes Go.ChangeAt Go.RowKit
set_option linter.unusedVariables false
set_option linter.unusedSimpArgs false
set_option maxRecDepth 100000

noncomputable def gam0 : Sx.Known := Sx.kc 24 Sx.ofBits (Sx.kc 39 Sx.toBits (Sx.kn))
theorem gam0_ok : Sx.KnownOk Try.prog gam0 := Sx.kc_ok ((Sx.ofBits_is Try.prog).callIs Try.func24 (by kernel_rfl) (by kernel_rfl) (by kernel_rfl) (by kernel_rfl)) (Sx.kc_ok ((Sx.toBits_is Try.prog).callIs Try.func39 (by kernel_rfl) (by kernel_rfl) (by kernel_rfl) (by kernel_rfl)) (Sx.kn_ok))
theorem gam0_tch : Sx.KnownT gam0 := Sx.kc_tch Sx.Tch.ofBits (Sx.kc_tch Sx.Tch.toBits (Sx.kn_tch))
noncomputable def call0 : Sx.Calls' := Sx.runN Try.prog gam0 (Sx.regionC Try.prog) 1000 50
theorem call0_ok : Sx.CallOk Try.prog call0 := Sx.engineC gam0_ok gam0_tch (by kernel_rfl) (by kernel_rfl) 1000 50
theorem call0_tch : Sx.CallT call0 := Sx.runA_tch gam0_tch (fun _ _ _ h => by cases h) (fun call hc n l fr => Sx.regionC_tch hc n l fr) 50
theorem call0_reg (n : Nat) : Sx.RegionOk Try.prog (Sx.regionC Try.prog call0 n) n := Sx.runN_regionC gam0_ok gam0_tch (by kernel_rfl) (by kernel_rfl) 1000 50 n
noncomputable abbrev piececall0 (f : Func) (c : Code) (fr : Sx.Fr) (H : Sx.T Sx.ABk) (K : Nat) (path : List Bool) : Sx.Res (Sx.Ex × Sx.Fr) :=
 Sx.codeA Try.prog call0 (Sx.regionC Try.prog call0 f.ntmps) Sx.noLoops f.ntmps 1000 c fr ⟨H, K, [], path, True⟩
theorem smA_r0 (l : List UInt8) : Sx.PieceN 0 (Sx.Ex.normal) [(0, Sx.AV.str true l)] [] (piececall0 Try.f29 (Sx.nav [0] (Sx.bodyOf Try.f29)) (Sx.frameOf [.str true l] 0 .e) (.e) 0 []) := Sx.eqn (q := True) (by kernel_rfl) trivial
theorem smA (B : Nat) (hB : B ≤ 0) (l : List UInt8) : Sx.GoesB Try.prog (Sx.nav [0] (Sx.bodyOf Try.f29)) Try.f29.ntmps B 0 0 (Sx.frameOf [.str true l] 0 .e) (.e) fun e fr' H' => (e = Sx.Ex.normal ∧ fr' = Sx.frL [(0, Sx.AV.str true l)] ∧ H' = Sx.hpL []) := by
 exact (Sx.GoesB.runN call0_ok (call0_reg _) (Sx.LoopsIn.none _ _ _) (smA_r0 l) hB).mono fun e fr' H' h => h
theorem smR_r0 (l : List UInt8) : Sx.PieceN 1 (Sx.Ex.normal) [(6, Sx.AV.ptr (Sx.AA.mk false (0 : Nat) (0 : Nat) (0 : Nat)))] [(0, Sx.ABk.sit true l (0 : Nat))] (piececall0 Try.f29 (Sx.nav [1,0,0] (Sx.bodyOf Try.f29)) (Sx.frL [(0, .str true l)]) (Sx.hpL []) 0 []) := Sx.eqn (q := True) (by kernel_rfl) trivial
theorem smR (B : Nat) (hB : B ≤ 0) (l : List UInt8) : Sx.GoesB Try.prog (Sx.nav [1,0,0] (Sx.bodyOf Try.f29)) Try.f29.ntmps B 0 1 (Sx.frL [(0, .str true l)]) (Sx.hpL []) fun e fr' H' => (e = Sx.Ex.normal ∧ fr' = Sx.frL [(6, Sx.AV.ptr (Sx.AA.mk false (0 : Nat) (0 : Nat) (0 : Nat)))] ∧ H' = Sx.hpL [(0, Sx.ABk.sit true l (0 : Nat))]) := by
 exact (Sx.GoesB.runN call0_ok (call0_reg _) (Sx.LoopsIn.none _ _ _) (smR_r0 l) hB).mono fun e fr' H' h => h
theorem smB_r0 (l : List UInt8) (pos : Nat) (c0 : decide (pos < List.length l) = true) (c1 : decide ((↑(Prod.fst (Go.Utf8.decode (ByteArray.mk (List.toArray l)) pos)) : Int) < (97 : Int)) = true) (c2 : decide ((↑(Prod.fst (Go.Utf8.decode (ByteArray.mk (List.toArray l)) pos)) : Int) < (48 : Int)) = true) (c3 : (!decide ((↑(Prod.fst (Go.Utf8.decode (ByteArray.mk (List.toArray l)) pos)) : Int) = (95 : Int))) = false) : Sx.PieceN 1 (Sx.Ex.normal) [(6, Sx.AV.ptr (Sx.AA.mk false (0 : Nat) (0 : Nat) (0 : Nat)))] [(0, Sx.ABk.sit true l (pos + Prod.snd (Go.Utf8.decode (ByteArray.mk (List.toArray l)) pos)))] (piececall0 Try.f29 (Sx.nav [1,0,1,0,0] (Sx.bodyOf Try.f29)) (Sx.frL [(6, .ptr ⟨false, 0, 0, 0⟩)]) (Sx.hpL [(0, .sit true l pos)]) 1 [true, true, true, false]) := Sx.eqn (q := ((((True ∧ (decide (pos < List.length l) = true)) ∧ (decide ((↑(Prod.fst (Go.Utf8.decode (ByteArray.mk (List.toArray l)) pos)) : Int) < (97 : Int)) = true)) ∧ (decide ((↑(Prod.fst (Go.Utf8.decode (ByteArray.mk (List.toArray l)) pos)) : Int) < (48 : Int)) = true)) ∧ ((!decide ((↑(Prod.fst (Go.Utf8.decode (ByteArray.mk (List.toArray l)) pos)) : Int) = (95 : Int))) = false))) (by kernel_rfl) ⟨⟨⟨⟨trivial, c0⟩, c1⟩, c2⟩, c3⟩
theorem smB_r1 (l : List UInt8) (pos : Nat) (c0 : decide (pos < List.length l) = true) (c1 : decide ((↑(Prod.fst (Go.Utf8.decode (ByteArray.mk (List.toArray l)) pos)) : Int) < (97 : Int)) = true) (c2 : decide ((↑(Prod.fst (Go.Utf8.decode (ByteArray.mk (List.toArray l)) pos)) : Int) < (48 : Int)) = true) (c3 : (!decide ((↑(Prod.fst (Go.Utf8.decode (ByteArray.mk (List.toArray l)) pos)) : Int) = (95 : Int))) = true) : Sx.PieceN 1 (Sx.Ex.ret) [(2, Sx.AV.bool false), (6, Sx.AV.ptr (Sx.AA.mk false (0 : Nat) (0 : Nat) (0 : Nat)))] [(0, Sx.ABk.sit true l (pos + Prod.snd (Go.Utf8.decode (ByteArray.mk (List.toArray l)) pos)))] (piececall0 Try.f29 (Sx.nav [1,0,1,0,0] (Sx.bodyOf Try.f29)) (Sx.frL [(6, .ptr ⟨false, 0, 0, 0⟩)]) (Sx.hpL [(0, .sit true l pos)]) 1 [true, true, true, true]) := Sx.eqn (q := ((((True ∧ (decide (pos < List.length l) = true)) ∧ (decide ((↑(Prod.fst (Go.Utf8.decode (ByteArray.mk (List.toArray l)) pos)) : Int) < (97 : Int)) = true)) ∧ (decide ((↑(Prod.fst (Go.Utf8.decode (ByteArray.mk (List.toArray l)) pos)) : Int) < (48 : Int)) = true)) ∧ ((!decide ((↑(Prod.fst (Go.Utf8.decode (ByteArray.mk (List.toArray l)) pos)) : Int) = (95 : Int))) = true))) (by kernel_rfl) ⟨⟨⟨⟨trivial, c0⟩, c1⟩, c2⟩, c3⟩
theorem smB_r2 (l : List UInt8) (pos : Nat) (c0 : decide (pos < List.length l) = true) (c1 : decide ((↑(Prod.fst (Go.Utf8.decode (ByteArray.mk (List.toArray l)) pos)) : Int) < (97 : Int)) = true) (c2 : decide ((↑(Prod.fst (Go.Utf8.decode (ByteArray.mk (List.toArray l)) pos)) : Int) < (48 : Int)) = false) (c3 : decide ((57 : Int) < (↑(Prod.fst (Go.Utf8.decode (ByteArray.mk (List.toArray l)) pos)) : Int)) = true) (c4 : (!decide ((↑(Prod.fst (Go.Utf8.decode (ByteArray.mk (List.toArray l)) pos)) : Int) = (95 : Int))) = false) : Sx.PieceN 1 (Sx.Ex.normal) [(6, Sx.AV.ptr (Sx.AA.mk false (0 : Nat) (0 : Nat) (0 : Nat)))] [(0, Sx.ABk.sit true l (pos + Prod.snd (Go.Utf8.decode (ByteArray.mk (List.toArray l)) pos)))] (piececall0 Try.f29 (Sx.nav [1,0,1,0,0] (Sx.bodyOf Try.f29)) (Sx.frL [(6, .ptr ⟨false, 0, 0, 0⟩)]) (Sx.hpL [(0, .sit true l pos)]) 1 [true, true, false, true, false]) := Sx.eqn (q := (((((True ∧ (decide (pos < List.length l) = true)) ∧ (decide ((↑(Prod.fst (Go.Utf8.decode (ByteArray.mk (List.toArray l)) pos)) : Int) < (97 : Int)) = true)) ∧ (decide ((↑(Prod.fst (Go.Utf8.decode (ByteArray.mk (List.toArray l)) pos)) : Int) < (48 : Int)) = false)) ∧ (decide ((57 : Int) < (↑(Prod.fst (Go.Utf8.decode (ByteArray.mk (List.toArray l)) pos)) : Int)) = true)) ∧ ((!decide ((↑(Prod.fst (Go.Utf8.decode (ByteArray.mk (List.toArray l)) pos)) : Int) = (95 : Int))) = false))) (by kernel_rfl) ⟨⟨⟨⟨⟨trivial, c0⟩, c1⟩, c2⟩, c3⟩, c4⟩
theorem smB_r3 (l : List UInt8) (pos : Nat) (c0 : decide (pos < List.length l) = true) (c1 : decide ((↑(Prod.fst (Go.Utf8.decode (ByteArray.mk (List.toArray l)) pos)) : Int) < (97 : Int)) = true) (c2 : decide ((↑(Prod.fst (Go.Utf8.decode (ByteArray.mk (List.toArray l)) pos)) : Int) < (48 : Int)) = false) (c3 : decide ((57 : Int) < (↑(Prod.fst (Go.Utf8.decode (ByteArray.mk (List.toArray l)) pos)) : Int)) = true) (c4 : (!decide ((↑(Prod.fst (Go.Utf8.decode (ByteArray.mk (List.toArray l)) pos)) : Int) = (95 : Int))) = true) : Sx.PieceN 1 (Sx.Ex.ret) [(2, Sx.AV.bool false), (6, Sx.AV.ptr (Sx.AA.mk false (0 : Nat) (0 : Nat) (0 : Nat)))] [(0, Sx.ABk.sit true l (pos + Prod.snd (Go.Utf8.decode (ByteArray.mk (List.toArray l)) pos)))] (piececall0 Try.f29 (Sx.nav [1,0,1,0,0] (Sx.bodyOf Try.f29)) (Sx.frL [(6, .ptr ⟨false, 0, 0, 0⟩)]) (Sx.hpL [(0, .sit true l pos)]) 1 [true, true, false, true, true]) := Sx.eqn (q := (((((True ∧ (decide (pos < List.length l) = true)) ∧ (decide ((↑(Prod.fst (Go.Utf8.decode (ByteArray.mk (List.toArray l)) pos)) : Int) < (97 : Int)) = true)) ∧ (decide ((↑(Prod.fst (Go.Utf8.decode (ByteArray.mk (List.toArray l)) pos)) : Int) < (48 : Int)) = false)) ∧ (decide ((57 : Int) < (↑(Prod.fst (Go.Utf8.decode (ByteArray.mk (List.toArray l)) pos)) : Int)) = true)) ∧ ((!decide ((↑(Prod.fst (Go.Utf8.decode (ByteArray.mk (List.toArray l)) pos)) : Int) = (95 : Int))) = true))) (by kernel_rfl) ⟨⟨⟨⟨⟨trivial, c0⟩, c1⟩, c2⟩, c3⟩, c4⟩
theorem smB_r4 (l : List UInt8) (pos : Nat) (c0 : decide (pos < List.length l) = true) (c1 : decide ((↑(Prod.fst (Go.Utf8.decode (ByteArray.mk (List.toArray l)) pos)) : Int) < (97 : Int)) = true) (c2 : decide ((↑(Prod.fst (Go.Utf8.decode (ByteArray.mk (List.toArray l)) pos)) : Int) < (48 : Int)) = false) (c3 : decide ((57 : Int) < (↑(Prod.fst (Go.Utf8.decode (ByteArray.mk (List.toArray l)) pos)) : Int)) = false) : Sx.PieceN 1 (Sx.Ex.normal) [(6, Sx.AV.ptr (Sx.AA.mk false (0 : Nat) (0 : Nat) (0 : Nat)))] [(0, Sx.ABk.sit true l (pos + Prod.snd (Go.Utf8.decode (ByteArray.mk (List.toArray l)) pos)))] (piececall0 Try.f29 (Sx.nav [1,0,1,0,0] (Sx.bodyOf Try.f29)) (Sx.frL [(6, .ptr ⟨false, 0, 0, 0⟩)]) (Sx.hpL [(0, .sit true l pos)]) 1 [true, true, false, false]) := Sx.eqn (q := ((((True ∧ (decide (pos < List.length l) = true)) ∧ (decide ((↑(Prod.fst (Go.Utf8.decode (ByteArray.mk (List.toArray l)) pos)) : Int) < (97 : Int)) = true)) ∧ (decide ((↑(Prod.fst (Go.Utf8.decode (ByteArray.mk (List.toArray l)) pos)) : Int) < (48 : Int)) = false)) ∧ (decide ((57 : Int) < (↑(Prod.fst (Go.Utf8.decode (ByteArray.mk (List.toArray l)) pos)) : Int)) = false))) (by kernel_rfl) ⟨⟨⟨⟨trivial, c0⟩, c1⟩, c2⟩, c3⟩
theorem smB_r5 (l : List UInt8) (pos : Nat) (c0 : decide (pos < List.length l) = true) (c1 : decide ((↑(Prod.fst (Go.Utf8.decode (ByteArray.mk (List.toArray l)) pos)) : Int) < (97 : Int)) = false) (c2 : decide ((122 : Int) < (↑(Prod.fst (Go.Utf8.decode (ByteArray.mk (List.toArray l)) pos)) : Int)) = true) (c3 : decide ((↑(Prod.fst (Go.Utf8.decode (ByteArray.mk (List.toArray l)) pos)) : Int) < (48 : Int)) = true) (c4 : (!decide ((↑(Prod.fst (Go.Utf8.decode (ByteArray.mk (List.toArray l)) pos)) : Int) = (95 : Int))) = false) : Sx.PieceN 1 (Sx.Ex.normal) [(6, Sx.AV.ptr (Sx.AA.mk false (0 : Nat) (0 : Nat) (0 : Nat)))] [(0, Sx.ABk.sit true l (pos + Prod.snd (Go.Utf8.decode (ByteArray.mk (List.toArray l)) pos)))] (piececall0 Try.f29 (Sx.nav [1,0,1,0,0] (Sx.bodyOf Try.f29)) (Sx.frL [(6, .ptr ⟨false, 0, 0, 0⟩)]) (Sx.hpL [(0, .sit true l pos)]) 1 [true, false, true, true, false]) := Sx.eqn (q := (((((True ∧ (decide (pos < List.length l) = true)) ∧ (decide ((↑(Prod.fst (Go.Utf8.decode (ByteArray.mk (List.toArray l)) pos)) : Int) < (97 : Int)) = false)) ∧ (decide ((122 : Int) < (↑(Prod.fst (Go.Utf8.decode (ByteArray.mk (List.toArray l)) pos)) : Int)) = true)) ∧ (decide ((↑(Prod.fst (Go.Utf8.decode (ByteArray.mk (List.toArray l)) pos)) : Int) < (48 : Int)) = true)) ∧ ((!decide ((↑(Prod.fst (Go.Utf8.decode (ByteArray.mk (List.toArray l)) pos)) : Int) = (95 : Int))) = false))) (by kernel_rfl) ⟨⟨⟨⟨⟨trivial, c0⟩, c1⟩, c2⟩, c3⟩, c4⟩
theorem smB_r6 (l : List UInt8) (pos : Nat) (c0 : decide (pos < List.length l) = true) (c1 : decide ((↑(Prod.fst (Go.Utf8.decode (ByteArray.mk (List.toArray l)) pos)) : Int) < (97 : Int)) = false) (c2 : decide ((122 : Int) < (↑(Prod.fst (Go.Utf8.decode (ByteArray.mk (List.toArray l)) pos)) : Int)) = true) (c3 : decide ((↑(Prod.fst (Go.Utf8.decode (ByteArray.mk (List.toArray l)) pos)) : Int) < (48 : Int)) = true) (c4 : (!decide ((↑(Prod.fst (Go.Utf8.decode (ByteArray.mk (List.toArray l)) pos)) : Int) = (95 : Int))) = true) : Sx.PieceN 1 (Sx.Ex.ret) [(2, Sx.AV.bool false), (6, Sx.AV.ptr (Sx.AA.mk false (0 : Nat) (0 : Nat) (0 : Nat)))] [(0, Sx.ABk.sit true l (pos + Prod.snd (Go.Utf8.decode (ByteArray.mk (List.toArray l)) pos)))] (piececall0 Try.f29 (Sx.nav [1,0,1,0,0] (Sx.bodyOf Try.f29)) (Sx.frL [(6, .ptr ⟨false, 0, 0, 0⟩)]) (Sx.hpL [(0, .sit true l pos)]) 1 [true, false, true, true, true]) := Sx.eqn (q := (((((True ∧ (decide (pos < List.length l) = true)) ∧ (decide ((↑(Prod.fst (Go.Utf8.decode (ByteArray.mk (List.toArray l)) pos)) : Int) < (97 : Int)) = false)) ∧ (decide ((122 : Int) < (↑(Prod.fst (Go.Utf8.decode (ByteArray.mk (List.toArray l)) pos)) : Int)) = true)) ∧ (decide ((↑(Prod.fst (Go.Utf8.decode (ByteArray.mk (List.toArray l)) pos)) : Int) < (48 : Int)) = true)) ∧ ((!decide ((↑(Prod.fst (Go.Utf8.decode (ByteArray.mk (List.toArray l)) pos)) : Int) = (95 : Int))) = true))) (by kernel_rfl) ⟨⟨⟨⟨⟨trivial, c0⟩, c1⟩, c2⟩, c3⟩, c4⟩
theorem smB_r7 (l : List UInt8) (pos : Nat) (c0 : decide (pos < List.length l) = true) (c1 : decide ((↑(Prod.fst (Go.Utf8.decode (ByteArray.mk (List.toArray l)) pos)) : Int) < (97 : Int)) = false) (c2 : decide ((122 : Int) < (↑(Prod.fst (Go.Utf8.decode (ByteArray.mk (List.toArray l)) pos)) : Int)) = true) (c3 : decide ((↑(Prod.fst (Go.Utf8.decode (ByteArray.mk (List.toArray l)) pos)) : Int) < (48 : Int)) = false) (c4 : decide ((57 : Int) < (↑(Prod.fst (Go.Utf8.decode (ByteArray.mk (List.toArray l)) pos)) : Int)) = true) (c5 : (!decide ((↑(Prod.fst (Go.Utf8.decode (ByteArray.mk (List.toArray l)) pos)) : Int) = (95 : Int))) = false) : Sx.PieceN 1 (Sx.Ex.normal) [(6, Sx.AV.ptr (Sx.AA.mk false (0 : Nat) (0 : Nat) (0 : Nat)))] [(0, Sx.ABk.sit true l (pos + Prod.snd (Go.Utf8.decode (ByteArray.mk (List.toArray l)) pos)))] (piececall0 Try.f29 (Sx.nav [1,0,1,0,0] (Sx.bodyOf Try.f29)) (Sx.frL [(6, .ptr ⟨false, 0, 0, 0⟩)]) (Sx.hpL [(0, .sit true l pos)]) 1 [true, false, true, false, true, false]) := Sx.eqn (q := ((((((True ∧ (decide (pos < List.length l) = true)) ∧ (decide ((↑(Prod.fst (Go.Utf8.decode (ByteArray.mk (List.toArray l)) pos)) : Int) < (97 : Int)) = false)) ∧ (decide ((122 : Int) < (↑(Prod.fst (Go.Utf8.decode (ByteArray.mk (List.toArray l)) pos)) : Int)) = true)) ∧ (decide ((↑(Prod.fst (Go.Utf8.decode (ByteArray.mk (List.toArray l)) pos)) : Int) < (48 : Int)) = false)) ∧ (decide ((57 : Int) < (↑(Prod.fst (Go.Utf8.decode (ByteArray.mk (List.toArray l)) pos)) : Int)) = true)) ∧ ((!decide ((↑(Prod.fst (Go.Utf8.decode (ByteArray.mk (List.toArray l)) pos)) : Int) = (95 : Int))) = false))) (by kernel_rfl) ⟨⟨⟨⟨⟨⟨trivial, c0⟩, c1⟩, c2⟩, c3⟩, c4⟩, c5⟩
theorem smB_r8 (l : List UInt8) (pos : Nat) (c0 : decide (pos < List.length l) = true) (c1 : decide ((↑(Prod.fst (Go.Utf8.decode (ByteArray.mk (List.toArray l)) pos)) : Int) < (97 : Int)) = false) (c2 : decide ((122 : Int) < (↑(Prod.fst (Go.Utf8.decode (ByteArray.mk (List.toArray l)) pos)) : Int)) = true) (c3 : decide ((↑(Prod.fst (Go.Utf8.decode (ByteArray.mk (List.toArray l)) pos)) : Int) < (48 : Int)) = false) (c4 : decide ((57 : Int) < (↑(Prod.fst (Go.Utf8.decode (ByteArray.mk (List.toArray l)) pos)) : Int)) = true) (c5 : (!decide ((↑(Prod.fst (Go.Utf8.decode (ByteArray.mk (List.toArray l)) pos)) : Int) = (95 : Int))) = true) : Sx.PieceN 1 (Sx.Ex.ret) [(2, Sx.AV.bool false), (6, Sx.AV.ptr (Sx.AA.mk false (0 : Nat) (0 : Nat) (0 : Nat)))] [(0, Sx.ABk.sit true l (pos + Prod.snd (Go.Utf8.decode (ByteArray.mk (List.toArray l)) pos)))] (piececall0 Try.f29 (Sx.nav [1,0,1,0,0] (Sx.bodyOf Try.f29)) (Sx.frL [(6, .ptr ⟨false, 0, 0, 0⟩)]) (Sx.hpL [(0, .sit true l pos)]) 1 [true, false, true, false, true, true]) := Sx.eqn (q := ((((((True ∧ (decide (pos < List.length l) = true)) ∧ (decide ((↑(Prod.fst (Go.Utf8.decode (ByteArray.mk (List.toArray l)) pos)) : Int) < (97 : Int)) = false)) ∧ (decide ((122 : Int) < (↑(Prod.fst (Go.Utf8.decode (ByteArray.mk (List.toArray l)) pos)) : Int)) = true)) ∧ (decide ((↑(Prod.fst (Go.Utf8.decode (ByteArray.mk (List.toArray l)) pos)) : Int) < (48 : Int)) = false)) ∧ (decide ((57 : Int) < (↑(Prod.fst (Go.Utf8.decode (ByteArray.mk (List.toArray l)) pos)) : Int)) = true)) ∧ ((!decide ((↑(Prod.fst (Go.Utf8.decode (ByteArray.mk (List.toArray l)) pos)) : Int) = (95 : Int))) = true))) (by kernel_rfl) ⟨⟨⟨⟨⟨⟨trivial, c0⟩, c1⟩, c2⟩, c3⟩, c4⟩, c5⟩
theorem smB_r9 (l : List UInt8) (pos : Nat) (c0 : decide (pos < List.length l) = true) (c1 : decide ((↑(Prod.fst (Go.Utf8.decode (ByteArray.mk (List.toArray l)) pos)) : Int) < (97 : Int)) = false) (c2 : decide ((122 : Int) < (↑(Prod.fst (Go.Utf8.decode (ByteArray.mk (List.toArray l)) pos)) : Int)) = true) (c3 : decide ((↑(Prod.fst (Go.Utf8.decode (ByteArray.mk (List.toArray l)) pos)) : Int) < (48 : Int)) = false) (c4 : decide ((57 : Int) < (↑(Prod.fst (Go.Utf8.decode (ByteArray.mk (List.toArray l)) pos)) : Int)) = false) : Sx.PieceN 1 (Sx.Ex.normal) [(6, Sx.AV.ptr (Sx.AA.mk false (0 : Nat) (0 : Nat) (0 : Nat)))] [(0, Sx.ABk.sit true l (pos + Prod.snd (Go.Utf8.decode (ByteArray.mk (List.toArray l)) pos)))] (piececall0 Try.f29 (Sx.nav [1,0,1,0,0] (Sx.bodyOf Try.f29)) (Sx.frL [(6, .ptr ⟨false, 0, 0, 0⟩)]) (Sx.hpL [(0, .sit true l pos)]) 1 [true, false, true, false, false]) := Sx.eqn (q := (((((True ∧ (decide (pos < List.length l) = true)) ∧ (decide ((↑(Prod.fst (Go.Utf8.decode (ByteArray.mk (List.toArray l)) pos)) : Int) < (97 : Int)) = false)) ∧ (decide ((122 : Int) < (↑(Prod.fst (Go.Utf8.decode (ByteArray.mk (List.toArray l)) pos)) : Int)) = true)) ∧ (decide ((↑(Prod.fst (Go.Utf8.decode (ByteArray.mk (List.toArray l)) pos)) : Int) < (48 : Int)) = false)) ∧ (decide ((57 : Int) < (↑(Prod.fst (Go.Utf8.decode (ByteArray.mk (List.toArray l)) pos)) : Int)) = false))) (by kernel_rfl) ⟨⟨⟨⟨⟨trivial, c0⟩, c1⟩, c2⟩, c3⟩, c4⟩
theorem smB_r10 (l : List UInt8) (pos : Nat) (c0 : decide (pos < List.length l) = true) (c1 : decide ((↑(Prod.fst (Go.Utf8.decode (ByteArray.mk (List.toArray l)) pos)) : Int) < (97 : Int)) = false) (c2 : decide ((122 : Int) < (↑(Prod.fst (Go.Utf8.decode (ByteArray.mk (List.toArray l)) pos)) : Int)) = false) : Sx.PieceN 1 (Sx.Ex.normal) [(6, Sx.AV.ptr (Sx.AA.mk false (0 : Nat) (0 : Nat) (0 : Nat)))] [(0, Sx.ABk.sit true l (pos + Prod.snd (Go.Utf8.decode (ByteArray.mk (List.toArray l)) pos)))] (piececall0 Try.f29 (Sx.nav [1,0,1,0,0] (Sx.bodyOf Try.f29)) (Sx.frL [(6, .ptr ⟨false, 0, 0, 0⟩)]) (Sx.hpL [(0, .sit true l pos)]) 1 [true, false, false]) := Sx.eqn (q := (((True ∧ (decide (pos < List.length l) = true)) ∧ (decide ((↑(Prod.fst (Go.Utf8.decode (ByteArray.mk (List.toArray l)) pos)) : Int) < (97 : Int)) = false)) ∧ (decide ((122 : Int) < (↑(Prod.fst (Go.Utf8.decode (ByteArray.mk (List.toArray l)) pos)) : Int)) = false))) (by kernel_rfl) ⟨⟨⟨trivial, c0⟩, c1⟩, c2⟩
theorem smB_r11 (l : List UInt8) (pos : Nat) (c0 : decide (pos < List.length l) = false) : Sx.PieceN 1 (Sx.Ex.exit (0 : Nat)) [(6, Sx.AV.ptr (Sx.AA.mk false (0 : Nat) (0 : Nat) (0 : Nat)))] [(0, Sx.ABk.sit true l pos)] (piececall0 Try.f29 (Sx.nav [1,0,1,0,0] (Sx.bodyOf Try.f29)) (Sx.frL [(6, .ptr ⟨false, 0, 0, 0⟩)]) (Sx.hpL [(0, .sit true l pos)]) 1 [false]) := Sx.eqn (q := (True ∧ (decide (pos < List.length l) = false))) (by kernel_rfl) ⟨trivial, c0⟩
theorem smB (B : Nat) (hB : B ≤ 1) (l : List UInt8) (pos : Nat) : Sx.GoesB Try.prog (Sx.nav [1,0,1,0,0] (Sx.bodyOf Try.f29)) Try.f29.ntmps B 1 1 (Sx.frL [(6, .ptr ⟨false, 0, 0, 0⟩)]) (Sx.hpL [(0, .sit true l pos)]) fun e fr' H' => (cond (decide (pos < List.length l)) (cond (decide ((↑(Prod.fst (Go.Utf8.decode (ByteArray.mk (List.toArray l)) pos)) : Int) < (97 : Int))) (cond (decide ((↑(Prod.fst (Go.Utf8.decode (ByteArray.mk (List.toArray l)) pos)) : Int) < (48 : Int))) (cond (decide ((↑(Prod.fst (Go.Utf8.decode (ByteArray.mk (List.toArray l)) pos)) : Int) = (95 : Int))) (e = Sx.Ex.normal ∧ fr' = Sx.frL [(6, Sx.AV.ptr (Sx.AA.mk false (0 : Nat) (0 : Nat) (0 : Nat)))] ∧ H' = Sx.hpL [(0, Sx.ABk.sit true l (pos + Prod.snd (Go.Utf8.decode (ByteArray.mk (List.toArray l)) pos)))]) (e = Sx.Ex.ret ∧ fr' = Sx.frL [(2, Sx.AV.bool false), (6, Sx.AV.ptr (Sx.AA.mk false (0 : Nat) (0 : Nat) (0 : Nat)))] ∧ H' = Sx.hpL [(0, Sx.ABk.sit true l (pos + Prod.snd (Go.Utf8.decode (ByteArray.mk (List.toArray l)) pos)))])) (cond (decide ((57 : Int) < (↑(Prod.fst (Go.Utf8.decode (ByteArray.mk (List.toArray l)) pos)) : Int))) (cond (decide ((↑(Prod.fst (Go.Utf8.decode (ByteArray.mk (List.toArray l)) pos)) : Int) = (95 : Int))) (e = Sx.Ex.normal ∧ fr' = Sx.frL [(6, Sx.AV.ptr (Sx.AA.mk false (0 : Nat) (0 : Nat) (0 : Nat)))] ∧ H' = Sx.hpL [(0, Sx.ABk.sit true l (pos + Prod.snd (Go.Utf8.decode (ByteArray.mk (List.toArray l)) pos)))]) (e = Sx.Ex.ret ∧ fr' = Sx.frL [(2, Sx.AV.bool false), (6, Sx.AV.ptr (Sx.AA.mk false (0 : Nat) (0 : Nat) (0 : Nat)))] ∧ H' = Sx.hpL [(0, Sx.ABk.sit true l (pos + Prod.snd (Go.Utf8.decode (ByteArray.mk (List.toArray l)) pos)))])) (e = Sx.Ex.normal ∧ fr' = Sx.frL [(6, Sx.AV.ptr (Sx.AA.mk false (0 : Nat) (0 : Nat) (0 : Nat)))] ∧ H' = Sx.hpL [(0, Sx.ABk.sit true l (pos + Prod.snd (Go.Utf8.decode (ByteArray.mk (List.toArray l)) pos)))]))) (cond (decide ((122 : Int) < (↑(Prod.fst (Go.Utf8.decode (ByteArray.mk (List.toArray l)) pos)) : Int))) (cond (decide ((↑(Prod.fst (Go.Utf8.decode (ByteArray.mk (List.toArray l)) pos)) : Int) < (48 : Int))) (cond (decide ((↑(Prod.fst (Go.Utf8.decode (ByteArray.mk (List.toArray l)) pos)) : Int) = (95 : Int))) (e = Sx.Ex.normal ∧ fr' = Sx.frL [(6, Sx.AV.ptr (Sx.AA.mk false (0 : Nat) (0 : Nat) (0 : Nat)))] ∧ H' = Sx.hpL [(0, Sx.ABk.sit true l (pos + Prod.snd (Go.Utf8.decode (ByteArray.mk (List.toArray l)) pos)))]) (e = Sx.Ex.ret ∧ fr' = Sx.frL [(2, Sx.AV.bool false), (6, Sx.AV.ptr (Sx.AA.mk false (0 : Nat) (0 : Nat) (0 : Nat)))] ∧ H' = Sx.hpL [(0, Sx.ABk.sit true l (pos + Prod.snd (Go.Utf8.decode (ByteArray.mk (List.toArray l)) pos)))])) (cond (decide ((57 : Int) < (↑(Prod.fst (Go.Utf8.decode (ByteArray.mk (List.toArray l)) pos)) : Int))) (cond (decide ((↑(Prod.fst (Go.Utf8.decode (ByteArray.mk (List.toArray l)) pos)) : Int) = (95 : Int))) (e = Sx.Ex.normal ∧ fr' = Sx.frL [(6, Sx.AV.ptr (Sx.AA.mk false (0 : Nat) (0 : Nat) (0 : Nat)))] ∧ H' = Sx.hpL [(0, Sx.ABk.sit true l (pos + Prod.snd (Go.Utf8.decode (ByteArray.mk (List.toArray l)) pos)))]) (e = Sx.Ex.ret ∧ fr' = Sx.frL [(2, Sx.AV.bool false), (6, Sx.AV.ptr (Sx.AA.mk false (0 : Nat) (0 : Nat) (0 : Nat)))] ∧ H' = Sx.hpL [(0, Sx.ABk.sit true l (pos + Prod.snd (Go.Utf8.decode (ByteArray.mk (List.toArray l)) pos)))])) (e = Sx.Ex.normal ∧ fr' = Sx.frL [(6, Sx.AV.ptr (Sx.AA.mk false (0 : Nat) (0 : Nat) (0 : Nat)))] ∧ H' = Sx.hpL [(0, Sx.ABk.sit true l (pos + Prod.snd (Go.Utf8.decode (ByteArray.mk (List.toArray l)) pos)))]))) (e = Sx.Ex.normal ∧ fr' = Sx.frL [(6, Sx.AV.ptr (Sx.AA.mk false (0 : Nat) (0 : Nat) (0 : Nat)))] ∧ H' = Sx.hpL [(0, Sx.ABk.sit true l (pos + Prod.snd (Go.Utf8.decode (ByteArray.mk (List.toArray l)) pos)))]))) (e = Sx.Ex.exit (0 : Nat) ∧ fr' = Sx.frL [(6, Sx.AV.ptr (Sx.AA.mk false (0 : Nat) (0 : Nat) (0 : Nat)))] ∧ H' = Sx.hpL [(0, Sx.ABk.sit true l pos)])) := by
 cases t0 : decide (pos < List.length l) with
 | true =>
  cases t1 : decide ((↑(Prod.fst (Go.Utf8.decode (ByteArray.mk (List.toArray l)) pos)) : Int) < (97 : Int)) with
  | true =>
   cases t2 : decide ((↑(Prod.fst (Go.Utf8.decode (ByteArray.mk (List.toArray l)) pos)) : Int) < (48 : Int)) with
   | true =>
    cases t3 : decide ((↑(Prod.fst (Go.Utf8.decode (ByteArray.mk (List.toArray l)) pos)) : Int) = (95 : Int)) with
    | true =>
     exact (Sx.GoesB.runN call0_ok (call0_reg _) (Sx.LoopsIn.none _ _ _) (smB_r0 l pos t0 t1 t2 (by rw [t3]; rfl)) hB).mono fun e fr' H' h => by first | (simp only [t0, t1, t2, t3, cond_true, cond_false]; exact h) | (simp only [t0, t1, t2, t3, cond_true, cond_false] at h ⊢; exact h)
    | false =>
     exact (Sx.GoesB.runN call0_ok (call0_reg _) (Sx.LoopsIn.none _ _ _) (smB_r1 l pos t0 t1 t2 (by rw [t3]; rfl)) hB).mono fun e fr' H' h => by first | (simp only [t0, t1, t2, t3, cond_true, cond_false]; exact h) | (simp only [t0, t1, t2, t3, cond_true, cond_false] at h ⊢; exact h)
   | false =>
    cases t3 : decide ((57 : Int) < (↑(Prod.fst (Go.Utf8.decode (ByteArray.mk (List.toArray l)) pos)) : Int)) with
    | true =>
     cases t4 : decide ((↑(Prod.fst (Go.Utf8.decode (ByteArray.mk (List.toArray l)) pos)) : Int) = (95 : Int)) with
     | true =>
      exact (Sx.GoesB.runN call0_ok (call0_reg _) (Sx.LoopsIn.none _ _ _) (smB_r2 l pos t0 t1 t2 t3 (by rw [t4]; rfl)) hB).mono fun e fr' H' h => by first | (simp only [t0, t1, t2, t3, t4, cond_true, cond_false]; exact h) | (simp only [t0, t1, t2, t3, t4, cond_true, cond_false] at h ⊢; exact h)
     | false =>
      exact (Sx.GoesB.runN call0_ok (call0_reg _) (Sx.LoopsIn.none _ _ _) (smB_r3 l pos t0 t1 t2 t3 (by rw [t4]; rfl)) hB).mono fun e fr' H' h => by first | (simp only [t0, t1, t2, t3, t4, cond_true, cond_false]; exact h) | (simp only [t0, t1, t2, t3, t4, cond_true, cond_false] at h ⊢; exact h)
    | false =>
     exact (Sx.GoesB.runN call0_ok (call0_reg _) (Sx.LoopsIn.none _ _ _) (smB_r4 l pos t0 t1 t2 t3) hB).mono fun e fr' H' h => by first | (simp only [t0, t1, t2, t3, cond_true, cond_false]; exact h) | (simp only [t0, t1, t2, t3, cond_true, cond_false] at h ⊢; exact h)
  | false =>
   cases t2 : decide ((122 : Int) < (↑(Prod.fst (Go.Utf8.decode (ByteArray.mk (List.toArray l)) pos)) : Int)) with
   | true =>
    cases t3 : decide ((↑(Prod.fst (Go.Utf8.decode (ByteArray.mk (List.toArray l)) pos)) : Int) < (48 : Int)) with
    | true =>
     cases t4 : decide ((↑(Prod.fst (Go.Utf8.decode (ByteArray.mk (List.toArray l)) pos)) : Int) = (95 : Int)) with
     | true =>
      exact (Sx.GoesB.runN call0_ok (call0_reg _) (Sx.LoopsIn.none _ _ _) (smB_r5 l pos t0 t1 t2 t3 (by rw [t4]; rfl)) hB).mono fun e fr' H' h => by first | (simp only [t0, t1, t2, t3, t4, cond_true, cond_false]; exact h) | (simp only [t0, t1, t2, t3, t4, cond_true, cond_false] at h ⊢; exact h)
     | false =>
      exact (Sx.GoesB.runN call0_ok (call0_reg _) (Sx.LoopsIn.none _ _ _) (smB_r6 l pos t0 t1 t2 t3 (by rw [t4]; rfl)) hB).mono fun e fr' H' h => by first | (simp only [t0, t1, t2, t3, t4, cond_true, cond_false]; exact h) | (simp only [t0, t1, t2, t3, t4, cond_true, cond_false] at h ⊢; exact h)
    | false =>
     cases t4 : decide ((57 : Int) < (↑(Prod.fst (Go.Utf8.decode (ByteArray.mk (List.toArray l)) pos)) : Int)) with
     | true =>
      cases t5 : decide ((↑(Prod.fst (Go.Utf8.decode (ByteArray.mk (List.toArray l)) pos)) : Int) = (95 : Int)) with
      | true =>
       exact (Sx.GoesB.runN call0_ok (call0_reg _) (Sx.LoopsIn.none _ _ _) (smB_r7 l pos t0 t1 t2 t3 t4 (by rw [t5]; rfl)) hB).mono fun e fr' H' h => by first | (simp only [t0, t1, t2, t3, t4, t5, cond_true, cond_false]; exact h) | (simp only [t0, t1, t2, t3, t4, t5, cond_true, cond_false] at h ⊢; exact h)
      | false =>
       exact (Sx.GoesB.runN call0_ok (call0_reg _) (Sx.LoopsIn.none _ _ _) (smB_r8 l pos t0 t1 t2 t3 t4 (by rw [t5]; rfl)) hB).mono fun e fr' H' h => by first | (simp only [t0, t1, t2, t3, t4, t5, cond_true, cond_false]; exact h) | (simp only [t0, t1, t2, t3, t4, t5, cond_true, cond_false] at h ⊢; exact h)
     | false =>
      exact (Sx.GoesB.runN call0_ok (call0_reg _) (Sx.LoopsIn.none _ _ _) (smB_r9 l pos t0 t1 t2 t3 t4) hB).mono fun e fr' H' h => by first | (simp only [t0, t1, t2, t3, t4, cond_true, cond_false]; exact h) | (simp only [t0, t1, t2, t3, t4, cond_true, cond_false] at h ⊢; exact h)
   | false =>
    exact (Sx.GoesB.runN call0_ok (call0_reg _) (Sx.LoopsIn.none _ _ _) (smB_r10 l pos t0 t1 t2) hB).mono fun e fr' H' h => by first | (simp only [t0, t1, t2, cond_true, cond_false]; exact h) | (simp only [t0, t1, t2, cond_true, cond_false] at h ⊢; exact h)
 | false =>
  exact (Sx.GoesB.runN call0_ok (call0_reg _) (Sx.LoopsIn.none _ _ _) (smB_r11 l pos t0) hB).mono fun e fr' H' h => by first | (simp only [t0, cond_true, cond_false]; exact h) | (simp only [t0, cond_true, cond_false] at h ⊢; exact h)
theorem smZ_r0  : Sx.PieceN 1 (Sx.Ex.ret) [(2, Sx.AV.bool true)] [] (piececall0 Try.f29 (Sx.nav [1,1] (Sx.bodyOf Try.f29)) (Sx.frL []) (Sx.hpL []) 1 []) := Sx.eqn (q := True) (by kernel_rfl) trivial
theorem smZ (B : Nat) (hB : B ≤ 1)  : Sx.GoesB Try.prog (Sx.nav [1,1] (Sx.bodyOf Try.f29)) Try.f29.ntmps B 1 1 (Sx.frL []) (Sx.hpL []) fun e fr' H' => (e = Sx.Ex.ret ∧ fr' = Sx.frL [(2, Sx.AV.bool true)] ∧ H' = Sx.hpL []) := by
 exact (Sx.GoesB.runN call0_ok (call0_reg _) (Sx.LoopsIn.none _ _ _) (smZ_r0 ) hB).mono fun e fr' H' h => h
def okB (b : UInt8) : Bool := (decide (97 ≤ b.toNat) && decide (b.toNat ≤ 122)) || (decide (48 ≤ b.toNat) && decide (b.toNat ≤ 57)) || decide (b.toNat = 95)
theorem rune_at (l : List UInt8) (pos : Nat) (h : pos < l.length) : (l[pos].toNat < 128 ∧ Utf8.decode ⟨l.toArray⟩ pos = (l[pos].toNat, 1)) ∨ (128 ≤ l[pos].toNat ∧ 128 ≤ (Utf8.decode ⟨l.toArray⟩ pos).1) := by
 have hs : pos < (⟨l.toArray⟩ : ByteArray).size := by rw [Sx.ba_size]; exact h
 have e : (⟨l.toArray⟩ : ByteArray)[pos]'hs = l[pos] := rfl
 by_cases hb : l[pos].toNat < 128
 ·exact .inl ⟨hb, decode_ascii _ pos hs hb⟩
 ·exact .inr ⟨by omega, (decode_high _ pos hs (by rw [e]; omega)).1⟩
theorem take_all (l : List UInt8) (pos : Nat) (h : pos < l.length) (hp : (l.take pos).all okB = true) (hk : okB l[pos] = true) : (l.take (pos + 1)).all okB = true := by
 rw [List.take_succ_eq_append_getElem h, List.all_append, hp]; simp [hk]
theorem all_false (l : List UInt8) (pos : Nat) (h : pos < l.length) (hk : okB l[pos] = false) : l.all okB = false := by
 rw [List.all_eq_false]; exact ⟨l[pos], List.getElem_mem h, by simp [hk]⟩
theorem okB_iff (b : UInt8) : okB b = true ↔ ((97 ≤ b.toNat ∧ b.toNat ≤ 122) ∨ (48 ≤ b.toNat ∧ b.toNat ≤ 57) ∨ b.toNat = 95) := by
 unfold okB; simp only [Bool.or_eq_true, Bool.and_eq_true, decide_eq_true_eq]; omega
theorem okB_not (b : UInt8) : okB b = false ↔ ¬ ((97 ≤ b.toNat ∧ b.toNat ≤ 122) ∨ (48 ≤ b.toNat ∧ b.toNat ≤ 57) ∨ b.toNat = 95) := by
 rw [← okB_iff]; simp
def smI (l : List UInt8) (k : Nat) (fr : Sx.Fr) (H : Sx.T Sx.ABk) : Prop :=
 ∃ pos, k = l.length - pos ∧ (l.take pos).all okB = true ∧ fr = Sx.frL [(6, .ptr ⟨false, 0, 0, 0⟩)] ∧ H = Sx.hpL [(0, .sit true l pos)]
def smPost (l : List UInt8) : Sx.Po := fun e fr H => (e = .exit 0 ∧ l.all okB = true) ∨ (e = .ret ∧ l.all okB = false ∧ fr.get 2 = some (.bool false))
theorem sm_body (l : List UInt8) (k : Nat) (fr : Sx.Fr) (H : Sx.T Sx.ABk) (hI : smI l k fr H) : Sx.GoesB Try.prog (Sx.nav [1,0,1,0,0] (Sx.bodyOf Try.f29)) Try.f29.ntmps 0 1 1 fr H fun e fr' H' => match e with
   | .normal => ∃ k', k' < k ∧ smI l k' fr' H'
   | e => smPost l e fr' H' := by
 obtain ⟨pos, rfl, hp, rfl, rfl⟩ := hI
 refine (smB 0 (by omega) l pos).mono fun e fr' H' h => ?_
 refine Sx.cond_elim h (fun t0 h => ?_) (fun t0 h => ?_)
 ·have hlt := of_decide_eq_true t0
  have ru := rune_at l pos hlt
  have hok := okB_iff l[pos]
  have hno := okB_not l[pos]
  have go : okB l[pos] = true → (Utf8.decode ⟨l.toArray⟩ pos).2 = 1 → ∃ k', k' < l.length - pos ∧ smI l k' (Sx.frL [(6, .ptr ⟨false, 0, 0, 0⟩)]) (Sx.hpL [(0, .sit true l (pos + (Utf8.decode ⟨l.toArray⟩ pos).2))]) := fun hk hw => by
   rw [hw]
   exact ⟨l.length - (pos + 1), by omega, pos + 1, rfl, take_all l pos hlt hp hk, rfl, rfl⟩
  obtain ⟨r, hr⟩ : ∃ r : Nat × Nat, Utf8.decode ⟨l.toArray⟩ pos = r := ⟨_, rfl⟩
  rw [hr] at ru h go
  have ru' : (l[pos].toNat < 128 ∧ r.1 = l[pos].toNat ∧ r.2 = 1) ∨ (128 ≤ l[pos].toNat ∧ 128 ≤ r.1) := by
   rcases ru with ⟨h1, h2⟩ | h
   ·exact .inl ⟨h1, by rw [h2], by rw [h2]⟩
   ·exact .inr h
  repeat' (refine Sx.cond_elim h (fun t1 h => ?_) (fun t1 h => ?_) <;> first | replace t1 := of_decide_eq_true t1 | replace t1 := of_decide_eq_false t1)
  all_goals (obtain ⟨rfl, rfl, rfl⟩ := h)
  all_goals (first | (exact go (hok.2 (by omega)) (by omega)) | (exact .inr ⟨rfl, all_false l pos hlt (hno.2 (by omega)), rfl⟩))
 ·obtain ⟨rfl, rfl, rfl⟩ := h
  refine .inl ⟨rfl, ?_⟩
  rw [List.take_of_length_le (by have := of_decide_eq_false t0; omega)] at hp
  exact hp
theorem sm_is : Sx.bodyOf Try.f29 = .seq (Sx.nav [0] (Sx.bodyOf Try.f29)) (.seq (.seq (Sx.nav [1,0,0] (Sx.bodyOf Try.f29)) (.block 0 (.loop (Sx.nav [1,0,1,0,0] (Sx.bodyOf Try.f29))))) (Sx.nav [1,1] (Sx.bodyOf Try.f29))) := by kernel_rfl
theorem sm_goes (l : List UInt8) : Sx.GoesB Try.prog (Sx.bodyOf Try.f29) Try.f29.ntmps 0 0 1 (Sx.frameOf [.str true l] 0 .e) (Sx.hpL []) fun e fr' H' => (e = .ret ∨ e = .normal) ∧ fr'.get 2 = some (.bool (l.all okB)) := by
 rw [sm_is]
 refine Sx.GoesB.seq (K1 := 0) (by omega) ((smA 0 (by omega) l).mono fun e fr' H' ⟨e1, e2, e3⟩ => ?_)
 subst e1 e2 e3
 refine Sx.GoesB.seq (K1 := 1) (by omega) (Sx.GoesB.seq (K1 := 1) (by omega) ((smR 0 (by omega) l).mono fun e fr' H' ⟨e1, e2, e3⟩ => ?_))
 subst e1 e2 e3
 refine Sx.GoesB.block ((Sx.GoesB.loop (smI l) (Post := smPost l) (sm_body l) _ _ _ ⟨0, rfl, by simp, rfl, rfl⟩).mono fun e fr' H' hp => ?_)
 rcases hp with ⟨rfl, h1⟩ | ⟨rfl, h1, h2⟩
 ·simp only [if_true]
  refine Sx.GoesB.weakL (fl := []) (bl := []) trivial trivial ((smZ 0 (by omega)).mono fun e fr' H' ⟨e1, e2, e3⟩ => ?_)
  subst e1 e2 e3
  exact ⟨.inl rfl, by rw [h1]; rfl⟩
 ·exact ⟨.inl rfl, by rw [h1]; exact h2⟩
noncomputable def smallS : List Sx.AV → Sx.M Sx.AV
 | [.str s l] => Sx.M.ret (Sx.cmpB s (l.all okB))
 | args => call0 29 args
theorem smallS_ok : ∀ args v g g', smallS args g = .done v g' → Sx.CallIs Try.prog 29 args v g g' := by
 intro args v g g' h
 unfold smallS at h
 split at h
 ·rename_i s l
  obtain ⟨rfl, rfl⟩ := Sx.ret_done h
  refine Sx.reads (c := Sx.bodyOf Try.f29) Try.func29 (by kernel_rfl) (by kernel_rfl) (g1 := g) (p := True) (Sx.Keep.refl g) [] (fun _ v hv => by cases hv) (argsC := [.str true l]) (fun _ N μ cs h => by simpa only [Sx.Reps, Sx.Rep] using h) (nms := []) (bs := []) (K' := 1) (fun _ => (sm_goes l).mono fun e fr' H' ⟨h1, h2⟩ => ⟨h1, [.bool (l.all okB)], ⟨H', 1, [], [], True⟩, ?_, trivial, ?_, ⟨rfl, fun i b h => by simp at h, List.nodup_nil⟩⟩) (by cases s <;> rfl) (by cases s <;> trivial) rfl rfl id
  ·have e : Try.f29.results.toList = [.tmp 2] := by kernel_rfl
   rw [e]
   simp only [Sx.resultsA, Sx.resultA, h2, Option.getD_some]
   rfl
  ·cases s
   ·exact Sx.AV.ge.refl _
   ·exact Sx.AV.ge.bool _
 ·exact call0_ok _ _ _ _ _ h
theorem smallS_tch : ∀ args, Sx.Tch (smallS args) := by
 intro args
 unfold smallS
 split
 ·exact Sx.Tch.ret _
 ·exact call0_tch _ _
theorem kind_0 (n : Nat) (hE : decide (Sx.kE n = 0) = true) (hR : decide (Sx.kR n = 0) = true) : Sx.PureP (Sx.AV.int false .i64 0) (call0 34 [.raw true n] (Sx.G.on [true, true])) := by
 have e : Sx.pureP (Sx.AV.int false .i64 0) (call0 34 [.raw true n] (Sx.G.on [true, true])) = (Sx.AV.int false .i64 0 = Sx.AV.int false .i64 0 ∧ ((((True ∧ (0 : Int) ≤ 52) ∧ (0 : Int) ≤ 12) ∧ decide (Sx.kE n = 0) = true) ∧ decide (Sx.kR n = 0) = true)) := by kernel_rfl
 exact ⟨by rw [e]; exact ⟨rfl, ⟨⟨⟨⟨trivial, by decide⟩, by decide⟩, hE⟩, hR⟩⟩⟩
theorem kind_1 (n : Nat) (hE : decide (Sx.kE n = 0) = true) (hR : decide (Sx.kR n = 0) = false) : Sx.PureP (Sx.AV.int false .i64 1) (call0 34 [.raw true n] (Sx.G.on [true, false, true])) := by
 have e : Sx.pureP (Sx.AV.int false .i64 1) (call0 34 [.raw true n] (Sx.G.on [true, false, true])) = (Sx.AV.int false .i64 1 = Sx.AV.int false .i64 1 ∧ (((((True ∧ (0 : Int) ≤ 52) ∧ (0 : Int) ≤ 12) ∧ decide (Sx.kE n = 0) = true) ∧ decide (Sx.kR n = 0) = false) ∧ decide (Sx.kE n = 0) = true)) := by kernel_rfl
 exact ⟨by rw [e]; exact ⟨rfl, ⟨⟨⟨⟨⟨trivial, by decide⟩, by decide⟩, hE⟩, hR⟩, hE⟩⟩⟩
theorem kind_2 (n : Nat) (hE : decide (Sx.kE n = 0) = false) (hL : decide (Sx.kE n < 2047) = true) : Sx.PureP (Sx.AV.int false .i64 2) (call0 34 [.raw true n] (Sx.G.on [false, false, true])) := by
 have e : Sx.pureP (Sx.AV.int false .i64 2) (call0 34 [.raw true n] (Sx.G.on [false, false, true])) = (Sx.AV.int false .i64 2 = Sx.AV.int false .i64 2 ∧ (((((True ∧ (0 : Int) ≤ 52) ∧ (0 : Int) ≤ 12) ∧ decide (Sx.kE n = 0) = false) ∧ decide (Sx.kE n = 0) = false) ∧ decide (Sx.kE n < 2047) = true)) := by kernel_rfl
 exact ⟨by rw [e]; exact ⟨rfl, ⟨⟨⟨⟨⟨trivial, by decide⟩, by decide⟩, hE⟩, hE⟩, hL⟩⟩⟩
theorem kind_3 (n : Nat) (hE : decide (Sx.kE n = 0) = false) (hL : decide (Sx.kE n < 2047) = false) (hR : decide (Sx.kR n = 0) = true) : Sx.PureP (Sx.AV.int false .i64 3) (call0 34 [.raw true n] (Sx.G.on [false, false, false, true])) := by
 have e : Sx.pureP (Sx.AV.int false .i64 3) (call0 34 [.raw true n] (Sx.G.on [false, false, false, true])) = (Sx.AV.int false .i64 3 = Sx.AV.int false .i64 3 ∧ ((((((True ∧ (0 : Int) ≤ 52) ∧ (0 : Int) ≤ 12) ∧ decide (Sx.kE n = 0) = false) ∧ decide (Sx.kE n = 0) = false) ∧ decide (Sx.kE n < 2047) = false) ∧ decide (Sx.kR n = 0) = true)) := by kernel_rfl
 exact ⟨by rw [e]; exact ⟨rfl, ⟨⟨⟨⟨⟨⟨trivial, by decide⟩, by decide⟩, hE⟩, hE⟩, hL⟩, hR⟩⟩⟩
theorem kind_4 (n : Nat) (hE : decide (Sx.kE n = 0) = false) (hL : decide (Sx.kE n < 2047) = false) (hR : decide (Sx.kR n = 0) = false) : Sx.PureP (Sx.AV.int false .i64 4) (call0 34 [.raw true n] (Sx.G.on [false, false, false, false])) := by
 have e : Sx.pureP (Sx.AV.int false .i64 4) (call0 34 [.raw true n] (Sx.G.on [false, false, false, false])) = (Sx.AV.int false .i64 4 = Sx.AV.int false .i64 4 ∧ ((((((True ∧ (0 : Int) ≤ 52) ∧ (0 : Int) ≤ 12) ∧ decide (Sx.kE n = 0) = false) ∧ decide (Sx.kE n = 0) = false) ∧ decide (Sx.kE n < 2047) = false) ∧ decide (Sx.kR n = 0) = false)) := by kernel_rfl
 exact ⟨by rw [e]; exact ⟨rfl, ⟨⟨⟨⟨⟨⟨trivial, by decide⟩, by decide⟩, hE⟩, hE⟩, hL⟩, hR⟩⟩⟩
noncomputable def kindS : List Sx.AV → Sx.M Sx.AV
 | [.flt s n] => Sx.M.ret (.int s .i64 (Sx.kindDef n))
 | [.raw s n] => Sx.M.ret (.int s .i64 (Sx.kindDef n))
 | _ => Sx.M.no
theorem kind_road (n : Nat) : ∃ path lv, Sx.PureP lv (call0 34 [.raw true n] (Sx.G.on path)) ∧ lv = Sx.AV.int false .i64 (Sx.kindDef n) := by
 cases hE : decide (Sx.kE n = 0) with
 | true =>
  cases hR : decide (Sx.kR n = 0) with
  | true => exact ⟨_, _, kind_0 n hE hR, by simp only [Sx.kindDef, hE, hR, cond_true]⟩
  | false => exact ⟨_, _, kind_1 n hE hR, by simp only [Sx.kindDef, hE, hR, cond_true, cond_false]⟩
 | false =>
  cases hL : decide (Sx.kE n < 2047) with
  | true => exact ⟨_, _, kind_2 n hE hL, by simp only [Sx.kindDef, hE, hL, cond_true, cond_false]⟩
  | false =>
   cases hR : decide (Sx.kR n = 0) with
   | true => exact ⟨_, _, kind_3 n hE hL hR, by simp only [Sx.kindDef, hE, hL, hR, cond_true, cond_false]⟩
   | false => exact ⟨_, _, kind_4 n hE hL hR, by simp only [Sx.kindDef, hE, hL, hR, cond_true, cond_false]⟩
theorem kindS_ok : ∀ args v g g', kindS args g = .done v g' → Sx.CallIs Try.prog 34 args v g g' := by
 intro args v g g' h
 unfold kindS at h
 split at h
 ·rename_i s n
  obtain ⟨rfl, rfl⟩ := Sx.ret_done h
  refine Sx.scal call0_ok fun μ cargs ha => ?_
  obtain ⟨c, rfl, hx⟩ := ha.one
  simp only [Sx.Rep] at hx
  obtain ⟨b, rfl, hb⟩ := hx
  obtain ⟨path, lv, h1, rfl⟩ := kind_road b
  refine ⟨[.raw true b], path, _, ?_, h1, rfl, fun c hc => ?_⟩
  ·simp only [Sx.Reps, Sx.Rep]; exact ⟨_, _, rfl, ⟨rfl, hb.2⟩, rfl⟩
  ·have := hc 0 Sx.MM.none
   simp only [Sx.Rep] at this ⊢
   rw [this, ← hb.1, Sx.kind_cn hb.2]
 ·rename_i s n
  obtain ⟨rfl, rfl⟩ := Sx.ret_done h
  refine Sx.scal call0_ok fun μ cargs ha => ?_
  obtain ⟨c, rfl, hx⟩ := ha.one
  simp only [Sx.Rep] at hx
  obtain ⟨rfl, hb⟩ := hx
  obtain ⟨path, lv, h1, rfl⟩ := kind_road n
  refine ⟨[.raw true n], path, _, ?_, h1, rfl, fun c hc => ?_⟩
  ·simp only [Sx.Reps, Sx.Rep]; exact ⟨_, _, rfl, ⟨rfl, hb⟩, rfl⟩
  ·have := hc 0 Sx.MM.none
   simpa only [Sx.Rep] using this
 ·exact (Sx.no_done h).elim
theorem kindS_tch : ∀ args, Sx.Tch (kindS args) := by
 intro args
 unfold kindS
 split
 ·exact Sx.Tch.ret _
 ·exact Sx.Tch.ret _
 ·exact Sx.Tch.no
noncomputable def gam1 : Sx.Known := Sx.kc 24 Sx.ofBits (Sx.kc 39 Sx.toBits (Sx.kc 29 smallS (Sx.kc 34 kindS (Sx.kn))))
theorem gam1_ok : Sx.KnownOk Try.prog gam1 := Sx.kc_ok ((Sx.ofBits_is Try.prog).callIs Try.func24 (by kernel_rfl) (by kernel_rfl) (by kernel_rfl) (by kernel_rfl)) (Sx.kc_ok ((Sx.toBits_is Try.prog).callIs Try.func39 (by kernel_rfl) (by kernel_rfl) (by kernel_rfl) (by kernel_rfl)) (Sx.kc_ok smallS_ok (Sx.kc_ok kindS_ok (Sx.kn_ok))))
theorem gam1_tch : Sx.KnownT gam1 := Sx.kc_tch Sx.Tch.ofBits (Sx.kc_tch Sx.Tch.toBits (Sx.kc_tch smallS_tch (Sx.kc_tch kindS_tch (Sx.kn_tch))))
noncomputable def call1 : Sx.Calls' := Sx.runN Try.prog gam1 (Sx.regionC Try.prog) 1000 50
theorem call1_ok : Sx.CallOk Try.prog call1 := Sx.engineC gam1_ok gam1_tch (by kernel_rfl) (by kernel_rfl) 1000 50
theorem call1_tch : Sx.CallT call1 := Sx.runA_tch gam1_tch (fun _ _ _ h => by cases h) (fun call hc n l fr => Sx.regionC_tch hc n l fr) 50
theorem call1_reg (n : Nat) : Sx.RegionOk Try.prog (Sx.regionC Try.prog call1 n) n := Sx.runN_regionC gam1_ok gam1_tch (by kernel_rfl) (by kernel_rfl) 1000 50 n
theorem rowOf_r0 (k : Int) (c0 : decide (k = (1 : Int)) = true) : Sx.PureP (Sx.AV.tup [Sx.AV.agg [Sx.AV.int false IntKind.u8 (82 : Int), Sx.AV.str false [(111 : UInt8), (104 : UInt8), (109 : UInt8)], Sx.AV.bool true, Sx.AV.bool false, Sx.AV.bool false], Sx.AV.bool true]) (call1 31 [.int true .u8 k] (Sx.G.on [true])) := Sx.eqq (q := (True ∧ (decide (k = (1 : Int)) = true))) (by kernel_rfl) ⟨trivial, c0⟩
theorem rowOf_r1 (k : Int) (c0 : decide (k = (1 : Int)) = false) (c1 : decide (k = (2 : Int)) = true) : Sx.PureP (Sx.AV.tup [Sx.AV.agg [Sx.AV.int false IntKind.u8 (76 : Int), Sx.AV.str false [(104 : UInt8), (101 : UInt8), (110 : UInt8), (114 : UInt8), (121 : UInt8)], Sx.AV.bool true, Sx.AV.bool false, Sx.AV.bool false], Sx.AV.bool true]) (call1 31 [.int true .u8 k] (Sx.G.on [false, true])) := Sx.eqq (q := ((True ∧ (decide (k = (1 : Int)) = false)) ∧ (decide (k = (2 : Int)) = true))) (by kernel_rfl) ⟨⟨trivial, c0⟩, c1⟩
theorem rowOf_r2 (k : Int) (c0 : decide (k = (1 : Int)) = false) (c1 : decide (k = (2 : Int)) = false) (c2 : decide (k = (3 : Int)) = true) : Sx.PureP (Sx.AV.tup [Sx.AV.agg [Sx.AV.int false IntKind.u8 (67 : Int), Sx.AV.str false [(102 : UInt8), (97 : UInt8), (114 : UInt8), (97 : UInt8), (100 : UInt8)], Sx.AV.bool true, Sx.AV.bool false, Sx.AV.bool false], Sx.AV.bool true]) (call1 31 [.int true .u8 k] (Sx.G.on [false, false, true])) := Sx.eqq (q := (((True ∧ (decide (k = (1 : Int)) = false)) ∧ (decide (k = (2 : Int)) = false)) ∧ (decide (k = (3 : Int)) = true))) (by kernel_rfl) ⟨⟨⟨trivial, c0⟩, c1⟩, c2⟩
theorem rowOf_r3 (k : Int) (c0 : decide (k = (1 : Int)) = false) (c1 : decide (k = (2 : Int)) = false) (c2 : decide (k = (3 : Int)) = false) (c3 : decide (k = (4 : Int)) = true) : Sx.PureP (Sx.AV.tup [Sx.AV.agg [Sx.AV.int false IntKind.u8 (73 : Int), Sx.AV.str false [(97 : UInt8), (109 : UInt8), (112 : UInt8), (101 : UInt8), (114 : UInt8), (101 : UInt8)], Sx.AV.bool false, Sx.AV.bool false, Sx.AV.bool true], Sx.AV.bool true]) (call1 31 [.int true .u8 k] (Sx.G.on [false, false, false, true])) := Sx.eqq (q := ((((True ∧ (decide (k = (1 : Int)) = false)) ∧ (decide (k = (2 : Int)) = false)) ∧ (decide (k = (3 : Int)) = false)) ∧ (decide (k = (4 : Int)) = true))) (by kernel_rfl) ⟨⟨⟨⟨trivial, c0⟩, c1⟩, c2⟩, c3⟩
theorem rowOf_r4 (k : Int) (c0 : decide (k = (1 : Int)) = false) (c1 : decide (k = (2 : Int)) = false) (c2 : decide (k = (3 : Int)) = false) (c3 : decide (k = (4 : Int)) = false) (c4 : decide (k = (5 : Int)) = true) : Sx.PureP (Sx.AV.tup [Sx.AV.agg [Sx.AV.int false IntKind.u8 (86 : Int), Sx.AV.str false [(118 : UInt8), (111 : UInt8), (108 : UInt8), (116 : UInt8)], Sx.AV.bool false, Sx.AV.bool false, Sx.AV.bool true], Sx.AV.bool true]) (call1 31 [.int true .u8 k] (Sx.G.on [false, false, false, false, true])) := Sx.eqq (q := (((((True ∧ (decide (k = (1 : Int)) = false)) ∧ (decide (k = (2 : Int)) = false)) ∧ (decide (k = (3 : Int)) = false)) ∧ (decide (k = (4 : Int)) = false)) ∧ (decide (k = (5 : Int)) = true))) (by kernel_rfl) ⟨⟨⟨⟨⟨trivial, c0⟩, c1⟩, c2⟩, c3⟩, c4⟩
theorem rowOf_r5 (k : Int) (c0 : decide (k = (1 : Int)) = false) (c1 : decide (k = (2 : Int)) = false) (c2 : decide (k = (3 : Int)) = false) (c3 : decide (k = (4 : Int)) = false) (c4 : decide (k = (5 : Int)) = false) (c5 : decide (k = (6 : Int)) = true) : Sx.PureP (Sx.AV.tup [Sx.AV.agg [Sx.AV.int false IntKind.u8 (71 : Int), Sx.AV.str false [(115 : UInt8), (105 : UInt8), (101 : UInt8), (109 : UInt8), (101 : UInt8), (110 : UInt8), (115 : UInt8)], Sx.AV.bool false, Sx.AV.bool true, Sx.AV.bool false], Sx.AV.bool true]) (call1 31 [.int true .u8 k] (Sx.G.on [false, false, false, false, false, true])) := Sx.eqq (q := ((((((True ∧ (decide (k = (1 : Int)) = false)) ∧ (decide (k = (2 : Int)) = false)) ∧ (decide (k = (3 : Int)) = false)) ∧ (decide (k = (4 : Int)) = false)) ∧ (decide (k = (5 : Int)) = false)) ∧ (decide (k = (6 : Int)) = true))) (by kernel_rfl) ⟨⟨⟨⟨⟨⟨trivial, c0⟩, c1⟩, c2⟩, c3⟩, c4⟩, c5⟩
theorem rowOf_r6 (k : Int) (c0 : decide (k = (1 : Int)) = false) (c1 : decide (k = (2 : Int)) = false) (c2 : decide (k = (3 : Int)) = false) (c3 : decide (k = (4 : Int)) = false) (c4 : decide (k = (5 : Int)) = false) (c5 : decide (k = (6 : Int)) = false) (c6 : decide (k = (7 : Int)) = true) : Sx.PureP (Sx.AV.tup [Sx.AV.agg [Sx.AV.int false IntKind.u8 (69 : Int), Sx.AV.str false [], Sx.AV.bool false, Sx.AV.bool true, Sx.AV.bool false], Sx.AV.bool true]) (call1 31 [.int true .u8 k] (Sx.G.on [false, false, false, false, false, false, true])) := Sx.eqq (q := (((((((True ∧ (decide (k = (1 : Int)) = false)) ∧ (decide (k = (2 : Int)) = false)) ∧ (decide (k = (3 : Int)) = false)) ∧ (decide (k = (4 : Int)) = false)) ∧ (decide (k = (5 : Int)) = false)) ∧ (decide (k = (6 : Int)) = false)) ∧ (decide (k = (7 : Int)) = true))) (by kernel_rfl) ⟨⟨⟨⟨⟨⟨⟨trivial, c0⟩, c1⟩, c2⟩, c3⟩, c4⟩, c5⟩, c6⟩
theorem rowOf_r7 (k : Int) (c0 : decide (k = (1 : Int)) = false) (c1 : decide (k = (2 : Int)) = false) (c2 : decide (k = (3 : Int)) = false) (c3 : decide (k = (4 : Int)) = false) (c4 : decide (k = (5 : Int)) = false) (c5 : decide (k = (6 : Int)) = false) (c6 : decide (k = (7 : Int)) = false) (c7 : decide (k = (8 : Int)) = true) : Sx.PureP (Sx.AV.tup [Sx.AV.agg [Sx.AV.int false IntKind.u8 (80 : Int), Sx.AV.str false [(111 : UInt8), (104 : UInt8), (109 : UInt8)], Sx.AV.bool true, Sx.AV.bool false, Sx.AV.bool false], Sx.AV.bool true]) (call1 31 [.int true .u8 k] (Sx.G.on [false, false, false, false, false, false, false, true])) := Sx.eqq (q := ((((((((True ∧ (decide (k = (1 : Int)) = false)) ∧ (decide (k = (2 : Int)) = false)) ∧ (decide (k = (3 : Int)) = false)) ∧ (decide (k = (4 : Int)) = false)) ∧ (decide (k = (5 : Int)) = false)) ∧ (decide (k = (6 : Int)) = false)) ∧ (decide (k = (7 : Int)) = false)) ∧ (decide (k = (8 : Int)) = true))) (by kernel_rfl) ⟨⟨⟨⟨⟨⟨⟨⟨trivial, c0⟩, c1⟩, c2⟩, c3⟩, c4⟩, c5⟩, c6⟩, c7⟩
theorem rowOf_r8 (k : Int) (c0 : decide (k = (1 : Int)) = false) (c1 : decide (k = (2 : Int)) = false) (c2 : decide (k = (3 : Int)) = false) (c3 : decide (k = (4 : Int)) = false) (c4 : decide (k = (5 : Int)) = false) (c5 : decide (k = (6 : Int)) = false) (c6 : decide (k = (7 : Int)) = false) (c7 : decide (k = (8 : Int)) = false) : Sx.PureP (Sx.AV.tup [Sx.AV.agg [Sx.AV.int false IntKind.u8 (0 : Int), Sx.AV.str false [], Sx.AV.bool false, Sx.AV.bool false, Sx.AV.bool false], Sx.AV.bool false]) (call1 31 [.int true .u8 k] (Sx.G.on [false, false, false, false, false, false, false, false])) := Sx.eqq (q := ((((((((True ∧ (decide (k = (1 : Int)) = false)) ∧ (decide (k = (2 : Int)) = false)) ∧ (decide (k = (3 : Int)) = false)) ∧ (decide (k = (4 : Int)) = false)) ∧ (decide (k = (5 : Int)) = false)) ∧ (decide (k = (6 : Int)) = false)) ∧ (decide (k = (7 : Int)) = false)) ∧ (decide (k = (8 : Int)) = false))) (by kernel_rfl) ⟨⟨⟨⟨⟨⟨⟨⟨trivial, c0⟩, c1⟩, c2⟩, c3⟩, c4⟩, c5⟩, c6⟩, c7⟩
noncomputable def rowOf_0 (k : Int) : Int := (bif decide (k = (1 : Int)) then ((82 : Int)) else (bif decide (k = (2 : Int)) then ((76 : Int)) else (bif decide (k = (3 : Int)) then ((67 : Int)) else (bif decide (k = (4 : Int)) then ((73 : Int)) else (bif decide (k = (5 : Int)) then ((86 : Int)) else (bif decide (k = (6 : Int)) then ((71 : Int)) else (bif decide (k = (7 : Int)) then ((69 : Int)) else (bif decide (k = (8 : Int)) then ((80 : Int)) else ((0 : Int))))))))))
noncomputable def rowOf_1 (k : Int) : List UInt8 := (bif decide (k = (1 : Int)) then ([(111 : UInt8), (104 : UInt8), (109 : UInt8)]) else (bif decide (k = (2 : Int)) then ([(104 : UInt8), (101 : UInt8), (110 : UInt8), (114 : UInt8), (121 : UInt8)]) else (bif decide (k = (3 : Int)) then ([(102 : UInt8), (97 : UInt8), (114 : UInt8), (97 : UInt8), (100 : UInt8)]) else (bif decide (k = (4 : Int)) then ([(97 : UInt8), (109 : UInt8), (112 : UInt8), (101 : UInt8), (114 : UInt8), (101 : UInt8)]) else (bif decide (k = (5 : Int)) then ([(118 : UInt8), (111 : UInt8), (108 : UInt8), (116 : UInt8)]) else (bif decide (k = (6 : Int)) then ([(115 : UInt8), (105 : UInt8), (101 : UInt8), (109 : UInt8), (101 : UInt8), (110 : UInt8), (115 : UInt8)]) else (bif decide (k = (7 : Int)) then ([]) else (bif decide (k = (8 : Int)) then ([(111 : UInt8), (104 : UInt8), (109 : UInt8)]) else ([])))))))))
noncomputable def rowOf_2 (k : Int) : Bool := (bif decide (k = (1 : Int)) then (true) else (bif decide (k = (2 : Int)) then (true) else (bif decide (k = (3 : Int)) then (true) else (bif decide (k = (4 : Int)) then (false) else (bif decide (k = (5 : Int)) then (false) else (bif decide (k = (6 : Int)) then (false) else (bif decide (k = (7 : Int)) then (false) else (bif decide (k = (8 : Int)) then (true) else (false)))))))))
noncomputable def rowOf_3 (k : Int) : Bool := (bif decide (k = (1 : Int)) then (false) else (bif decide (k = (2 : Int)) then (false) else (bif decide (k = (3 : Int)) then (false) else (bif decide (k = (4 : Int)) then (false) else (bif decide (k = (5 : Int)) then (false) else (bif decide (k = (6 : Int)) then (true) else (bif decide (k = (7 : Int)) then (true) else (bif decide (k = (8 : Int)) then (false) else (false)))))))))
noncomputable def rowOf_4 (k : Int) : Bool := (bif decide (k = (1 : Int)) then (false) else (bif decide (k = (2 : Int)) then (false) else (bif decide (k = (3 : Int)) then (false) else (bif decide (k = (4 : Int)) then (true) else (bif decide (k = (5 : Int)) then (true) else (bif decide (k = (6 : Int)) then (false) else (bif decide (k = (7 : Int)) then (false) else (bif decide (k = (8 : Int)) then (false) else (false)))))))))
noncomputable def rowOf_5 (k : Int) : Bool := (bif decide (k = (1 : Int)) then (true) else (bif decide (k = (2 : Int)) then (true) else (bif decide (k = (3 : Int)) then (true) else (bif decide (k = (4 : Int)) then (true) else (bif decide (k = (5 : Int)) then (true) else (bif decide (k = (6 : Int)) then (true) else (bif decide (k = (7 : Int)) then (true) else (bif decide (k = (8 : Int)) then (true) else (false)))))))))
noncomputable def rowOfS : List Sx.AV → Sx.M Sx.AV
 | [.int s0 .u8 k] => Sx.M.ret (Sx.AV.tup [Sx.AV.agg [Sx.AV.int s0 (IntKind.u8) (rowOf_0 k), Sx.AV.str s0 (rowOf_1 k), Sx.cmpB s0 (rowOf_2 k), Sx.cmpB s0 (rowOf_3 k), Sx.cmpB s0 (rowOf_4 k)], Sx.cmpB s0 (rowOf_5 k)])
 | args => call1 31 args
theorem rowOfS_ok : ∀ args v g g', rowOfS args g = .done v g' → Sx.CallIs Try.prog 31 args v g g' := by
 intro args v g g' h
 unfold rowOfS at h
 split at h
 ·rename_i s0 k
  obtain ⟨rfl, rfl⟩ := Sx.ret_done h
  refine Sx.scal call1_ok fun μ cargs ha => ?_
  have ha' : Sx.Reps 0 Sx.MM.none [.int true .u8 k] cargs.toList := by simpa only [Sx.Reps, Sx.Rep] using ha
  cases t0 : decide (k = (1 : Int)) with
  | true =>
   exact ⟨_, _, _, ha', rowOf_r0 k t0, rfl, fun cv hc => by have := hc g.nx μ; have e0 : rowOf_0 k = ((82 : Int)) := (Sx.ct t0).trans (rfl); have e1 : rowOf_1 k = ([(111 : UInt8), (104 : UInt8), (109 : UInt8)]) := (Sx.ct t0).trans (rfl); have e2 : rowOf_2 k = (true) := (Sx.ct t0).trans (rfl); have e3 : rowOf_3 k = (false) := (Sx.ct t0).trans (rfl); have e4 : rowOf_4 k = (false) := (Sx.ct t0).trans (rfl); have e5 : rowOf_5 k = (true) := (Sx.ct t0).trans (rfl); rw [e0, e1, e2, e3, e4, e5]; simpa only [Sx.Rep, Sx.Reps, Sx.Rep_cmpB] using this⟩
  | false =>
   cases t1 : decide (k = (2 : Int)) with
   | true =>
    exact ⟨_, _, _, ha', rowOf_r1 k t0 t1, rfl, fun cv hc => by have := hc g.nx μ; have e0 : rowOf_0 k = ((76 : Int)) := (Sx.cf t0).trans ((Sx.ct t1).trans (rfl)); have e1 : rowOf_1 k = ([(104 : UInt8), (101 : UInt8), (110 : UInt8), (114 : UInt8), (121 : UInt8)]) := (Sx.cf t0).trans ((Sx.ct t1).trans (rfl)); have e2 : rowOf_2 k = (true) := (Sx.cf t0).trans ((Sx.ct t1).trans (rfl)); have e3 : rowOf_3 k = (false) := (Sx.cf t0).trans ((Sx.ct t1).trans (rfl)); have e4 : rowOf_4 k = (false) := (Sx.cf t0).trans ((Sx.ct t1).trans (rfl)); have e5 : rowOf_5 k = (true) := (Sx.cf t0).trans ((Sx.ct t1).trans (rfl)); rw [e0, e1, e2, e3, e4, e5]; simpa only [Sx.Rep, Sx.Reps, Sx.Rep_cmpB] using this⟩
   | false =>
    cases t2 : decide (k = (3 : Int)) with
    | true =>
     exact ⟨_, _, _, ha', rowOf_r2 k t0 t1 t2, rfl, fun cv hc => by have := hc g.nx μ; have e0 : rowOf_0 k = ((67 : Int)) := (Sx.cf t0).trans ((Sx.cf t1).trans ((Sx.ct t2).trans (rfl))); have e1 : rowOf_1 k = ([(102 : UInt8), (97 : UInt8), (114 : UInt8), (97 : UInt8), (100 : UInt8)]) := (Sx.cf t0).trans ((Sx.cf t1).trans ((Sx.ct t2).trans (rfl))); have e2 : rowOf_2 k = (true) := (Sx.cf t0).trans ((Sx.cf t1).trans ((Sx.ct t2).trans (rfl))); have e3 : rowOf_3 k = (false) := (Sx.cf t0).trans ((Sx.cf t1).trans ((Sx.ct t2).trans (rfl))); have e4 : rowOf_4 k = (false) := (Sx.cf t0).trans ((Sx.cf t1).trans ((Sx.ct t2).trans (rfl))); have e5 : rowOf_5 k = (true) := (Sx.cf t0).trans ((Sx.cf t1).trans ((Sx.ct t2).trans (rfl))); rw [e0, e1, e2, e3, e4, e5]; simpa only [Sx.Rep, Sx.Reps, Sx.Rep_cmpB] using this⟩
    | false =>
     cases t3 : decide (k = (4 : Int)) with
     | true =>
      exact ⟨_, _, _, ha', rowOf_r3 k t0 t1 t2 t3, rfl, fun cv hc => by have := hc g.nx μ; have e0 : rowOf_0 k = ((73 : Int)) := (Sx.cf t0).trans ((Sx.cf t1).trans ((Sx.cf t2).trans ((Sx.ct t3).trans (rfl)))); have e1 : rowOf_1 k = ([(97 : UInt8), (109 : UInt8), (112 : UInt8), (101 : UInt8), (114 : UInt8), (101 : UInt8)]) := (Sx.cf t0).trans ((Sx.cf t1).trans ((Sx.cf t2).trans ((Sx.ct t3).trans (rfl)))); have e2 : rowOf_2 k = (false) := (Sx.cf t0).trans ((Sx.cf t1).trans ((Sx.cf t2).trans ((Sx.ct t3).trans (rfl)))); have e3 : rowOf_3 k = (false) := (Sx.cf t0).trans ((Sx.cf t1).trans ((Sx.cf t2).trans ((Sx.ct t3).trans (rfl)))); have e4 : rowOf_4 k = (true) := (Sx.cf t0).trans ((Sx.cf t1).trans ((Sx.cf t2).trans ((Sx.ct t3).trans (rfl)))); have e5 : rowOf_5 k = (true) := (Sx.cf t0).trans ((Sx.cf t1).trans ((Sx.cf t2).trans ((Sx.ct t3).trans (rfl)))); rw [e0, e1, e2, e3, e4, e5]; simpa only [Sx.Rep, Sx.Reps, Sx.Rep_cmpB] using this⟩
     | false =>
      cases t4 : decide (k = (5 : Int)) with
      | true =>
       exact ⟨_, _, _, ha', rowOf_r4 k t0 t1 t2 t3 t4, rfl, fun cv hc => by have := hc g.nx μ; have e0 : rowOf_0 k = ((86 : Int)) := (Sx.cf t0).trans ((Sx.cf t1).trans ((Sx.cf t2).trans ((Sx.cf t3).trans ((Sx.ct t4).trans (rfl))))); have e1 : rowOf_1 k = ([(118 : UInt8), (111 : UInt8), (108 : UInt8), (116 : UInt8)]) := (Sx.cf t0).trans ((Sx.cf t1).trans ((Sx.cf t2).trans ((Sx.cf t3).trans ((Sx.ct t4).trans (rfl))))); have e2 : rowOf_2 k = (false) := (Sx.cf t0).trans ((Sx.cf t1).trans ((Sx.cf t2).trans ((Sx.cf t3).trans ((Sx.ct t4).trans (rfl))))); have e3 : rowOf_3 k = (false) := (Sx.cf t0).trans ((Sx.cf t1).trans ((Sx.cf t2).trans ((Sx.cf t3).trans ((Sx.ct t4).trans (rfl))))); have e4 : rowOf_4 k = (true) := (Sx.cf t0).trans ((Sx.cf t1).trans ((Sx.cf t2).trans ((Sx.cf t3).trans ((Sx.ct t4).trans (rfl))))); have e5 : rowOf_5 k = (true) := (Sx.cf t0).trans ((Sx.cf t1).trans ((Sx.cf t2).trans ((Sx.cf t3).trans ((Sx.ct t4).trans (rfl))))); rw [e0, e1, e2, e3, e4, e5]; simpa only [Sx.Rep, Sx.Reps, Sx.Rep_cmpB] using this⟩
      | false =>
       cases t5 : decide (k = (6 : Int)) with
       | true =>
        exact ⟨_, _, _, ha', rowOf_r5 k t0 t1 t2 t3 t4 t5, rfl, fun cv hc => by have := hc g.nx μ; have e0 : rowOf_0 k = ((71 : Int)) := (Sx.cf t0).trans ((Sx.cf t1).trans ((Sx.cf t2).trans ((Sx.cf t3).trans ((Sx.cf t4).trans ((Sx.ct t5).trans (rfl)))))); have e1 : rowOf_1 k = ([(115 : UInt8), (105 : UInt8), (101 : UInt8), (109 : UInt8), (101 : UInt8), (110 : UInt8), (115 : UInt8)]) := (Sx.cf t0).trans ((Sx.cf t1).trans ((Sx.cf t2).trans ((Sx.cf t3).trans ((Sx.cf t4).trans ((Sx.ct t5).trans (rfl)))))); have e2 : rowOf_2 k = (false) := (Sx.cf t0).trans ((Sx.cf t1).trans ((Sx.cf t2).trans ((Sx.cf t3).trans ((Sx.cf t4).trans ((Sx.ct t5).trans (rfl)))))); have e3 : rowOf_3 k = (true) := (Sx.cf t0).trans ((Sx.cf t1).trans ((Sx.cf t2).trans ((Sx.cf t3).trans ((Sx.cf t4).trans ((Sx.ct t5).trans (rfl)))))); have e4 : rowOf_4 k = (false) := (Sx.cf t0).trans ((Sx.cf t1).trans ((Sx.cf t2).trans ((Sx.cf t3).trans ((Sx.cf t4).trans ((Sx.ct t5).trans (rfl)))))); have e5 : rowOf_5 k = (true) := (Sx.cf t0).trans ((Sx.cf t1).trans ((Sx.cf t2).trans ((Sx.cf t3).trans ((Sx.cf t4).trans ((Sx.ct t5).trans (rfl)))))); rw [e0, e1, e2, e3, e4, e5]; simpa only [Sx.Rep, Sx.Reps, Sx.Rep_cmpB] using this⟩
       | false =>
        cases t6 : decide (k = (7 : Int)) with
        | true =>
         exact ⟨_, _, _, ha', rowOf_r6 k t0 t1 t2 t3 t4 t5 t6, rfl, fun cv hc => by have := hc g.nx μ; have e0 : rowOf_0 k = ((69 : Int)) := (Sx.cf t0).trans ((Sx.cf t1).trans ((Sx.cf t2).trans ((Sx.cf t3).trans ((Sx.cf t4).trans ((Sx.cf t5).trans ((Sx.ct t6).trans (rfl))))))); have e1 : rowOf_1 k = ([]) := (Sx.cf t0).trans ((Sx.cf t1).trans ((Sx.cf t2).trans ((Sx.cf t3).trans ((Sx.cf t4).trans ((Sx.cf t5).trans ((Sx.ct t6).trans (rfl))))))); have e2 : rowOf_2 k = (false) := (Sx.cf t0).trans ((Sx.cf t1).trans ((Sx.cf t2).trans ((Sx.cf t3).trans ((Sx.cf t4).trans ((Sx.cf t5).trans ((Sx.ct t6).trans (rfl))))))); have e3 : rowOf_3 k = (true) := (Sx.cf t0).trans ((Sx.cf t1).trans ((Sx.cf t2).trans ((Sx.cf t3).trans ((Sx.cf t4).trans ((Sx.cf t5).trans ((Sx.ct t6).trans (rfl))))))); have e4 : rowOf_4 k = (false) := (Sx.cf t0).trans ((Sx.cf t1).trans ((Sx.cf t2).trans ((Sx.cf t3).trans ((Sx.cf t4).trans ((Sx.cf t5).trans ((Sx.ct t6).trans (rfl))))))); have e5 : rowOf_5 k = (true) := (Sx.cf t0).trans ((Sx.cf t1).trans ((Sx.cf t2).trans ((Sx.cf t3).trans ((Sx.cf t4).trans ((Sx.cf t5).trans ((Sx.ct t6).trans (rfl))))))); rw [e0, e1, e2, e3, e4, e5]; simpa only [Sx.Rep, Sx.Reps, Sx.Rep_cmpB] using this⟩
        | false =>
         cases t7 : decide (k = (8 : Int)) with
         | true =>
          exact ⟨_, _, _, ha', rowOf_r7 k t0 t1 t2 t3 t4 t5 t6 t7, rfl, fun cv hc => by have := hc g.nx μ; have e0 : rowOf_0 k = ((80 : Int)) := (Sx.cf t0).trans ((Sx.cf t1).trans ((Sx.cf t2).trans ((Sx.cf t3).trans ((Sx.cf t4).trans ((Sx.cf t5).trans ((Sx.cf t6).trans ((Sx.ct t7).trans (rfl)))))))); have e1 : rowOf_1 k = ([(111 : UInt8), (104 : UInt8), (109 : UInt8)]) := (Sx.cf t0).trans ((Sx.cf t1).trans ((Sx.cf t2).trans ((Sx.cf t3).trans ((Sx.cf t4).trans ((Sx.cf t5).trans ((Sx.cf t6).trans ((Sx.ct t7).trans (rfl)))))))); have e2 : rowOf_2 k = (true) := (Sx.cf t0).trans ((Sx.cf t1).trans ((Sx.cf t2).trans ((Sx.cf t3).trans ((Sx.cf t4).trans ((Sx.cf t5).trans ((Sx.cf t6).trans ((Sx.ct t7).trans (rfl)))))))); have e3 : rowOf_3 k = (false) := (Sx.cf t0).trans ((Sx.cf t1).trans ((Sx.cf t2).trans ((Sx.cf t3).trans ((Sx.cf t4).trans ((Sx.cf t5).trans ((Sx.cf t6).trans ((Sx.ct t7).trans (rfl)))))))); have e4 : rowOf_4 k = (false) := (Sx.cf t0).trans ((Sx.cf t1).trans ((Sx.cf t2).trans ((Sx.cf t3).trans ((Sx.cf t4).trans ((Sx.cf t5).trans ((Sx.cf t6).trans ((Sx.ct t7).trans (rfl)))))))); have e5 : rowOf_5 k = (true) := (Sx.cf t0).trans ((Sx.cf t1).trans ((Sx.cf t2).trans ((Sx.cf t3).trans ((Sx.cf t4).trans ((Sx.cf t5).trans ((Sx.cf t6).trans ((Sx.ct t7).trans (rfl)))))))); rw [e0, e1, e2, e3, e4, e5]; simpa only [Sx.Rep, Sx.Reps, Sx.Rep_cmpB] using this⟩
         | false =>
          exact ⟨_, _, _, ha', rowOf_r8 k t0 t1 t2 t3 t4 t5 t6 t7, rfl, fun cv hc => by have := hc g.nx μ; have e0 : rowOf_0 k = ((0 : Int)) := (Sx.cf t0).trans ((Sx.cf t1).trans ((Sx.cf t2).trans ((Sx.cf t3).trans ((Sx.cf t4).trans ((Sx.cf t5).trans ((Sx.cf t6).trans ((Sx.cf t7).trans (rfl)))))))); have e1 : rowOf_1 k = ([]) := (Sx.cf t0).trans ((Sx.cf t1).trans ((Sx.cf t2).trans ((Sx.cf t3).trans ((Sx.cf t4).trans ((Sx.cf t5).trans ((Sx.cf t6).trans ((Sx.cf t7).trans (rfl)))))))); have e2 : rowOf_2 k = (false) := (Sx.cf t0).trans ((Sx.cf t1).trans ((Sx.cf t2).trans ((Sx.cf t3).trans ((Sx.cf t4).trans ((Sx.cf t5).trans ((Sx.cf t6).trans ((Sx.cf t7).trans (rfl)))))))); have e3 : rowOf_3 k = (false) := (Sx.cf t0).trans ((Sx.cf t1).trans ((Sx.cf t2).trans ((Sx.cf t3).trans ((Sx.cf t4).trans ((Sx.cf t5).trans ((Sx.cf t6).trans ((Sx.cf t7).trans (rfl)))))))); have e4 : rowOf_4 k = (false) := (Sx.cf t0).trans ((Sx.cf t1).trans ((Sx.cf t2).trans ((Sx.cf t3).trans ((Sx.cf t4).trans ((Sx.cf t5).trans ((Sx.cf t6).trans ((Sx.cf t7).trans (rfl)))))))); have e5 : rowOf_5 k = (false) := (Sx.cf t0).trans ((Sx.cf t1).trans ((Sx.cf t2).trans ((Sx.cf t3).trans ((Sx.cf t4).trans ((Sx.cf t5).trans ((Sx.cf t6).trans ((Sx.cf t7).trans (rfl)))))))); rw [e0, e1, e2, e3, e4, e5]; simpa only [Sx.Rep, Sx.Reps, Sx.Rep_cmpB] using this⟩
 ·exact call1_ok _ _ _ _ _ h
theorem rowOfS_tch : ∀ args, Sx.Tch (rowOfS args) := by
 intro args
 unfold rowOfS
 split
 ·exact Sx.Tch.ret _
 ·exact call1_tch _ _
theorem of_r0 (k : Int) (c0 : decide ((82 : Int) = k) = true) : Sx.PureP (Sx.AV.tup [Sx.AV.int false IntKind.u8 (1 : Int), Sx.AV.bool true]) (call1 10 [.int true .u8 k] (Sx.G.on [true])) := Sx.eqq (q := (True ∧ (decide ((82 : Int) = k) = true))) (by kernel_rfl) ⟨trivial, c0⟩
theorem of_r1 (k : Int) (c0 : decide ((82 : Int) = k) = false) (c1 : decide ((76 : Int) = k) = true) : Sx.PureP (Sx.AV.tup [Sx.AV.int false IntKind.u8 (2 : Int), Sx.AV.bool true]) (call1 10 [.int true .u8 k] (Sx.G.on [false, true])) := Sx.eqq (q := ((True ∧ (decide ((82 : Int) = k) = false)) ∧ (decide ((76 : Int) = k) = true))) (by kernel_rfl) ⟨⟨trivial, c0⟩, c1⟩
theorem of_r2 (k : Int) (c0 : decide ((82 : Int) = k) = false) (c1 : decide ((76 : Int) = k) = false) (c2 : decide ((67 : Int) = k) = true) : Sx.PureP (Sx.AV.tup [Sx.AV.int false IntKind.u8 (3 : Int), Sx.AV.bool true]) (call1 10 [.int true .u8 k] (Sx.G.on [false, false, true])) := Sx.eqq (q := (((True ∧ (decide ((82 : Int) = k) = false)) ∧ (decide ((76 : Int) = k) = false)) ∧ (decide ((67 : Int) = k) = true))) (by kernel_rfl) ⟨⟨⟨trivial, c0⟩, c1⟩, c2⟩
theorem of_r3 (k : Int) (c0 : decide ((82 : Int) = k) = false) (c1 : decide ((76 : Int) = k) = false) (c2 : decide ((67 : Int) = k) = false) (c3 : decide ((73 : Int) = k) = true) : Sx.PureP (Sx.AV.tup [Sx.AV.int false IntKind.u8 (4 : Int), Sx.AV.bool true]) (call1 10 [.int true .u8 k] (Sx.G.on [false, false, false, true])) := Sx.eqq (q := ((((True ∧ (decide ((82 : Int) = k) = false)) ∧ (decide ((76 : Int) = k) = false)) ∧ (decide ((67 : Int) = k) = false)) ∧ (decide ((73 : Int) = k) = true))) (by kernel_rfl) ⟨⟨⟨⟨trivial, c0⟩, c1⟩, c2⟩, c3⟩
theorem of_r4 (k : Int) (c0 : decide ((82 : Int) = k) = false) (c1 : decide ((76 : Int) = k) = false) (c2 : decide ((67 : Int) = k) = false) (c3 : decide ((73 : Int) = k) = false) (c4 : decide ((86 : Int) = k) = true) : Sx.PureP (Sx.AV.tup [Sx.AV.int false IntKind.u8 (5 : Int), Sx.AV.bool true]) (call1 10 [.int true .u8 k] (Sx.G.on [false, false, false, false, true])) := Sx.eqq (q := (((((True ∧ (decide ((82 : Int) = k) = false)) ∧ (decide ((76 : Int) = k) = false)) ∧ (decide ((67 : Int) = k) = false)) ∧ (decide ((73 : Int) = k) = false)) ∧ (decide ((86 : Int) = k) = true))) (by kernel_rfl) ⟨⟨⟨⟨⟨trivial, c0⟩, c1⟩, c2⟩, c3⟩, c4⟩
theorem of_r5 (k : Int) (c0 : decide ((82 : Int) = k) = false) (c1 : decide ((76 : Int) = k) = false) (c2 : decide ((67 : Int) = k) = false) (c3 : decide ((73 : Int) = k) = false) (c4 : decide ((86 : Int) = k) = false) (c5 : decide ((71 : Int) = k) = true) : Sx.PureP (Sx.AV.tup [Sx.AV.int false IntKind.u8 (6 : Int), Sx.AV.bool true]) (call1 10 [.int true .u8 k] (Sx.G.on [false, false, false, false, false, true])) := Sx.eqq (q := ((((((True ∧ (decide ((82 : Int) = k) = false)) ∧ (decide ((76 : Int) = k) = false)) ∧ (decide ((67 : Int) = k) = false)) ∧ (decide ((73 : Int) = k) = false)) ∧ (decide ((86 : Int) = k) = false)) ∧ (decide ((71 : Int) = k) = true))) (by kernel_rfl) ⟨⟨⟨⟨⟨⟨trivial, c0⟩, c1⟩, c2⟩, c3⟩, c4⟩, c5⟩
theorem of_r6 (k : Int) (c0 : decide ((82 : Int) = k) = false) (c1 : decide ((76 : Int) = k) = false) (c2 : decide ((67 : Int) = k) = false) (c3 : decide ((73 : Int) = k) = false) (c4 : decide ((86 : Int) = k) = false) (c5 : decide ((71 : Int) = k) = false) (c6 : decide ((69 : Int) = k) = true) : Sx.PureP (Sx.AV.tup [Sx.AV.int false IntKind.u8 (7 : Int), Sx.AV.bool true]) (call1 10 [.int true .u8 k] (Sx.G.on [false, false, false, false, false, false, true])) := Sx.eqq (q := (((((((True ∧ (decide ((82 : Int) = k) = false)) ∧ (decide ((76 : Int) = k) = false)) ∧ (decide ((67 : Int) = k) = false)) ∧ (decide ((73 : Int) = k) = false)) ∧ (decide ((86 : Int) = k) = false)) ∧ (decide ((71 : Int) = k) = false)) ∧ (decide ((69 : Int) = k) = true))) (by kernel_rfl) ⟨⟨⟨⟨⟨⟨⟨trivial, c0⟩, c1⟩, c2⟩, c3⟩, c4⟩, c5⟩, c6⟩
theorem of_r7 (k : Int) (c0 : decide ((82 : Int) = k) = false) (c1 : decide ((76 : Int) = k) = false) (c2 : decide ((67 : Int) = k) = false) (c3 : decide ((73 : Int) = k) = false) (c4 : decide ((86 : Int) = k) = false) (c5 : decide ((71 : Int) = k) = false) (c6 : decide ((69 : Int) = k) = false) (c7 : decide ((80 : Int) = k) = true) : Sx.PureP (Sx.AV.tup [Sx.AV.int false IntKind.u8 (8 : Int), Sx.AV.bool true]) (call1 10 [.int true .u8 k] (Sx.G.on [false, false, false, false, false, false, false, true])) := Sx.eqq (q := ((((((((True ∧ (decide ((82 : Int) = k) = false)) ∧ (decide ((76 : Int) = k) = false)) ∧ (decide ((67 : Int) = k) = false)) ∧ (decide ((73 : Int) = k) = false)) ∧ (decide ((86 : Int) = k) = false)) ∧ (decide ((71 : Int) = k) = false)) ∧ (decide ((69 : Int) = k) = false)) ∧ (decide ((80 : Int) = k) = true))) (by kernel_rfl) ⟨⟨⟨⟨⟨⟨⟨⟨trivial, c0⟩, c1⟩, c2⟩, c3⟩, c4⟩, c5⟩, c6⟩, c7⟩
theorem of_r8 (k : Int) (c0 : decide ((82 : Int) = k) = false) (c1 : decide ((76 : Int) = k) = false) (c2 : decide ((67 : Int) = k) = false) (c3 : decide ((73 : Int) = k) = false) (c4 : decide ((86 : Int) = k) = false) (c5 : decide ((71 : Int) = k) = false) (c6 : decide ((69 : Int) = k) = false) (c7 : decide ((80 : Int) = k) = false) : Sx.PureP (Sx.AV.tup [Sx.AV.int false IntKind.u8 (0 : Int), Sx.AV.bool false]) (call1 10 [.int true .u8 k] (Sx.G.on [false, false, false, false, false, false, false, false])) := Sx.eqq (q := ((((((((True ∧ (decide ((82 : Int) = k) = false)) ∧ (decide ((76 : Int) = k) = false)) ∧ (decide ((67 : Int) = k) = false)) ∧ (decide ((73 : Int) = k) = false)) ∧ (decide ((86 : Int) = k) = false)) ∧ (decide ((71 : Int) = k) = false)) ∧ (decide ((69 : Int) = k) = false)) ∧ (decide ((80 : Int) = k) = false))) (by kernel_rfl) ⟨⟨⟨⟨⟨⟨⟨⟨trivial, c0⟩, c1⟩, c2⟩, c3⟩, c4⟩, c5⟩, c6⟩, c7⟩
noncomputable def of_0 (k : Int) : Int := (bif decide ((82 : Int) = k) then ((1 : Int)) else (bif decide ((76 : Int) = k) then ((2 : Int)) else (bif decide ((67 : Int) = k) then ((3 : Int)) else (bif decide ((73 : Int) = k) then ((4 : Int)) else (bif decide ((86 : Int) = k) then ((5 : Int)) else (bif decide ((71 : Int) = k) then ((6 : Int)) else (bif decide ((69 : Int) = k) then ((7 : Int)) else (bif decide ((80 : Int) = k) then ((8 : Int)) else ((0 : Int))))))))))
noncomputable def of_1 (k : Int) : Bool := (bif decide ((82 : Int) = k) then (true) else (bif decide ((76 : Int) = k) then (true) else (bif decide ((67 : Int) = k) then (true) else (bif decide ((73 : Int) = k) then (true) else (bif decide ((86 : Int) = k) then (true) else (bif decide ((71 : Int) = k) then (true) else (bif decide ((69 : Int) = k) then (true) else (bif decide ((80 : Int) = k) then (true) else (false)))))))))
noncomputable def ofS : List Sx.AV → Sx.M Sx.AV
 | [.int s0 .u8 k] => Sx.M.ret (Sx.AV.tup [Sx.AV.int s0 (IntKind.u8) (of_0 k), Sx.cmpB s0 (of_1 k)])
 | args => call1 10 args
theorem ofS_ok : ∀ args v g g', ofS args g = .done v g' → Sx.CallIs Try.prog 10 args v g g' := by
 intro args v g g' h
 unfold ofS at h
 split at h
 ·rename_i s0 k
  obtain ⟨rfl, rfl⟩ := Sx.ret_done h
  refine Sx.scal call1_ok fun μ cargs ha => ?_
  have ha' : Sx.Reps 0 Sx.MM.none [.int true .u8 k] cargs.toList := by simpa only [Sx.Reps, Sx.Rep] using ha
  cases t0 : decide ((82 : Int) = k) with
  | true =>
   exact ⟨_, _, _, ha', of_r0 k t0, rfl, fun cv hc => by have := hc g.nx μ; have e0 : of_0 k = ((1 : Int)) := (Sx.ct t0).trans (rfl); have e1 : of_1 k = (true) := (Sx.ct t0).trans (rfl); rw [e0, e1]; simpa only [Sx.Rep, Sx.Reps, Sx.Rep_cmpB] using this⟩
  | false =>
   cases t1 : decide ((76 : Int) = k) with
   | true =>
    exact ⟨_, _, _, ha', of_r1 k t0 t1, rfl, fun cv hc => by have := hc g.nx μ; have e0 : of_0 k = ((2 : Int)) := (Sx.cf t0).trans ((Sx.ct t1).trans (rfl)); have e1 : of_1 k = (true) := (Sx.cf t0).trans ((Sx.ct t1).trans (rfl)); rw [e0, e1]; simpa only [Sx.Rep, Sx.Reps, Sx.Rep_cmpB] using this⟩
   | false =>
    cases t2 : decide ((67 : Int) = k) with
    | true =>
     exact ⟨_, _, _, ha', of_r2 k t0 t1 t2, rfl, fun cv hc => by have := hc g.nx μ; have e0 : of_0 k = ((3 : Int)) := (Sx.cf t0).trans ((Sx.cf t1).trans ((Sx.ct t2).trans (rfl))); have e1 : of_1 k = (true) := (Sx.cf t0).trans ((Sx.cf t1).trans ((Sx.ct t2).trans (rfl))); rw [e0, e1]; simpa only [Sx.Rep, Sx.Reps, Sx.Rep_cmpB] using this⟩
    | false =>
     cases t3 : decide ((73 : Int) = k) with
     | true =>
      exact ⟨_, _, _, ha', of_r3 k t0 t1 t2 t3, rfl, fun cv hc => by have := hc g.nx μ; have e0 : of_0 k = ((4 : Int)) := (Sx.cf t0).trans ((Sx.cf t1).trans ((Sx.cf t2).trans ((Sx.ct t3).trans (rfl)))); have e1 : of_1 k = (true) := (Sx.cf t0).trans ((Sx.cf t1).trans ((Sx.cf t2).trans ((Sx.ct t3).trans (rfl)))); rw [e0, e1]; simpa only [Sx.Rep, Sx.Reps, Sx.Rep_cmpB] using this⟩
     | false =>
      cases t4 : decide ((86 : Int) = k) with
      | true =>
       exact ⟨_, _, _, ha', of_r4 k t0 t1 t2 t3 t4, rfl, fun cv hc => by have := hc g.nx μ; have e0 : of_0 k = ((5 : Int)) := (Sx.cf t0).trans ((Sx.cf t1).trans ((Sx.cf t2).trans ((Sx.cf t3).trans ((Sx.ct t4).trans (rfl))))); have e1 : of_1 k = (true) := (Sx.cf t0).trans ((Sx.cf t1).trans ((Sx.cf t2).trans ((Sx.cf t3).trans ((Sx.ct t4).trans (rfl))))); rw [e0, e1]; simpa only [Sx.Rep, Sx.Reps, Sx.Rep_cmpB] using this⟩
      | false =>
       cases t5 : decide ((71 : Int) = k) with
       | true =>
        exact ⟨_, _, _, ha', of_r5 k t0 t1 t2 t3 t4 t5, rfl, fun cv hc => by have := hc g.nx μ; have e0 : of_0 k = ((6 : Int)) := (Sx.cf t0).trans ((Sx.cf t1).trans ((Sx.cf t2).trans ((Sx.cf t3).trans ((Sx.cf t4).trans ((Sx.ct t5).trans (rfl)))))); have e1 : of_1 k = (true) := (Sx.cf t0).trans ((Sx.cf t1).trans ((Sx.cf t2).trans ((Sx.cf t3).trans ((Sx.cf t4).trans ((Sx.ct t5).trans (rfl)))))); rw [e0, e1]; simpa only [Sx.Rep, Sx.Reps, Sx.Rep_cmpB] using this⟩
       | false =>
        cases t6 : decide ((69 : Int) = k) with
        | true =>
         exact ⟨_, _, _, ha', of_r6 k t0 t1 t2 t3 t4 t5 t6, rfl, fun cv hc => by have := hc g.nx μ; have e0 : of_0 k = ((7 : Int)) := (Sx.cf t0).trans ((Sx.cf t1).trans ((Sx.cf t2).trans ((Sx.cf t3).trans ((Sx.cf t4).trans ((Sx.cf t5).trans ((Sx.ct t6).trans (rfl))))))); have e1 : of_1 k = (true) := (Sx.cf t0).trans ((Sx.cf t1).trans ((Sx.cf t2).trans ((Sx.cf t3).trans ((Sx.cf t4).trans ((Sx.cf t5).trans ((Sx.ct t6).trans (rfl))))))); rw [e0, e1]; simpa only [Sx.Rep, Sx.Reps, Sx.Rep_cmpB] using this⟩
        | false =>
         cases t7 : decide ((80 : Int) = k) with
         | true =>
          exact ⟨_, _, _, ha', of_r7 k t0 t1 t2 t3 t4 t5 t6 t7, rfl, fun cv hc => by have := hc g.nx μ; have e0 : of_0 k = ((8 : Int)) := (Sx.cf t0).trans ((Sx.cf t1).trans ((Sx.cf t2).trans ((Sx.cf t3).trans ((Sx.cf t4).trans ((Sx.cf t5).trans ((Sx.cf t6).trans ((Sx.ct t7).trans (rfl)))))))); have e1 : of_1 k = (true) := (Sx.cf t0).trans ((Sx.cf t1).trans ((Sx.cf t2).trans ((Sx.cf t3).trans ((Sx.cf t4).trans ((Sx.cf t5).trans ((Sx.cf t6).trans ((Sx.ct t7).trans (rfl)))))))); rw [e0, e1]; simpa only [Sx.Rep, Sx.Reps, Sx.Rep_cmpB] using this⟩
         | false =>
          exact ⟨_, _, _, ha', of_r8 k t0 t1 t2 t3 t4 t5 t6 t7, rfl, fun cv hc => by have := hc g.nx μ; have e0 : of_0 k = ((0 : Int)) := (Sx.cf t0).trans ((Sx.cf t1).trans ((Sx.cf t2).trans ((Sx.cf t3).trans ((Sx.cf t4).trans ((Sx.cf t5).trans ((Sx.cf t6).trans ((Sx.cf t7).trans (rfl)))))))); have e1 : of_1 k = (false) := (Sx.cf t0).trans ((Sx.cf t1).trans ((Sx.cf t2).trans ((Sx.cf t3).trans ((Sx.cf t4).trans ((Sx.cf t5).trans ((Sx.cf t6).trans ((Sx.cf t7).trans (rfl)))))))); rw [e0, e1]; simpa only [Sx.Rep, Sx.Reps, Sx.Rep_cmpB] using this⟩
 ·exact call1_ok _ _ _ _ _ h
theorem ofS_tch : ∀ args, Sx.Tch (ofS args) := by
 intro args
 unfold ofS
 split
 ·exact Sx.Tch.ret _
 ·exact call1_tch _ _
noncomputable def gam2 : Sx.Known := Sx.kc 24 Sx.ofBits (Sx.kc 39 Sx.toBits (Sx.kc 29 smallS (Sx.kc 34 kindS (Sx.kc 31 rowOfS (Sx.kc 10 ofS (Sx.kn))))))
theorem gam2_ok : Sx.KnownOk Try.prog gam2 := Sx.kc_ok ((Sx.ofBits_is Try.prog).callIs Try.func24 (by kernel_rfl) (by kernel_rfl) (by kernel_rfl) (by kernel_rfl)) (Sx.kc_ok ((Sx.toBits_is Try.prog).callIs Try.func39 (by kernel_rfl) (by kernel_rfl) (by kernel_rfl) (by kernel_rfl)) (Sx.kc_ok smallS_ok (Sx.kc_ok kindS_ok (Sx.kc_ok rowOfS_ok (Sx.kc_ok ofS_ok (Sx.kn_ok))))))
theorem gam2_tch : Sx.KnownT gam2 := Sx.kc_tch Sx.Tch.ofBits (Sx.kc_tch Sx.Tch.toBits (Sx.kc_tch smallS_tch (Sx.kc_tch kindS_tch (Sx.kc_tch rowOfS_tch (Sx.kc_tch ofS_tch (Sx.kn_tch))))))
noncomputable def call2 : Sx.Calls' := Sx.runN Try.prog gam2 (Sx.regionC Try.prog) 1000 50
theorem call2_ok : Sx.CallOk Try.prog call2 := Sx.engineC gam2_ok gam2_tch (by kernel_rfl) (by kernel_rfl) 1000 50
theorem call2_tch : Sx.CallT call2 := Sx.runA_tch gam2_tch (fun _ _ _ h => by cases h) (fun call hc n l fr => Sx.regionC_tch hc n l fr) 50
theorem call2_reg (n : Nat) : Sx.RegionOk Try.prog (Sx.regionC Try.prog call2 n) n := Sx.runN_regionC gam2_ok gam2_tch (by kernel_rfl) (by kernel_rfl) 1000 50 n
theorem name_r0 (l : List UInt8) (c0 : decide ((↑(List.length l) : Int) < (2 : Int)) = true) : Sx.PureP (Sx.AV.tup [Sx.AV.int false IntKind.u8 (0 : Int), Sx.AV.bool false]) (call2 8 [.str true l] (Sx.G.on [true])) := Sx.eqq (q := (True ∧ (decide ((↑(List.length l) : Int) < (2 : Int)) = true))) (by kernel_rfl) ⟨trivial, c0⟩
theorem name_r1 (l : List UInt8) (c0 : decide ((↑(List.length l) : Int) < (2 : Int)) = false) (c1 : decide ((16 : Int) < (↑(List.length l) : Int)) = true) : Sx.PureP (Sx.AV.tup [Sx.AV.int false IntKind.u8 (0 : Int), Sx.AV.bool false]) (call2 8 [.str true l] (Sx.G.on [false, true])) := Sx.eqq (q := ((True ∧ (decide ((↑(List.length l) : Int) < (2 : Int)) = false)) ∧ (decide ((16 : Int) < (↑(List.length l) : Int)) = true))) (by kernel_rfl) ⟨⟨trivial, c0⟩, c1⟩
theorem name_r2 (l : List UInt8) (c0 : decide ((↑(List.length l) : Int) < (2 : Int)) = false) (c1 : decide ((16 : Int) < (↑(List.length l) : Int)) = false) (c2 : (0 : Int) ≤ (1 : Int)) (c3 : (1 : Int) ≤ (↑(List.length l) : Int)) (c4 : (↑(List.length l) : Int) ≤ (↑(List.length l) : Int)) (c5 : (!List.all (List.take (List.length l - (1 : Nat)) (List.drop (1 : Nat) l)) okB) = false) (c6 : (0 : Int) ≤ (0 : Int)) (c7 : (0 : Int) < (↑(List.length l) : Int)) : Sx.PureP (Sx.AV.tup [Sx.AV.int true IntKind.u8 (of_0 (↑(UInt8.toNat (List.getD l (0 : Nat) (0 : UInt8))) : Int)), Sx.AV.sbool (of_1 (↑(UInt8.toNat (List.getD l (0 : Nat) (0 : UInt8))) : Int))]) (call2 8 [.str true l] (Sx.G.on [false, false, false])) := Sx.eqq (q := (((((True ∧ (decide ((↑(List.length l) : Int) < (2 : Int)) = false)) ∧ (decide ((16 : Int) < (↑(List.length l) : Int)) = false)) ∧ (((0 : Int) ≤ (1 : Int)) ∧ (((1 : Int) ≤ (↑(List.length l) : Int)) ∧ ((↑(List.length l) : Int) ≤ (↑(List.length l) : Int))))) ∧ ((!List.all (List.take (List.length l - (1 : Nat)) (List.drop (1 : Nat) l)) okB) = false)) ∧ (((0 : Int) ≤ (0 : Int)) ∧ ((0 : Int) < (↑(List.length l) : Int))))) (by kernel_rfl) ⟨⟨⟨⟨⟨trivial, c0⟩, c1⟩, ⟨c2, ⟨c3, c4⟩⟩⟩, c5⟩, ⟨c6, c7⟩⟩
theorem name_r3 (l : List UInt8) (c0 : decide ((↑(List.length l) : Int) < (2 : Int)) = false) (c1 : decide ((16 : Int) < (↑(List.length l) : Int)) = false) (c2 : (0 : Int) ≤ (1 : Int)) (c3 : (1 : Int) ≤ (↑(List.length l) : Int)) (c4 : (↑(List.length l) : Int) ≤ (↑(List.length l) : Int)) (c5 : (!List.all (List.take (List.length l - (1 : Nat)) (List.drop (1 : Nat) l)) okB) = true) : Sx.PureP (Sx.AV.tup [Sx.AV.int false IntKind.u8 (0 : Int), Sx.AV.bool false]) (call2 8 [.str true l] (Sx.G.on [false, false, true])) := Sx.eqq (q := ((((True ∧ (decide ((↑(List.length l) : Int) < (2 : Int)) = false)) ∧ (decide ((16 : Int) < (↑(List.length l) : Int)) = false)) ∧ (((0 : Int) ≤ (1 : Int)) ∧ (((1 : Int) ≤ (↑(List.length l) : Int)) ∧ ((↑(List.length l) : Int) ≤ (↑(List.length l) : Int))))) ∧ ((!List.all (List.take (List.length l - (1 : Nat)) (List.drop (1 : Nat) l)) okB) = true))) (by kernel_rfl) ⟨⟨⟨⟨trivial, c0⟩, c1⟩, ⟨c2, ⟨c3, c4⟩⟩⟩, c5⟩
noncomputable def name_0 (l : List UInt8) : Int := (bif decide ((↑(List.length l) : Int) < (2 : Int)) then ((0 : Int)) else (bif decide ((16 : Int) < (↑(List.length l) : Int)) then ((0 : Int)) else (bif List.all (List.take (List.length l - (1 : Nat)) (List.drop (1 : Nat) l)) okB then (of_0 (↑(UInt8.toNat (List.getD l (0 : Nat) (0 : UInt8))) : Int)) else ((0 : Int)))))
noncomputable def name_1 (l : List UInt8) : Bool := (bif decide ((↑(List.length l) : Int) < (2 : Int)) then (false) else (bif decide ((16 : Int) < (↑(List.length l) : Int)) then (false) else (bif List.all (List.take (List.length l - (1 : Nat)) (List.drop (1 : Nat) l)) okB then (of_1 (↑(UInt8.toNat (List.getD l (0 : Nat) (0 : UInt8))) : Int)) else (false))))
noncomputable def nameS : List Sx.AV → Sx.M Sx.AV
 | [.str s0 l] => Sx.M.ret (Sx.AV.tup [Sx.AV.int s0 (IntKind.u8) (name_0 l), Sx.cmpB s0 (name_1 l)])
 | args => call2 8 args
theorem nameS_ok : ∀ args v g g', nameS args g = .done v g' → Sx.CallIs Try.prog 8 args v g g' := by
 intro args v g g' h
 unfold nameS at h
 split at h
 ·rename_i s0 l
  obtain ⟨rfl, rfl⟩ := Sx.ret_done h
  refine Sx.scal call2_ok fun μ cargs ha => ?_
  have ha' : Sx.Reps 0 Sx.MM.none [.str true l] cargs.toList := by simpa only [Sx.Reps, Sx.Rep] using ha
  cases t0 : decide ((↑(List.length l) : Int) < (2 : Int)) with
  | true =>
   exact ⟨_, _, _, ha', name_r0 l t0, rfl, fun cv hc => by have := hc g.nx μ; have e0 : name_0 l = ((0 : Int)) := (Sx.ct t0).trans (rfl); have e1 : name_1 l = (false) := (Sx.ct t0).trans (rfl); rw [e0, e1]; simpa only [Sx.Rep, Sx.Reps, Sx.Rep_cmpB] using this⟩
  | false =>
   cases t1 : decide ((16 : Int) < (↑(List.length l) : Int)) with
   | true =>
    exact ⟨_, _, _, ha', name_r1 l t0 t1, rfl, fun cv hc => by have := hc g.nx μ; have e0 : name_0 l = ((0 : Int)) := (Sx.cf t0).trans ((Sx.ct t1).trans (rfl)); have e1 : name_1 l = (false) := (Sx.cf t0).trans ((Sx.ct t1).trans (rfl)); rw [e0, e1]; simpa only [Sx.Rep, Sx.Reps, Sx.Rep_cmpB] using this⟩
   | false =>
    cases t2 : List.all (List.take (List.length l - (1 : Nat)) (List.drop (1 : Nat) l)) okB with
    | true =>
     exact ⟨_, _, _, ha', name_r2 l t0 t1 (by first | ((try simp only [decide_eq_true_eq, decide_eq_false_iff_not] at t0 t1 t2); (try simp only [List.length_take, List.length_drop]); omega) | decide | (have hp' := hp; simp_all; try omega)) (by first | ((try simp only [decide_eq_true_eq, decide_eq_false_iff_not] at t0 t1 t2); (try simp only [List.length_take, List.length_drop]); omega) | decide | (have hp' := hp; simp_all; try omega)) (by first | ((try simp only [decide_eq_true_eq, decide_eq_false_iff_not] at t0 t1 t2); (try simp only [List.length_take, List.length_drop]); omega) | decide | (have hp' := hp; simp_all; try omega)) (by rw [t2]; rfl) (by first | ((try simp only [decide_eq_true_eq, decide_eq_false_iff_not] at t0 t1 t2); (try simp only [List.length_take, List.length_drop]); omega) | decide | (have hp' := hp; simp_all; try omega)) (by first | ((try simp only [decide_eq_true_eq, decide_eq_false_iff_not] at t0 t1 t2); (try simp only [List.length_take, List.length_drop]); omega) | decide | (have hp' := hp; simp_all; try omega)), rfl, fun cv hc => by have := hc g.nx μ; have e0 : name_0 l = (of_0 (↑(UInt8.toNat (List.getD l (0 : Nat) (0 : UInt8))) : Int)) := (Sx.cf t0).trans ((Sx.cf t1).trans ((Sx.ct t2).trans (rfl))); have e1 : name_1 l = (of_1 (↑(UInt8.toNat (List.getD l (0 : Nat) (0 : UInt8))) : Int)) := (Sx.cf t0).trans ((Sx.cf t1).trans ((Sx.ct t2).trans (rfl))); rw [e0, e1]; simpa only [Sx.Rep, Sx.Reps, Sx.Rep_cmpB] using this⟩
    | false =>
     exact ⟨_, _, _, ha', name_r3 l t0 t1 (by first | ((try simp only [decide_eq_true_eq, decide_eq_false_iff_not] at t0 t1 t2); (try simp only [List.length_take, List.length_drop]); omega) | decide | (have hp' := hp; simp_all; try omega)) (by first | ((try simp only [decide_eq_true_eq, decide_eq_false_iff_not] at t0 t1 t2); (try simp only [List.length_take, List.length_drop]); omega) | decide | (have hp' := hp; simp_all; try omega)) (by first | ((try simp only [decide_eq_true_eq, decide_eq_false_iff_not] at t0 t1 t2); (try simp only [List.length_take, List.length_drop]); omega) | decide | (have hp' := hp; simp_all; try omega)) (by rw [t2]; rfl), rfl, fun cv hc => by have := hc g.nx μ; have e0 : name_0 l = ((0 : Int)) := (Sx.cf t0).trans ((Sx.cf t1).trans ((Sx.cf t2).trans (rfl))); have e1 : name_1 l = (false) := (Sx.cf t0).trans ((Sx.cf t1).trans ((Sx.cf t2).trans (rfl))); rw [e0, e1]; simpa only [Sx.Rep, Sx.Reps, Sx.Rep_cmpB] using this⟩
 ·exact call2_ok _ _ _ _ _ h
theorem nameS_tch : ∀ args, Sx.Tch (nameS args) := by
 intro args
 unfold nameS
 split
 ·exact Sx.Tch.ret _
 ·exact call2_tch _ _
theorem node_r0 (l : List UInt8) (c0 : decide ((0 : Int) < (↑(List.length l) : Int)) = true) (c1 : decide ((↑(List.length l) : Int) ≤ (16 : Int)) = true) : Sx.PureP (Sx.AV.sbool (List.all l okB)) (call2 12 [.str true l] (Sx.G.on [true, true])) := Sx.eqq (q := ((True ∧ (decide ((0 : Int) < (↑(List.length l) : Int)) = true)) ∧ (decide ((↑(List.length l) : Int) ≤ (16 : Int)) = true))) (by kernel_rfl) ⟨⟨trivial, c0⟩, c1⟩
theorem node_r1 (l : List UInt8) (c0 : decide ((0 : Int) < (↑(List.length l) : Int)) = true) (c1 : decide ((↑(List.length l) : Int) ≤ (16 : Int)) = false) : Sx.PureP (Sx.AV.bool false) (call2 12 [.str true l] (Sx.G.on [true, false])) := Sx.eqq (q := ((True ∧ (decide ((0 : Int) < (↑(List.length l) : Int)) = true)) ∧ (decide ((↑(List.length l) : Int) ≤ (16 : Int)) = false))) (by kernel_rfl) ⟨⟨trivial, c0⟩, c1⟩
theorem node_r2 (l : List UInt8) (c0 : decide ((0 : Int) < (↑(List.length l) : Int)) = false) : Sx.PureP (Sx.AV.bool false) (call2 12 [.str true l] (Sx.G.on [false])) := Sx.eqq (q := (True ∧ (decide ((0 : Int) < (↑(List.length l) : Int)) = false))) (by kernel_rfl) ⟨trivial, c0⟩
noncomputable def node_0 (l : List UInt8) : Bool := (bif decide ((0 : Int) < (↑(List.length l) : Int)) then (bif decide ((↑(List.length l) : Int) ≤ (16 : Int)) then (List.all l okB) else (false)) else (false))
noncomputable def nodeS : List Sx.AV → Sx.M Sx.AV
 | [.str s0 l] => Sx.M.ret (Sx.cmpB s0 (node_0 l))
 | args => call2 12 args
theorem nodeS_ok : ∀ args v g g', nodeS args g = .done v g' → Sx.CallIs Try.prog 12 args v g g' := by
 intro args v g g' h
 unfold nodeS at h
 split at h
 ·rename_i s0 l
  obtain ⟨rfl, rfl⟩ := Sx.ret_done h
  refine Sx.scal call2_ok fun μ cargs ha => ?_
  have ha' : Sx.Reps 0 Sx.MM.none [.str true l] cargs.toList := by simpa only [Sx.Reps, Sx.Rep] using ha
  cases t0 : decide ((0 : Int) < (↑(List.length l) : Int)) with
  | true =>
   cases t1 : decide ((↑(List.length l) : Int) ≤ (16 : Int)) with
   | true =>
    exact ⟨_, _, _, ha', node_r0 l t0 t1, rfl, fun cv hc => by have := hc g.nx μ; have e0 : node_0 l = (List.all l okB) := (Sx.ct t0).trans ((Sx.ct t1).trans (rfl)); rw [e0]; simpa only [Sx.Rep, Sx.Reps, Sx.Rep_cmpB] using this⟩
   | false =>
    exact ⟨_, _, _, ha', node_r1 l t0 t1, rfl, fun cv hc => by have := hc g.nx μ; have e0 : node_0 l = (false) := (Sx.ct t0).trans ((Sx.cf t1).trans (rfl)); rw [e0]; simpa only [Sx.Rep, Sx.Reps, Sx.Rep_cmpB] using this⟩
  | false =>
   exact ⟨_, _, _, ha', node_r2 l t0, rfl, fun cv hc => by have := hc g.nx μ; have e0 : node_0 l = (false) := (Sx.cf t0).trans (rfl); rw [e0]; simpa only [Sx.Rep, Sx.Reps, Sx.Rep_cmpB] using this⟩
 ·exact call2_ok _ _ _ _ _ h
theorem nodeS_tch : ∀ args, Sx.Tch (nodeS args) := by
 intro args
 unfold nodeS
 split
 ·exact Sx.Tch.ret _
 ·exact call2_tch _ _
noncomputable def gam3 : Sx.Known := Sx.kc 24 Sx.ofBits (Sx.kc 39 Sx.toBits (Sx.kc 29 smallS (Sx.kc 34 kindS (Sx.kc 31 rowOfS (Sx.kc 10 ofS (Sx.kc 8 nameS (Sx.kc 12 nodeS (Sx.kn))))))))
theorem gam3_ok : Sx.KnownOk Try.prog gam3 := Sx.kc_ok ((Sx.ofBits_is Try.prog).callIs Try.func24 (by kernel_rfl) (by kernel_rfl) (by kernel_rfl) (by kernel_rfl)) (Sx.kc_ok ((Sx.toBits_is Try.prog).callIs Try.func39 (by kernel_rfl) (by kernel_rfl) (by kernel_rfl) (by kernel_rfl)) (Sx.kc_ok smallS_ok (Sx.kc_ok kindS_ok (Sx.kc_ok rowOfS_ok (Sx.kc_ok ofS_ok (Sx.kc_ok nameS_ok (Sx.kc_ok nodeS_ok (Sx.kn_ok))))))))
theorem gam3_tch : Sx.KnownT gam3 := Sx.kc_tch Sx.Tch.ofBits (Sx.kc_tch Sx.Tch.toBits (Sx.kc_tch smallS_tch (Sx.kc_tch kindS_tch (Sx.kc_tch rowOfS_tch (Sx.kc_tch ofS_tch (Sx.kc_tch nameS_tch (Sx.kc_tch nodeS_tch (Sx.kn_tch))))))))
noncomputable def call3 : Sx.Calls' := Sx.runN Try.prog gam3 (Sx.regionC Try.prog) 1000 50
theorem call3_ok : Sx.CallOk Try.prog call3 := Sx.engineC gam3_ok gam3_tch (by kernel_rfl) (by kernel_rfl) 1000 50
theorem call3_tch : Sx.CallT call3 := Sx.runA_tch gam3_tch (fun _ _ _ h => by cases h) (fun call hc n l fr => Sx.regionC_tch hc n l fr) 50
theorem call3_reg (n : Nat) : Sx.RegionOk Try.prog (Sx.regionC Try.prog call3 n) n := Sx.runN_regionC gam3_ok gam3_tch (by kernel_rfl) (by kernel_rfl) 1000 50 n
theorem chk_r0 (k : Int) (n a b c d : List UInt8) (v : Nat) (ph : Int) (c0 : (!rowOf_5 k) = false) (c1 : (!name_1 n) = false) (c2 : (!decide (name_0 n = k)) = false) (c3 : (!node_0 a) = false) (c4 : (!node_0 b) = false) (c5 : rowOf_3 k = true) (c6 : (!node_0 c) = false) (c7 : (!node_0 d) = false) (c8 : (a == b) = true) : Sx.PureP (Sx.AV.int false IntKind.i64 (2 : Int)) (call3 20 [.agg [.int true .u8 k, .str true n, .str true a, .str true b, .str true c, .str true d, .raw true v, .int true .i64 ph]] (Sx.G.on [false, false, false, false, false, true, false, false, true])) := Sx.eqq (q := (((((((((True ∧ ((!rowOf_5 k) = false)) ∧ ((!name_1 n) = false)) ∧ ((!decide (name_0 n = k)) = false)) ∧ ((!node_0 a) = false)) ∧ ((!node_0 b) = false)) ∧ (rowOf_3 k = true)) ∧ ((!node_0 c) = false)) ∧ ((!node_0 d) = false)) ∧ ((a == b) = true))) (by kernel_rfl) ⟨⟨⟨⟨⟨⟨⟨⟨⟨trivial, c0⟩, c1⟩, c2⟩, c3⟩, c4⟩, c5⟩, c6⟩, c7⟩, c8⟩
theorem chk_r1 (k : Int) (n a b c d : List UInt8) (v : Nat) (ph : Int) (c0 : (!rowOf_5 k) = false) (c1 : (!name_1 n) = false) (c2 : (!decide (name_0 n = k)) = false) (c3 : (!node_0 a) = false) (c4 : (!node_0 b) = false) (c5 : rowOf_3 k = true) (c6 : (!node_0 c) = false) (c7 : (!node_0 d) = false) (c8 : (a == b) = false) (c9 : (!rowOf_3 k) = false) (c10 : (!rowOf_4 k) = false) (c11 : decide ((2 : Int) < Sx.kindDef v) = true) : Sx.PureP (Sx.AV.int false IntKind.i64 (5 : Int)) (call3 20 [.agg [.int true .u8 k, .str true n, .str true a, .str true b, .str true c, .str true d, .raw true v, .int true .i64 ph]] (Sx.G.on [false, false, false, false, false, true, false, false, false, false, false, true])) := Sx.eqq (q := ((((((((((((True ∧ ((!rowOf_5 k) = false)) ∧ ((!name_1 n) = false)) ∧ ((!decide (name_0 n = k)) = false)) ∧ ((!node_0 a) = false)) ∧ ((!node_0 b) = false)) ∧ (rowOf_3 k = true)) ∧ ((!node_0 c) = false)) ∧ ((!node_0 d) = false)) ∧ ((a == b) = false)) ∧ ((!rowOf_3 k) = false)) ∧ ((!rowOf_4 k) = false)) ∧ (decide ((2 : Int) < Sx.kindDef v) = true))) (by kernel_rfl) ⟨⟨⟨⟨⟨⟨⟨⟨⟨⟨⟨⟨trivial, c0⟩, c1⟩, c2⟩, c3⟩, c4⟩, c5⟩, c6⟩, c7⟩, c8⟩, c9⟩, c10⟩, c11⟩
theorem chk_r2 (k : Int) (n a b c d : List UInt8) (v : Nat) (ph : Int) (c0 : (!rowOf_5 k) = false) (c1 : (!name_1 n) = false) (c2 : (!decide (name_0 n = k)) = false) (c3 : (!node_0 a) = false) (c4 : (!node_0 b) = false) (c5 : rowOf_3 k = true) (c6 : (!node_0 c) = false) (c7 : (!node_0 d) = false) (c8 : (a == b) = false) (c9 : (!rowOf_3 k) = false) (c10 : (!rowOf_4 k) = false) (c11 : decide ((2 : Int) < Sx.kindDef v) = false) (c12 : rowOf_2 k = true) (c13 : Sx.fle (Sx.cn v) (0 : Nat) = true) : Sx.PureP (Sx.AV.int false IntKind.i64 (2 : Int)) (call3 20 [.agg [.int true .u8 k, .str true n, .str true a, .str true b, .str true c, .str true d, .raw true v, .int true .i64 ph]] (Sx.G.on [false, false, false, false, false, true, false, false, false, false, false, false, true, true])) := Sx.eqq (q := ((((((((((((((True ∧ ((!rowOf_5 k) = false)) ∧ ((!name_1 n) = false)) ∧ ((!decide (name_0 n = k)) = false)) ∧ ((!node_0 a) = false)) ∧ ((!node_0 b) = false)) ∧ (rowOf_3 k = true)) ∧ ((!node_0 c) = false)) ∧ ((!node_0 d) = false)) ∧ ((a == b) = false)) ∧ ((!rowOf_3 k) = false)) ∧ ((!rowOf_4 k) = false)) ∧ (decide ((2 : Int) < Sx.kindDef v) = false)) ∧ (rowOf_2 k = true)) ∧ (Sx.fle (Sx.cn v) (0 : Nat) = true))) (by kernel_rfl) ⟨⟨⟨⟨⟨⟨⟨⟨⟨⟨⟨⟨⟨⟨trivial, c0⟩, c1⟩, c2⟩, c3⟩, c4⟩, c5⟩, c6⟩, c7⟩, c8⟩, c9⟩, c10⟩, c11⟩, c12⟩, c13⟩
theorem chk_r3 (k : Int) (n a b c d : List UInt8) (v : Nat) (ph : Int) (c0 : (!rowOf_5 k) = false) (c1 : (!name_1 n) = false) (c2 : (!decide (name_0 n = k)) = false) (c3 : (!node_0 a) = false) (c4 : (!node_0 b) = false) (c5 : rowOf_3 k = true) (c6 : (!node_0 c) = false) (c7 : (!node_0 d) = false) (c8 : (a == b) = false) (c9 : (!rowOf_3 k) = false) (c10 : (!rowOf_4 k) = false) (c11 : decide ((2 : Int) < Sx.kindDef v) = false) (c12 : rowOf_2 k = true) (c13 : Sx.fle (Sx.cn v) (0 : Nat) = false) : Sx.PureP (Sx.AV.int false IntKind.i64 (0 : Int)) (call3 20 [.agg [.int true .u8 k, .str true n, .str true a, .str true b, .str true c, .str true d, .raw true v, .int true .i64 ph]] (Sx.G.on [false, false, false, false, false, true, false, false, false, false, false, false, true, false])) := Sx.eqq (q := ((((((((((((((True ∧ ((!rowOf_5 k) = false)) ∧ ((!name_1 n) = false)) ∧ ((!decide (name_0 n = k)) = false)) ∧ ((!node_0 a) = false)) ∧ ((!node_0 b) = false)) ∧ (rowOf_3 k = true)) ∧ ((!node_0 c) = false)) ∧ ((!node_0 d) = false)) ∧ ((a == b) = false)) ∧ ((!rowOf_3 k) = false)) ∧ ((!rowOf_4 k) = false)) ∧ (decide ((2 : Int) < Sx.kindDef v) = false)) ∧ (rowOf_2 k = true)) ∧ (Sx.fle (Sx.cn v) (0 : Nat) = false))) (by kernel_rfl) ⟨⟨⟨⟨⟨⟨⟨⟨⟨⟨⟨⟨⟨⟨trivial, c0⟩, c1⟩, c2⟩, c3⟩, c4⟩, c5⟩, c6⟩, c7⟩, c8⟩, c9⟩, c10⟩, c11⟩, c12⟩, c13⟩
theorem chk_r4 (k : Int) (n a b c d : List UInt8) (v : Nat) (ph : Int) (c0 : (!rowOf_5 k) = false) (c1 : (!name_1 n) = false) (c2 : (!decide (name_0 n = k)) = false) (c3 : (!node_0 a) = false) (c4 : (!node_0 b) = false) (c5 : rowOf_3 k = true) (c6 : (!node_0 c) = false) (c7 : (!node_0 d) = false) (c8 : (a == b) = false) (c9 : (!rowOf_3 k) = false) (c10 : (!rowOf_4 k) = false) (c11 : decide ((2 : Int) < Sx.kindDef v) = false) (c12 : rowOf_2 k = false) : Sx.PureP (Sx.AV.int false IntKind.i64 (0 : Int)) (call3 20 [.agg [.int true .u8 k, .str true n, .str true a, .str true b, .str true c, .str true d, .raw true v, .int true .i64 ph]] (Sx.G.on [false, false, false, false, false, true, false, false, false, false, false, false, false])) := Sx.eqq (q := (((((((((((((True ∧ ((!rowOf_5 k) = false)) ∧ ((!name_1 n) = false)) ∧ ((!decide (name_0 n = k)) = false)) ∧ ((!node_0 a) = false)) ∧ ((!node_0 b) = false)) ∧ (rowOf_3 k = true)) ∧ ((!node_0 c) = false)) ∧ ((!node_0 d) = false)) ∧ ((a == b) = false)) ∧ ((!rowOf_3 k) = false)) ∧ ((!rowOf_4 k) = false)) ∧ (decide ((2 : Int) < Sx.kindDef v) = false)) ∧ (rowOf_2 k = false))) (by kernel_rfl) ⟨⟨⟨⟨⟨⟨⟨⟨⟨⟨⟨⟨⟨trivial, c0⟩, c1⟩, c2⟩, c3⟩, c4⟩, c5⟩, c6⟩, c7⟩, c8⟩, c9⟩, c10⟩, c11⟩, c12⟩
theorem chk_r5 (k : Int) (n a b c d : List UInt8) (v : Nat) (ph : Int) (c0 : (!rowOf_5 k) = false) (c1 : (!name_1 n) = false) (c2 : (!decide (name_0 n = k)) = false) (c3 : (!node_0 a) = false) (c4 : (!node_0 b) = false) (c5 : rowOf_3 k = true) (c6 : (!node_0 c) = false) (c7 : (!node_0 d) = false) (c8 : (a == b) = false) (c9 : (!rowOf_3 k) = false) (c10 : (!rowOf_4 k) = true) (c11 : (!decide (ph = (0 : Int))) = false) (c12 : decide ((2 : Int) < Sx.kindDef v) = true) : Sx.PureP (Sx.AV.int false IntKind.i64 (5 : Int)) (call3 20 [.agg [.int true .u8 k, .str true n, .str true a, .str true b, .str true c, .str true d, .raw true v, .int true .i64 ph]] (Sx.G.on [false, false, false, false, false, true, false, false, false, false, true, false, true])) := Sx.eqq (q := (((((((((((((True ∧ ((!rowOf_5 k) = false)) ∧ ((!name_1 n) = false)) ∧ ((!decide (name_0 n = k)) = false)) ∧ ((!node_0 a) = false)) ∧ ((!node_0 b) = false)) ∧ (rowOf_3 k = true)) ∧ ((!node_0 c) = false)) ∧ ((!node_0 d) = false)) ∧ ((a == b) = false)) ∧ ((!rowOf_3 k) = false)) ∧ ((!rowOf_4 k) = true)) ∧ ((!decide (ph = (0 : Int))) = false)) ∧ (decide ((2 : Int) < Sx.kindDef v) = true))) (by kernel_rfl) ⟨⟨⟨⟨⟨⟨⟨⟨⟨⟨⟨⟨⟨trivial, c0⟩, c1⟩, c2⟩, c3⟩, c4⟩, c5⟩, c6⟩, c7⟩, c8⟩, c9⟩, c10⟩, c11⟩, c12⟩
theorem chk_r6 (k : Int) (n a b c d : List UInt8) (v : Nat) (ph : Int) (c0 : (!rowOf_5 k) = false) (c1 : (!name_1 n) = false) (c2 : (!decide (name_0 n = k)) = false) (c3 : (!node_0 a) = false) (c4 : (!node_0 b) = false) (c5 : rowOf_3 k = true) (c6 : (!node_0 c) = false) (c7 : (!node_0 d) = false) (c8 : (a == b) = false) (c9 : (!rowOf_3 k) = false) (c10 : (!rowOf_4 k) = true) (c11 : (!decide (ph = (0 : Int))) = false) (c12 : decide ((2 : Int) < Sx.kindDef v) = false) (c13 : rowOf_2 k = true) (c14 : Sx.fle (Sx.cn v) (0 : Nat) = true) : Sx.PureP (Sx.AV.int false IntKind.i64 (2 : Int)) (call3 20 [.agg [.int true .u8 k, .str true n, .str true a, .str true b, .str true c, .str true d, .raw true v, .int true .i64 ph]] (Sx.G.on [false, false, false, false, false, true, false, false, false, false, true, false, false, true, true])) := Sx.eqq (q := (((((((((((((((True ∧ ((!rowOf_5 k) = false)) ∧ ((!name_1 n) = false)) ∧ ((!decide (name_0 n = k)) = false)) ∧ ((!node_0 a) = false)) ∧ ((!node_0 b) = false)) ∧ (rowOf_3 k = true)) ∧ ((!node_0 c) = false)) ∧ ((!node_0 d) = false)) ∧ ((a == b) = false)) ∧ ((!rowOf_3 k) = false)) ∧ ((!rowOf_4 k) = true)) ∧ ((!decide (ph = (0 : Int))) = false)) ∧ (decide ((2 : Int) < Sx.kindDef v) = false)) ∧ (rowOf_2 k = true)) ∧ (Sx.fle (Sx.cn v) (0 : Nat) = true))) (by kernel_rfl) ⟨⟨⟨⟨⟨⟨⟨⟨⟨⟨⟨⟨⟨⟨⟨trivial, c0⟩, c1⟩, c2⟩, c3⟩, c4⟩, c5⟩, c6⟩, c7⟩, c8⟩, c9⟩, c10⟩, c11⟩, c12⟩, c13⟩, c14⟩
theorem chk_r7 (k : Int) (n a b c d : List UInt8) (v : Nat) (ph : Int) (c0 : (!rowOf_5 k) = false) (c1 : (!name_1 n) = false) (c2 : (!decide (name_0 n = k)) = false) (c3 : (!node_0 a) = false) (c4 : (!node_0 b) = false) (c5 : rowOf_3 k = true) (c6 : (!node_0 c) = false) (c7 : (!node_0 d) = false) (c8 : (a == b) = false) (c9 : (!rowOf_3 k) = false) (c10 : (!rowOf_4 k) = true) (c11 : (!decide (ph = (0 : Int))) = false) (c12 : decide ((2 : Int) < Sx.kindDef v) = false) (c13 : rowOf_2 k = true) (c14 : Sx.fle (Sx.cn v) (0 : Nat) = false) : Sx.PureP (Sx.AV.int false IntKind.i64 (0 : Int)) (call3 20 [.agg [.int true .u8 k, .str true n, .str true a, .str true b, .str true c, .str true d, .raw true v, .int true .i64 ph]] (Sx.G.on [false, false, false, false, false, true, false, false, false, false, true, false, false, true, false])) := Sx.eqq (q := (((((((((((((((True ∧ ((!rowOf_5 k) = false)) ∧ ((!name_1 n) = false)) ∧ ((!decide (name_0 n = k)) = false)) ∧ ((!node_0 a) = false)) ∧ ((!node_0 b) = false)) ∧ (rowOf_3 k = true)) ∧ ((!node_0 c) = false)) ∧ ((!node_0 d) = false)) ∧ ((a == b) = false)) ∧ ((!rowOf_3 k) = false)) ∧ ((!rowOf_4 k) = true)) ∧ ((!decide (ph = (0 : Int))) = false)) ∧ (decide ((2 : Int) < Sx.kindDef v) = false)) ∧ (rowOf_2 k = true)) ∧ (Sx.fle (Sx.cn v) (0 : Nat) = false))) (by kernel_rfl) ⟨⟨⟨⟨⟨⟨⟨⟨⟨⟨⟨⟨⟨⟨⟨trivial, c0⟩, c1⟩, c2⟩, c3⟩, c4⟩, c5⟩, c6⟩, c7⟩, c8⟩, c9⟩, c10⟩, c11⟩, c12⟩, c13⟩, c14⟩
theorem chk_r8 (k : Int) (n a b c d : List UInt8) (v : Nat) (ph : Int) (c0 : (!rowOf_5 k) = false) (c1 : (!name_1 n) = false) (c2 : (!decide (name_0 n = k)) = false) (c3 : (!node_0 a) = false) (c4 : (!node_0 b) = false) (c5 : rowOf_3 k = true) (c6 : (!node_0 c) = false) (c7 : (!node_0 d) = false) (c8 : (a == b) = false) (c9 : (!rowOf_3 k) = false) (c10 : (!rowOf_4 k) = true) (c11 : (!decide (ph = (0 : Int))) = false) (c12 : decide ((2 : Int) < Sx.kindDef v) = false) (c13 : rowOf_2 k = false) : Sx.PureP (Sx.AV.int false IntKind.i64 (0 : Int)) (call3 20 [.agg [.int true .u8 k, .str true n, .str true a, .str true b, .str true c, .str true d, .raw true v, .int true .i64 ph]] (Sx.G.on [false, false, false, false, false, true, false, false, false, false, true, false, false, false])) := Sx.eqq (q := ((((((((((((((True ∧ ((!rowOf_5 k) = false)) ∧ ((!name_1 n) = false)) ∧ ((!decide (name_0 n = k)) = false)) ∧ ((!node_0 a) = false)) ∧ ((!node_0 b) = false)) ∧ (rowOf_3 k = true)) ∧ ((!node_0 c) = false)) ∧ ((!node_0 d) = false)) ∧ ((a == b) = false)) ∧ ((!rowOf_3 k) = false)) ∧ ((!rowOf_4 k) = true)) ∧ ((!decide (ph = (0 : Int))) = false)) ∧ (decide ((2 : Int) < Sx.kindDef v) = false)) ∧ (rowOf_2 k = false))) (by kernel_rfl) ⟨⟨⟨⟨⟨⟨⟨⟨⟨⟨⟨⟨⟨⟨trivial, c0⟩, c1⟩, c2⟩, c3⟩, c4⟩, c5⟩, c6⟩, c7⟩, c8⟩, c9⟩, c10⟩, c11⟩, c12⟩, c13⟩
theorem chk_r9 (k : Int) (n a b c d : List UInt8) (v : Nat) (ph : Int) (c0 : (!rowOf_5 k) = false) (c1 : (!name_1 n) = false) (c2 : (!decide (name_0 n = k)) = false) (c3 : (!node_0 a) = false) (c4 : (!node_0 b) = false) (c5 : rowOf_3 k = true) (c6 : (!node_0 c) = false) (c7 : (!node_0 d) = false) (c8 : (a == b) = false) (c9 : (!rowOf_3 k) = false) (c10 : (!rowOf_4 k) = true) (c11 : (!decide (ph = (0 : Int))) = true) : Sx.PureP (Sx.AV.int false IntKind.i64 (2 : Int)) (call3 20 [.agg [.int true .u8 k, .str true n, .str true a, .str true b, .str true c, .str true d, .raw true v, .int true .i64 ph]] (Sx.G.on [false, false, false, false, false, true, false, false, false, false, true, true])) := Sx.eqq (q := ((((((((((((True ∧ ((!rowOf_5 k) = false)) ∧ ((!name_1 n) = false)) ∧ ((!decide (name_0 n = k)) = false)) ∧ ((!node_0 a) = false)) ∧ ((!node_0 b) = false)) ∧ (rowOf_3 k = true)) ∧ ((!node_0 c) = false)) ∧ ((!node_0 d) = false)) ∧ ((a == b) = false)) ∧ ((!rowOf_3 k) = false)) ∧ ((!rowOf_4 k) = true)) ∧ ((!decide (ph = (0 : Int))) = true))) (by kernel_rfl) ⟨⟨⟨⟨⟨⟨⟨⟨⟨⟨⟨⟨trivial, c0⟩, c1⟩, c2⟩, c3⟩, c4⟩, c5⟩, c6⟩, c7⟩, c8⟩, c9⟩, c10⟩, c11⟩
theorem chk_r10 (k : Int) (n a b c d : List UInt8) (v : Nat) (ph : Int) (c0 : (!rowOf_5 k) = false) (c1 : (!name_1 n) = false) (c2 : (!decide (name_0 n = k)) = false) (c3 : (!node_0 a) = false) (c4 : (!node_0 b) = false) (c5 : rowOf_3 k = true) (c6 : (!node_0 c) = false) (c7 : (!node_0 d) = true) : Sx.PureP (Sx.AV.int false IntKind.i64 (8 : Int)) (call3 20 [.agg [.int true .u8 k, .str true n, .str true a, .str true b, .str true c, .str true d, .raw true v, .int true .i64 ph]] (Sx.G.on [false, false, false, false, false, true, false, true])) := Sx.eqq (q := ((((((((True ∧ ((!rowOf_5 k) = false)) ∧ ((!name_1 n) = false)) ∧ ((!decide (name_0 n = k)) = false)) ∧ ((!node_0 a) = false)) ∧ ((!node_0 b) = false)) ∧ (rowOf_3 k = true)) ∧ ((!node_0 c) = false)) ∧ ((!node_0 d) = true))) (by kernel_rfl) ⟨⟨⟨⟨⟨⟨⟨⟨trivial, c0⟩, c1⟩, c2⟩, c3⟩, c4⟩, c5⟩, c6⟩, c7⟩
theorem chk_r11 (k : Int) (n a b c d : List UInt8) (v : Nat) (ph : Int) (c0 : (!rowOf_5 k) = false) (c1 : (!name_1 n) = false) (c2 : (!decide (name_0 n = k)) = false) (c3 : (!node_0 a) = false) (c4 : (!node_0 b) = false) (c5 : rowOf_3 k = true) (c6 : (!node_0 c) = true) : Sx.PureP (Sx.AV.int false IntKind.i64 (8 : Int)) (call3 20 [.agg [.int true .u8 k, .str true n, .str true a, .str true b, .str true c, .str true d, .raw true v, .int true .i64 ph]] (Sx.G.on [false, false, false, false, false, true, true])) := Sx.eqq (q := (((((((True ∧ ((!rowOf_5 k) = false)) ∧ ((!name_1 n) = false)) ∧ ((!decide (name_0 n = k)) = false)) ∧ ((!node_0 a) = false)) ∧ ((!node_0 b) = false)) ∧ (rowOf_3 k = true)) ∧ ((!node_0 c) = true))) (by kernel_rfl) ⟨⟨⟨⟨⟨⟨⟨trivial, c0⟩, c1⟩, c2⟩, c3⟩, c4⟩, c5⟩, c6⟩
theorem chk_r12 (k : Int) (n a b c d : List UInt8) (v : Nat) (ph : Int) (c0 : (!rowOf_5 k) = false) (c1 : (!name_1 n) = false) (c2 : (!decide (name_0 n = k)) = false) (c3 : (!node_0 a) = false) (c4 : (!node_0 b) = false) (c5 : rowOf_3 k = false) (c6 : (a == b) = true) : Sx.PureP (Sx.AV.int false IntKind.i64 (2 : Int)) (call3 20 [.agg [.int true .u8 k, .str true n, .str true a, .str true b, .str true c, .str true d, .raw true v, .int true .i64 ph]] (Sx.G.on [false, false, false, false, false, false, true])) := Sx.eqq (q := (((((((True ∧ ((!rowOf_5 k) = false)) ∧ ((!name_1 n) = false)) ∧ ((!decide (name_0 n = k)) = false)) ∧ ((!node_0 a) = false)) ∧ ((!node_0 b) = false)) ∧ (rowOf_3 k = false)) ∧ ((a == b) = true))) (by kernel_rfl) ⟨⟨⟨⟨⟨⟨⟨trivial, c0⟩, c1⟩, c2⟩, c3⟩, c4⟩, c5⟩, c6⟩
theorem chk_r13 (k : Int) (n a b c d : List UInt8) (v : Nat) (ph : Int) (c0 : (!rowOf_5 k) = false) (c1 : (!name_1 n) = false) (c2 : (!decide (name_0 n = k)) = false) (c3 : (!node_0 a) = false) (c4 : (!node_0 b) = false) (c5 : rowOf_3 k = false) (c6 : (a == b) = false) (c7 : (!rowOf_3 k) = true) (c8 : (!c == []) = false) (c9 : (!d == []) = false) (c10 : (!rowOf_4 k) = false) (c11 : decide ((2 : Int) < Sx.kindDef v) = true) : Sx.PureP (Sx.AV.int false IntKind.i64 (5 : Int)) (call3 20 [.agg [.int true .u8 k, .str true n, .str true a, .str true b, .str true c, .str true d, .raw true v, .int true .i64 ph]] (Sx.G.on [false, false, false, false, false, false, false, true, false, false, false, true])) := Sx.eqq (q := ((((((((((((True ∧ ((!rowOf_5 k) = false)) ∧ ((!name_1 n) = false)) ∧ ((!decide (name_0 n = k)) = false)) ∧ ((!node_0 a) = false)) ∧ ((!node_0 b) = false)) ∧ (rowOf_3 k = false)) ∧ ((a == b) = false)) ∧ ((!rowOf_3 k) = true)) ∧ ((!c == []) = false)) ∧ ((!d == []) = false)) ∧ ((!rowOf_4 k) = false)) ∧ (decide ((2 : Int) < Sx.kindDef v) = true))) (by kernel_rfl) ⟨⟨⟨⟨⟨⟨⟨⟨⟨⟨⟨⟨trivial, c0⟩, c1⟩, c2⟩, c3⟩, c4⟩, c5⟩, c6⟩, c7⟩, c8⟩, c9⟩, c10⟩, c11⟩
theorem chk_r14 (k : Int) (n a b c d : List UInt8) (v : Nat) (ph : Int) (c0 : (!rowOf_5 k) = false) (c1 : (!name_1 n) = false) (c2 : (!decide (name_0 n = k)) = false) (c3 : (!node_0 a) = false) (c4 : (!node_0 b) = false) (c5 : rowOf_3 k = false) (c6 : (a == b) = false) (c7 : (!rowOf_3 k) = true) (c8 : (!c == []) = false) (c9 : (!d == []) = false) (c10 : (!rowOf_4 k) = false) (c11 : decide ((2 : Int) < Sx.kindDef v) = false) (c12 : rowOf_2 k = true) (c13 : Sx.fle (Sx.cn v) (0 : Nat) = true) : Sx.PureP (Sx.AV.int false IntKind.i64 (2 : Int)) (call3 20 [.agg [.int true .u8 k, .str true n, .str true a, .str true b, .str true c, .str true d, .raw true v, .int true .i64 ph]] (Sx.G.on [false, false, false, false, false, false, false, true, false, false, false, false, true, true])) := Sx.eqq (q := ((((((((((((((True ∧ ((!rowOf_5 k) = false)) ∧ ((!name_1 n) = false)) ∧ ((!decide (name_0 n = k)) = false)) ∧ ((!node_0 a) = false)) ∧ ((!node_0 b) = false)) ∧ (rowOf_3 k = false)) ∧ ((a == b) = false)) ∧ ((!rowOf_3 k) = true)) ∧ ((!c == []) = false)) ∧ ((!d == []) = false)) ∧ ((!rowOf_4 k) = false)) ∧ (decide ((2 : Int) < Sx.kindDef v) = false)) ∧ (rowOf_2 k = true)) ∧ (Sx.fle (Sx.cn v) (0 : Nat) = true))) (by kernel_rfl) ⟨⟨⟨⟨⟨⟨⟨⟨⟨⟨⟨⟨⟨⟨trivial, c0⟩, c1⟩, c2⟩, c3⟩, c4⟩, c5⟩, c6⟩, c7⟩, c8⟩, c9⟩, c10⟩, c11⟩, c12⟩, c13⟩
theorem chk_r15 (k : Int) (n a b c d : List UInt8) (v : Nat) (ph : Int) (c0 : (!rowOf_5 k) = false) (c1 : (!name_1 n) = false) (c2 : (!decide (name_0 n = k)) = false) (c3 : (!node_0 a) = false) (c4 : (!node_0 b) = false) (c5 : rowOf_3 k = false) (c6 : (a == b) = false) (c7 : (!rowOf_3 k) = true) (c8 : (!c == []) = false) (c9 : (!d == []) = false) (c10 : (!rowOf_4 k) = false) (c11 : decide ((2 : Int) < Sx.kindDef v) = false) (c12 : rowOf_2 k = true) (c13 : Sx.fle (Sx.cn v) (0 : Nat) = false) : Sx.PureP (Sx.AV.int false IntKind.i64 (0 : Int)) (call3 20 [.agg [.int true .u8 k, .str true n, .str true a, .str true b, .str true c, .str true d, .raw true v, .int true .i64 ph]] (Sx.G.on [false, false, false, false, false, false, false, true, false, false, false, false, true, false])) := Sx.eqq (q := ((((((((((((((True ∧ ((!rowOf_5 k) = false)) ∧ ((!name_1 n) = false)) ∧ ((!decide (name_0 n = k)) = false)) ∧ ((!node_0 a) = false)) ∧ ((!node_0 b) = false)) ∧ (rowOf_3 k = false)) ∧ ((a == b) = false)) ∧ ((!rowOf_3 k) = true)) ∧ ((!c == []) = false)) ∧ ((!d == []) = false)) ∧ ((!rowOf_4 k) = false)) ∧ (decide ((2 : Int) < Sx.kindDef v) = false)) ∧ (rowOf_2 k = true)) ∧ (Sx.fle (Sx.cn v) (0 : Nat) = false))) (by kernel_rfl) ⟨⟨⟨⟨⟨⟨⟨⟨⟨⟨⟨⟨⟨⟨trivial, c0⟩, c1⟩, c2⟩, c3⟩, c4⟩, c5⟩, c6⟩, c7⟩, c8⟩, c9⟩, c10⟩, c11⟩, c12⟩, c13⟩
theorem chk_r16 (k : Int) (n a b c d : List UInt8) (v : Nat) (ph : Int) (c0 : (!rowOf_5 k) = false) (c1 : (!name_1 n) = false) (c2 : (!decide (name_0 n = k)) = false) (c3 : (!node_0 a) = false) (c4 : (!node_0 b) = false) (c5 : rowOf_3 k = false) (c6 : (a == b) = false) (c7 : (!rowOf_3 k) = true) (c8 : (!c == []) = false) (c9 : (!d == []) = false) (c10 : (!rowOf_4 k) = false) (c11 : decide ((2 : Int) < Sx.kindDef v) = false) (c12 : rowOf_2 k = false) : Sx.PureP (Sx.AV.int false IntKind.i64 (0 : Int)) (call3 20 [.agg [.int true .u8 k, .str true n, .str true a, .str true b, .str true c, .str true d, .raw true v, .int true .i64 ph]] (Sx.G.on [false, false, false, false, false, false, false, true, false, false, false, false, false])) := Sx.eqq (q := (((((((((((((True ∧ ((!rowOf_5 k) = false)) ∧ ((!name_1 n) = false)) ∧ ((!decide (name_0 n = k)) = false)) ∧ ((!node_0 a) = false)) ∧ ((!node_0 b) = false)) ∧ (rowOf_3 k = false)) ∧ ((a == b) = false)) ∧ ((!rowOf_3 k) = true)) ∧ ((!c == []) = false)) ∧ ((!d == []) = false)) ∧ ((!rowOf_4 k) = false)) ∧ (decide ((2 : Int) < Sx.kindDef v) = false)) ∧ (rowOf_2 k = false))) (by kernel_rfl) ⟨⟨⟨⟨⟨⟨⟨⟨⟨⟨⟨⟨⟨trivial, c0⟩, c1⟩, c2⟩, c3⟩, c4⟩, c5⟩, c6⟩, c7⟩, c8⟩, c9⟩, c10⟩, c11⟩, c12⟩
theorem chk_r17 (k : Int) (n a b c d : List UInt8) (v : Nat) (ph : Int) (c0 : (!rowOf_5 k) = false) (c1 : (!name_1 n) = false) (c2 : (!decide (name_0 n = k)) = false) (c3 : (!node_0 a) = false) (c4 : (!node_0 b) = false) (c5 : rowOf_3 k = false) (c6 : (a == b) = false) (c7 : (!rowOf_3 k) = true) (c8 : (!c == []) = false) (c9 : (!d == []) = false) (c10 : (!rowOf_4 k) = true) (c11 : (!decide (ph = (0 : Int))) = false) (c12 : decide ((2 : Int) < Sx.kindDef v) = true) : Sx.PureP (Sx.AV.int false IntKind.i64 (5 : Int)) (call3 20 [.agg [.int true .u8 k, .str true n, .str true a, .str true b, .str true c, .str true d, .raw true v, .int true .i64 ph]] (Sx.G.on [false, false, false, false, false, false, false, true, false, false, true, false, true])) := Sx.eqq (q := (((((((((((((True ∧ ((!rowOf_5 k) = false)) ∧ ((!name_1 n) = false)) ∧ ((!decide (name_0 n = k)) = false)) ∧ ((!node_0 a) = false)) ∧ ((!node_0 b) = false)) ∧ (rowOf_3 k = false)) ∧ ((a == b) = false)) ∧ ((!rowOf_3 k) = true)) ∧ ((!c == []) = false)) ∧ ((!d == []) = false)) ∧ ((!rowOf_4 k) = true)) ∧ ((!decide (ph = (0 : Int))) = false)) ∧ (decide ((2 : Int) < Sx.kindDef v) = true))) (by kernel_rfl) ⟨⟨⟨⟨⟨⟨⟨⟨⟨⟨⟨⟨⟨trivial, c0⟩, c1⟩, c2⟩, c3⟩, c4⟩, c5⟩, c6⟩, c7⟩, c8⟩, c9⟩, c10⟩, c11⟩, c12⟩
theorem chk_r18 (k : Int) (n a b c d : List UInt8) (v : Nat) (ph : Int) (c0 : (!rowOf_5 k) = false) (c1 : (!name_1 n) = false) (c2 : (!decide (name_0 n = k)) = false) (c3 : (!node_0 a) = false) (c4 : (!node_0 b) = false) (c5 : rowOf_3 k = false) (c6 : (a == b) = false) (c7 : (!rowOf_3 k) = true) (c8 : (!c == []) = false) (c9 : (!d == []) = false) (c10 : (!rowOf_4 k) = true) (c11 : (!decide (ph = (0 : Int))) = false) (c12 : decide ((2 : Int) < Sx.kindDef v) = false) (c13 : rowOf_2 k = true) (c14 : Sx.fle (Sx.cn v) (0 : Nat) = true) : Sx.PureP (Sx.AV.int false IntKind.i64 (2 : Int)) (call3 20 [.agg [.int true .u8 k, .str true n, .str true a, .str true b, .str true c, .str true d, .raw true v, .int true .i64 ph]] (Sx.G.on [false, false, false, false, false, false, false, true, false, false, true, false, false, true, true])) := Sx.eqq (q := (((((((((((((((True ∧ ((!rowOf_5 k) = false)) ∧ ((!name_1 n) = false)) ∧ ((!decide (name_0 n = k)) = false)) ∧ ((!node_0 a) = false)) ∧ ((!node_0 b) = false)) ∧ (rowOf_3 k = false)) ∧ ((a == b) = false)) ∧ ((!rowOf_3 k) = true)) ∧ ((!c == []) = false)) ∧ ((!d == []) = false)) ∧ ((!rowOf_4 k) = true)) ∧ ((!decide (ph = (0 : Int))) = false)) ∧ (decide ((2 : Int) < Sx.kindDef v) = false)) ∧ (rowOf_2 k = true)) ∧ (Sx.fle (Sx.cn v) (0 : Nat) = true))) (by kernel_rfl) ⟨⟨⟨⟨⟨⟨⟨⟨⟨⟨⟨⟨⟨⟨⟨trivial, c0⟩, c1⟩, c2⟩, c3⟩, c4⟩, c5⟩, c6⟩, c7⟩, c8⟩, c9⟩, c10⟩, c11⟩, c12⟩, c13⟩, c14⟩
theorem chk_r19 (k : Int) (n a b c d : List UInt8) (v : Nat) (ph : Int) (c0 : (!rowOf_5 k) = false) (c1 : (!name_1 n) = false) (c2 : (!decide (name_0 n = k)) = false) (c3 : (!node_0 a) = false) (c4 : (!node_0 b) = false) (c5 : rowOf_3 k = false) (c6 : (a == b) = false) (c7 : (!rowOf_3 k) = true) (c8 : (!c == []) = false) (c9 : (!d == []) = false) (c10 : (!rowOf_4 k) = true) (c11 : (!decide (ph = (0 : Int))) = false) (c12 : decide ((2 : Int) < Sx.kindDef v) = false) (c13 : rowOf_2 k = true) (c14 : Sx.fle (Sx.cn v) (0 : Nat) = false) : Sx.PureP (Sx.AV.int false IntKind.i64 (0 : Int)) (call3 20 [.agg [.int true .u8 k, .str true n, .str true a, .str true b, .str true c, .str true d, .raw true v, .int true .i64 ph]] (Sx.G.on [false, false, false, false, false, false, false, true, false, false, true, false, false, true, false])) := Sx.eqq (q := (((((((((((((((True ∧ ((!rowOf_5 k) = false)) ∧ ((!name_1 n) = false)) ∧ ((!decide (name_0 n = k)) = false)) ∧ ((!node_0 a) = false)) ∧ ((!node_0 b) = false)) ∧ (rowOf_3 k = false)) ∧ ((a == b) = false)) ∧ ((!rowOf_3 k) = true)) ∧ ((!c == []) = false)) ∧ ((!d == []) = false)) ∧ ((!rowOf_4 k) = true)) ∧ ((!decide (ph = (0 : Int))) = false)) ∧ (decide ((2 : Int) < Sx.kindDef v) = false)) ∧ (rowOf_2 k = true)) ∧ (Sx.fle (Sx.cn v) (0 : Nat) = false))) (by kernel_rfl) ⟨⟨⟨⟨⟨⟨⟨⟨⟨⟨⟨⟨⟨⟨⟨trivial, c0⟩, c1⟩, c2⟩, c3⟩, c4⟩, c5⟩, c6⟩, c7⟩, c8⟩, c9⟩, c10⟩, c11⟩, c12⟩, c13⟩, c14⟩
theorem chk_r20 (k : Int) (n a b c d : List UInt8) (v : Nat) (ph : Int) (c0 : (!rowOf_5 k) = false) (c1 : (!name_1 n) = false) (c2 : (!decide (name_0 n = k)) = false) (c3 : (!node_0 a) = false) (c4 : (!node_0 b) = false) (c5 : rowOf_3 k = false) (c6 : (a == b) = false) (c7 : (!rowOf_3 k) = true) (c8 : (!c == []) = false) (c9 : (!d == []) = false) (c10 : (!rowOf_4 k) = true) (c11 : (!decide (ph = (0 : Int))) = false) (c12 : decide ((2 : Int) < Sx.kindDef v) = false) (c13 : rowOf_2 k = false) : Sx.PureP (Sx.AV.int false IntKind.i64 (0 : Int)) (call3 20 [.agg [.int true .u8 k, .str true n, .str true a, .str true b, .str true c, .str true d, .raw true v, .int true .i64 ph]] (Sx.G.on [false, false, false, false, false, false, false, true, false, false, true, false, false, false])) := Sx.eqq (q := ((((((((((((((True ∧ ((!rowOf_5 k) = false)) ∧ ((!name_1 n) = false)) ∧ ((!decide (name_0 n = k)) = false)) ∧ ((!node_0 a) = false)) ∧ ((!node_0 b) = false)) ∧ (rowOf_3 k = false)) ∧ ((a == b) = false)) ∧ ((!rowOf_3 k) = true)) ∧ ((!c == []) = false)) ∧ ((!d == []) = false)) ∧ ((!rowOf_4 k) = true)) ∧ ((!decide (ph = (0 : Int))) = false)) ∧ (decide ((2 : Int) < Sx.kindDef v) = false)) ∧ (rowOf_2 k = false))) (by kernel_rfl) ⟨⟨⟨⟨⟨⟨⟨⟨⟨⟨⟨⟨⟨⟨trivial, c0⟩, c1⟩, c2⟩, c3⟩, c4⟩, c5⟩, c6⟩, c7⟩, c8⟩, c9⟩, c10⟩, c11⟩, c12⟩, c13⟩
theorem chk_r21 (k : Int) (n a b c d : List UInt8) (v : Nat) (ph : Int) (c0 : (!rowOf_5 k) = false) (c1 : (!name_1 n) = false) (c2 : (!decide (name_0 n = k)) = false) (c3 : (!node_0 a) = false) (c4 : (!node_0 b) = false) (c5 : rowOf_3 k = false) (c6 : (a == b) = false) (c7 : (!rowOf_3 k) = true) (c8 : (!c == []) = false) (c9 : (!d == []) = false) (c10 : (!rowOf_4 k) = true) (c11 : (!decide (ph = (0 : Int))) = true) : Sx.PureP (Sx.AV.int false IntKind.i64 (2 : Int)) (call3 20 [.agg [.int true .u8 k, .str true n, .str true a, .str true b, .str true c, .str true d, .raw true v, .int true .i64 ph]] (Sx.G.on [false, false, false, false, false, false, false, true, false, false, true, true])) := Sx.eqq (q := ((((((((((((True ∧ ((!rowOf_5 k) = false)) ∧ ((!name_1 n) = false)) ∧ ((!decide (name_0 n = k)) = false)) ∧ ((!node_0 a) = false)) ∧ ((!node_0 b) = false)) ∧ (rowOf_3 k = false)) ∧ ((a == b) = false)) ∧ ((!rowOf_3 k) = true)) ∧ ((!c == []) = false)) ∧ ((!d == []) = false)) ∧ ((!rowOf_4 k) = true)) ∧ ((!decide (ph = (0 : Int))) = true))) (by kernel_rfl) ⟨⟨⟨⟨⟨⟨⟨⟨⟨⟨⟨⟨trivial, c0⟩, c1⟩, c2⟩, c3⟩, c4⟩, c5⟩, c6⟩, c7⟩, c8⟩, c9⟩, c10⟩, c11⟩
theorem chk_r22 (k : Int) (n a b c d : List UInt8) (v : Nat) (ph : Int) (c0 : (!rowOf_5 k) = false) (c1 : (!name_1 n) = false) (c2 : (!decide (name_0 n = k)) = false) (c3 : (!node_0 a) = false) (c4 : (!node_0 b) = false) (c5 : rowOf_3 k = false) (c6 : (a == b) = false) (c7 : (!rowOf_3 k) = true) (c8 : (!c == []) = false) (c9 : (!d == []) = true) : Sx.PureP (Sx.AV.int false IntKind.i64 (2 : Int)) (call3 20 [.agg [.int true .u8 k, .str true n, .str true a, .str true b, .str true c, .str true d, .raw true v, .int true .i64 ph]] (Sx.G.on [false, false, false, false, false, false, false, true, false, true])) := Sx.eqq (q := ((((((((((True ∧ ((!rowOf_5 k) = false)) ∧ ((!name_1 n) = false)) ∧ ((!decide (name_0 n = k)) = false)) ∧ ((!node_0 a) = false)) ∧ ((!node_0 b) = false)) ∧ (rowOf_3 k = false)) ∧ ((a == b) = false)) ∧ ((!rowOf_3 k) = true)) ∧ ((!c == []) = false)) ∧ ((!d == []) = true))) (by kernel_rfl) ⟨⟨⟨⟨⟨⟨⟨⟨⟨⟨trivial, c0⟩, c1⟩, c2⟩, c3⟩, c4⟩, c5⟩, c6⟩, c7⟩, c8⟩, c9⟩
theorem chk_r23 (k : Int) (n a b c d : List UInt8) (v : Nat) (ph : Int) (c0 : (!rowOf_5 k) = false) (c1 : (!name_1 n) = false) (c2 : (!decide (name_0 n = k)) = false) (c3 : (!node_0 a) = false) (c4 : (!node_0 b) = false) (c5 : rowOf_3 k = false) (c6 : (a == b) = false) (c7 : (!rowOf_3 k) = true) (c8 : (!c == []) = true) : Sx.PureP (Sx.AV.int false IntKind.i64 (2 : Int)) (call3 20 [.agg [.int true .u8 k, .str true n, .str true a, .str true b, .str true c, .str true d, .raw true v, .int true .i64 ph]] (Sx.G.on [false, false, false, false, false, false, false, true, true])) := Sx.eqq (q := (((((((((True ∧ ((!rowOf_5 k) = false)) ∧ ((!name_1 n) = false)) ∧ ((!decide (name_0 n = k)) = false)) ∧ ((!node_0 a) = false)) ∧ ((!node_0 b) = false)) ∧ (rowOf_3 k = false)) ∧ ((a == b) = false)) ∧ ((!rowOf_3 k) = true)) ∧ ((!c == []) = true))) (by kernel_rfl) ⟨⟨⟨⟨⟨⟨⟨⟨⟨trivial, c0⟩, c1⟩, c2⟩, c3⟩, c4⟩, c5⟩, c6⟩, c7⟩, c8⟩
theorem chk_r24 (k : Int) (n a b c d : List UInt8) (v : Nat) (ph : Int) (c0 : (!rowOf_5 k) = false) (c1 : (!name_1 n) = false) (c2 : (!decide (name_0 n = k)) = false) (c3 : (!node_0 a) = false) (c4 : (!node_0 b) = true) : Sx.PureP (Sx.AV.int false IntKind.i64 (8 : Int)) (call3 20 [.agg [.int true .u8 k, .str true n, .str true a, .str true b, .str true c, .str true d, .raw true v, .int true .i64 ph]] (Sx.G.on [false, false, false, false, true])) := Sx.eqq (q := (((((True ∧ ((!rowOf_5 k) = false)) ∧ ((!name_1 n) = false)) ∧ ((!decide (name_0 n = k)) = false)) ∧ ((!node_0 a) = false)) ∧ ((!node_0 b) = true))) (by kernel_rfl) ⟨⟨⟨⟨⟨trivial, c0⟩, c1⟩, c2⟩, c3⟩, c4⟩
theorem chk_r25 (k : Int) (n a b c d : List UInt8) (v : Nat) (ph : Int) (c0 : (!rowOf_5 k) = false) (c1 : (!name_1 n) = false) (c2 : (!decide (name_0 n = k)) = false) (c3 : (!node_0 a) = true) : Sx.PureP (Sx.AV.int false IntKind.i64 (8 : Int)) (call3 20 [.agg [.int true .u8 k, .str true n, .str true a, .str true b, .str true c, .str true d, .raw true v, .int true .i64 ph]] (Sx.G.on [false, false, false, true])) := Sx.eqq (q := ((((True ∧ ((!rowOf_5 k) = false)) ∧ ((!name_1 n) = false)) ∧ ((!decide (name_0 n = k)) = false)) ∧ ((!node_0 a) = true))) (by kernel_rfl) ⟨⟨⟨⟨trivial, c0⟩, c1⟩, c2⟩, c3⟩
theorem chk_r26 (k : Int) (n a b c d : List UInt8) (v : Nat) (ph : Int) (c0 : (!rowOf_5 k) = false) (c1 : (!name_1 n) = false) (c2 : (!decide (name_0 n = k)) = true) : Sx.PureP (Sx.AV.int false IntKind.i64 (8 : Int)) (call3 20 [.agg [.int true .u8 k, .str true n, .str true a, .str true b, .str true c, .str true d, .raw true v, .int true .i64 ph]] (Sx.G.on [false, false, true])) := Sx.eqq (q := (((True ∧ ((!rowOf_5 k) = false)) ∧ ((!name_1 n) = false)) ∧ ((!decide (name_0 n = k)) = true))) (by kernel_rfl) ⟨⟨⟨trivial, c0⟩, c1⟩, c2⟩
theorem chk_r27 (k : Int) (n a b c d : List UInt8) (v : Nat) (ph : Int) (c0 : (!rowOf_5 k) = false) (c1 : (!name_1 n) = true) : Sx.PureP (Sx.AV.int false IntKind.i64 (8 : Int)) (call3 20 [.agg [.int true .u8 k, .str true n, .str true a, .str true b, .str true c, .str true d, .raw true v, .int true .i64 ph]] (Sx.G.on [false, true])) := Sx.eqq (q := ((True ∧ ((!rowOf_5 k) = false)) ∧ ((!name_1 n) = true))) (by kernel_rfl) ⟨⟨trivial, c0⟩, c1⟩
theorem chk_r28 (k : Int) (n a b c d : List UInt8) (v : Nat) (ph : Int) (c0 : (!rowOf_5 k) = true) : Sx.PureP (Sx.AV.int false IntKind.i64 (2 : Int)) (call3 20 [.agg [.int true .u8 k, .str true n, .str true a, .str true b, .str true c, .str true d, .raw true v, .int true .i64 ph]] (Sx.G.on [true])) := Sx.eqq (q := (True ∧ ((!rowOf_5 k) = true))) (by kernel_rfl) ⟨trivial, c0⟩
noncomputable def chk_0 (k : Int) (n a b c d : List UInt8) (v : Nat) (ph : Int) : Int := (bif rowOf_5 k then (bif name_1 n then (bif decide (name_0 n = k) then (bif node_0 a then (bif node_0 b then (bif rowOf_3 k then (bif node_0 c then (bif node_0 d then (bif a == b then ((2 : Int)) else (bif rowOf_4 k then (bif decide ((2 : Int) < Sx.kindDef v) then ((5 : Int)) else (bif rowOf_2 k then (bif Sx.fle (Sx.cn v) (0 : Nat) then ((2 : Int)) else ((0 : Int))) else ((0 : Int)))) else (bif decide (ph = (0 : Int)) then (bif decide ((2 : Int) < Sx.kindDef v) then ((5 : Int)) else (bif rowOf_2 k then (bif Sx.fle (Sx.cn v) (0 : Nat) then ((2 : Int)) else ((0 : Int))) else ((0 : Int)))) else ((2 : Int))))) else ((8 : Int))) else ((8 : Int))) else (bif a == b then ((2 : Int)) else (bif c == [] then (bif d == [] then (bif rowOf_4 k then (bif decide ((2 : Int) < Sx.kindDef v) then ((5 : Int)) else (bif rowOf_2 k then (bif Sx.fle (Sx.cn v) (0 : Nat) then ((2 : Int)) else ((0 : Int))) else ((0 : Int)))) else (bif decide (ph = (0 : Int)) then (bif decide ((2 : Int) < Sx.kindDef v) then ((5 : Int)) else (bif rowOf_2 k then (bif Sx.fle (Sx.cn v) (0 : Nat) then ((2 : Int)) else ((0 : Int))) else ((0 : Int)))) else ((2 : Int)))) else ((2 : Int))) else ((2 : Int))))) else ((8 : Int))) else ((8 : Int))) else ((8 : Int))) else ((8 : Int))) else ((2 : Int)))
noncomputable def chkS : List Sx.AV → Sx.M Sx.AV
 | [.agg [.int s0 .u8 k, .str s1 n, .str s2 a, .str s3 b, .str s4 c, .str s5 d, .raw s6 v, .int s7 .i64 ph]] => Sx.M.ret (Sx.AV.int (Bool.or s0 (Bool.or s1 (Bool.or s2 (Bool.or s3 (Bool.or s4 (Bool.or s5 (Bool.or s6 s7))))))) (IntKind.i64) (chk_0 k n a b c d v ph))
 | args => call3 20 args
theorem chkS_ok : ∀ args v g g', chkS args g = .done v g' → Sx.CallIs Try.prog 20 args v g g' := by
 intro args v g g' h
 unfold chkS at h
 split at h
 ·rename_i s0 k s1 n s2 a s3 b s4 c s5 d s6 v s7 ph
  obtain ⟨rfl, rfl⟩ := Sx.ret_done h
  refine Sx.scal call3_ok fun μ cargs ha => ?_
  have ha' : Sx.Reps 0 Sx.MM.none [.agg [.int true .u8 k, .str true n, .str true a, .str true b, .str true c, .str true d, .raw true v, .int true .i64 ph]] cargs.toList := by simpa only [Sx.Reps, Sx.Rep] using ha
  cases t0 : rowOf_5 k with
  | true =>
   cases t1 : name_1 n with
   | true =>
    cases t2 : decide (name_0 n = k) with
    | true =>
     cases t3 : node_0 a with
     | true =>
      cases t4 : node_0 b with
      | true =>
       cases t5 : rowOf_3 k with
       | true =>
        cases t6 : node_0 c with
        | true =>
         cases t7 : node_0 d with
         | true =>
          cases t8 : a == b with
          | true =>
           exact ⟨_, _, _, ha', chk_r0 k n a b c d v ph (by rw [t0]; rfl) (by rw [t1]; rfl) (by rw [t2]; rfl) (by rw [t3]; rfl) (by rw [t4]; rfl) t5 (by rw [t6]; rfl) (by rw [t7]; rfl) t8, rfl, fun cv hc => by have := hc g.nx μ; have e0 : chk_0 k n a b c d v ph = ((2 : Int)) := (Sx.ct t0).trans ((Sx.ct t1).trans ((Sx.ct t2).trans ((Sx.ct t3).trans ((Sx.ct t4).trans ((Sx.ct t5).trans ((Sx.ct t6).trans ((Sx.ct t7).trans ((Sx.ct t8).trans (rfl))))))))); rw [e0]; simpa only [Sx.Rep, Sx.Reps, Sx.Rep_cmpB] using this⟩
          | false =>
           cases t9 : rowOf_4 k with
           | true =>
            cases t10 : decide ((2 : Int) < Sx.kindDef v) with
            | true =>
             exact ⟨_, _, _, ha', chk_r1 k n a b c d v ph (by rw [t0]; rfl) (by rw [t1]; rfl) (by rw [t2]; rfl) (by rw [t3]; rfl) (by rw [t4]; rfl) t5 (by rw [t6]; rfl) (by rw [t7]; rfl) t8 (by rw [t5]; rfl) (by rw [t9]; rfl) t10, rfl, fun cv hc => by have := hc g.nx μ; have e0 : chk_0 k n a b c d v ph = ((5 : Int)) := (Sx.ct t0).trans ((Sx.ct t1).trans ((Sx.ct t2).trans ((Sx.ct t3).trans ((Sx.ct t4).trans ((Sx.ct t5).trans ((Sx.ct t6).trans ((Sx.ct t7).trans ((Sx.cf t8).trans ((Sx.ct t9).trans ((Sx.ct t10).trans (rfl))))))))))); rw [e0]; simpa only [Sx.Rep, Sx.Reps, Sx.Rep_cmpB] using this⟩
            | false =>
             cases t11 : rowOf_2 k with
             | true =>
              cases t12 : Sx.fle (Sx.cn v) (0 : Nat) with
              | true =>
               exact ⟨_, _, _, ha', chk_r2 k n a b c d v ph (by rw [t0]; rfl) (by rw [t1]; rfl) (by rw [t2]; rfl) (by rw [t3]; rfl) (by rw [t4]; rfl) t5 (by rw [t6]; rfl) (by rw [t7]; rfl) t8 (by rw [t5]; rfl) (by rw [t9]; rfl) t10 t11 t12, rfl, fun cv hc => by have := hc g.nx μ; have e0 : chk_0 k n a b c d v ph = ((2 : Int)) := (Sx.ct t0).trans ((Sx.ct t1).trans ((Sx.ct t2).trans ((Sx.ct t3).trans ((Sx.ct t4).trans ((Sx.ct t5).trans ((Sx.ct t6).trans ((Sx.ct t7).trans ((Sx.cf t8).trans ((Sx.ct t9).trans ((Sx.cf t10).trans ((Sx.ct t11).trans ((Sx.ct t12).trans (rfl))))))))))))); rw [e0]; simpa only [Sx.Rep, Sx.Reps, Sx.Rep_cmpB] using this⟩
              | false =>
               exact ⟨_, _, _, ha', chk_r3 k n a b c d v ph (by rw [t0]; rfl) (by rw [t1]; rfl) (by rw [t2]; rfl) (by rw [t3]; rfl) (by rw [t4]; rfl) t5 (by rw [t6]; rfl) (by rw [t7]; rfl) t8 (by rw [t5]; rfl) (by rw [t9]; rfl) t10 t11 t12, rfl, fun cv hc => by have := hc g.nx μ; have e0 : chk_0 k n a b c d v ph = ((0 : Int)) := (Sx.ct t0).trans ((Sx.ct t1).trans ((Sx.ct t2).trans ((Sx.ct t3).trans ((Sx.ct t4).trans ((Sx.ct t5).trans ((Sx.ct t6).trans ((Sx.ct t7).trans ((Sx.cf t8).trans ((Sx.ct t9).trans ((Sx.cf t10).trans ((Sx.ct t11).trans ((Sx.cf t12).trans (rfl))))))))))))); rw [e0]; simpa only [Sx.Rep, Sx.Reps, Sx.Rep_cmpB] using this⟩
             | false =>
              exact ⟨_, _, _, ha', chk_r4 k n a b c d v ph (by rw [t0]; rfl) (by rw [t1]; rfl) (by rw [t2]; rfl) (by rw [t3]; rfl) (by rw [t4]; rfl) t5 (by rw [t6]; rfl) (by rw [t7]; rfl) t8 (by rw [t5]; rfl) (by rw [t9]; rfl) t10 t11, rfl, fun cv hc => by have := hc g.nx μ; have e0 : chk_0 k n a b c d v ph = ((0 : Int)) := (Sx.ct t0).trans ((Sx.ct t1).trans ((Sx.ct t2).trans ((Sx.ct t3).trans ((Sx.ct t4).trans ((Sx.ct t5).trans ((Sx.ct t6).trans ((Sx.ct t7).trans ((Sx.cf t8).trans ((Sx.ct t9).trans ((Sx.cf t10).trans ((Sx.cf t11).trans (rfl)))))))))))); rw [e0]; simpa only [Sx.Rep, Sx.Reps, Sx.Rep_cmpB] using this⟩
           | false =>
            cases t10 : decide (ph = (0 : Int)) with
            | true =>
             cases t11 : decide ((2 : Int) < Sx.kindDef v) with
             | true =>
              exact ⟨_, _, _, ha', chk_r5 k n a b c d v ph (by rw [t0]; rfl) (by rw [t1]; rfl) (by rw [t2]; rfl) (by rw [t3]; rfl) (by rw [t4]; rfl) t5 (by rw [t6]; rfl) (by rw [t7]; rfl) t8 (by rw [t5]; rfl) (by rw [t9]; rfl) (by rw [t10]; rfl) t11, rfl, fun cv hc => by have := hc g.nx μ; have e0 : chk_0 k n a b c d v ph = ((5 : Int)) := (Sx.ct t0).trans ((Sx.ct t1).trans ((Sx.ct t2).trans ((Sx.ct t3).trans ((Sx.ct t4).trans ((Sx.ct t5).trans ((Sx.ct t6).trans ((Sx.ct t7).trans ((Sx.cf t8).trans ((Sx.cf t9).trans ((Sx.ct t10).trans ((Sx.ct t11).trans (rfl)))))))))))); rw [e0]; simpa only [Sx.Rep, Sx.Reps, Sx.Rep_cmpB] using this⟩
             | false =>
              cases t12 : rowOf_2 k with
              | true =>
               cases t13 : Sx.fle (Sx.cn v) (0 : Nat) with
               | true =>
                exact ⟨_, _, _, ha', chk_r6 k n a b c d v ph (by rw [t0]; rfl) (by rw [t1]; rfl) (by rw [t2]; rfl) (by rw [t3]; rfl) (by rw [t4]; rfl) t5 (by rw [t6]; rfl) (by rw [t7]; rfl) t8 (by rw [t5]; rfl) (by rw [t9]; rfl) (by rw [t10]; rfl) t11 t12 t13, rfl, fun cv hc => by have := hc g.nx μ; have e0 : chk_0 k n a b c d v ph = ((2 : Int)) := (Sx.ct t0).trans ((Sx.ct t1).trans ((Sx.ct t2).trans ((Sx.ct t3).trans ((Sx.ct t4).trans ((Sx.ct t5).trans ((Sx.ct t6).trans ((Sx.ct t7).trans ((Sx.cf t8).trans ((Sx.cf t9).trans ((Sx.ct t10).trans ((Sx.cf t11).trans ((Sx.ct t12).trans ((Sx.ct t13).trans (rfl)))))))))))))); rw [e0]; simpa only [Sx.Rep, Sx.Reps, Sx.Rep_cmpB] using this⟩
               | false =>
                exact ⟨_, _, _, ha', chk_r7 k n a b c d v ph (by rw [t0]; rfl) (by rw [t1]; rfl) (by rw [t2]; rfl) (by rw [t3]; rfl) (by rw [t4]; rfl) t5 (by rw [t6]; rfl) (by rw [t7]; rfl) t8 (by rw [t5]; rfl) (by rw [t9]; rfl) (by rw [t10]; rfl) t11 t12 t13, rfl, fun cv hc => by have := hc g.nx μ; have e0 : chk_0 k n a b c d v ph = ((0 : Int)) := (Sx.ct t0).trans ((Sx.ct t1).trans ((Sx.ct t2).trans ((Sx.ct t3).trans ((Sx.ct t4).trans ((Sx.ct t5).trans ((Sx.ct t6).trans ((Sx.ct t7).trans ((Sx.cf t8).trans ((Sx.cf t9).trans ((Sx.ct t10).trans ((Sx.cf t11).trans ((Sx.ct t12).trans ((Sx.cf t13).trans (rfl)))))))))))))); rw [e0]; simpa only [Sx.Rep, Sx.Reps, Sx.Rep_cmpB] using this⟩
              | false =>
               exact ⟨_, _, _, ha', chk_r8 k n a b c d v ph (by rw [t0]; rfl) (by rw [t1]; rfl) (by rw [t2]; rfl) (by rw [t3]; rfl) (by rw [t4]; rfl) t5 (by rw [t6]; rfl) (by rw [t7]; rfl) t8 (by rw [t5]; rfl) (by rw [t9]; rfl) (by rw [t10]; rfl) t11 t12, rfl, fun cv hc => by have := hc g.nx μ; have e0 : chk_0 k n a b c d v ph = ((0 : Int)) := (Sx.ct t0).trans ((Sx.ct t1).trans ((Sx.ct t2).trans ((Sx.ct t3).trans ((Sx.ct t4).trans ((Sx.ct t5).trans ((Sx.ct t6).trans ((Sx.ct t7).trans ((Sx.cf t8).trans ((Sx.cf t9).trans ((Sx.ct t10).trans ((Sx.cf t11).trans ((Sx.cf t12).trans (rfl))))))))))))); rw [e0]; simpa only [Sx.Rep, Sx.Reps, Sx.Rep_cmpB] using this⟩
            | false =>
             exact ⟨_, _, _, ha', chk_r9 k n a b c d v ph (by rw [t0]; rfl) (by rw [t1]; rfl) (by rw [t2]; rfl) (by rw [t3]; rfl) (by rw [t4]; rfl) t5 (by rw [t6]; rfl) (by rw [t7]; rfl) t8 (by rw [t5]; rfl) (by rw [t9]; rfl) (by rw [t10]; rfl), rfl, fun cv hc => by have := hc g.nx μ; have e0 : chk_0 k n a b c d v ph = ((2 : Int)) := (Sx.ct t0).trans ((Sx.ct t1).trans ((Sx.ct t2).trans ((Sx.ct t3).trans ((Sx.ct t4).trans ((Sx.ct t5).trans ((Sx.ct t6).trans ((Sx.ct t7).trans ((Sx.cf t8).trans ((Sx.cf t9).trans ((Sx.cf t10).trans (rfl))))))))))); rw [e0]; simpa only [Sx.Rep, Sx.Reps, Sx.Rep_cmpB] using this⟩
         | false =>
          exact ⟨_, _, _, ha', chk_r10 k n a b c d v ph (by rw [t0]; rfl) (by rw [t1]; rfl) (by rw [t2]; rfl) (by rw [t3]; rfl) (by rw [t4]; rfl) t5 (by rw [t6]; rfl) (by rw [t7]; rfl), rfl, fun cv hc => by have := hc g.nx μ; have e0 : chk_0 k n a b c d v ph = ((8 : Int)) := (Sx.ct t0).trans ((Sx.ct t1).trans ((Sx.ct t2).trans ((Sx.ct t3).trans ((Sx.ct t4).trans ((Sx.ct t5).trans ((Sx.ct t6).trans ((Sx.cf t7).trans (rfl)))))))); rw [e0]; simpa only [Sx.Rep, Sx.Reps, Sx.Rep_cmpB] using this⟩
        | false =>
         exact ⟨_, _, _, ha', chk_r11 k n a b c d v ph (by rw [t0]; rfl) (by rw [t1]; rfl) (by rw [t2]; rfl) (by rw [t3]; rfl) (by rw [t4]; rfl) t5 (by rw [t6]; rfl), rfl, fun cv hc => by have := hc g.nx μ; have e0 : chk_0 k n a b c d v ph = ((8 : Int)) := (Sx.ct t0).trans ((Sx.ct t1).trans ((Sx.ct t2).trans ((Sx.ct t3).trans ((Sx.ct t4).trans ((Sx.ct t5).trans ((Sx.cf t6).trans (rfl))))))); rw [e0]; simpa only [Sx.Rep, Sx.Reps, Sx.Rep_cmpB] using this⟩
       | false =>
        cases t6 : a == b with
        | true =>
         exact ⟨_, _, _, ha', chk_r12 k n a b c d v ph (by rw [t0]; rfl) (by rw [t1]; rfl) (by rw [t2]; rfl) (by rw [t3]; rfl) (by rw [t4]; rfl) t5 t6, rfl, fun cv hc => by have := hc g.nx μ; have e0 : chk_0 k n a b c d v ph = ((2 : Int)) := (Sx.ct t0).trans ((Sx.ct t1).trans ((Sx.ct t2).trans ((Sx.ct t3).trans ((Sx.ct t4).trans ((Sx.cf t5).trans ((Sx.ct t6).trans (rfl))))))); rw [e0]; simpa only [Sx.Rep, Sx.Reps, Sx.Rep_cmpB] using this⟩
        | false =>
         cases t7 : c == [] with
         | true =>
          cases t8 : d == [] with
          | true =>
           cases t9 : rowOf_4 k with
           | true =>
            cases t10 : decide ((2 : Int) < Sx.kindDef v) with
            | true =>
             exact ⟨_, _, _, ha', chk_r13 k n a b c d v ph (by rw [t0]; rfl) (by rw [t1]; rfl) (by rw [t2]; rfl) (by rw [t3]; rfl) (by rw [t4]; rfl) t5 t6 (by rw [t5]; rfl) (by rw [t7]; rfl) (by rw [t8]; rfl) (by rw [t9]; rfl) t10, rfl, fun cv hc => by have := hc g.nx μ; have e0 : chk_0 k n a b c d v ph = ((5 : Int)) := (Sx.ct t0).trans ((Sx.ct t1).trans ((Sx.ct t2).trans ((Sx.ct t3).trans ((Sx.ct t4).trans ((Sx.cf t5).trans ((Sx.cf t6).trans ((Sx.ct t7).trans ((Sx.ct t8).trans ((Sx.ct t9).trans ((Sx.ct t10).trans (rfl))))))))))); rw [e0]; simpa only [Sx.Rep, Sx.Reps, Sx.Rep_cmpB] using this⟩
            | false =>
             cases t11 : rowOf_2 k with
             | true =>
              cases t12 : Sx.fle (Sx.cn v) (0 : Nat) with
              | true =>
               exact ⟨_, _, _, ha', chk_r14 k n a b c d v ph (by rw [t0]; rfl) (by rw [t1]; rfl) (by rw [t2]; rfl) (by rw [t3]; rfl) (by rw [t4]; rfl) t5 t6 (by rw [t5]; rfl) (by rw [t7]; rfl) (by rw [t8]; rfl) (by rw [t9]; rfl) t10 t11 t12, rfl, fun cv hc => by have := hc g.nx μ; have e0 : chk_0 k n a b c d v ph = ((2 : Int)) := (Sx.ct t0).trans ((Sx.ct t1).trans ((Sx.ct t2).trans ((Sx.ct t3).trans ((Sx.ct t4).trans ((Sx.cf t5).trans ((Sx.cf t6).trans ((Sx.ct t7).trans ((Sx.ct t8).trans ((Sx.ct t9).trans ((Sx.cf t10).trans ((Sx.ct t11).trans ((Sx.ct t12).trans (rfl))))))))))))); rw [e0]; simpa only [Sx.Rep, Sx.Reps, Sx.Rep_cmpB] using this⟩
              | false =>
               exact ⟨_, _, _, ha', chk_r15 k n a b c d v ph (by rw [t0]; rfl) (by rw [t1]; rfl) (by rw [t2]; rfl) (by rw [t3]; rfl) (by rw [t4]; rfl) t5 t6 (by rw [t5]; rfl) (by rw [t7]; rfl) (by rw [t8]; rfl) (by rw [t9]; rfl) t10 t11 t12, rfl, fun cv hc => by have := hc g.nx μ; have e0 : chk_0 k n a b c d v ph = ((0 : Int)) := (Sx.ct t0).trans ((Sx.ct t1).trans ((Sx.ct t2).trans ((Sx.ct t3).trans ((Sx.ct t4).trans ((Sx.cf t5).trans ((Sx.cf t6).trans ((Sx.ct t7).trans ((Sx.ct t8).trans ((Sx.ct t9).trans ((Sx.cf t10).trans ((Sx.ct t11).trans ((Sx.cf t12).trans (rfl))))))))))))); rw [e0]; simpa only [Sx.Rep, Sx.Reps, Sx.Rep_cmpB] using this⟩
             | false =>
              exact ⟨_, _, _, ha', chk_r16 k n a b c d v ph (by rw [t0]; rfl) (by rw [t1]; rfl) (by rw [t2]; rfl) (by rw [t3]; rfl) (by rw [t4]; rfl) t5 t6 (by rw [t5]; rfl) (by rw [t7]; rfl) (by rw [t8]; rfl) (by rw [t9]; rfl) t10 t11, rfl, fun cv hc => by have := hc g.nx μ; have e0 : chk_0 k n a b c d v ph = ((0 : Int)) := (Sx.ct t0).trans ((Sx.ct t1).trans ((Sx.ct t2).trans ((Sx.ct t3).trans ((Sx.ct t4).trans ((Sx.cf t5).trans ((Sx.cf t6).trans ((Sx.ct t7).trans ((Sx.ct t8).trans ((Sx.ct t9).trans ((Sx.cf t10).trans ((Sx.cf t11).trans (rfl)))))))))))); rw [e0]; simpa only [Sx.Rep, Sx.Reps, Sx.Rep_cmpB] using this⟩
           | false =>
            cases t10 : decide (ph = (0 : Int)) with
            | true =>
             cases t11 : decide ((2 : Int) < Sx.kindDef v) with
             | true =>
              exact ⟨_, _, _, ha', chk_r17 k n a b c d v ph (by rw [t0]; rfl) (by rw [t1]; rfl) (by rw [t2]; rfl) (by rw [t3]; rfl) (by rw [t4]; rfl) t5 t6 (by rw [t5]; rfl) (by rw [t7]; rfl) (by rw [t8]; rfl) (by rw [t9]; rfl) (by rw [t10]; rfl) t11, rfl, fun cv hc => by have := hc g.nx μ; have e0 : chk_0 k n a b c d v ph = ((5 : Int)) := (Sx.ct t0).trans ((Sx.ct t1).trans ((Sx.ct t2).trans ((Sx.ct t3).trans ((Sx.ct t4).trans ((Sx.cf t5).trans ((Sx.cf t6).trans ((Sx.ct t7).trans ((Sx.ct t8).trans ((Sx.cf t9).trans ((Sx.ct t10).trans ((Sx.ct t11).trans (rfl)))))))))))); rw [e0]; simpa only [Sx.Rep, Sx.Reps, Sx.Rep_cmpB] using this⟩
             | false =>
              cases t12 : rowOf_2 k with
              | true =>
               cases t13 : Sx.fle (Sx.cn v) (0 : Nat) with
               | true =>
                exact ⟨_, _, _, ha', chk_r18 k n a b c d v ph (by rw [t0]; rfl) (by rw [t1]; rfl) (by rw [t2]; rfl) (by rw [t3]; rfl) (by rw [t4]; rfl) t5 t6 (by rw [t5]; rfl) (by rw [t7]; rfl) (by rw [t8]; rfl) (by rw [t9]; rfl) (by rw [t10]; rfl) t11 t12 t13, rfl, fun cv hc => by have := hc g.nx μ; have e0 : chk_0 k n a b c d v ph = ((2 : Int)) := (Sx.ct t0).trans ((Sx.ct t1).trans ((Sx.ct t2).trans ((Sx.ct t3).trans ((Sx.ct t4).trans ((Sx.cf t5).trans ((Sx.cf t6).trans ((Sx.ct t7).trans ((Sx.ct t8).trans ((Sx.cf t9).trans ((Sx.ct t10).trans ((Sx.cf t11).trans ((Sx.ct t12).trans ((Sx.ct t13).trans (rfl)))))))))))))); rw [e0]; simpa only [Sx.Rep, Sx.Reps, Sx.Rep_cmpB] using this⟩
               | false =>
                exact ⟨_, _, _, ha', chk_r19 k n a b c d v ph (by rw [t0]; rfl) (by rw [t1]; rfl) (by rw [t2]; rfl) (by rw [t3]; rfl) (by rw [t4]; rfl) t5 t6 (by rw [t5]; rfl) (by rw [t7]; rfl) (by rw [t8]; rfl) (by rw [t9]; rfl) (by rw [t10]; rfl) t11 t12 t13, rfl, fun cv hc => by have := hc g.nx μ; have e0 : chk_0 k n a b c d v ph = ((0 : Int)) := (Sx.ct t0).trans ((Sx.ct t1).trans ((Sx.ct t2).trans ((Sx.ct t3).trans ((Sx.ct t4).trans ((Sx.cf t5).trans ((Sx.cf t6).trans ((Sx.ct t7).trans ((Sx.ct t8).trans ((Sx.cf t9).trans ((Sx.ct t10).trans ((Sx.cf t11).trans ((Sx.ct t12).trans ((Sx.cf t13).trans (rfl)))))))))))))); rw [e0]; simpa only [Sx.Rep, Sx.Reps, Sx.Rep_cmpB] using this⟩
              | false =>
               exact ⟨_, _, _, ha', chk_r20 k n a b c d v ph (by rw [t0]; rfl) (by rw [t1]; rfl) (by rw [t2]; rfl) (by rw [t3]; rfl) (by rw [t4]; rfl) t5 t6 (by rw [t5]; rfl) (by rw [t7]; rfl) (by rw [t8]; rfl) (by rw [t9]; rfl) (by rw [t10]; rfl) t11 t12, rfl, fun cv hc => by have := hc g.nx μ; have e0 : chk_0 k n a b c d v ph = ((0 : Int)) := (Sx.ct t0).trans ((Sx.ct t1).trans ((Sx.ct t2).trans ((Sx.ct t3).trans ((Sx.ct t4).trans ((Sx.cf t5).trans ((Sx.cf t6).trans ((Sx.ct t7).trans ((Sx.ct t8).trans ((Sx.cf t9).trans ((Sx.ct t10).trans ((Sx.cf t11).trans ((Sx.cf t12).trans (rfl))))))))))))); rw [e0]; simpa only [Sx.Rep, Sx.Reps, Sx.Rep_cmpB] using this⟩
            | false =>
             exact ⟨_, _, _, ha', chk_r21 k n a b c d v ph (by rw [t0]; rfl) (by rw [t1]; rfl) (by rw [t2]; rfl) (by rw [t3]; rfl) (by rw [t4]; rfl) t5 t6 (by rw [t5]; rfl) (by rw [t7]; rfl) (by rw [t8]; rfl) (by rw [t9]; rfl) (by rw [t10]; rfl), rfl, fun cv hc => by have := hc g.nx μ; have e0 : chk_0 k n a b c d v ph = ((2 : Int)) := (Sx.ct t0).trans ((Sx.ct t1).trans ((Sx.ct t2).trans ((Sx.ct t3).trans ((Sx.ct t4).trans ((Sx.cf t5).trans ((Sx.cf t6).trans ((Sx.ct t7).trans ((Sx.ct t8).trans ((Sx.cf t9).trans ((Sx.cf t10).trans (rfl))))))))))); rw [e0]; simpa only [Sx.Rep, Sx.Reps, Sx.Rep_cmpB] using this⟩
          | false =>
           exact ⟨_, _, _, ha', chk_r22 k n a b c d v ph (by rw [t0]; rfl) (by rw [t1]; rfl) (by rw [t2]; rfl) (by rw [t3]; rfl) (by rw [t4]; rfl) t5 t6 (by rw [t5]; rfl) (by rw [t7]; rfl) (by rw [t8]; rfl), rfl, fun cv hc => by have := hc g.nx μ; have e0 : chk_0 k n a b c d v ph = ((2 : Int)) := (Sx.ct t0).trans ((Sx.ct t1).trans ((Sx.ct t2).trans ((Sx.ct t3).trans ((Sx.ct t4).trans ((Sx.cf t5).trans ((Sx.cf t6).trans ((Sx.ct t7).trans ((Sx.cf t8).trans (rfl))))))))); rw [e0]; simpa only [Sx.Rep, Sx.Reps, Sx.Rep_cmpB] using this⟩
         | false =>
          exact ⟨_, _, _, ha', chk_r23 k n a b c d v ph (by rw [t0]; rfl) (by rw [t1]; rfl) (by rw [t2]; rfl) (by rw [t3]; rfl) (by rw [t4]; rfl) t5 t6 (by rw [t5]; rfl) (by rw [t7]; rfl), rfl, fun cv hc => by have := hc g.nx μ; have e0 : chk_0 k n a b c d v ph = ((2 : Int)) := (Sx.ct t0).trans ((Sx.ct t1).trans ((Sx.ct t2).trans ((Sx.ct t3).trans ((Sx.ct t4).trans ((Sx.cf t5).trans ((Sx.cf t6).trans ((Sx.cf t7).trans (rfl)))))))); rw [e0]; simpa only [Sx.Rep, Sx.Reps, Sx.Rep_cmpB] using this⟩
      | false =>
       exact ⟨_, _, _, ha', chk_r24 k n a b c d v ph (by rw [t0]; rfl) (by rw [t1]; rfl) (by rw [t2]; rfl) (by rw [t3]; rfl) (by rw [t4]; rfl), rfl, fun cv hc => by have := hc g.nx μ; have e0 : chk_0 k n a b c d v ph = ((8 : Int)) := (Sx.ct t0).trans ((Sx.ct t1).trans ((Sx.ct t2).trans ((Sx.ct t3).trans ((Sx.cf t4).trans (rfl))))); rw [e0]; simpa only [Sx.Rep, Sx.Reps, Sx.Rep_cmpB] using this⟩
     | false =>
      exact ⟨_, _, _, ha', chk_r25 k n a b c d v ph (by rw [t0]; rfl) (by rw [t1]; rfl) (by rw [t2]; rfl) (by rw [t3]; rfl), rfl, fun cv hc => by have := hc g.nx μ; have e0 : chk_0 k n a b c d v ph = ((8 : Int)) := (Sx.ct t0).trans ((Sx.ct t1).trans ((Sx.ct t2).trans ((Sx.cf t3).trans (rfl)))); rw [e0]; simpa only [Sx.Rep, Sx.Reps, Sx.Rep_cmpB] using this⟩
    | false =>
     exact ⟨_, _, _, ha', chk_r26 k n a b c d v ph (by rw [t0]; rfl) (by rw [t1]; rfl) (by rw [t2]; rfl), rfl, fun cv hc => by have := hc g.nx μ; have e0 : chk_0 k n a b c d v ph = ((8 : Int)) := (Sx.ct t0).trans ((Sx.ct t1).trans ((Sx.cf t2).trans (rfl))); rw [e0]; simpa only [Sx.Rep, Sx.Reps, Sx.Rep_cmpB] using this⟩
   | false =>
    exact ⟨_, _, _, ha', chk_r27 k n a b c d v ph (by rw [t0]; rfl) (by rw [t1]; rfl), rfl, fun cv hc => by have := hc g.nx μ; have e0 : chk_0 k n a b c d v ph = ((8 : Int)) := (Sx.ct t0).trans ((Sx.cf t1).trans (rfl)); rw [e0]; simpa only [Sx.Rep, Sx.Reps, Sx.Rep_cmpB] using this⟩
  | false =>
   exact ⟨_, _, _, ha', chk_r28 k n a b c d v ph (by rw [t0]; rfl), rfl, fun cv hc => by have := hc g.nx μ; have e0 : chk_0 k n a b c d v ph = ((2 : Int)) := (Sx.cf t0).trans (rfl); rw [e0]; simpa only [Sx.Rep, Sx.Reps, Sx.Rep_cmpB] using this⟩
 ·exact call3_ok _ _ _ _ _ h
theorem chkS_tch : ∀ args, Sx.Tch (chkS args) := by
 intro args
 unfold chkS
 split
 ·exact Sx.Tch.ret _
 ·exact call3_tch _ _
noncomputable def gamE : Sx.Known := Sx.kc 24 Sx.ofBits (Sx.kc 39 Sx.toBits (Sx.kc 29 smallS (Sx.kc 34 kindS (Sx.kc 31 rowOfS (Sx.kc 10 ofS (Sx.kc 8 nameS (Sx.kc 12 nodeS (Sx.kc 20 chkS (Sx.kn)))))))))
theorem gamE_ok : Sx.KnownOk Try.prog gamE := Sx.kc_ok ((Sx.ofBits_is Try.prog).callIs Try.func24 (by kernel_rfl) (by kernel_rfl) (by kernel_rfl) (by kernel_rfl)) (Sx.kc_ok ((Sx.toBits_is Try.prog).callIs Try.func39 (by kernel_rfl) (by kernel_rfl) (by kernel_rfl) (by kernel_rfl)) (Sx.kc_ok smallS_ok (Sx.kc_ok kindS_ok (Sx.kc_ok rowOfS_ok (Sx.kc_ok ofS_ok (Sx.kc_ok nameS_ok (Sx.kc_ok nodeS_ok (Sx.kc_ok chkS_ok (Sx.kn_ok)))))))))
theorem gamE_tch : Sx.KnownT gamE := Sx.kc_tch Sx.Tch.ofBits (Sx.kc_tch Sx.Tch.toBits (Sx.kc_tch smallS_tch (Sx.kc_tch kindS_tch (Sx.kc_tch rowOfS_tch (Sx.kc_tch ofS_tch (Sx.kc_tch nameS_tch (Sx.kc_tch nodeS_tch (Sx.kc_tch chkS_tch (Sx.kn_tch)))))))))
noncomputable def callE : Sx.Calls' := Sx.runN Try.prog gamE (Sx.regionC Try.prog) 1000 50
theorem callE_ok : Sx.CallOk Try.prog callE := Sx.engineC gamE_ok gamE_tch (by kernel_rfl) (by kernel_rfl) 1000 50
theorem callE_tch : Sx.CallT callE := Sx.runA_tch gamE_tch (fun _ _ _ h => by cases h) (fun call hc n l fr => Sx.regionC_tch hc n l fr) 50
theorem callE_reg (n : Nat) : Sx.RegionOk Try.prog (Sx.regionC Try.prog callE n) n := Sx.runN_regionC gamE_ok gamE_tch (by kernel_rfl) (by kernel_rfl) 1000 50 n
noncomputable abbrev piececallE (f : Func) (c : Code) (fr : Sx.Fr) (H : Sx.T Sx.ABk) (K : Nat) (path : List Bool) : Sx.Res (Sx.Ex × Sx.Fr) :=
 Sx.codeA Try.prog callE (Sx.regionC Try.prog callE f.ntmps) Sx.noLoops f.ntmps 1000 c fr ⟨H, K, [], path, True⟩
theorem awake_run : Sx.pureP (.bool true) (callE 18 [] (Sx.G.on [])) = (Sx.AV.bool true = Sx.AV.bool true ∧ True) := by kernel_rfl
noncomputable def awakeS : List Sx.AV → Sx.M Sx.AV
 | [] => Sx.M.ret (.bool true)
 | args => callE 18 args
theorem awakeS_ok : ∀ args v g g', awakeS args g = .done v g' → Sx.CallIs Try.prog 18 args v g g' := by
 intro args v g g' h
 unfold awakeS at h
 split at h
 ·obtain ⟨rfl, rfl⟩ := Sx.ret_done h
  refine Sx.scal callE_ok fun μ cargs ha => ?_
  have ha' : Sx.Reps 0 Sx.MM.none [] cargs.toList := by simpa only [Sx.Reps] using ha
  exact ⟨[], [], _, ha', ⟨by rw [awake_run]; exact ⟨rfl, trivial⟩⟩, rfl, fun c hc => by have := hc g.nx μ; simpa only [Sx.Rep] using this⟩
 ·exact callE_ok _ _ _ _ _ h
theorem awakeS_tch : ∀ args, Sx.Tch (awakeS args) := by
 intro args
 unfold awakeS
 split
 ·exact Sx.Tch.ret _
 ·exact callE_tch _ _
noncomputable def gamO : Sx.Known := Sx.kc 24 Sx.ofBits (Sx.kc 39 Sx.toBits (Sx.kc 29 smallS (Sx.kc 34 kindS (Sx.kc 31 rowOfS (Sx.kc 10 ofS (Sx.kc 8 nameS (Sx.kc 12 nodeS (Sx.kc 20 chkS (Sx.kc 18 awakeS (Sx.kn))))))))))
theorem gamO_ok : Sx.KnownOk Try.prog gamO := Sx.kc_ok ((Sx.ofBits_is Try.prog).callIs Try.func24 (by kernel_rfl) (by kernel_rfl) (by kernel_rfl) (by kernel_rfl)) (Sx.kc_ok ((Sx.toBits_is Try.prog).callIs Try.func39 (by kernel_rfl) (by kernel_rfl) (by kernel_rfl) (by kernel_rfl)) (Sx.kc_ok smallS_ok (Sx.kc_ok kindS_ok (Sx.kc_ok rowOfS_ok (Sx.kc_ok ofS_ok (Sx.kc_ok nameS_ok (Sx.kc_ok nodeS_ok (Sx.kc_ok chkS_ok (Sx.kc_ok awakeS_ok (Sx.kn_ok))))))))))
theorem gamO_tch : Sx.KnownT gamO := Sx.kc_tch Sx.Tch.ofBits (Sx.kc_tch Sx.Tch.toBits (Sx.kc_tch smallS_tch (Sx.kc_tch kindS_tch (Sx.kc_tch rowOfS_tch (Sx.kc_tch ofS_tch (Sx.kc_tch nameS_tch (Sx.kc_tch nodeS_tch (Sx.kc_tch chkS_tch (Sx.kc_tch awakeS_tch (Sx.kn_tch))))))))))
noncomputable def callO : Sx.Calls' := Sx.runN Try.prog gamO (Sx.regionC Try.prog) 1000 50
theorem callO_ok : Sx.CallOk Try.prog callO := Sx.engineC gamO_ok gamO_tch (by kernel_rfl) (by kernel_rfl) 1000 50
theorem callO_tch : Sx.CallT callO := Sx.runA_tch gamO_tch (fun _ _ _ h => by cases h) (fun call hc n l fr => Sx.regionC_tch hc n l fr) 50
theorem callO_reg (n : Nat) : Sx.RegionOk Try.prog (Sx.regionC Try.prog callO n) n := Sx.runN_regionC gamO_ok gamO_tch (by kernel_rfl) (by kernel_rfl) 1000 50 n
noncomputable abbrev piececallO (f : Func) (c : Code) (fr : Sx.Fr) (H : Sx.T Sx.ABk) (K : Nat) (path : List Bool) : Sx.Res (Sx.Ex × Sx.Fr) :=
 Sx.codeA Try.prog callO (Sx.regionC Try.prog callO f.ntmps) Sx.noLoops f.ntmps 1000 c fr ⟨H, K, [], path, True⟩

theorem ow_rng {k : Int} (h : rowOf_5 k = true) : k = 1 ∨ k = 2 ∨ k = 3 ∨ k = 4 ∨ k = 5 ∨ k = 6 ∨ k = 7 ∨ k = 8 := by
 unfold rowOf_5 at h
 simp only [Bool.cond_decide] at h
 repeat' split at h
 all_goals first | omega | cases h
theorem ow_row {k : Int} (h : rowOf_5 k = true) : of_0 (rowOf_0 k) = k ∧ of_1 (rowOf_0 k) = true ∧ rowOf_4 k = (bif decide (k = 4) then true else decide (k = 5)) ∧ rowOf_3 k = (bif decide (k = 6) then true else decide (k = 7)) ∧ rowOf_2 k = (!rowOf_4 k && !rowOf_3 k) := by
 rcases ow_rng h with rfl | rfl | rfl | rfl | rfl | rfl | rfl | rfl <;> exact ⟨rfl, rfl, rfl, rfl, rfl⟩
theorem ow_of {c k : Int} (h : of_0 c = k) (h1 : of_1 c = true) : c = rowOf_0 k := by
 subst h
 unfold of_1 at h1
 simp only [Bool.cond_decide] at h1
 have K : 82 = c ∨ 76 = c ∨ 67 = c ∨ 73 = c ∨ 86 = c ∨ 71 = c ∨ 69 = c ∨ 80 = c := by
  repeat' split at h1
  all_goals first | omega | cases h1
 rcases K with rfl | rfl | rfl | rfl | rfl | rfl | rfl | rfl <;> rfl
theorem ow_name {n : List UInt8} {k : Int} (h : name_1 n = true) (h0 : name_0 n = k) : 0 < n.length ∧ ((n.getD 0 0).toNat : Int) = rowOf_0 k := by
 unfold name_1 at h
 unfold name_0 at h0
 cases h1 : decide ((n.length : Int) < 2) with
 | true => rw [h1] at h; cases h
 | false =>
  cases h2 : decide ((16 : Int) < (n.length : Int)) with
  | true => rw [h1, h2] at h; cases h
  | false =>
   cases h3 : List.all (List.take (List.length n - (1 : Nat)) (List.drop (1 : Nat) n)) okB with
   | true =>
    rw [h1, h2, h3] at h h0
    exact ⟨by have := of_decide_eq_false h1; omega, ow_of h0 h⟩
   | false => rw [h1, h2, h3] at h; cases h
noncomputable def ow2 (f : Bool) (c d : List UInt8) : Bool := bif f then (bif node_0 c then node_0 d else false) else (bif c == [] then d == [] else false)
noncomputable def owV (r2 : Bool) (v : Nat) : Int := bif decide ((2 : Int) < Sx.kindDef v) then 5 else bif r2 then bif Sx.fle (Sx.cn v) 0 then 2 else 0 else 0
theorem ow_chk (k : Int) (n a b c d : List UInt8) (v : Nat) (ph : Int) : decide (chk_0 k n a b c d v ph = 0) = (rowOf_5 k && (name_1 n && (decide (name_0 n = k) && (node_0 a && (node_0 b && (ow2 (rowOf_3 k) c d && (!(a == b) && ((rowOf_4 k || decide (ph = 0)) && decide (owV (rowOf_2 k) v = 0))))))))) := by
 unfold chk_0 ow2 owV
 cases rowOf_5 k with
 | false => rfl
 | true =>
 cases name_1 n with
 | false => rfl
 | true =>
 cases decide (name_0 n = k) with
 | false => rfl
 | true =>
 cases node_0 a with
 | false => rfl
 | true =>
 cases node_0 b with
 | false => rfl
 | true =>
 simp only [cond_true, Bool.true_and]
 cases (a == b) <;> cases rowOf_3 k <;> cases node_0 c <;> cases node_0 d <;> cases (c == []) <;> cases (d == []) <;> cases rowOf_4 k <;> cases decide (ph = 0) <;> first | rfl | simp
theorem ow_val {k : Int} {n a b c d : List UInt8} {v : Nat} {ph : Int} (h : decide (chk_0 k n a b c d v ph = 0) = true) (x : Nat) : chk_0 k n a b c d x ph = owV (rowOf_2 k) x := by
 rw [ow_chk] at h
 simp only [Bool.and_eq_true, Bool.not_eq_true'] at h
 obtain ⟨h1, h2, h3, h4, h5, h6, h7, h8, h9⟩ := h
 unfold chk_0 owV
 unfold ow2 at h6
 rw [h1, h2, h3, h4, h5, h7]
 simp only [cond_true, cond_false]
 cases e3 : rowOf_3 k with
 | true =>
  rw [e3] at h6
  cases e1 : node_0 c with
  | false => rw [e1] at h6; cases h6
  | true =>
   cases e2 : node_0 d with
   | false => rw [e1, e2] at h6; cases h6
   | true =>
    cases e4 : rowOf_4 k with
    | true => rfl
    | false => rw [e4] at h8; simp only [Bool.false_or] at h8; rw [h8]; rfl
 | false =>
  rw [e3] at h6
  cases e1 : (c == []) with
  | false => rw [e1] at h6; cases h6
  | true =>
   cases e2 : (d == []) with
   | false => rw [e1, e2] at h6; cases h6
   | true =>
    cases e4 : rowOf_4 k with
    | true => rfl
    | false => rw [e4] at h8; simp only [Bool.false_or] at h8; rw [h8]; rfl
/-- finite, as the law asks it -/
noncomputable def owF (x : Nat) : Bool := !decide ((2 : Int) < Sx.kindDef x)
theorem ow_kind {x : Nat} (h : x < 18446744073709551616) : decide ((2 : Int) < Sx.kindDef x) = decide (9218868437227405312 ≤ x % 9223372036854775808) := by
 unfold Sx.kindDef
 rw [Sx.kE_is h, Sx.kR_is h]
 simp only [Bool.cond_decide]
 by_cases g : 9218868437227405312 ≤ x % 9223372036854775808
 ·rw [decide_eq_true g]
  refine decide_eq_true ?_
  repeat' split
  all_goals omega
 ·rw [decide_eq_false g]
  refine decide_eq_false ?_
  repeat' split
  all_goals omega
theorem ow_fin {x : Nat} (h : x < 18446744073709551616) : (bif Sx.fgt (Sx.cn (x % 9223372036854775808)) 9218868437227405311 then false else Sx.feq (Sx.cn x) (Sx.cn x)) = owF x := by
 unfold owF
 rw [ow_kind h]
 cases hn : Sx.isnan x with
 | true =>
  have g : 9218868437227405312 < x % 9223372036854775808 := by unfold Sx.isnan at hn; exact of_decide_eq_true hn
  rw [decide_eq_true (show 9218868437227405312 ≤ x % 9223372036854775808 by omega), Sx.feq_rk (Sx.cn_lt h) (Sx.cn_lt h), Sx.isnan_cn, hn]
  cases Sx.fgt (Sx.cn (x % 9223372036854775808)) 9218868437227405311 <;> rfl
 | false =>
  have g : ¬ 9218868437227405312 < x % 9223372036854775808 := by unfold Sx.isnan at hn; exact of_decide_eq_false hn
  have hm : Sx.isnan (x % 9223372036854775808) = false := by unfold Sx.isnan; exact decide_eq_false (by omega)
  rw [Sx.cn_of_not hm, Sx.cn_of_not hn, Sx.fgt_pos (by omega) (by omega), Sx.feq_rk h h, hn]
  simp only [decide_true, Bool.not_false, Bool.and_self]
  by_cases g2 : 9218868437227405312 ≤ x % 9223372036854775808
  ·rw [decide_eq_true (show 9218868437227405311 < x % 9223372036854775808 by omega), decide_eq_true g2]; rfl
  ·rw [decide_eq_false (show ¬ 9218868437227405311 < x % 9223372036854775808 by omega), decide_eq_false g2]; rfl
theorem ow_gt {x : Nat} (h : x < 18446744073709551616) (hf : owF x = true) : Sx.fgt (Sx.cn x) 0 = !Sx.fle (Sx.cn x) 0 := by
 unfold owF at hf
 rw [ow_kind h] at hf
 have g := of_decide_eq_false ((Bool.not_eq_true' _).mp hf)
 have hn : Sx.isnan x = false := by unfold Sx.isnan; exact decide_eq_false (by omega)
 rw [Sx.cn_of_not hn, Sx.fgt_rk h (by omega), Sx.fle_rk h (by omega), hn]
 simp only [show Sx.isnan 0 = false by decide, Bool.not_false, Bool.true_and]
 by_cases q : Sx.rk x ≤ Sx.rk 0
 ·rw [decide_eq_true q, decide_eq_false (by omega)]; rfl
 ·rw [decide_eq_false q, decide_eq_true (by omega)]; rfl
/-- what is wanted of another value -/
noncomputable def owW (so fo fi : Bool) (x : Nat) : Int := bif fi then bif so then 0 else bif fo then 0 else bif Sx.fgt (Sx.cn x) 0 then 0 else 2 else 5
theorem ow_want {k : Int} (hk : rowOf_5 k = true) {x : Nat} (h : x < 18446744073709551616) : owV (rowOf_2 k) x = owW (rowOf_4 k) (rowOf_3 k) (owF x) x := by
 unfold owV owW
 cases hf : owF x with
 | false =>
  unfold owF at hf
  rw [(Bool.not_eq_false' (b := decide ((2 : Int) < Sx.kindDef x))).mp hf]
  rfl
 | true =>
  rw [ow_gt h hf, (ow_row hk).2.2.2.2]
  unfold owF at hf
  rw [(Bool.not_eq_true' _).mp hf]
  cases rowOf_4 k <;> cases rowOf_3 k <;> cases Sx.fle (Sx.cn x) 0 <;> rfl
structure Own (k : Int) (n a b c d : List UInt8) (v : Nat) (ph : Int) : Prop where
 h1 : rowOf_5 k = true
 h2 : name_1 n = true
 h3 : decide (name_0 n = k) = true
 h4 : node_0 a = true
 h5 : node_0 b = true
 h6 : ow2 (rowOf_3 k) c d = true
 h7 : (a == b) = false
 h8 : (rowOf_4 k || decide (ph = 0)) = true
 h9 : decide (owV (rowOf_2 k) v = 0) = true
theorem own_of {k : Int} {n a b c d : List UInt8} {v : Nat} {ph : Int} (h : decide (chk_0 k n a b c d v ph = 0) = true) : Own k n a b c d v ph := by
 rw [ow_chk] at h
 simp only [Bool.and_eq_true, Bool.not_eq_true'] at h
 obtain ⟨h1, h2, h3, h4, h5, h6, h7, h8, h9⟩ := h
 exact ⟨h1, h2, h3, h4, h5, h6, h7, h8, h9⟩
theorem own_name {k : Int} {n a b c d : List UInt8} {v : Nat} {ph : Int} (h : Own k n a b c d v ph) (o : List UInt8) : decide (chk_0 k o a b c d v ph = 0) = (name_1 o && decide (name_0 o = k)) := by
 rw [ow_chk, h.h1, h.h4, h.h5, h.h6, h.h7, h.h8, h.h9]; simp
theorem own_ab {k : Int} {n a b c d : List UInt8} {v : Nat} {ph : Int} (h : Own k n a b c d v ph) (s t : List UInt8) : decide (chk_0 k n s t c d v ph = 0) = (node_0 s && (node_0 t && !(s == t))) := by
 rw [ow_chk, h.h1, h.h2, h.h3, h.h6, h.h8, h.h9]; simp
theorem own_cd {k : Int} {n a b c d : List UInt8} {v : Nat} {ph : Int} (h : Own k n a b c d v ph) (s t : List UInt8) : decide (chk_0 k n a b s t v ph = 0) = ow2 (rowOf_3 k) s t := by
 rw [ow_chk, h.h1, h.h2, h.h3, h.h4, h.h5, h.h7, h.h8, h.h9]; simp
theorem own_ph {k : Int} {n a b c d : List UInt8} {v : Nat} {ph : Int} (h : Own k n a b c d v ph) (q : Int) : decide (chk_0 k n a b c d v q = 0) = (rowOf_4 k || decide (q = 0)) := by
 rw [ow_chk, h.h1, h.h2, h.h3, h.h4, h.h5, h.h6, h.h7, h.h9]; simp

theorem oA_r0 (k ph w pz : Int) (n a b c d o s t : List UInt8) (v x : Nat) (so fo fi : Bool) (wt : Int) : Sx.PieceN 1 (Sx.Ex.normal) [(1, Sx.AV.str true o), (2, Sx.AV.str true s), (3, Sx.AV.str true t), (4, Sx.AV.int true IntKind.u64 w), (5, Sx.AV.int true IntKind.i64 pz), (6, Sx.AV.ptr (Sx.AA.mk false (0 : Nat) (0 : Nat) (0 : Nat)))] [(0, Sx.ABk.cells true (List.length (Sx.AV.cells (Sx.evalA (Sx.frameOf [Sx.AV.agg [Sx.AV.int true IntKind.u8 k, Sx.AV.str true n, Sx.AV.str true a, Sx.AV.str true b, Sx.AV.str true c, Sx.AV.str true d, Sx.AV.int true IntKind.u64 (↑v : Int), Sx.AV.int true IntKind.i64 ph], Sx.AV.str true o, Sx.AV.str true s, Sx.AV.str true t, Sx.AV.int true IntKind.u64 w, Sx.AV.int true IntKind.i64 pz] (0 : Nat) Sx.T.e) (Go.Operand.tmp (0 : Nat))))) (1 : Nat) (Sx.Cont.lit [] (Sx.T.sing (Option.some (Sx.AV.cells (Sx.evalA (Sx.frameOf [Sx.AV.agg [Sx.AV.int true IntKind.u8 k, Sx.AV.str true n, Sx.AV.str true a, Sx.AV.str true b, Sx.AV.str true c, Sx.AV.str true d, Sx.AV.int true IntKind.u64 (↑v : Int), Sx.AV.int true IntKind.i64 ph], Sx.AV.str true o, Sx.AV.str true s, Sx.AV.str true t, Sx.AV.int true IntKind.u64 w, Sx.AV.int true IntKind.i64 pz] (0 : Nat) Sx.T.e) (Go.Operand.tmp (0 : Nat))))) (1 : Nat) (0 : Nat))))] (piececallO Try.f6 (Sx.nav [0] (Sx.bodyOf Try.f6)) (Sx.frameOf [.agg [.int true .u8 k, .str true n, .str true a, .str true b, .str true c, .str true d, .int true .u64 (v : Nat), .int true .i64 ph], .str true o, .str true s, .str true t, .int true .u64 w, .int true .i64 pz] 0 .e) (Sx.hpL []) 0 []) := Sx.eqn (q := True) (by kernel_rfl) trivial
theorem oA (B : Nat) (hB : B ≤ 0) (k ph w pz : Int) (n a b c d o s t : List UInt8) (v x : Nat) (so fo fi : Bool) (wt : Int) : Sx.GoesB Try.prog (Sx.nav [0] (Sx.bodyOf Try.f6)) Try.f6.ntmps B 0 1 (Sx.frameOf [.agg [.int true .u8 k, .str true n, .str true a, .str true b, .str true c, .str true d, .int true .u64 (v : Nat), .int true .i64 ph], .str true o, .str true s, .str true t, .int true .u64 w, .int true .i64 pz] 0 .e) (Sx.hpL []) fun e fr' H' => (e = Sx.Ex.normal ∧ fr' = Sx.frL [(1, Sx.AV.str true o), (2, Sx.AV.str true s), (3, Sx.AV.str true t), (4, Sx.AV.int true IntKind.u64 w), (5, Sx.AV.int true IntKind.i64 pz), (6, Sx.AV.ptr (Sx.AA.mk false (0 : Nat) (0 : Nat) (0 : Nat)))] ∧ H' = Sx.hpL [(0, Sx.ABk.cells true (List.length (Sx.AV.cells (Sx.evalA (Sx.frameOf [Sx.AV.agg [Sx.AV.int true IntKind.u8 k, Sx.AV.str true n, Sx.AV.str true a, Sx.AV.str true b, Sx.AV.str true c, Sx.AV.str true d, Sx.AV.int true IntKind.u64 (↑v : Int), Sx.AV.int true IntKind.i64 ph], Sx.AV.str true o, Sx.AV.str true s, Sx.AV.str true t, Sx.AV.int true IntKind.u64 w, Sx.AV.int true IntKind.i64 pz] (0 : Nat) Sx.T.e) (Go.Operand.tmp (0 : Nat))))) (1 : Nat) (Sx.Cont.lit [] (Sx.T.sing (Option.some (Sx.AV.cells (Sx.evalA (Sx.frameOf [Sx.AV.agg [Sx.AV.int true IntKind.u8 k, Sx.AV.str true n, Sx.AV.str true a, Sx.AV.str true b, Sx.AV.str true c, Sx.AV.str true d, Sx.AV.int true IntKind.u64 (↑v : Int), Sx.AV.int true IntKind.i64 ph], Sx.AV.str true o, Sx.AV.str true s, Sx.AV.str true t, Sx.AV.int true IntKind.u64 w, Sx.AV.int true IntKind.i64 pz] (0 : Nat) Sx.T.e) (Go.Operand.tmp (0 : Nat))))) (1 : Nat) (0 : Nat))))]) := by
 exact (Sx.GoesB.runN callO_ok (callO_reg _) (Sx.LoopsIn.none _ _ _) (oA_r0 k ph w pz n a b c d o s t v x so fo fi wt) hB).mono fun e fr' H' h => h
theorem oB_r0 (k ph w pz : Int) (n a b c d o s t : List UInt8) (v x : Nat) (so fo fi : Bool) (wt : Int) : Sx.PieceN 1 (Sx.Ex.normal) [(1, Sx.AV.str true o), (2, Sx.AV.str true s), (3, Sx.AV.str true t), (4, Sx.AV.int true IntKind.u64 w), (5, Sx.AV.int true IntKind.i64 pz), (6, Sx.AV.ptr (Sx.AA.mk false (0 : Nat) (0 : Nat) (0 : Nat))), (13, Sx.AV.bool true)] [(0, Sx.ABk.cells true (8 : Nat) (1 : Nat) (Sx.Cont.fn fun x => [Sx.AV.int true IntKind.u8 k, Sx.AV.str true n, Sx.AV.str true a, Sx.AV.str true b, Sx.AV.str true c, Sx.AV.str true d, Sx.AV.int true IntKind.u64 (↑v : Int), Sx.AV.int true IntKind.i64 ph]))] (piececallO Try.f6 (Sx.nav [1,0] (Sx.bodyOf Try.f6)) (Sx.frL [(1, .str true o), (2, .str true s), (3, .str true t), (4, .int true .u64 w), (5, .int true .i64 pz), (6, .ptr ⟨false, 0, 0, 0⟩)]) (Sx.hpL [(0, .cells true 8 1 (.fn fun _ => [.int true .u8 k, .str true n, .str true a, .str true b, .str true c, .str true d, .int true .u64 (v : Nat), .int true .i64 ph]))]) 1 []) := Sx.eqn (q := True) (by kernel_rfl) trivial
theorem oB (B : Nat) (hB : B ≤ 1) (k ph w pz : Int) (n a b c d o s t : List UInt8) (v x : Nat) (so fo fi : Bool) (wt : Int) : Sx.GoesB Try.prog (Sx.nav [1,0] (Sx.bodyOf Try.f6)) Try.f6.ntmps B 1 1 (Sx.frL [(1, .str true o), (2, .str true s), (3, .str true t), (4, .int true .u64 w), (5, .int true .i64 pz), (6, .ptr ⟨false, 0, 0, 0⟩)]) (Sx.hpL [(0, .cells true 8 1 (.fn fun _ => [.int true .u8 k, .str true n, .str true a, .str true b, .str true c, .str true d, .int true .u64 (v : Nat), .int true .i64 ph]))]) fun e fr' H' => (e = Sx.Ex.normal ∧ fr' = Sx.frL [(1, Sx.AV.str true o), (2, Sx.AV.str true s), (3, Sx.AV.str true t), (4, Sx.AV.int true IntKind.u64 w), (5, Sx.AV.int true IntKind.i64 pz), (6, Sx.AV.ptr (Sx.AA.mk false (0 : Nat) (0 : Nat) (0 : Nat))), (13, Sx.AV.bool true)] ∧ H' = Sx.hpL [(0, Sx.ABk.cells true (8 : Nat) (1 : Nat) (Sx.Cont.fn fun x => [Sx.AV.int true IntKind.u8 k, Sx.AV.str true n, Sx.AV.str true a, Sx.AV.str true b, Sx.AV.str true c, Sx.AV.str true d, Sx.AV.int true IntKind.u64 (↑v : Int), Sx.AV.int true IntKind.i64 ph]))]) := by
 exact (Sx.GoesB.runN callO_ok (callO_reg _) (Sx.LoopsIn.none _ _ _) (oB_r0 k ph w pz n a b c d o s t v x so fo fi wt) hB).mono fun e fr' H' h => h
end Go.Proofs.Ytmdcfmknjbeciaa
