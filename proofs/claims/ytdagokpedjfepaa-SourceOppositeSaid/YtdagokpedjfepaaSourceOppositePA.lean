/- SourceOpposite: a part: summaries of functions that the statement reaches, printed by program, checked by the kernel. -/
import Derived.ProofKit
import Derived.OpenShut
import Derived.KernelRfl
import Derived.SizedLaws
import Derived.Test.YtdagokpedjfepaaProg
import Derived.Test.YtdagokpedjfepaaSm3
namespace Go.Proofs.Ytdagokpedjfepaa
open Go.ChangeShapes Go.WideShapes Go.ChangeAt Go.RowKit
set_option linter.unusedVariables false
set_option linter.unusedSimpArgs false
set_option maxRecDepth 100000

theorem ai {p q : Prop} (h : p) (k : q) : p ∧ q := ⟨h, k⟩
noncomputable def gam0 : Sx.Known := Sx.kc 36 Sx.ofBits (Sx.kc 62 Sx.toBits (Sx.kn))
theorem gam0_ok : Sx.KnownOk Try.prog gam0 := Sx.kc_ok ((Sx.ofBits_is Try.prog).callIs Try.func36 (by kernel_rfl) (by kernel_rfl) (by kernel_rfl) (by kernel_rfl)) (Sx.kc_ok ((Sx.toBits_is Try.prog).callIs Try.func62 (by kernel_rfl) (by kernel_rfl) (by kernel_rfl) (by kernel_rfl)) (Sx.kn_ok))
theorem gam0_tch : Sx.KnownT gam0 := Sx.kc_tch Sx.Tch.ofBits (Sx.kc_tch Sx.Tch.toBits (Sx.kn_tch))
noncomputable def call0 : Sx.Calls' := Sx.runN Try.prog gam0 (Sx.regionC Try.prog) 1000 50
theorem call0_ok : Sx.CallOk Try.prog call0 := Sx.engineC gam0_ok gam0_tch (by kernel_rfl) (by kernel_rfl) 1000 50
theorem call0_tch : Sx.CallT call0 := Sx.runA_tch gam0_tch (fun _ _ _ h => by cases h) (fun call hc n l fr => Sx.regionC_tch hc n l fr) 50
theorem call0_reg (n : Nat) : Sx.RegionOk Try.prog (Sx.regionC Try.prog call0 n) n := Sx.runN_regionC gam0_ok gam0_tch (by kernel_rfl) (by kernel_rfl) 1000 50 n
noncomputable abbrev piececall0 (f : Func) (c : Code) (fr : Sx.Fr) (H : Sx.T Sx.ABk) (K : Nat) (path : List Bool) : Sx.Res (Sx.Ex × Sx.Fr) :=
 Sx.codeA Try.prog call0 (Sx.regionC Try.prog call0 f.ntmps) Sx.noLoops f.ntmps 1000 c fr ⟨H, K, [], path, True⟩
theorem smA_r0 (l : List UInt8) : Sx.PieceN 0 (Sx.Ex.normal) [(0, .str true l)] [] (piececall0 Try.f81 (Sx.nav [0] (Sx.bodyOf Try.f81)) (Sx.frameOf [.str true l] 0 .e) (.e) 0 []) := Sx.eqn (by kernel_rfl) trivial
theorem smA (B : Nat) (hB : B ≤ 0) (l : List UInt8) : Sx.GoesB Try.prog (Sx.nav [0] (Sx.bodyOf Try.f81)) Try.f81.ntmps B 0 0 (Sx.frameOf [.str true l] 0 .e) (.e) fun e fr' H' => (e = .normal ∧ fr' = Sx.frL [(0, .str true l)] ∧ H' = Sx.hpL []) := by
 exact (Sx.GoesB.runN call0_ok (call0_reg _) (Sx.LoopsIn.none _ _ _) (smA_r0 l) hB).mono fun e fr' H' h => h
theorem smR_r0 (l : List UInt8) : Sx.PieceN 1 (Sx.Ex.normal) [(6, .ptr ⟨false, 0, 0, 0⟩)] [(0, Sx.ABk.sit true l (0 : Nat))] (piececall0 Try.f81 (Sx.nav [1,0,0] (Sx.bodyOf Try.f81)) (Sx.frL [(0, .str true l)]) (Sx.hpL []) 0 []) := Sx.eqn (by kernel_rfl) trivial
theorem smR (B : Nat) (hB : B ≤ 0) (l : List UInt8) : Sx.GoesB Try.prog (Sx.nav [1,0,0] (Sx.bodyOf Try.f81)) Try.f81.ntmps B 0 1 (Sx.frL [(0, .str true l)]) (Sx.hpL []) fun e fr' H' => (e = .normal ∧ fr' = Sx.frL [(6, .ptr ⟨false, 0, 0, 0⟩)] ∧ H' = Sx.hpL [(0, Sx.ABk.sit true l (0 : Nat))]) := by
 exact (Sx.GoesB.runN call0_ok (call0_reg _) (Sx.LoopsIn.none _ _ _) (smR_r0 l) hB).mono fun e fr' H' h => h
theorem smB_r0 (l : List UInt8) (pos : Nat) (c0 : decide (pos < List.length l) = true) (c1 : decide ((↑(Prod.fst (Go.Utf8.decode (ByteArray.mk (List.toArray l)) pos)) : Int) < (97 : Int)) = true) (c2 : decide ((↑(Prod.fst (Go.Utf8.decode (ByteArray.mk (List.toArray l)) pos)) : Int) < (48 : Int)) = true) (c3 : (!decide ((↑(Prod.fst (Go.Utf8.decode (ByteArray.mk (List.toArray l)) pos)) : Int) = (95 : Int))) = false) : Sx.PieceN 1 (Sx.Ex.normal) [(6, .ptr ⟨false, 0, 0, 0⟩)] [(0, Sx.ABk.sit true l (pos + Prod.snd (Go.Utf8.decode (ByteArray.mk (List.toArray l)) pos)))] (piececall0 Try.f81 (Sx.nav [1,0,1,0,0] (Sx.bodyOf Try.f81)) (Sx.frL [(6, .ptr ⟨false, 0, 0, 0⟩)]) (Sx.hpL [(0, .sit true l pos)]) 1 [true, true, true, false]) := Sx.eqn (by kernel_rfl) (ai (ai (ai (ai trivial c0) c1) c2) c3)
theorem smB_r1 (l : List UInt8) (pos : Nat) (c0 : decide (pos < List.length l) = true) (c1 : decide ((↑(Prod.fst (Go.Utf8.decode (ByteArray.mk (List.toArray l)) pos)) : Int) < (97 : Int)) = true) (c2 : decide ((↑(Prod.fst (Go.Utf8.decode (ByteArray.mk (List.toArray l)) pos)) : Int) < (48 : Int)) = true) (c3 : (!decide ((↑(Prod.fst (Go.Utf8.decode (ByteArray.mk (List.toArray l)) pos)) : Int) = (95 : Int))) = true) : Sx.PieceN 1 (Sx.Ex.ret) [(2, .bool false), (6, .ptr ⟨false, 0, 0, 0⟩)] [(0, Sx.ABk.sit true l (pos + Prod.snd (Go.Utf8.decode (ByteArray.mk (List.toArray l)) pos)))] (piececall0 Try.f81 (Sx.nav [1,0,1,0,0] (Sx.bodyOf Try.f81)) (Sx.frL [(6, .ptr ⟨false, 0, 0, 0⟩)]) (Sx.hpL [(0, .sit true l pos)]) 1 [true, true, true, true]) := Sx.eqn (by kernel_rfl) (ai (ai (ai (ai trivial c0) c1) c2) c3)
theorem smB_r2 (l : List UInt8) (pos : Nat) (c0 : decide (pos < List.length l) = true) (c1 : decide ((↑(Prod.fst (Go.Utf8.decode (ByteArray.mk (List.toArray l)) pos)) : Int) < (97 : Int)) = true) (c2 : decide ((↑(Prod.fst (Go.Utf8.decode (ByteArray.mk (List.toArray l)) pos)) : Int) < (48 : Int)) = false) (c3 : decide ((57 : Int) < (↑(Prod.fst (Go.Utf8.decode (ByteArray.mk (List.toArray l)) pos)) : Int)) = true) (c4 : (!decide ((↑(Prod.fst (Go.Utf8.decode (ByteArray.mk (List.toArray l)) pos)) : Int) = (95 : Int))) = false) : Sx.PieceN 1 (Sx.Ex.normal) [(6, .ptr ⟨false, 0, 0, 0⟩)] [(0, Sx.ABk.sit true l (pos + Prod.snd (Go.Utf8.decode (ByteArray.mk (List.toArray l)) pos)))] (piececall0 Try.f81 (Sx.nav [1,0,1,0,0] (Sx.bodyOf Try.f81)) (Sx.frL [(6, .ptr ⟨false, 0, 0, 0⟩)]) (Sx.hpL [(0, .sit true l pos)]) 1 [true, true, false, true, false]) := Sx.eqn (by kernel_rfl) (ai (ai (ai (ai (ai trivial c0) c1) c2) c3) c4)
theorem smB_r3 (l : List UInt8) (pos : Nat) (c0 : decide (pos < List.length l) = true) (c1 : decide ((↑(Prod.fst (Go.Utf8.decode (ByteArray.mk (List.toArray l)) pos)) : Int) < (97 : Int)) = true) (c2 : decide ((↑(Prod.fst (Go.Utf8.decode (ByteArray.mk (List.toArray l)) pos)) : Int) < (48 : Int)) = false) (c3 : decide ((57 : Int) < (↑(Prod.fst (Go.Utf8.decode (ByteArray.mk (List.toArray l)) pos)) : Int)) = true) (c4 : (!decide ((↑(Prod.fst (Go.Utf8.decode (ByteArray.mk (List.toArray l)) pos)) : Int) = (95 : Int))) = true) : Sx.PieceN 1 (Sx.Ex.ret) [(2, .bool false), (6, .ptr ⟨false, 0, 0, 0⟩)] [(0, Sx.ABk.sit true l (pos + Prod.snd (Go.Utf8.decode (ByteArray.mk (List.toArray l)) pos)))] (piececall0 Try.f81 (Sx.nav [1,0,1,0,0] (Sx.bodyOf Try.f81)) (Sx.frL [(6, .ptr ⟨false, 0, 0, 0⟩)]) (Sx.hpL [(0, .sit true l pos)]) 1 [true, true, false, true, true]) := Sx.eqn (by kernel_rfl) (ai (ai (ai (ai (ai trivial c0) c1) c2) c3) c4)
theorem smB_r4 (l : List UInt8) (pos : Nat) (c0 : decide (pos < List.length l) = true) (c1 : decide ((↑(Prod.fst (Go.Utf8.decode (ByteArray.mk (List.toArray l)) pos)) : Int) < (97 : Int)) = true) (c2 : decide ((↑(Prod.fst (Go.Utf8.decode (ByteArray.mk (List.toArray l)) pos)) : Int) < (48 : Int)) = false) (c3 : decide ((57 : Int) < (↑(Prod.fst (Go.Utf8.decode (ByteArray.mk (List.toArray l)) pos)) : Int)) = false) : Sx.PieceN 1 (Sx.Ex.normal) [(6, .ptr ⟨false, 0, 0, 0⟩)] [(0, Sx.ABk.sit true l (pos + Prod.snd (Go.Utf8.decode (ByteArray.mk (List.toArray l)) pos)))] (piececall0 Try.f81 (Sx.nav [1,0,1,0,0] (Sx.bodyOf Try.f81)) (Sx.frL [(6, .ptr ⟨false, 0, 0, 0⟩)]) (Sx.hpL [(0, .sit true l pos)]) 1 [true, true, false, false]) := Sx.eqn (by kernel_rfl) (ai (ai (ai (ai trivial c0) c1) c2) c3)
theorem smB_r5 (l : List UInt8) (pos : Nat) (c0 : decide (pos < List.length l) = true) (c1 : decide ((↑(Prod.fst (Go.Utf8.decode (ByteArray.mk (List.toArray l)) pos)) : Int) < (97 : Int)) = false) (c2 : decide ((122 : Int) < (↑(Prod.fst (Go.Utf8.decode (ByteArray.mk (List.toArray l)) pos)) : Int)) = true) (c3 : decide ((↑(Prod.fst (Go.Utf8.decode (ByteArray.mk (List.toArray l)) pos)) : Int) < (48 : Int)) = true) (c4 : (!decide ((↑(Prod.fst (Go.Utf8.decode (ByteArray.mk (List.toArray l)) pos)) : Int) = (95 : Int))) = false) : Sx.PieceN 1 (Sx.Ex.normal) [(6, .ptr ⟨false, 0, 0, 0⟩)] [(0, Sx.ABk.sit true l (pos + Prod.snd (Go.Utf8.decode (ByteArray.mk (List.toArray l)) pos)))] (piececall0 Try.f81 (Sx.nav [1,0,1,0,0] (Sx.bodyOf Try.f81)) (Sx.frL [(6, .ptr ⟨false, 0, 0, 0⟩)]) (Sx.hpL [(0, .sit true l pos)]) 1 [true, false, true, true, false]) := Sx.eqn (by kernel_rfl) (ai (ai (ai (ai (ai trivial c0) c1) c2) c3) c4)
theorem smB_r6 (l : List UInt8) (pos : Nat) (c0 : decide (pos < List.length l) = true) (c1 : decide ((↑(Prod.fst (Go.Utf8.decode (ByteArray.mk (List.toArray l)) pos)) : Int) < (97 : Int)) = false) (c2 : decide ((122 : Int) < (↑(Prod.fst (Go.Utf8.decode (ByteArray.mk (List.toArray l)) pos)) : Int)) = true) (c3 : decide ((↑(Prod.fst (Go.Utf8.decode (ByteArray.mk (List.toArray l)) pos)) : Int) < (48 : Int)) = true) (c4 : (!decide ((↑(Prod.fst (Go.Utf8.decode (ByteArray.mk (List.toArray l)) pos)) : Int) = (95 : Int))) = true) : Sx.PieceN 1 (Sx.Ex.ret) [(2, .bool false), (6, .ptr ⟨false, 0, 0, 0⟩)] [(0, Sx.ABk.sit true l (pos + Prod.snd (Go.Utf8.decode (ByteArray.mk (List.toArray l)) pos)))] (piececall0 Try.f81 (Sx.nav [1,0,1,0,0] (Sx.bodyOf Try.f81)) (Sx.frL [(6, .ptr ⟨false, 0, 0, 0⟩)]) (Sx.hpL [(0, .sit true l pos)]) 1 [true, false, true, true, true]) := Sx.eqn (by kernel_rfl) (ai (ai (ai (ai (ai trivial c0) c1) c2) c3) c4)
theorem smB_r7 (l : List UInt8) (pos : Nat) (c0 : decide (pos < List.length l) = true) (c1 : decide ((↑(Prod.fst (Go.Utf8.decode (ByteArray.mk (List.toArray l)) pos)) : Int) < (97 : Int)) = false) (c2 : decide ((122 : Int) < (↑(Prod.fst (Go.Utf8.decode (ByteArray.mk (List.toArray l)) pos)) : Int)) = true) (c3 : decide ((↑(Prod.fst (Go.Utf8.decode (ByteArray.mk (List.toArray l)) pos)) : Int) < (48 : Int)) = false) (c4 : decide ((57 : Int) < (↑(Prod.fst (Go.Utf8.decode (ByteArray.mk (List.toArray l)) pos)) : Int)) = true) (c5 : (!decide ((↑(Prod.fst (Go.Utf8.decode (ByteArray.mk (List.toArray l)) pos)) : Int) = (95 : Int))) = false) : Sx.PieceN 1 (Sx.Ex.normal) [(6, .ptr ⟨false, 0, 0, 0⟩)] [(0, Sx.ABk.sit true l (pos + Prod.snd (Go.Utf8.decode (ByteArray.mk (List.toArray l)) pos)))] (piececall0 Try.f81 (Sx.nav [1,0,1,0,0] (Sx.bodyOf Try.f81)) (Sx.frL [(6, .ptr ⟨false, 0, 0, 0⟩)]) (Sx.hpL [(0, .sit true l pos)]) 1 [true, false, true, false, true, false]) := Sx.eqn (by kernel_rfl) (ai (ai (ai (ai (ai (ai trivial c0) c1) c2) c3) c4) c5)
theorem smB_r8 (l : List UInt8) (pos : Nat) (c0 : decide (pos < List.length l) = true) (c1 : decide ((↑(Prod.fst (Go.Utf8.decode (ByteArray.mk (List.toArray l)) pos)) : Int) < (97 : Int)) = false) (c2 : decide ((122 : Int) < (↑(Prod.fst (Go.Utf8.decode (ByteArray.mk (List.toArray l)) pos)) : Int)) = true) (c3 : decide ((↑(Prod.fst (Go.Utf8.decode (ByteArray.mk (List.toArray l)) pos)) : Int) < (48 : Int)) = false) (c4 : decide ((57 : Int) < (↑(Prod.fst (Go.Utf8.decode (ByteArray.mk (List.toArray l)) pos)) : Int)) = true) (c5 : (!decide ((↑(Prod.fst (Go.Utf8.decode (ByteArray.mk (List.toArray l)) pos)) : Int) = (95 : Int))) = true) : Sx.PieceN 1 (Sx.Ex.ret) [(2, .bool false), (6, .ptr ⟨false, 0, 0, 0⟩)] [(0, Sx.ABk.sit true l (pos + Prod.snd (Go.Utf8.decode (ByteArray.mk (List.toArray l)) pos)))] (piececall0 Try.f81 (Sx.nav [1,0,1,0,0] (Sx.bodyOf Try.f81)) (Sx.frL [(6, .ptr ⟨false, 0, 0, 0⟩)]) (Sx.hpL [(0, .sit true l pos)]) 1 [true, false, true, false, true, true]) := Sx.eqn (by kernel_rfl) (ai (ai (ai (ai (ai (ai trivial c0) c1) c2) c3) c4) c5)
theorem smB_r9 (l : List UInt8) (pos : Nat) (c0 : decide (pos < List.length l) = true) (c1 : decide ((↑(Prod.fst (Go.Utf8.decode (ByteArray.mk (List.toArray l)) pos)) : Int) < (97 : Int)) = false) (c2 : decide ((122 : Int) < (↑(Prod.fst (Go.Utf8.decode (ByteArray.mk (List.toArray l)) pos)) : Int)) = true) (c3 : decide ((↑(Prod.fst (Go.Utf8.decode (ByteArray.mk (List.toArray l)) pos)) : Int) < (48 : Int)) = false) (c4 : decide ((57 : Int) < (↑(Prod.fst (Go.Utf8.decode (ByteArray.mk (List.toArray l)) pos)) : Int)) = false) : Sx.PieceN 1 (Sx.Ex.normal) [(6, .ptr ⟨false, 0, 0, 0⟩)] [(0, Sx.ABk.sit true l (pos + Prod.snd (Go.Utf8.decode (ByteArray.mk (List.toArray l)) pos)))] (piececall0 Try.f81 (Sx.nav [1,0,1,0,0] (Sx.bodyOf Try.f81)) (Sx.frL [(6, .ptr ⟨false, 0, 0, 0⟩)]) (Sx.hpL [(0, .sit true l pos)]) 1 [true, false, true, false, false]) := Sx.eqn (by kernel_rfl) (ai (ai (ai (ai (ai trivial c0) c1) c2) c3) c4)
theorem smB_r10 (l : List UInt8) (pos : Nat) (c0 : decide (pos < List.length l) = true) (c1 : decide ((↑(Prod.fst (Go.Utf8.decode (ByteArray.mk (List.toArray l)) pos)) : Int) < (97 : Int)) = false) (c2 : decide ((122 : Int) < (↑(Prod.fst (Go.Utf8.decode (ByteArray.mk (List.toArray l)) pos)) : Int)) = false) : Sx.PieceN 1 (Sx.Ex.normal) [(6, .ptr ⟨false, 0, 0, 0⟩)] [(0, Sx.ABk.sit true l (pos + Prod.snd (Go.Utf8.decode (ByteArray.mk (List.toArray l)) pos)))] (piececall0 Try.f81 (Sx.nav [1,0,1,0,0] (Sx.bodyOf Try.f81)) (Sx.frL [(6, .ptr ⟨false, 0, 0, 0⟩)]) (Sx.hpL [(0, .sit true l pos)]) 1 [true, false, false]) := Sx.eqn (by kernel_rfl) (ai (ai (ai trivial c0) c1) c2)
theorem smB_r11 (l : List UInt8) (pos : Nat) (c0 : decide (pos < List.length l) = false) : Sx.PieceN 1 (Sx.Ex.exit (0 : Nat)) [(6, .ptr ⟨false, 0, 0, 0⟩)] [(0, Sx.ABk.sit true l pos)] (piececall0 Try.f81 (Sx.nav [1,0,1,0,0] (Sx.bodyOf Try.f81)) (Sx.frL [(6, .ptr ⟨false, 0, 0, 0⟩)]) (Sx.hpL [(0, .sit true l pos)]) 1 [false]) := Sx.eqn (by kernel_rfl) (ai trivial c0)
theorem smB (B : Nat) (hB : B ≤ 1) (l : List UInt8) (pos : Nat) : Sx.GoesB Try.prog (Sx.nav [1,0,1,0,0] (Sx.bodyOf Try.f81)) Try.f81.ntmps B 1 1 (Sx.frL [(6, .ptr ⟨false, 0, 0, 0⟩)]) (Sx.hpL [(0, .sit true l pos)]) fun e fr' H' => (cond (decide (pos < List.length l)) (cond (decide ((↑(Prod.fst (Go.Utf8.decode (ByteArray.mk (List.toArray l)) pos)) : Int) < (97 : Int))) (cond (decide ((↑(Prod.fst (Go.Utf8.decode (ByteArray.mk (List.toArray l)) pos)) : Int) < (48 : Int))) (cond (decide ((↑(Prod.fst (Go.Utf8.decode (ByteArray.mk (List.toArray l)) pos)) : Int) = (95 : Int))) (e = .normal ∧ fr' = Sx.frL [(6, .ptr ⟨false, 0, 0, 0⟩)] ∧ H' = Sx.hpL [(0, Sx.ABk.sit true l (pos + Prod.snd (Go.Utf8.decode (ByteArray.mk (List.toArray l)) pos)))]) (e = .ret ∧ fr' = Sx.frL [(2, .bool false), (6, .ptr ⟨false, 0, 0, 0⟩)] ∧ H' = Sx.hpL [(0, Sx.ABk.sit true l (pos + Prod.snd (Go.Utf8.decode (ByteArray.mk (List.toArray l)) pos)))])) (cond (decide ((57 : Int) < (↑(Prod.fst (Go.Utf8.decode (ByteArray.mk (List.toArray l)) pos)) : Int))) (cond (decide ((↑(Prod.fst (Go.Utf8.decode (ByteArray.mk (List.toArray l)) pos)) : Int) = (95 : Int))) (e = .normal ∧ fr' = Sx.frL [(6, .ptr ⟨false, 0, 0, 0⟩)] ∧ H' = Sx.hpL [(0, Sx.ABk.sit true l (pos + Prod.snd (Go.Utf8.decode (ByteArray.mk (List.toArray l)) pos)))]) (e = .ret ∧ fr' = Sx.frL [(2, .bool false), (6, .ptr ⟨false, 0, 0, 0⟩)] ∧ H' = Sx.hpL [(0, Sx.ABk.sit true l (pos + Prod.snd (Go.Utf8.decode (ByteArray.mk (List.toArray l)) pos)))])) (e = .normal ∧ fr' = Sx.frL [(6, .ptr ⟨false, 0, 0, 0⟩)] ∧ H' = Sx.hpL [(0, Sx.ABk.sit true l (pos + Prod.snd (Go.Utf8.decode (ByteArray.mk (List.toArray l)) pos)))]))) (cond (decide ((122 : Int) < (↑(Prod.fst (Go.Utf8.decode (ByteArray.mk (List.toArray l)) pos)) : Int))) (cond (decide ((↑(Prod.fst (Go.Utf8.decode (ByteArray.mk (List.toArray l)) pos)) : Int) < (48 : Int))) (cond (decide ((↑(Prod.fst (Go.Utf8.decode (ByteArray.mk (List.toArray l)) pos)) : Int) = (95 : Int))) (e = .normal ∧ fr' = Sx.frL [(6, .ptr ⟨false, 0, 0, 0⟩)] ∧ H' = Sx.hpL [(0, Sx.ABk.sit true l (pos + Prod.snd (Go.Utf8.decode (ByteArray.mk (List.toArray l)) pos)))]) (e = .ret ∧ fr' = Sx.frL [(2, .bool false), (6, .ptr ⟨false, 0, 0, 0⟩)] ∧ H' = Sx.hpL [(0, Sx.ABk.sit true l (pos + Prod.snd (Go.Utf8.decode (ByteArray.mk (List.toArray l)) pos)))])) (cond (decide ((57 : Int) < (↑(Prod.fst (Go.Utf8.decode (ByteArray.mk (List.toArray l)) pos)) : Int))) (cond (decide ((↑(Prod.fst (Go.Utf8.decode (ByteArray.mk (List.toArray l)) pos)) : Int) = (95 : Int))) (e = .normal ∧ fr' = Sx.frL [(6, .ptr ⟨false, 0, 0, 0⟩)] ∧ H' = Sx.hpL [(0, Sx.ABk.sit true l (pos + Prod.snd (Go.Utf8.decode (ByteArray.mk (List.toArray l)) pos)))]) (e = .ret ∧ fr' = Sx.frL [(2, .bool false), (6, .ptr ⟨false, 0, 0, 0⟩)] ∧ H' = Sx.hpL [(0, Sx.ABk.sit true l (pos + Prod.snd (Go.Utf8.decode (ByteArray.mk (List.toArray l)) pos)))])) (e = .normal ∧ fr' = Sx.frL [(6, .ptr ⟨false, 0, 0, 0⟩)] ∧ H' = Sx.hpL [(0, Sx.ABk.sit true l (pos + Prod.snd (Go.Utf8.decode (ByteArray.mk (List.toArray l)) pos)))]))) (e = .normal ∧ fr' = Sx.frL [(6, .ptr ⟨false, 0, 0, 0⟩)] ∧ H' = Sx.hpL [(0, Sx.ABk.sit true l (pos + Prod.snd (Go.Utf8.decode (ByteArray.mk (List.toArray l)) pos)))]))) (e = .exit 0 ∧ fr' = Sx.frL [(6, .ptr ⟨false, 0, 0, 0⟩)] ∧ H' = Sx.hpL [(0, Sx.ABk.sit true l pos)])) := by
 cases t0 : decide (pos < List.length l) with
 | true =>
  cases t1 : decide ((↑(Prod.fst (Go.Utf8.decode (ByteArray.mk (List.toArray l)) pos)) : Int) < (97 : Int)) with
  | true =>
   cases t2 : decide ((↑(Prod.fst (Go.Utf8.decode (ByteArray.mk (List.toArray l)) pos)) : Int) < (48 : Int)) with
   | true =>
    cases t3 : decide ((↑(Prod.fst (Go.Utf8.decode (ByteArray.mk (List.toArray l)) pos)) : Int) = (95 : Int)) with
    | true =>
     exact (Sx.GoesB.runN call0_ok (call0_reg _) (Sx.LoopsIn.none _ _ _) (smB_r0 l pos t0 t1 t2 (by rw [t3]; rfl)) hB).mono fun e fr' H' h => by first | (simp only [t0, t1, t2, t3, cond_true, cond_false]; exact h) | (simp only [t0, t1, t2, t3, cond_true, cond_false] at h ⊢; exact h)
    | false =>
     exact (Sx.GoesB.runN call0_ok (call0_reg _) (Sx.LoopsIn.none _ _ _) (smB_r1 l pos t0 t1 t2 (by rw [t3]; rfl)) hB).mono fun e fr' H' h => by first | (simp only [t0, t1, t2, t3, cond_true, cond_false]; exact h) | (simp only [t0, t1, t2, t3, cond_true, cond_false] at h ⊢; exact h)
   | false =>
    cases t3 : decide ((57 : Int) < (↑(Prod.fst (Go.Utf8.decode (ByteArray.mk (List.toArray l)) pos)) : Int)) with
    | true =>
     cases t4 : decide ((↑(Prod.fst (Go.Utf8.decode (ByteArray.mk (List.toArray l)) pos)) : Int) = (95 : Int)) with
     | true =>
      exact (Sx.GoesB.runN call0_ok (call0_reg _) (Sx.LoopsIn.none _ _ _) (smB_r2 l pos t0 t1 t2 t3 (by rw [t4]; rfl)) hB).mono fun e fr' H' h => by first | (simp only [t0, t1, t2, t3, t4, cond_true, cond_false]; exact h) | (simp only [t0, t1, t2, t3, t4, cond_true, cond_false] at h ⊢; exact h)
     | false =>
      exact (Sx.GoesB.runN call0_ok (call0_reg _) (Sx.LoopsIn.none _ _ _) (smB_r3 l pos t0 t1 t2 t3 (by rw [t4]; rfl)) hB).mono fun e fr' H' h => by first | (simp only [t0, t1, t2, t3, t4, cond_true, cond_false]; exact h) | (simp only [t0, t1, t2, t3, t4, cond_true, cond_false] at h ⊢; exact h)
    | false =>
     exact (Sx.GoesB.runN call0_ok (call0_reg _) (Sx.LoopsIn.none _ _ _) (smB_r4 l pos t0 t1 t2 t3) hB).mono fun e fr' H' h => by first | (simp only [t0, t1, t2, t3, cond_true, cond_false]; exact h) | (simp only [t0, t1, t2, t3, cond_true, cond_false] at h ⊢; exact h)
  | false =>
   cases t2 : decide ((122 : Int) < (↑(Prod.fst (Go.Utf8.decode (ByteArray.mk (List.toArray l)) pos)) : Int)) with
   | true =>
    cases t3 : decide ((↑(Prod.fst (Go.Utf8.decode (ByteArray.mk (List.toArray l)) pos)) : Int) < (48 : Int)) with
    | true =>
     cases t4 : decide ((↑(Prod.fst (Go.Utf8.decode (ByteArray.mk (List.toArray l)) pos)) : Int) = (95 : Int)) with
     | true =>
      exact (Sx.GoesB.runN call0_ok (call0_reg _) (Sx.LoopsIn.none _ _ _) (smB_r5 l pos t0 t1 t2 t3 (by rw [t4]; rfl)) hB).mono fun e fr' H' h => by first | (simp only [t0, t1, t2, t3, t4, cond_true, cond_false]; exact h) | (simp only [t0, t1, t2, t3, t4, cond_true, cond_false] at h ⊢; exact h)
     | false =>
      exact (Sx.GoesB.runN call0_ok (call0_reg _) (Sx.LoopsIn.none _ _ _) (smB_r6 l pos t0 t1 t2 t3 (by rw [t4]; rfl)) hB).mono fun e fr' H' h => by first | (simp only [t0, t1, t2, t3, t4, cond_true, cond_false]; exact h) | (simp only [t0, t1, t2, t3, t4, cond_true, cond_false] at h ⊢; exact h)
    | false =>
     cases t4 : decide ((57 : Int) < (↑(Prod.fst (Go.Utf8.decode (ByteArray.mk (List.toArray l)) pos)) : Int)) with
     | true =>
      cases t5 : decide ((↑(Prod.fst (Go.Utf8.decode (ByteArray.mk (List.toArray l)) pos)) : Int) = (95 : Int)) with
      | true =>
       exact (Sx.GoesB.runN call0_ok (call0_reg _) (Sx.LoopsIn.none _ _ _) (smB_r7 l pos t0 t1 t2 t3 t4 (by rw [t5]; rfl)) hB).mono fun e fr' H' h => by first | (simp only [t0, t1, t2, t3, t4, t5, cond_true, cond_false]; exact h) | (simp only [t0, t1, t2, t3, t4, t5, cond_true, cond_false] at h ⊢; exact h)
      | false =>
       exact (Sx.GoesB.runN call0_ok (call0_reg _) (Sx.LoopsIn.none _ _ _) (smB_r8 l pos t0 t1 t2 t3 t4 (by rw [t5]; rfl)) hB).mono fun e fr' H' h => by first | (simp only [t0, t1, t2, t3, t4, t5, cond_true, cond_false]; exact h) | (simp only [t0, t1, t2, t3, t4, t5, cond_true, cond_false] at h ⊢; exact h)
     | false =>
      exact (Sx.GoesB.runN call0_ok (call0_reg _) (Sx.LoopsIn.none _ _ _) (smB_r9 l pos t0 t1 t2 t3 t4) hB).mono fun e fr' H' h => by first | (simp only [t0, t1, t2, t3, t4, cond_true, cond_false]; exact h) | (simp only [t0, t1, t2, t3, t4, cond_true, cond_false] at h ⊢; exact h)
   | false =>
    exact (Sx.GoesB.runN call0_ok (call0_reg _) (Sx.LoopsIn.none _ _ _) (smB_r10 l pos t0 t1 t2) hB).mono fun e fr' H' h => by first | (simp only [t0, t1, t2, cond_true, cond_false]; exact h) | (simp only [t0, t1, t2, cond_true, cond_false] at h ⊢; exact h)
 | false =>
  exact (Sx.GoesB.runN call0_ok (call0_reg _) (Sx.LoopsIn.none _ _ _) (smB_r11 l pos t0) hB).mono fun e fr' H' h => by first | (simp only [t0, cond_true, cond_false]; exact h) | (simp only [t0, cond_true, cond_false] at h ⊢; exact h)
theorem smZ_r0  : Sx.PieceN 1 (Sx.Ex.ret) [(2, .bool true)] [] (piececall0 Try.f81 (Sx.nav [1,1] (Sx.bodyOf Try.f81)) (Sx.frL []) (Sx.hpL []) 1 []) := Sx.eqn (by kernel_rfl) trivial
theorem smZ (B : Nat) (hB : B ≤ 1)  : Sx.GoesB Try.prog (Sx.nav [1,1] (Sx.bodyOf Try.f81)) Try.f81.ntmps B 1 1 (Sx.frL []) (Sx.hpL []) fun e fr' H' => (e = .ret ∧ fr' = Sx.frL [(2, .bool true)] ∧ H' = Sx.hpL []) := by
 exact (Sx.GoesB.runN call0_ok (call0_reg _) (Sx.LoopsIn.none _ _ _) (smZ_r0 ) hB).mono fun e fr' H' h => h
def okB (b : UInt8) : Bool := (decide (97 ≤ b.toNat) && decide (b.toNat ≤ 122)) || (decide (48 ≤ b.toNat) && decide (b.toNat ≤ 57)) || decide (b.toNat = 95)
theorem rune_at (l : List UInt8) (pos : Nat) (h : pos < l.length) : (l[pos].toNat < 128 ∧ Utf8.decode ⟨l.toArray⟩ pos = (l[pos].toNat, 1)) ∨ (128 ≤ l[pos].toNat ∧ 128 ≤ (Utf8.decode ⟨l.toArray⟩ pos).1) := by
 have hs : pos < (⟨l.toArray⟩ : ByteArray).size := by rw [Sx.ba_size]; exact h
 have e : (⟨l.toArray⟩ : ByteArray)[pos]'hs = l[pos] := rfl
 by_cases hb : l[pos].toNat < 128
 ·exact .inl ⟨hb, decode_ascii _ pos hs hb⟩
 ·exact .inr ⟨by omega, (decode_high _ pos hs (by rw [e]; omega)).1⟩
theorem take_all (l : List UInt8) (pos : Nat) (h : pos < l.length) (hp : (l.take pos).all okB = true) (hk : okB l[pos] = true) : (l.take (pos + 1)).all okB = true := by
 rw [List.take_succ_eq_append_getElem h, List.all_append, hp]; simp [hk]
theorem all_false (l : List UInt8) (pos : Nat) (h : pos < l.length) (hk : okB l[pos] = false) : l.all okB = false := by
 rw [List.all_eq_false]; exact ⟨l[pos], List.getElem_mem h, by simp [hk]⟩
theorem okB_iff (b : UInt8) : okB b = true ↔ ((97 ≤ b.toNat ∧ b.toNat ≤ 122) ∨ (48 ≤ b.toNat ∧ b.toNat ≤ 57) ∨ b.toNat = 95) := by
 unfold okB; simp only [Bool.or_eq_true, Bool.and_eq_true, decide_eq_true_eq]; omega
theorem okB_not (b : UInt8) : okB b = false ↔ ¬ ((97 ≤ b.toNat ∧ b.toNat ≤ 122) ∨ (48 ≤ b.toNat ∧ b.toNat ≤ 57) ∨ b.toNat = 95) := by
 rw [← okB_iff]; simp
def smI (l : List UInt8) (k : Nat) (fr : Sx.Fr) (H : Sx.T Sx.ABk) : Prop :=
 ∃ pos, k = l.length - pos ∧ (l.take pos).all okB = true ∧ fr = Sx.frL [(6, .ptr ⟨false, 0, 0, 0⟩)] ∧ H = Sx.hpL [(0, .sit true l pos)]
def smPost (l : List UInt8) : Sx.Po := fun e fr H => (e = .exit 0 ∧ l.all okB = true) ∨ (e = .ret ∧ l.all okB = false ∧ fr.get 2 = some (.bool false))
theorem sm_body (l : List UInt8) (k : Nat) (fr : Sx.Fr) (H : Sx.T Sx.ABk) (hI : smI l k fr H) : Sx.GoesB Try.prog (Sx.nav [1,0,1,0,0] (Sx.bodyOf Try.f81)) Try.f81.ntmps 0 1 1 fr H fun e fr' H' => match e with
   | .normal => ∃ k', k' < k ∧ smI l k' fr' H'
   | e => smPost l e fr' H' := by
 obtain ⟨pos, rfl, hp, rfl, rfl⟩ := hI
 refine (smB 0 (by omega) l pos).mono fun e fr' H' h => ?_
 refine Sx.cond_elim h (fun t0 h => ?_) (fun t0 h => ?_)
 ·have hlt := of_decide_eq_true t0
  have ru := rune_at l pos hlt
  have hok := okB_iff l[pos]
  have hno := okB_not l[pos]
  have go : okB l[pos] = true → (Utf8.decode ⟨l.toArray⟩ pos).2 = 1 → ∃ k', k' < l.length - pos ∧ smI l k' (Sx.frL [(6, .ptr ⟨false, 0, 0, 0⟩)]) (Sx.hpL [(0, .sit true l (pos + (Utf8.decode ⟨l.toArray⟩ pos).2))]) := fun hk hw => by
   rw [hw]
   exact ⟨l.length - (pos + 1), by omega, pos + 1, rfl, take_all l pos hlt hp hk, rfl, rfl⟩
  obtain ⟨r, hr⟩ : ∃ r : Nat × Nat, Utf8.decode ⟨l.toArray⟩ pos = r := ⟨_, rfl⟩
  rw [hr] at ru h go
  have ru' : (l[pos].toNat < 128 ∧ r.1 = l[pos].toNat ∧ r.2 = 1) ∨ (128 ≤ l[pos].toNat ∧ 128 ≤ r.1) := by
   rcases ru with ⟨h1, h2⟩ | h
   ·exact .inl ⟨h1, by rw [h2], by rw [h2]⟩
   ·exact .inr h
  repeat' (refine Sx.cond_elim h (fun t1 h => ?_) (fun t1 h => ?_) <;> first | replace t1 := of_decide_eq_true t1 | replace t1 := of_decide_eq_false t1)
  all_goals (obtain ⟨rfl, rfl, rfl⟩ := h)
  all_goals (first | (exact go (hok.2 (by omega)) (by omega)) | (exact .inr ⟨rfl, all_false l pos hlt (hno.2 (by omega)), rfl⟩))
 ·obtain ⟨rfl, rfl, rfl⟩ := h
  refine .inl ⟨rfl, ?_⟩
  rw [List.take_of_length_le (by have := of_decide_eq_false t0; omega)] at hp
  exact hp
theorem sm_is : Sx.bodyOf Try.f81 = .seq (Sx.nav [0] (Sx.bodyOf Try.f81)) (.seq (.seq (Sx.nav [1,0,0] (Sx.bodyOf Try.f81)) (.block 0 (.loop (Sx.nav [1,0,1,0,0] (Sx.bodyOf Try.f81))))) (Sx.nav [1,1] (Sx.bodyOf Try.f81))) := by kernel_rfl
theorem sm_goes (l : List UInt8) : Sx.GoesB Try.prog (Sx.bodyOf Try.f81) Try.f81.ntmps 0 0 1 (Sx.frameOf [.str true l] 0 .e) (Sx.hpL []) fun e fr' H' => (e = .ret ∨ e = .normal) ∧ fr'.get 2 = some (.bool (l.all okB)) := by
 rw [sm_is]
 refine Sx.GoesB.seq (K1 := 0) (by omega) ((smA 0 (by omega) l).mono fun e fr' H' ⟨e1, e2, e3⟩ => ?_)
 subst e1 e2 e3
 refine Sx.GoesB.seq (K1 := 1) (by omega) (Sx.GoesB.seq (K1 := 1) (by omega) ((smR 0 (by omega) l).mono fun e fr' H' ⟨e1, e2, e3⟩ => ?_))
 subst e1 e2 e3
 refine Sx.GoesB.block ((Sx.GoesB.loop (smI l) (Post := smPost l) (sm_body l) _ _ _ ⟨0, rfl, by simp, rfl, rfl⟩).mono fun e fr' H' hp => ?_)
 rcases hp with ⟨rfl, h1⟩ | ⟨rfl, h1, h2⟩
 ·simp only [if_true]
  refine Sx.GoesB.weakL (fl := []) (bl := []) trivial trivial ((smZ 0 (by omega)).mono fun e fr' H' ⟨e1, e2, e3⟩ => ?_)
  subst e1 e2 e3
  exact ⟨.inl rfl, by rw [h1]; rfl⟩
 ·exact ⟨.inl rfl, by rw [h1]; exact h2⟩
noncomputable def smallS : List Sx.AV → Sx.M Sx.AV
 | [.str s l] => Sx.M.ret (Sx.cmpB s (l.all okB))
 | args => call0 81 args
theorem smallS_ok : ∀ args v g g', smallS args g = .done v g' → Sx.CallIs Try.prog 81 args v g g' := by
 intro args v g g' h
 unfold smallS at h
 split at h
 ·rename_i s l
  obtain ⟨rfl, rfl⟩ := Sx.ret_done h
  refine Sx.reads (c := Sx.bodyOf Try.f81) Try.func81 (by kernel_rfl) (by kernel_rfl) (g1 := g) (p := True) (Sx.Keep.refl g) [] (fun _ v hv => by cases hv) (argsC := [.str true l]) (fun _ N μ cs h => by simpa only [Sx.Reps, Sx.Rep] using h) (nms := []) (bs := []) (K' := 1) (fun _ => (sm_goes l).mono fun e fr' H' ⟨h1, h2⟩ => ⟨h1, [.bool (l.all okB)], ⟨H', 1, [], [], True⟩, ?_, trivial, ?_, ⟨rfl, fun i b h => by simp at h, List.nodup_nil⟩⟩) (by cases s <;> rfl) (by cases s <;> trivial) rfl rfl id
  ·have e : Try.f81.results.toList = [.tmp 2] := by kernel_rfl
   rw [e]
   simp only [Sx.resultsA, Sx.resultA, h2, Option.getD_some]
   rfl
  ·cases s
   ·exact Sx.AV.ge.refl _
   ·exact Sx.AV.ge.bool _
 ·exact call0_ok _ _ _ _ _ h
theorem smallS_tch : ∀ args, Sx.Tch (smallS args) := by
 intro args
 unfold smallS
 split
 ·exact Sx.Tch.ret _
 ·exact call0_tch _ _
theorem kind_0 (n : Nat) (hE : decide (Sx.kE n = 0) = true) (hR : decide (Sx.kR n = 0) = true) : Sx.PureP (Sx.AV.int false .i64 0) (call0 66 [.raw true n] (Sx.G.on [true, true])) := by
 have e : Sx.pureP (Sx.AV.int false .i64 0) (call0 66 [.raw true n] (Sx.G.on [true, true])) = (Sx.AV.int false .i64 0 = Sx.AV.int false .i64 0 ∧ ((((True ∧ (0 : Int) ≤ 52) ∧ (0 : Int) ≤ 12) ∧ decide (Sx.kE n = 0) = true) ∧ decide (Sx.kR n = 0) = true)) := by kernel_rfl
 exact ⟨by rw [e]; exact ⟨rfl, ⟨⟨⟨⟨trivial, by decide⟩, by decide⟩, hE⟩, hR⟩⟩⟩
theorem kind_1 (n : Nat) (hE : decide (Sx.kE n = 0) = true) (hR : decide (Sx.kR n = 0) = false) : Sx.PureP (Sx.AV.int false .i64 1) (call0 66 [.raw true n] (Sx.G.on [true, false, true])) := by
 have e : Sx.pureP (Sx.AV.int false .i64 1) (call0 66 [.raw true n] (Sx.G.on [true, false, true])) = (Sx.AV.int false .i64 1 = Sx.AV.int false .i64 1 ∧ (((((True ∧ (0 : Int) ≤ 52) ∧ (0 : Int) ≤ 12) ∧ decide (Sx.kE n = 0) = true) ∧ decide (Sx.kR n = 0) = false) ∧ decide (Sx.kE n = 0) = true)) := by kernel_rfl
 exact ⟨by rw [e]; exact ⟨rfl, ⟨⟨⟨⟨⟨trivial, by decide⟩, by decide⟩, hE⟩, hR⟩, hE⟩⟩⟩
theorem kind_2 (n : Nat) (hE : decide (Sx.kE n = 0) = false) (hL : decide (Sx.kE n < 2047) = true) : Sx.PureP (Sx.AV.int false .i64 2) (call0 66 [.raw true n] (Sx.G.on [false, false, true])) := by
 have e : Sx.pureP (Sx.AV.int false .i64 2) (call0 66 [.raw true n] (Sx.G.on [false, false, true])) = (Sx.AV.int false .i64 2 = Sx.AV.int false .i64 2 ∧ (((((True ∧ (0 : Int) ≤ 52) ∧ (0 : Int) ≤ 12) ∧ decide (Sx.kE n = 0) = false) ∧ decide (Sx.kE n = 0) = false) ∧ decide (Sx.kE n < 2047) = true)) := by kernel_rfl
 exact ⟨by rw [e]; exact ⟨rfl, ⟨⟨⟨⟨⟨trivial, by decide⟩, by decide⟩, hE⟩, hE⟩, hL⟩⟩⟩
theorem kind_3 (n : Nat) (hE : decide (Sx.kE n = 0) = false) (hL : decide (Sx.kE n < 2047) = false) (hR : decide (Sx.kR n = 0) = true) : Sx.PureP (Sx.AV.int false .i64 3) (call0 66 [.raw true n] (Sx.G.on [false, false, false, true])) := by
 have e : Sx.pureP (Sx.AV.int false .i64 3) (call0 66 [.raw true n] (Sx.G.on [false, false, false, true])) = (Sx.AV.int false .i64 3 = Sx.AV.int false .i64 3 ∧ ((((((True ∧ (0 : Int) ≤ 52) ∧ (0 : Int) ≤ 12) ∧ decide (Sx.kE n = 0) = false) ∧ decide (Sx.kE n = 0) = false) ∧ decide (Sx.kE n < 2047) = false) ∧ decide (Sx.kR n = 0) = true)) := by kernel_rfl
 exact ⟨by rw [e]; exact ⟨rfl, ⟨⟨⟨⟨⟨⟨trivial, by decide⟩, by decide⟩, hE⟩, hE⟩, hL⟩, hR⟩⟩⟩
theorem kind_4 (n : Nat) (hE : decide (Sx.kE n = 0) = false) (hL : decide (Sx.kE n < 2047) = false) (hR : decide (Sx.kR n = 0) = false) : Sx.PureP (Sx.AV.int false .i64 4) (call0 66 [.raw true n] (Sx.G.on [false, false, false, false])) := by
 have e : Sx.pureP (Sx.AV.int false .i64 4) (call0 66 [.raw true n] (Sx.G.on [false, false, false, false])) = (Sx.AV.int false .i64 4 = Sx.AV.int false .i64 4 ∧ ((((((True ∧ (0 : Int) ≤ 52) ∧ (0 : Int) ≤ 12) ∧ decide (Sx.kE n = 0) = false) ∧ decide (Sx.kE n = 0) = false) ∧ decide (Sx.kE n < 2047) = false) ∧ decide (Sx.kR n = 0) = false)) := by kernel_rfl
 exact ⟨by rw [e]; exact ⟨rfl, ⟨⟨⟨⟨⟨⟨trivial, by decide⟩, by decide⟩, hE⟩, hE⟩, hL⟩, hR⟩⟩⟩
noncomputable def kindS : List Sx.AV → Sx.M Sx.AV
 | [.flt s n] => Sx.M.ret (.int s .i64 (Sx.kindDef n))
 | [.raw s n] => Sx.M.ret (.int s .i64 (Sx.kindDef n))
 | _ => Sx.M.no
theorem kind_road (n : Nat) : ∃ path lv, Sx.PureP lv (call0 66 [.raw true n] (Sx.G.on path)) ∧ lv = Sx.AV.int false .i64 (Sx.kindDef n) := by
 cases hE : decide (Sx.kE n = 0) with
 | true =>
  cases hR : decide (Sx.kR n = 0) with
  | true => exact ⟨_, _, kind_0 n hE hR, by simp only [Sx.kindDef, hE, hR, cond_true]⟩
  | false => exact ⟨_, _, kind_1 n hE hR, by simp only [Sx.kindDef, hE, hR, cond_true, cond_false]⟩
 | false =>
  cases hL : decide (Sx.kE n < 2047) with
  | true => exact ⟨_, _, kind_2 n hE hL, by simp only [Sx.kindDef, hE, hL, cond_true, cond_false]⟩
  | false =>
   cases hR : decide (Sx.kR n = 0) with
   | true => exact ⟨_, _, kind_3 n hE hL hR, by simp only [Sx.kindDef, hE, hL, hR, cond_true, cond_false]⟩
   | false => exact ⟨_, _, kind_4 n hE hL hR, by simp only [Sx.kindDef, hE, hL, hR, cond_true, cond_false]⟩
theorem kindS_ok : ∀ args v g g', kindS args g = .done v g' → Sx.CallIs Try.prog 66 args v g g' := by
 intro args v g g' h
 unfold kindS at h
 split at h
 ·rename_i s n
  obtain ⟨rfl, rfl⟩ := Sx.ret_done h
  refine Sx.scal call0_ok fun μ cargs ha => ?_
  obtain ⟨c, rfl, hx⟩ := ha.one
  simp only [Sx.Rep] at hx
  obtain ⟨b, rfl, hb⟩ := hx
  obtain ⟨path, lv, h1, rfl⟩ := kind_road b
  refine ⟨[.raw true b], path, _, ?_, h1, rfl, fun c hc => ?_⟩
  ·simp only [Sx.Reps, Sx.Rep]; exact ⟨_, _, rfl, ⟨rfl, hb.2⟩, rfl⟩
  ·have := hc 0 Sx.MM.none
   simp only [Sx.Rep] at this ⊢
   rw [this, ← hb.1, Sx.kind_cn hb.2]
 ·rename_i s n
  obtain ⟨rfl, rfl⟩ := Sx.ret_done h
  refine Sx.scal call0_ok fun μ cargs ha => ?_
  obtain ⟨c, rfl, hx⟩ := ha.one
  simp only [Sx.Rep] at hx
  obtain ⟨rfl, hb⟩ := hx
  obtain ⟨path, lv, h1, rfl⟩ := kind_road n
  refine ⟨[.raw true n], path, _, ?_, h1, rfl, fun c hc => ?_⟩
  ·simp only [Sx.Reps, Sx.Rep]; exact ⟨_, _, rfl, ⟨rfl, hb⟩, rfl⟩
  ·have := hc 0 Sx.MM.none
   simpa only [Sx.Rep] using this
 ·exact (Sx.no_done h).elim
theorem kindS_tch : ∀ args, Sx.Tch (kindS args) := by
 intro args
 unfold kindS
 split
 ·exact Sx.Tch.ret _
 ·exact Sx.Tch.ret _
 ·exact Sx.Tch.no
noncomputable def gam1 : Sx.Known := Sx.kc 36 Sx.ofBits (Sx.kc 62 Sx.toBits (Sx.kc 81 smallS (Sx.kc 66 kindS (Sx.kn))))
theorem gam1_ok : Sx.KnownOk Try.prog gam1 := Sx.kc_ok ((Sx.ofBits_is Try.prog).callIs Try.func36 (by kernel_rfl) (by kernel_rfl) (by kernel_rfl) (by kernel_rfl)) (Sx.kc_ok ((Sx.toBits_is Try.prog).callIs Try.func62 (by kernel_rfl) (by kernel_rfl) (by kernel_rfl) (by kernel_rfl)) (Sx.kc_ok smallS_ok (Sx.kc_ok kindS_ok (Sx.kn_ok))))
theorem gam1_tch : Sx.KnownT gam1 := Sx.kc_tch Sx.Tch.ofBits (Sx.kc_tch Sx.Tch.toBits (Sx.kc_tch smallS_tch (Sx.kc_tch kindS_tch (Sx.kn_tch))))
noncomputable def call1 : Sx.Calls' := Sx.runN Try.prog gam1 (Sx.regionC Try.prog) 1000 50
theorem call1_ok : Sx.CallOk Try.prog call1 := Sx.engineC gam1_ok gam1_tch (by kernel_rfl) (by kernel_rfl) 1000 50
theorem call1_tch : Sx.CallT call1 := Sx.runA_tch gam1_tch (fun _ _ _ h => by cases h) (fun call hc n l fr => Sx.regionC_tch hc n l fr) 50
theorem rowOf_r0 (k : Int) (c0 : decide (k = (1 : Int)) = true) : Sx.PureP (Sx.AV.tup [Sx.AV.agg [Sx.AV.int false .u8 82, Sx.AV.str false [(111 : UInt8), (104 : UInt8), (109 : UInt8)], Sx.AV.bool true, Sx.AV.bool false, Sx.AV.bool false], Sx.AV.bool true]) (call1 63 [.int true .u8 k] (Sx.G.on [true])) := Sx.eqq (q := (True ∧ (decide (k = (1 : Int)) = true))) (by kernel_rfl) ⟨trivial, c0⟩
theorem rowOf_r1 (k : Int) (c0 : decide (k = (1 : Int)) = false) (c1 : decide (k = (2 : Int)) = true) : Sx.PureP (Sx.AV.tup [Sx.AV.agg [Sx.AV.int false .u8 76, Sx.AV.str false [(104 : UInt8), (101 : UInt8), (110 : UInt8), (114 : UInt8), (121 : UInt8)], Sx.AV.bool true, Sx.AV.bool false, Sx.AV.bool false], Sx.AV.bool true]) (call1 63 [.int true .u8 k] (Sx.G.on [false, true])) := Sx.eqq (q := ((True ∧ (decide (k = (1 : Int)) = false)) ∧ (decide (k = (2 : Int)) = true))) (by kernel_rfl) ⟨⟨trivial, c0⟩, c1⟩
theorem rowOf_r2 (k : Int) (c0 : decide (k = (1 : Int)) = false) (c1 : decide (k = (2 : Int)) = false) (c2 : decide (k = (3 : Int)) = true) : Sx.PureP (Sx.AV.tup [Sx.AV.agg [Sx.AV.int false .u8 67, Sx.AV.str false [(102 : UInt8), (97 : UInt8), (114 : UInt8), (97 : UInt8), (100 : UInt8)], Sx.AV.bool true, Sx.AV.bool false, Sx.AV.bool false], Sx.AV.bool true]) (call1 63 [.int true .u8 k] (Sx.G.on [false, false, true])) := Sx.eqq (q := (((True ∧ (decide (k = (1 : Int)) = false)) ∧ (decide (k = (2 : Int)) = false)) ∧ (decide (k = (3 : Int)) = true))) (by kernel_rfl) ⟨⟨⟨trivial, c0⟩, c1⟩, c2⟩
theorem rowOf_r3 (k : Int) (c0 : decide (k = (1 : Int)) = false) (c1 : decide (k = (2 : Int)) = false) (c2 : decide (k = (3 : Int)) = false) (c3 : decide (k = (4 : Int)) = true) : Sx.PureP (Sx.AV.tup [Sx.AV.agg [Sx.AV.int false .u8 73, Sx.AV.str false [(97 : UInt8), (109 : UInt8), (112 : UInt8), (101 : UInt8), (114 : UInt8), (101 : UInt8)], Sx.AV.bool false, Sx.AV.bool false, Sx.AV.bool true], Sx.AV.bool true]) (call1 63 [.int true .u8 k] (Sx.G.on [false, false, false, true])) := Sx.eqq (q := ((((True ∧ (decide (k = (1 : Int)) = false)) ∧ (decide (k = (2 : Int)) = false)) ∧ (decide (k = (3 : Int)) = false)) ∧ (decide (k = (4 : Int)) = true))) (by kernel_rfl) ⟨⟨⟨⟨trivial, c0⟩, c1⟩, c2⟩, c3⟩
theorem rowOf_r4 (k : Int) (c0 : decide (k = (1 : Int)) = false) (c1 : decide (k = (2 : Int)) = false) (c2 : decide (k = (3 : Int)) = false) (c3 : decide (k = (4 : Int)) = false) (c4 : decide (k = (5 : Int)) = true) : Sx.PureP (Sx.AV.tup [Sx.AV.agg [Sx.AV.int false .u8 86, Sx.AV.str false [(118 : UInt8), (111 : UInt8), (108 : UInt8), (116 : UInt8)], Sx.AV.bool false, Sx.AV.bool false, Sx.AV.bool true], Sx.AV.bool true]) (call1 63 [.int true .u8 k] (Sx.G.on [false, false, false, false, true])) := Sx.eqq (q := (((((True ∧ (decide (k = (1 : Int)) = false)) ∧ (decide (k = (2 : Int)) = false)) ∧ (decide (k = (3 : Int)) = false)) ∧ (decide (k = (4 : Int)) = false)) ∧ (decide (k = (5 : Int)) = true))) (by kernel_rfl) ⟨⟨⟨⟨⟨trivial, c0⟩, c1⟩, c2⟩, c3⟩, c4⟩
theorem rowOf_r5 (k : Int) (c0 : decide (k = (1 : Int)) = false) (c1 : decide (k = (2 : Int)) = false) (c2 : decide (k = (3 : Int)) = false) (c3 : decide (k = (4 : Int)) = false) (c4 : decide (k = (5 : Int)) = false) (c5 : decide (k = (6 : Int)) = true) : Sx.PureP (Sx.AV.tup [Sx.AV.agg [Sx.AV.int false .u8 71, Sx.AV.str false [(115 : UInt8), (105 : UInt8), (101 : UInt8), (109 : UInt8), (101 : UInt8), (110 : UInt8), (115 : UInt8)], Sx.AV.bool false, Sx.AV.bool true, Sx.AV.bool false], Sx.AV.bool true]) (call1 63 [.int true .u8 k] (Sx.G.on [false, false, false, false, false, true])) := Sx.eqq (q := ((((((True ∧ (decide (k = (1 : Int)) = false)) ∧ (decide (k = (2 : Int)) = false)) ∧ (decide (k = (3 : Int)) = false)) ∧ (decide (k = (4 : Int)) = false)) ∧ (decide (k = (5 : Int)) = false)) ∧ (decide (k = (6 : Int)) = true))) (by kernel_rfl) ⟨⟨⟨⟨⟨⟨trivial, c0⟩, c1⟩, c2⟩, c3⟩, c4⟩, c5⟩
theorem rowOf_r6 (k : Int) (c0 : decide (k = (1 : Int)) = false) (c1 : decide (k = (2 : Int)) = false) (c2 : decide (k = (3 : Int)) = false) (c3 : decide (k = (4 : Int)) = false) (c4 : decide (k = (5 : Int)) = false) (c5 : decide (k = (6 : Int)) = false) (c6 : decide (k = (7 : Int)) = true) : Sx.PureP (Sx.AV.tup [Sx.AV.agg [Sx.AV.int false .u8 69, Sx.AV.str false [], Sx.AV.bool false, Sx.AV.bool true, Sx.AV.bool false], Sx.AV.bool true]) (call1 63 [.int true .u8 k] (Sx.G.on [false, false, false, false, false, false, true])) := Sx.eqq (q := (((((((True ∧ (decide (k = (1 : Int)) = false)) ∧ (decide (k = (2 : Int)) = false)) ∧ (decide (k = (3 : Int)) = false)) ∧ (decide (k = (4 : Int)) = false)) ∧ (decide (k = (5 : Int)) = false)) ∧ (decide (k = (6 : Int)) = false)) ∧ (decide (k = (7 : Int)) = true))) (by kernel_rfl) ⟨⟨⟨⟨⟨⟨⟨trivial, c0⟩, c1⟩, c2⟩, c3⟩, c4⟩, c5⟩, c6⟩
theorem rowOf_r7 (k : Int) (c0 : decide (k = (1 : Int)) = false) (c1 : decide (k = (2 : Int)) = false) (c2 : decide (k = (3 : Int)) = false) (c3 : decide (k = (4 : Int)) = false) (c4 : decide (k = (5 : Int)) = false) (c5 : decide (k = (6 : Int)) = false) (c6 : decide (k = (7 : Int)) = false) (c7 : decide (k = (8 : Int)) = true) : Sx.PureP (Sx.AV.tup [Sx.AV.agg [Sx.AV.int false .u8 80, Sx.AV.str false [(111 : UInt8), (104 : UInt8), (109 : UInt8)], Sx.AV.bool true, Sx.AV.bool false, Sx.AV.bool false], Sx.AV.bool true]) (call1 63 [.int true .u8 k] (Sx.G.on [false, false, false, false, false, false, false, true])) := Sx.eqq (q := ((((((((True ∧ (decide (k = (1 : Int)) = false)) ∧ (decide (k = (2 : Int)) = false)) ∧ (decide (k = (3 : Int)) = false)) ∧ (decide (k = (4 : Int)) = false)) ∧ (decide (k = (5 : Int)) = false)) ∧ (decide (k = (6 : Int)) = false)) ∧ (decide (k = (7 : Int)) = false)) ∧ (decide (k = (8 : Int)) = true))) (by kernel_rfl) ⟨⟨⟨⟨⟨⟨⟨⟨trivial, c0⟩, c1⟩, c2⟩, c3⟩, c4⟩, c5⟩, c6⟩, c7⟩
theorem rowOf_r8 (k : Int) (c0 : decide (k = (1 : Int)) = false) (c1 : decide (k = (2 : Int)) = false) (c2 : decide (k = (3 : Int)) = false) (c3 : decide (k = (4 : Int)) = false) (c4 : decide (k = (5 : Int)) = false) (c5 : decide (k = (6 : Int)) = false) (c6 : decide (k = (7 : Int)) = false) (c7 : decide (k = (8 : Int)) = false) : Sx.PureP (Sx.AV.tup [Sx.AV.agg [Sx.AV.int false .u8 0, Sx.AV.str false [], Sx.AV.bool false, Sx.AV.bool false, Sx.AV.bool false], Sx.AV.bool false]) (call1 63 [.int true .u8 k] (Sx.G.on [false, false, false, false, false, false, false, false])) := Sx.eqq (q := ((((((((True ∧ (decide (k = (1 : Int)) = false)) ∧ (decide (k = (2 : Int)) = false)) ∧ (decide (k = (3 : Int)) = false)) ∧ (decide (k = (4 : Int)) = false)) ∧ (decide (k = (5 : Int)) = false)) ∧ (decide (k = (6 : Int)) = false)) ∧ (decide (k = (7 : Int)) = false)) ∧ (decide (k = (8 : Int)) = false))) (by kernel_rfl) ⟨⟨⟨⟨⟨⟨⟨⟨trivial, c0⟩, c1⟩, c2⟩, c3⟩, c4⟩, c5⟩, c6⟩, c7⟩
noncomputable def rowOf_0 (k : Int) : Int := (bif decide (k = (1 : Int)) then ((82 : Int)) else (bif decide (k = (2 : Int)) then ((76 : Int)) else (bif decide (k = (3 : Int)) then ((67 : Int)) else (bif decide (k = (4 : Int)) then ((73 : Int)) else (bif decide (k = (5 : Int)) then ((86 : Int)) else (bif decide (k = (6 : Int)) then ((71 : Int)) else (bif decide (k = (7 : Int)) then ((69 : Int)) else (bif decide (k = (8 : Int)) then ((80 : Int)) else ((0 : Int))))))))))
noncomputable def rowOf_1 (k : Int) : List UInt8 := (bif decide (k = (1 : Int)) then ([(111 : UInt8), (104 : UInt8), (109 : UInt8)]) else (bif decide (k = (2 : Int)) then ([(104 : UInt8), (101 : UInt8), (110 : UInt8), (114 : UInt8), (121 : UInt8)]) else (bif decide (k = (3 : Int)) then ([(102 : UInt8), (97 : UInt8), (114 : UInt8), (97 : UInt8), (100 : UInt8)]) else (bif decide (k = (4 : Int)) then ([(97 : UInt8), (109 : UInt8), (112 : UInt8), (101 : UInt8), (114 : UInt8), (101 : UInt8)]) else (bif decide (k = (5 : Int)) then ([(118 : UInt8), (111 : UInt8), (108 : UInt8), (116 : UInt8)]) else (bif decide (k = (6 : Int)) then ([(115 : UInt8), (105 : UInt8), (101 : UInt8), (109 : UInt8), (101 : UInt8), (110 : UInt8), (115 : UInt8)]) else (bif decide (k = (7 : Int)) then ([]) else (bif decide (k = (8 : Int)) then ([(111 : UInt8), (104 : UInt8), (109 : UInt8)]) else ([])))))))))
noncomputable def rowOf_2 (k : Int) : Bool := (bif decide (k = (1 : Int)) then (true) else (bif decide (k = (2 : Int)) then (true) else (bif decide (k = (3 : Int)) then (true) else (bif decide (k = (4 : Int)) then (false) else (bif decide (k = (5 : Int)) then (false) else (bif decide (k = (6 : Int)) then (false) else (bif decide (k = (7 : Int)) then (false) else (bif decide (k = (8 : Int)) then (true) else (false)))))))))
noncomputable def rowOf_3 (k : Int) : Bool := (bif decide (k = (1 : Int)) then (false) else (bif decide (k = (2 : Int)) then (false) else (bif decide (k = (3 : Int)) then (false) else (bif decide (k = (4 : Int)) then (false) else (bif decide (k = (5 : Int)) then (false) else (bif decide (k = (6 : Int)) then (true) else (bif decide (k = (7 : Int)) then (true) else (bif decide (k = (8 : Int)) then (false) else (false)))))))))
noncomputable def rowOf_4 (k : Int) : Bool := (bif decide (k = (1 : Int)) then (false) else (bif decide (k = (2 : Int)) then (false) else (bif decide (k = (3 : Int)) then (false) else (bif decide (k = (4 : Int)) then (true) else (bif decide (k = (5 : Int)) then (true) else (bif decide (k = (6 : Int)) then (false) else (bif decide (k = (7 : Int)) then (false) else (bif decide (k = (8 : Int)) then (false) else (false)))))))))
noncomputable def rowOf_5 (k : Int) : Bool := (bif decide (k = (1 : Int)) then (true) else (bif decide (k = (2 : Int)) then (true) else (bif decide (k = (3 : Int)) then (true) else (bif decide (k = (4 : Int)) then (true) else (bif decide (k = (5 : Int)) then (true) else (bif decide (k = (6 : Int)) then (true) else (bif decide (k = (7 : Int)) then (true) else (bif decide (k = (8 : Int)) then (true) else (false)))))))))
noncomputable def rowOfS : List Sx.AV → Sx.M Sx.AV
 | [.int s0 .u8 k] => Sx.M.ret (Sx.AV.tup [Sx.AV.agg [Sx.AV.int s0 (IntKind.u8) (rowOf_0 k), Sx.AV.str s0 (rowOf_1 k), Sx.cmpB s0 (rowOf_2 k), Sx.cmpB s0 (rowOf_3 k), Sx.cmpB s0 (rowOf_4 k)], Sx.cmpB s0 (rowOf_5 k)])
 | args => call1 63 args
theorem rowOfS_ok : ∀ args v g g', rowOfS args g = .done v g' → Sx.CallIs Try.prog 63 args v g g' := by
 intro args v g g' h
 unfold rowOfS at h
 split at h
 ·rename_i s0 k
  obtain ⟨rfl, rfl⟩ := Sx.ret_done h
  refine Sx.scal call1_ok fun μ cargs ha => ?_
  have ha' : Sx.Reps 0 Sx.MM.none [.int true .u8 k] cargs.toList := by simpa only [Sx.Reps, Sx.Rep] using ha
  cases t0 : decide (k = (1 : Int)) with
  | true =>
   exact ⟨_, _, _, ha', rowOf_r0 k t0, rfl, fun cv hc => by have := hc g.nx μ; have e0 : rowOf_0 k = ((82 : Int)) := (Sx.ct t0).trans (rfl); have e1 : rowOf_1 k = ([(111 : UInt8), (104 : UInt8), (109 : UInt8)]) := (Sx.ct t0).trans (rfl); have e2 : rowOf_2 k = (true) := (Sx.ct t0).trans (rfl); have e3 : rowOf_3 k = (false) := (Sx.ct t0).trans (rfl); have e4 : rowOf_4 k = (false) := (Sx.ct t0).trans (rfl); have e5 : rowOf_5 k = (true) := (Sx.ct t0).trans (rfl); rw [e0, e1, e2, e3, e4, e5]; simpa only [Sx.Rep, Sx.Reps, Sx.Rep_cmpB] using this⟩
  | false =>
   cases t1 : decide (k = (2 : Int)) with
   | true =>
    exact ⟨_, _, _, ha', rowOf_r1 k t0 t1, rfl, fun cv hc => by have := hc g.nx μ; have e0 : rowOf_0 k = ((76 : Int)) := (Sx.cf t0).trans ((Sx.ct t1).trans (rfl)); have e1 : rowOf_1 k = ([(104 : UInt8), (101 : UInt8), (110 : UInt8), (114 : UInt8), (121 : UInt8)]) := (Sx.cf t0).trans ((Sx.ct t1).trans (rfl)); have e2 : rowOf_2 k = (true) := (Sx.cf t0).trans ((Sx.ct t1).trans (rfl)); have e3 : rowOf_3 k = (false) := (Sx.cf t0).trans ((Sx.ct t1).trans (rfl)); have e4 : rowOf_4 k = (false) := (Sx.cf t0).trans ((Sx.ct t1).trans (rfl)); have e5 : rowOf_5 k = (true) := (Sx.cf t0).trans ((Sx.ct t1).trans (rfl)); rw [e0, e1, e2, e3, e4, e5]; simpa only [Sx.Rep, Sx.Reps, Sx.Rep_cmpB] using this⟩
   | false =>
    cases t2 : decide (k = (3 : Int)) with
    | true =>
     exact ⟨_, _, _, ha', rowOf_r2 k t0 t1 t2, rfl, fun cv hc => by have := hc g.nx μ; have e0 : rowOf_0 k = ((67 : Int)) := (Sx.cf t0).trans ((Sx.cf t1).trans ((Sx.ct t2).trans (rfl))); have e1 : rowOf_1 k = ([(102 : UInt8), (97 : UInt8), (114 : UInt8), (97 : UInt8), (100 : UInt8)]) := (Sx.cf t0).trans ((Sx.cf t1).trans ((Sx.ct t2).trans (rfl))); have e2 : rowOf_2 k = (true) := (Sx.cf t0).trans ((Sx.cf t1).trans ((Sx.ct t2).trans (rfl))); have e3 : rowOf_3 k = (false) := (Sx.cf t0).trans ((Sx.cf t1).trans ((Sx.ct t2).trans (rfl))); have e4 : rowOf_4 k = (false) := (Sx.cf t0).trans ((Sx.cf t1).trans ((Sx.ct t2).trans (rfl))); have e5 : rowOf_5 k = (true) := (Sx.cf t0).trans ((Sx.cf t1).trans ((Sx.ct t2).trans (rfl))); rw [e0, e1, e2, e3, e4, e5]; simpa only [Sx.Rep, Sx.Reps, Sx.Rep_cmpB] using this⟩
    | false =>
     cases t3 : decide (k = (4 : Int)) with
     | true =>
      exact ⟨_, _, _, ha', rowOf_r3 k t0 t1 t2 t3, rfl, fun cv hc => by have := hc g.nx μ; have e0 : rowOf_0 k = ((73 : Int)) := (Sx.cf t0).trans ((Sx.cf t1).trans ((Sx.cf t2).trans ((Sx.ct t3).trans (rfl)))); have e1 : rowOf_1 k = ([(97 : UInt8), (109 : UInt8), (112 : UInt8), (101 : UInt8), (114 : UInt8), (101 : UInt8)]) := (Sx.cf t0).trans ((Sx.cf t1).trans ((Sx.cf t2).trans ((Sx.ct t3).trans (rfl)))); have e2 : rowOf_2 k = (false) := (Sx.cf t0).trans ((Sx.cf t1).trans ((Sx.cf t2).trans ((Sx.ct t3).trans (rfl)))); have e3 : rowOf_3 k = (false) := (Sx.cf t0).trans ((Sx.cf t1).trans ((Sx.cf t2).trans ((Sx.ct t3).trans (rfl)))); have e4 : rowOf_4 k = (true) := (Sx.cf t0).trans ((Sx.cf t1).trans ((Sx.cf t2).trans ((Sx.ct t3).trans (rfl)))); have e5 : rowOf_5 k = (true) := (Sx.cf t0).trans ((Sx.cf t1).trans ((Sx.cf t2).trans ((Sx.ct t3).trans (rfl)))); rw [e0, e1, e2, e3, e4, e5]; simpa only [Sx.Rep, Sx.Reps, Sx.Rep_cmpB] using this⟩
     | false =>
      cases t4 : decide (k = (5 : Int)) with
      | true =>
       exact ⟨_, _, _, ha', rowOf_r4 k t0 t1 t2 t3 t4, rfl, fun cv hc => by have := hc g.nx μ; have e0 : rowOf_0 k = ((86 : Int)) := (Sx.cf t0).trans ((Sx.cf t1).trans ((Sx.cf t2).trans ((Sx.cf t3).trans ((Sx.ct t4).trans (rfl))))); have e1 : rowOf_1 k = ([(118 : UInt8), (111 : UInt8), (108 : UInt8), (116 : UInt8)]) := (Sx.cf t0).trans ((Sx.cf t1).trans ((Sx.cf t2).trans ((Sx.cf t3).trans ((Sx.ct t4).trans (rfl))))); have e2 : rowOf_2 k = (false) := (Sx.cf t0).trans ((Sx.cf t1).trans ((Sx.cf t2).trans ((Sx.cf t3).trans ((Sx.ct t4).trans (rfl))))); have e3 : rowOf_3 k = (false) := (Sx.cf t0).trans ((Sx.cf t1).trans ((Sx.cf t2).trans ((Sx.cf t3).trans ((Sx.ct t4).trans (rfl))))); have e4 : rowOf_4 k = (true) := (Sx.cf t0).trans ((Sx.cf t1).trans ((Sx.cf t2).trans ((Sx.cf t3).trans ((Sx.ct t4).trans (rfl))))); have e5 : rowOf_5 k = (true) := (Sx.cf t0).trans ((Sx.cf t1).trans ((Sx.cf t2).trans ((Sx.cf t3).trans ((Sx.ct t4).trans (rfl))))); rw [e0, e1, e2, e3, e4, e5]; simpa only [Sx.Rep, Sx.Reps, Sx.Rep_cmpB] using this⟩
      | false =>
       cases t5 : decide (k = (6 : Int)) with
       | true =>
        exact ⟨_, _, _, ha', rowOf_r5 k t0 t1 t2 t3 t4 t5, rfl, fun cv hc => by have := hc g.nx μ; have e0 : rowOf_0 k = ((71 : Int)) := (Sx.cf t0).trans ((Sx.cf t1).trans ((Sx.cf t2).trans ((Sx.cf t3).trans ((Sx.cf t4).trans ((Sx.ct t5).trans (rfl)))))); have e1 : rowOf_1 k = ([(115 : UInt8), (105 : UInt8), (101 : UInt8), (109 : UInt8), (101 : UInt8), (110 : UInt8), (115 : UInt8)]) := (Sx.cf t0).trans ((Sx.cf t1).trans ((Sx.cf t2).trans ((Sx.cf t3).trans ((Sx.cf t4).trans ((Sx.ct t5).trans (rfl)))))); have e2 : rowOf_2 k = (false) := (Sx.cf t0).trans ((Sx.cf t1).trans ((Sx.cf t2).trans ((Sx.cf t3).trans ((Sx.cf t4).trans ((Sx.ct t5).trans (rfl)))))); have e3 : rowOf_3 k = (true) := (Sx.cf t0).trans ((Sx.cf t1).trans ((Sx.cf t2).trans ((Sx.cf t3).trans ((Sx.cf t4).trans ((Sx.ct t5).trans (rfl)))))); have e4 : rowOf_4 k = (false) := (Sx.cf t0).trans ((Sx.cf t1).trans ((Sx.cf t2).trans ((Sx.cf t3).trans ((Sx.cf t4).trans ((Sx.ct t5).trans (rfl)))))); have e5 : rowOf_5 k = (true) := (Sx.cf t0).trans ((Sx.cf t1).trans ((Sx.cf t2).trans ((Sx.cf t3).trans ((Sx.cf t4).trans ((Sx.ct t5).trans (rfl)))))); rw [e0, e1, e2, e3, e4, e5]; simpa only [Sx.Rep, Sx.Reps, Sx.Rep_cmpB] using this⟩
       | false =>
        cases t6 : decide (k = (7 : Int)) with
        | true =>
         exact ⟨_, _, _, ha', rowOf_r6 k t0 t1 t2 t3 t4 t5 t6, rfl, fun cv hc => by have := hc g.nx μ; have e0 : rowOf_0 k = ((69 : Int)) := (Sx.cf t0).trans ((Sx.cf t1).trans ((Sx.cf t2).trans ((Sx.cf t3).trans ((Sx.cf t4).trans ((Sx.cf t5).trans ((Sx.ct t6).trans (rfl))))))); have e1 : rowOf_1 k = ([]) := (Sx.cf t0).trans ((Sx.cf t1).trans ((Sx.cf t2).trans ((Sx.cf t3).trans ((Sx.cf t4).trans ((Sx.cf t5).trans ((Sx.ct t6).trans (rfl))))))); have e2 : rowOf_2 k = (false) := (Sx.cf t0).trans ((Sx.cf t1).trans ((Sx.cf t2).trans ((Sx.cf t3).trans ((Sx.cf t4).trans ((Sx.cf t5).trans ((Sx.ct t6).trans (rfl))))))); have e3 : rowOf_3 k = (true) := (Sx.cf t0).trans ((Sx.cf t1).trans ((Sx.cf t2).trans ((Sx.cf t3).trans ((Sx.cf t4).trans ((Sx.cf t5).trans ((Sx.ct t6).trans (rfl))))))); have e4 : rowOf_4 k = (false) := (Sx.cf t0).trans ((Sx.cf t1).trans ((Sx.cf t2).trans ((Sx.cf t3).trans ((Sx.cf t4).trans ((Sx.cf t5).trans ((Sx.ct t6).trans (rfl))))))); have e5 : rowOf_5 k = (true) := (Sx.cf t0).trans ((Sx.cf t1).trans ((Sx.cf t2).trans ((Sx.cf t3).trans ((Sx.cf t4).trans ((Sx.cf t5).trans ((Sx.ct t6).trans (rfl))))))); rw [e0, e1, e2, e3, e4, e5]; simpa only [Sx.Rep, Sx.Reps, Sx.Rep_cmpB] using this⟩
        | false =>
         cases t7 : decide (k = (8 : Int)) with
         | true =>
          exact ⟨_, _, _, ha', rowOf_r7 k t0 t1 t2 t3 t4 t5 t6 t7, rfl, fun cv hc => by have := hc g.nx μ; have e0 : rowOf_0 k = ((80 : Int)) := (Sx.cf t0).trans ((Sx.cf t1).trans ((Sx.cf t2).trans ((Sx.cf t3).trans ((Sx.cf t4).trans ((Sx.cf t5).trans ((Sx.cf t6).trans ((Sx.ct t7).trans (rfl)))))))); have e1 : rowOf_1 k = ([(111 : UInt8), (104 : UInt8), (109 : UInt8)]) := (Sx.cf t0).trans ((Sx.cf t1).trans ((Sx.cf t2).trans ((Sx.cf t3).trans ((Sx.cf t4).trans ((Sx.cf t5).trans ((Sx.cf t6).trans ((Sx.ct t7).trans (rfl)))))))); have e2 : rowOf_2 k = (true) := (Sx.cf t0).trans ((Sx.cf t1).trans ((Sx.cf t2).trans ((Sx.cf t3).trans ((Sx.cf t4).trans ((Sx.cf t5).trans ((Sx.cf t6).trans ((Sx.ct t7).trans (rfl)))))))); have e3 : rowOf_3 k = (false) := (Sx.cf t0).trans ((Sx.cf t1).trans ((Sx.cf t2).trans ((Sx.cf t3).trans ((Sx.cf t4).trans ((Sx.cf t5).trans ((Sx.cf t6).trans ((Sx.ct t7).trans (rfl)))))))); have e4 : rowOf_4 k = (false) := (Sx.cf t0).trans ((Sx.cf t1).trans ((Sx.cf t2).trans ((Sx.cf t3).trans ((Sx.cf t4).trans ((Sx.cf t5).trans ((Sx.cf t6).trans ((Sx.ct t7).trans (rfl)))))))); have e5 : rowOf_5 k = (true) := (Sx.cf t0).trans ((Sx.cf t1).trans ((Sx.cf t2).trans ((Sx.cf t3).trans ((Sx.cf t4).trans ((Sx.cf t5).trans ((Sx.cf t6).trans ((Sx.ct t7).trans (rfl)))))))); rw [e0, e1, e2, e3, e4, e5]; simpa only [Sx.Rep, Sx.Reps, Sx.Rep_cmpB] using this⟩
         | false =>
          exact ⟨_, _, _, ha', rowOf_r8 k t0 t1 t2 t3 t4 t5 t6 t7, rfl, fun cv hc => by have := hc g.nx μ; have e0 : rowOf_0 k = ((0 : Int)) := (Sx.cf t0).trans ((Sx.cf t1).trans ((Sx.cf t2).trans ((Sx.cf t3).trans ((Sx.cf t4).trans ((Sx.cf t5).trans ((Sx.cf t6).trans ((Sx.cf t7).trans (rfl)))))))); have e1 : rowOf_1 k = ([]) := (Sx.cf t0).trans ((Sx.cf t1).trans ((Sx.cf t2).trans ((Sx.cf t3).trans ((Sx.cf t4).trans ((Sx.cf t5).trans ((Sx.cf t6).trans ((Sx.cf t7).trans (rfl)))))))); have e2 : rowOf_2 k = (false) := (Sx.cf t0).trans ((Sx.cf t1).trans ((Sx.cf t2).trans ((Sx.cf t3).trans ((Sx.cf t4).trans ((Sx.cf t5).trans ((Sx.cf t6).trans ((Sx.cf t7).trans (rfl)))))))); have e3 : rowOf_3 k = (false) := (Sx.cf t0).trans ((Sx.cf t1).trans ((Sx.cf t2).trans ((Sx.cf t3).trans ((Sx.cf t4).trans ((Sx.cf t5).trans ((Sx.cf t6).trans ((Sx.cf t7).trans (rfl)))))))); have e4 : rowOf_4 k = (false) := (Sx.cf t0).trans ((Sx.cf t1).trans ((Sx.cf t2).trans ((Sx.cf t3).trans ((Sx.cf t4).trans ((Sx.cf t5).trans ((Sx.cf t6).trans ((Sx.cf t7).trans (rfl)))))))); have e5 : rowOf_5 k = (false) := (Sx.cf t0).trans ((Sx.cf t1).trans ((Sx.cf t2).trans ((Sx.cf t3).trans ((Sx.cf t4).trans ((Sx.cf t5).trans ((Sx.cf t6).trans ((Sx.cf t7).trans (rfl)))))))); rw [e0, e1, e2, e3, e4, e5]; simpa only [Sx.Rep, Sx.Reps, Sx.Rep_cmpB] using this⟩
 ·exact call1_ok _ _ _ _ _ h
theorem rowOfS_tch : ∀ args, Sx.Tch (rowOfS args) := by
 intro args
 unfold rowOfS
 split
 ·exact Sx.Tch.ret _
 ·exact call1_tch _ _
theorem of_r0 (k : Int) (c0 : decide ((82 : Int) = k) = true) : Sx.PureP (Sx.AV.tup [Sx.AV.int false .u8 1, Sx.AV.bool true]) (call1 82 [.int true .u8 k] (Sx.G.on [true])) := Sx.eqq (q := (True ∧ (decide ((82 : Int) = k) = true))) (by kernel_rfl) ⟨trivial, c0⟩
theorem of_r1 (k : Int) (c0 : decide ((82 : Int) = k) = false) (c1 : decide ((76 : Int) = k) = true) : Sx.PureP (Sx.AV.tup [Sx.AV.int false .u8 2, Sx.AV.bool true]) (call1 82 [.int true .u8 k] (Sx.G.on [false, true])) := Sx.eqq (q := ((True ∧ (decide ((82 : Int) = k) = false)) ∧ (decide ((76 : Int) = k) = true))) (by kernel_rfl) ⟨⟨trivial, c0⟩, c1⟩
theorem of_r2 (k : Int) (c0 : decide ((82 : Int) = k) = false) (c1 : decide ((76 : Int) = k) = false) (c2 : decide ((67 : Int) = k) = true) : Sx.PureP (Sx.AV.tup [Sx.AV.int false .u8 3, Sx.AV.bool true]) (call1 82 [.int true .u8 k] (Sx.G.on [false, false, true])) := Sx.eqq (q := (((True ∧ (decide ((82 : Int) = k) = false)) ∧ (decide ((76 : Int) = k) = false)) ∧ (decide ((67 : Int) = k) = true))) (by kernel_rfl) ⟨⟨⟨trivial, c0⟩, c1⟩, c2⟩
theorem of_r3 (k : Int) (c0 : decide ((82 : Int) = k) = false) (c1 : decide ((76 : Int) = k) = false) (c2 : decide ((67 : Int) = k) = false) (c3 : decide ((73 : Int) = k) = true) : Sx.PureP (Sx.AV.tup [Sx.AV.int false .u8 4, Sx.AV.bool true]) (call1 82 [.int true .u8 k] (Sx.G.on [false, false, false, true])) := Sx.eqq (q := ((((True ∧ (decide ((82 : Int) = k) = false)) ∧ (decide ((76 : Int) = k) = false)) ∧ (decide ((67 : Int) = k) = false)) ∧ (decide ((73 : Int) = k) = true))) (by kernel_rfl) ⟨⟨⟨⟨trivial, c0⟩, c1⟩, c2⟩, c3⟩
theorem of_r4 (k : Int) (c0 : decide ((82 : Int) = k) = false) (c1 : decide ((76 : Int) = k) = false) (c2 : decide ((67 : Int) = k) = false) (c3 : decide ((73 : Int) = k) = false) (c4 : decide ((86 : Int) = k) = true) : Sx.PureP (Sx.AV.tup [Sx.AV.int false .u8 5, Sx.AV.bool true]) (call1 82 [.int true .u8 k] (Sx.G.on [false, false, false, false, true])) := Sx.eqq (q := (((((True ∧ (decide ((82 : Int) = k) = false)) ∧ (decide ((76 : Int) = k) = false)) ∧ (decide ((67 : Int) = k) = false)) ∧ (decide ((73 : Int) = k) = false)) ∧ (decide ((86 : Int) = k) = true))) (by kernel_rfl) ⟨⟨⟨⟨⟨trivial, c0⟩, c1⟩, c2⟩, c3⟩, c4⟩
theorem of_r5 (k : Int) (c0 : decide ((82 : Int) = k) = false) (c1 : decide ((76 : Int) = k) = false) (c2 : decide ((67 : Int) = k) = false) (c3 : decide ((73 : Int) = k) = false) (c4 : decide ((86 : Int) = k) = false) (c5 : decide ((71 : Int) = k) = true) : Sx.PureP (Sx.AV.tup [Sx.AV.int false .u8 6, Sx.AV.bool true]) (call1 82 [.int true .u8 k] (Sx.G.on [false, false, false, false, false, true])) := Sx.eqq (q := ((((((True ∧ (decide ((82 : Int) = k) = false)) ∧ (decide ((76 : Int) = k) = false)) ∧ (decide ((67 : Int) = k) = false)) ∧ (decide ((73 : Int) = k) = false)) ∧ (decide ((86 : Int) = k) = false)) ∧ (decide ((71 : Int) = k) = true))) (by kernel_rfl) ⟨⟨⟨⟨⟨⟨trivial, c0⟩, c1⟩, c2⟩, c3⟩, c4⟩, c5⟩
theorem of_r6 (k : Int) (c0 : decide ((82 : Int) = k) = false) (c1 : decide ((76 : Int) = k) = false) (c2 : decide ((67 : Int) = k) = false) (c3 : decide ((73 : Int) = k) = false) (c4 : decide ((86 : Int) = k) = false) (c5 : decide ((71 : Int) = k) = false) (c6 : decide ((69 : Int) = k) = true) : Sx.PureP (Sx.AV.tup [Sx.AV.int false .u8 7, Sx.AV.bool true]) (call1 82 [.int true .u8 k] (Sx.G.on [false, false, false, false, false, false, true])) := Sx.eqq (q := (((((((True ∧ (decide ((82 : Int) = k) = false)) ∧ (decide ((76 : Int) = k) = false)) ∧ (decide ((67 : Int) = k) = false)) ∧ (decide ((73 : Int) = k) = false)) ∧ (decide ((86 : Int) = k) = false)) ∧ (decide ((71 : Int) = k) = false)) ∧ (decide ((69 : Int) = k) = true))) (by kernel_rfl) ⟨⟨⟨⟨⟨⟨⟨trivial, c0⟩, c1⟩, c2⟩, c3⟩, c4⟩, c5⟩, c6⟩
theorem of_r7 (k : Int) (c0 : decide ((82 : Int) = k) = false) (c1 : decide ((76 : Int) = k) = false) (c2 : decide ((67 : Int) = k) = false) (c3 : decide ((73 : Int) = k) = false) (c4 : decide ((86 : Int) = k) = false) (c5 : decide ((71 : Int) = k) = false) (c6 : decide ((69 : Int) = k) = false) (c7 : decide ((80 : Int) = k) = true) : Sx.PureP (Sx.AV.tup [Sx.AV.int false .u8 8, Sx.AV.bool true]) (call1 82 [.int true .u8 k] (Sx.G.on [false, false, false, false, false, false, false, true])) := Sx.eqq (q := ((((((((True ∧ (decide ((82 : Int) = k) = false)) ∧ (decide ((76 : Int) = k) = false)) ∧ (decide ((67 : Int) = k) = false)) ∧ (decide ((73 : Int) = k) = false)) ∧ (decide ((86 : Int) = k) = false)) ∧ (decide ((71 : Int) = k) = false)) ∧ (decide ((69 : Int) = k) = false)) ∧ (decide ((80 : Int) = k) = true))) (by kernel_rfl) ⟨⟨⟨⟨⟨⟨⟨⟨trivial, c0⟩, c1⟩, c2⟩, c3⟩, c4⟩, c5⟩, c6⟩, c7⟩
theorem of_r8 (k : Int) (c0 : decide ((82 : Int) = k) = false) (c1 : decide ((76 : Int) = k) = false) (c2 : decide ((67 : Int) = k) = false) (c3 : decide ((73 : Int) = k) = false) (c4 : decide ((86 : Int) = k) = false) (c5 : decide ((71 : Int) = k) = false) (c6 : decide ((69 : Int) = k) = false) (c7 : decide ((80 : Int) = k) = false) : Sx.PureP (Sx.AV.tup [Sx.AV.int false .u8 0, Sx.AV.bool false]) (call1 82 [.int true .u8 k] (Sx.G.on [false, false, false, false, false, false, false, false])) := Sx.eqq (q := ((((((((True ∧ (decide ((82 : Int) = k) = false)) ∧ (decide ((76 : Int) = k) = false)) ∧ (decide ((67 : Int) = k) = false)) ∧ (decide ((73 : Int) = k) = false)) ∧ (decide ((86 : Int) = k) = false)) ∧ (decide ((71 : Int) = k) = false)) ∧ (decide ((69 : Int) = k) = false)) ∧ (decide ((80 : Int) = k) = false))) (by kernel_rfl) ⟨⟨⟨⟨⟨⟨⟨⟨trivial, c0⟩, c1⟩, c2⟩, c3⟩, c4⟩, c5⟩, c6⟩, c7⟩
noncomputable def of_0 (k : Int) : Int := (bif decide ((82 : Int) = k) then ((1 : Int)) else (bif decide ((76 : Int) = k) then ((2 : Int)) else (bif decide ((67 : Int) = k) then ((3 : Int)) else (bif decide ((73 : Int) = k) then ((4 : Int)) else (bif decide ((86 : Int) = k) then ((5 : Int)) else (bif decide ((71 : Int) = k) then ((6 : Int)) else (bif decide ((69 : Int) = k) then ((7 : Int)) else (bif decide ((80 : Int) = k) then ((8 : Int)) else ((0 : Int))))))))))
noncomputable def of_1 (k : Int) : Bool := (bif decide ((82 : Int) = k) then (true) else (bif decide ((76 : Int) = k) then (true) else (bif decide ((67 : Int) = k) then (true) else (bif decide ((73 : Int) = k) then (true) else (bif decide ((86 : Int) = k) then (true) else (bif decide ((71 : Int) = k) then (true) else (bif decide ((69 : Int) = k) then (true) else (bif decide ((80 : Int) = k) then (true) else (false)))))))))
noncomputable def ofS : List Sx.AV → Sx.M Sx.AV
 | [.int s0 .u8 k] => Sx.M.ret (Sx.AV.tup [Sx.AV.int s0 (IntKind.u8) (of_0 k), Sx.cmpB s0 (of_1 k)])
 | args => call1 82 args
theorem ofS_ok : ∀ args v g g', ofS args g = .done v g' → Sx.CallIs Try.prog 82 args v g g' := by
 intro args v g g' h
 unfold ofS at h
 split at h
 ·rename_i s0 k
  obtain ⟨rfl, rfl⟩ := Sx.ret_done h
  refine Sx.scal call1_ok fun μ cargs ha => ?_
  have ha' : Sx.Reps 0 Sx.MM.none [.int true .u8 k] cargs.toList := by simpa only [Sx.Reps, Sx.Rep] using ha
  cases t0 : decide ((82 : Int) = k) with
  | true =>
   exact ⟨_, _, _, ha', of_r0 k t0, rfl, fun cv hc => by have := hc g.nx μ; have e0 : of_0 k = ((1 : Int)) := (Sx.ct t0).trans (rfl); have e1 : of_1 k = (true) := (Sx.ct t0).trans (rfl); rw [e0, e1]; simpa only [Sx.Rep, Sx.Reps, Sx.Rep_cmpB] using this⟩
  | false =>
   cases t1 : decide ((76 : Int) = k) with
   | true =>
    exact ⟨_, _, _, ha', of_r1 k t0 t1, rfl, fun cv hc => by have := hc g.nx μ; have e0 : of_0 k = ((2 : Int)) := (Sx.cf t0).trans ((Sx.ct t1).trans (rfl)); have e1 : of_1 k = (true) := (Sx.cf t0).trans ((Sx.ct t1).trans (rfl)); rw [e0, e1]; simpa only [Sx.Rep, Sx.Reps, Sx.Rep_cmpB] using this⟩
   | false =>
    cases t2 : decide ((67 : Int) = k) with
    | true =>
     exact ⟨_, _, _, ha', of_r2 k t0 t1 t2, rfl, fun cv hc => by have := hc g.nx μ; have e0 : of_0 k = ((3 : Int)) := (Sx.cf t0).trans ((Sx.cf t1).trans ((Sx.ct t2).trans (rfl))); have e1 : of_1 k = (true) := (Sx.cf t0).trans ((Sx.cf t1).trans ((Sx.ct t2).trans (rfl))); rw [e0, e1]; simpa only [Sx.Rep, Sx.Reps, Sx.Rep_cmpB] using this⟩
    | false =>
     cases t3 : decide ((73 : Int) = k) with
     | true =>
      exact ⟨_, _, _, ha', of_r3 k t0 t1 t2 t3, rfl, fun cv hc => by have := hc g.nx μ; have e0 : of_0 k = ((4 : Int)) := (Sx.cf t0).trans ((Sx.cf t1).trans ((Sx.cf t2).trans ((Sx.ct t3).trans (rfl)))); have e1 : of_1 k = (true) := (Sx.cf t0).trans ((Sx.cf t1).trans ((Sx.cf t2).trans ((Sx.ct t3).trans (rfl)))); rw [e0, e1]; simpa only [Sx.Rep, Sx.Reps, Sx.Rep_cmpB] using this⟩
     | false =>
      cases t4 : decide ((86 : Int) = k) with
      | true =>
       exact ⟨_, _, _, ha', of_r4 k t0 t1 t2 t3 t4, rfl, fun cv hc => by have := hc g.nx μ; have e0 : of_0 k = ((5 : Int)) := (Sx.cf t0).trans ((Sx.cf t1).trans ((Sx.cf t2).trans ((Sx.cf t3).trans ((Sx.ct t4).trans (rfl))))); have e1 : of_1 k = (true) := (Sx.cf t0).trans ((Sx.cf t1).trans ((Sx.cf t2).trans ((Sx.cf t3).trans ((Sx.ct t4).trans (rfl))))); rw [e0, e1]; simpa only [Sx.Rep, Sx.Reps, Sx.Rep_cmpB] using this⟩
      | false =>
       cases t5 : decide ((71 : Int) = k) with
       | true =>
        exact ⟨_, _, _, ha', of_r5 k t0 t1 t2 t3 t4 t5, rfl, fun cv hc => by have := hc g.nx μ; have e0 : of_0 k = ((6 : Int)) := (Sx.cf t0).trans ((Sx.cf t1).trans ((Sx.cf t2).trans ((Sx.cf t3).trans ((Sx.cf t4).trans ((Sx.ct t5).trans (rfl)))))); have e1 : of_1 k = (true) := (Sx.cf t0).trans ((Sx.cf t1).trans ((Sx.cf t2).trans ((Sx.cf t3).trans ((Sx.cf t4).trans ((Sx.ct t5).trans (rfl)))))); rw [e0, e1]; simpa only [Sx.Rep, Sx.Reps, Sx.Rep_cmpB] using this⟩
       | false =>
        cases t6 : decide ((69 : Int) = k) with
        | true =>
         exact ⟨_, _, _, ha', of_r6 k t0 t1 t2 t3 t4 t5 t6, rfl, fun cv hc => by have := hc g.nx μ; have e0 : of_0 k = ((7 : Int)) := (Sx.cf t0).trans ((Sx.cf t1).trans ((Sx.cf t2).trans ((Sx.cf t3).trans ((Sx.cf t4).trans ((Sx.cf t5).trans ((Sx.ct t6).trans (rfl))))))); have e1 : of_1 k = (true) := (Sx.cf t0).trans ((Sx.cf t1).trans ((Sx.cf t2).trans ((Sx.cf t3).trans ((Sx.cf t4).trans ((Sx.cf t5).trans ((Sx.ct t6).trans (rfl))))))); rw [e0, e1]; simpa only [Sx.Rep, Sx.Reps, Sx.Rep_cmpB] using this⟩
        | false =>
         cases t7 : decide ((80 : Int) = k) with
         | true =>
          exact ⟨_, _, _, ha', of_r7 k t0 t1 t2 t3 t4 t5 t6 t7, rfl, fun cv hc => by have := hc g.nx μ; have e0 : of_0 k = ((8 : Int)) := (Sx.cf t0).trans ((Sx.cf t1).trans ((Sx.cf t2).trans ((Sx.cf t3).trans ((Sx.cf t4).trans ((Sx.cf t5).trans ((Sx.cf t6).trans ((Sx.ct t7).trans (rfl)))))))); have e1 : of_1 k = (true) := (Sx.cf t0).trans ((Sx.cf t1).trans ((Sx.cf t2).trans ((Sx.cf t3).trans ((Sx.cf t4).trans ((Sx.cf t5).trans ((Sx.cf t6).trans ((Sx.ct t7).trans (rfl)))))))); rw [e0, e1]; simpa only [Sx.Rep, Sx.Reps, Sx.Rep_cmpB] using this⟩
         | false =>
          exact ⟨_, _, _, ha', of_r8 k t0 t1 t2 t3 t4 t5 t6 t7, rfl, fun cv hc => by have := hc g.nx μ; have e0 : of_0 k = ((0 : Int)) := (Sx.cf t0).trans ((Sx.cf t1).trans ((Sx.cf t2).trans ((Sx.cf t3).trans ((Sx.cf t4).trans ((Sx.cf t5).trans ((Sx.cf t6).trans ((Sx.cf t7).trans (rfl)))))))); have e1 : of_1 k = (false) := (Sx.cf t0).trans ((Sx.cf t1).trans ((Sx.cf t2).trans ((Sx.cf t3).trans ((Sx.cf t4).trans ((Sx.cf t5).trans ((Sx.cf t6).trans ((Sx.cf t7).trans (rfl)))))))); rw [e0, e1]; simpa only [Sx.Rep, Sx.Reps, Sx.Rep_cmpB] using this⟩
 ·exact call1_ok _ _ _ _ _ h
theorem ofS_tch : ∀ args, Sx.Tch (ofS args) := by
 intro args
 unfold ofS
 split
 ·exact Sx.Tch.ret _
 ·exact call1_tch _ _
noncomputable def gam2 : Sx.Known := Sx.kc 36 Sx.ofBits (Sx.kc 62 Sx.toBits (Sx.kc 81 smallS (Sx.kc 66 kindS (Sx.kc 63 rowOfS (Sx.kc 82 ofS (Sx.kn))))))
theorem gam2_ok : Sx.KnownOk Try.prog gam2 := Sx.kc_ok ((Sx.ofBits_is Try.prog).callIs Try.func36 (by kernel_rfl) (by kernel_rfl) (by kernel_rfl) (by kernel_rfl)) (Sx.kc_ok ((Sx.toBits_is Try.prog).callIs Try.func62 (by kernel_rfl) (by kernel_rfl) (by kernel_rfl) (by kernel_rfl)) (Sx.kc_ok smallS_ok (Sx.kc_ok kindS_ok (Sx.kc_ok rowOfS_ok (Sx.kc_ok ofS_ok (Sx.kn_ok))))))
theorem gam2_tch : Sx.KnownT gam2 := Sx.kc_tch Sx.Tch.ofBits (Sx.kc_tch Sx.Tch.toBits (Sx.kc_tch smallS_tch (Sx.kc_tch kindS_tch (Sx.kc_tch rowOfS_tch (Sx.kc_tch ofS_tch (Sx.kn_tch))))))
noncomputable def call2 : Sx.Calls' := Sx.runN Try.prog gam2 (Sx.regionC Try.prog) 1000 50
theorem call2_ok : Sx.CallOk Try.prog call2 := Sx.engineC gam2_ok gam2_tch (by kernel_rfl) (by kernel_rfl) 1000 50
theorem call2_tch : Sx.CallT call2 := Sx.runA_tch gam2_tch (fun _ _ _ h => by cases h) (fun call hc n l fr => Sx.regionC_tch hc n l fr) 50
theorem name_r0 (l : List UInt8) (c0 : decide ((↑(List.length l) : Int) < (2 : Int)) = true) : Sx.PureP (Sx.AV.tup [Sx.AV.int false .u8 0, Sx.AV.bool false]) (call2 64 [.str true l] (Sx.G.on [true])) := Sx.eqq (q := (True ∧ (decide ((↑(List.length l) : Int) < (2 : Int)) = true))) (by kernel_rfl) ⟨trivial, c0⟩
theorem name_r1 (l : List UInt8) (c0 : decide ((↑(List.length l) : Int) < (2 : Int)) = false) (c1 : decide ((16 : Int) < (↑(List.length l) : Int)) = true) : Sx.PureP (Sx.AV.tup [Sx.AV.int false .u8 0, Sx.AV.bool false]) (call2 64 [.str true l] (Sx.G.on [false, true])) := Sx.eqq (q := ((True ∧ (decide ((↑(List.length l) : Int) < (2 : Int)) = false)) ∧ (decide ((16 : Int) < (↑(List.length l) : Int)) = true))) (by kernel_rfl) ⟨⟨trivial, c0⟩, c1⟩
theorem name_r2 (l : List UInt8) (c0 : decide ((↑(List.length l) : Int) < (2 : Int)) = false) (c1 : decide ((16 : Int) < (↑(List.length l) : Int)) = false) (c2 : (0 : Int) ≤ (1 : Int)) (c3 : (1 : Int) ≤ (↑(List.length l) : Int)) (c4 : (↑(List.length l) : Int) ≤ (↑(List.length l) : Int)) (c5 : (!List.all (List.take (List.length l - (1 : Nat)) (List.drop (1 : Nat) l)) okB) = false) (c6 : (0 : Int) ≤ (0 : Int)) (c7 : (0 : Int) < (↑(List.length l) : Int)) : Sx.PureP (Sx.AV.tup [Sx.AV.int true .u8 (of_0 (↑(UInt8.toNat (List.getD l (0 : Nat) (0 : UInt8))) : Int)), Sx.AV.sbool (of_1 (↑(UInt8.toNat (List.getD l (0 : Nat) (0 : UInt8))) : Int))]) (call2 64 [.str true l] (Sx.G.on [false, false, false])) := Sx.eqq (q := (((((True ∧ (decide ((↑(List.length l) : Int) < (2 : Int)) = false)) ∧ (decide ((16 : Int) < (↑(List.length l) : Int)) = false)) ∧ (((0 : Int) ≤ (1 : Int)) ∧ (((1 : Int) ≤ (↑(List.length l) : Int)) ∧ ((↑(List.length l) : Int) ≤ (↑(List.length l) : Int))))) ∧ ((!List.all (List.take (List.length l - (1 : Nat)) (List.drop (1 : Nat) l)) okB) = false)) ∧ (((0 : Int) ≤ (0 : Int)) ∧ ((0 : Int) < (↑(List.length l) : Int))))) (by kernel_rfl) ⟨⟨⟨⟨⟨trivial, c0⟩, c1⟩, ⟨c2, ⟨c3, c4⟩⟩⟩, c5⟩, ⟨c6, c7⟩⟩
theorem name_r3 (l : List UInt8) (c0 : decide ((↑(List.length l) : Int) < (2 : Int)) = false) (c1 : decide ((16 : Int) < (↑(List.length l) : Int)) = false) (c2 : (0 : Int) ≤ (1 : Int)) (c3 : (1 : Int) ≤ (↑(List.length l) : Int)) (c4 : (↑(List.length l) : Int) ≤ (↑(List.length l) : Int)) (c5 : (!List.all (List.take (List.length l - (1 : Nat)) (List.drop (1 : Nat) l)) okB) = true) : Sx.PureP (Sx.AV.tup [Sx.AV.int false .u8 0, Sx.AV.bool false]) (call2 64 [.str true l] (Sx.G.on [false, false, true])) := Sx.eqq (q := ((((True ∧ (decide ((↑(List.length l) : Int) < (2 : Int)) = false)) ∧ (decide ((16 : Int) < (↑(List.length l) : Int)) = false)) ∧ (((0 : Int) ≤ (1 : Int)) ∧ (((1 : Int) ≤ (↑(List.length l) : Int)) ∧ ((↑(List.length l) : Int) ≤ (↑(List.length l) : Int))))) ∧ ((!List.all (List.take (List.length l - (1 : Nat)) (List.drop (1 : Nat) l)) okB) = true))) (by kernel_rfl) ⟨⟨⟨⟨trivial, c0⟩, c1⟩, ⟨c2, ⟨c3, c4⟩⟩⟩, c5⟩
noncomputable def name_0 (l : List UInt8) : Int := (bif decide ((↑(List.length l) : Int) < (2 : Int)) then ((0 : Int)) else (bif decide ((16 : Int) < (↑(List.length l) : Int)) then ((0 : Int)) else (bif List.all (List.take (List.length l - (1 : Nat)) (List.drop (1 : Nat) l)) okB then (of_0 (↑(UInt8.toNat (List.getD l (0 : Nat) (0 : UInt8))) : Int)) else ((0 : Int)))))
noncomputable def name_1 (l : List UInt8) : Bool := (bif decide ((↑(List.length l) : Int) < (2 : Int)) then (false) else (bif decide ((16 : Int) < (↑(List.length l) : Int)) then (false) else (bif List.all (List.take (List.length l - (1 : Nat)) (List.drop (1 : Nat) l)) okB then (of_1 (↑(UInt8.toNat (List.getD l (0 : Nat) (0 : UInt8))) : Int)) else (false))))
noncomputable def nameS : List Sx.AV → Sx.M Sx.AV
 | [.str s0 l] => Sx.M.ret (Sx.AV.tup [Sx.AV.int s0 (IntKind.u8) (name_0 l), Sx.cmpB s0 (name_1 l)])
 | args => call2 64 args
theorem nameS_ok : ∀ args v g g', nameS args g = .done v g' → Sx.CallIs Try.prog 64 args v g g' := by
 intro args v g g' h
 unfold nameS at h
 split at h
 ·rename_i s0 l
  obtain ⟨rfl, rfl⟩ := Sx.ret_done h
  refine Sx.scal call2_ok fun μ cargs ha => ?_
  have ha' : Sx.Reps 0 Sx.MM.none [.str true l] cargs.toList := by simpa only [Sx.Reps, Sx.Rep] using ha
  cases t0 : decide ((↑(List.length l) : Int) < (2 : Int)) with
  | true =>
   exact ⟨_, _, _, ha', name_r0 l t0, rfl, fun cv hc => by have := hc g.nx μ; have e0 : name_0 l = ((0 : Int)) := (Sx.ct t0).trans (rfl); have e1 : name_1 l = (false) := (Sx.ct t0).trans (rfl); rw [e0, e1]; simpa only [Sx.Rep, Sx.Reps, Sx.Rep_cmpB] using this⟩
  | false =>
   cases t1 : decide ((16 : Int) < (↑(List.length l) : Int)) with
   | true =>
    exact ⟨_, _, _, ha', name_r1 l t0 t1, rfl, fun cv hc => by have := hc g.nx μ; have e0 : name_0 l = ((0 : Int)) := (Sx.cf t0).trans ((Sx.ct t1).trans (rfl)); have e1 : name_1 l = (false) := (Sx.cf t0).trans ((Sx.ct t1).trans (rfl)); rw [e0, e1]; simpa only [Sx.Rep, Sx.Reps, Sx.Rep_cmpB] using this⟩
   | false =>
    cases t2 : List.all (List.take (List.length l - (1 : Nat)) (List.drop (1 : Nat) l)) okB with
    | true =>
     exact ⟨_, _, _, ha', name_r2 l t0 t1 (by first | ((try simp only [decide_eq_true_eq, decide_eq_false_iff_not] at t0 t1 t2); (try simp only [List.length_take, List.length_drop]); omega) | decide | (have hp' := hp; simp_all; try omega)) (by first | ((try simp only [decide_eq_true_eq, decide_eq_false_iff_not] at t0 t1 t2); (try simp only [List.length_take, List.length_drop]); omega) | decide | (have hp' := hp; simp_all; try omega)) (by first | ((try simp only [decide_eq_true_eq, decide_eq_false_iff_not] at t0 t1 t2); (try simp only [List.length_take, List.length_drop]); omega) | decide | (have hp' := hp; simp_all; try omega)) (by rw [t2]; rfl) (by first | ((try simp only [decide_eq_true_eq, decide_eq_false_iff_not] at t0 t1 t2); (try simp only [List.length_take, List.length_drop]); omega) | decide | (have hp' := hp; simp_all; try omega)) (by first | ((try simp only [decide_eq_true_eq, decide_eq_false_iff_not] at t0 t1 t2); (try simp only [List.length_take, List.length_drop]); omega) | decide | (have hp' := hp; simp_all; try omega)), rfl, fun cv hc => by have := hc g.nx μ; have e0 : name_0 l = (of_0 (↑(UInt8.toNat (List.getD l (0 : Nat) (0 : UInt8))) : Int)) := (Sx.cf t0).trans ((Sx.cf t1).trans ((Sx.ct t2).trans (rfl))); have e1 : name_1 l = (of_1 (↑(UInt8.toNat (List.getD l (0 : Nat) (0 : UInt8))) : Int)) := (Sx.cf t0).trans ((Sx.cf t1).trans ((Sx.ct t2).trans (rfl))); rw [e0, e1]; simpa only [Sx.Rep, Sx.Reps, Sx.Rep_cmpB] using this⟩
    | false =>
     exact ⟨_, _, _, ha', name_r3 l t0 t1 (by first | ((try simp only [decide_eq_true_eq, decide_eq_false_iff_not] at t0 t1 t2); (try simp only [List.length_take, List.length_drop]); omega) | decide | (have hp' := hp; simp_all; try omega)) (by first | ((try simp only [decide_eq_true_eq, decide_eq_false_iff_not] at t0 t1 t2); (try simp only [List.length_take, List.length_drop]); omega) | decide | (have hp' := hp; simp_all; try omega)) (by first | ((try simp only [decide_eq_true_eq, decide_eq_false_iff_not] at t0 t1 t2); (try simp only [List.length_take, List.length_drop]); omega) | decide | (have hp' := hp; simp_all; try omega)) (by rw [t2]; rfl), rfl, fun cv hc => by have := hc g.nx μ; have e0 : name_0 l = ((0 : Int)) := (Sx.cf t0).trans ((Sx.cf t1).trans ((Sx.cf t2).trans (rfl))); have e1 : name_1 l = (false) := (Sx.cf t0).trans ((Sx.cf t1).trans ((Sx.cf t2).trans (rfl))); rw [e0, e1]; simpa only [Sx.Rep, Sx.Reps, Sx.Rep_cmpB] using this⟩
 ·exact call2_ok _ _ _ _ _ h
theorem nameS_tch : ∀ args, Sx.Tch (nameS args) := by
 intro args
 unfold nameS
 split
 ·exact Sx.Tch.ret _
 ·exact call2_tch _ _
theorem node_r0 (l : List UInt8) (c0 : decide ((0 : Int) < (↑(List.length l) : Int)) = true) (c1 : decide ((↑(List.length l) : Int) ≤ (16 : Int)) = true) : Sx.PureP (Sx.AV.sbool (List.all l okB)) (call2 65 [.str true l] (Sx.G.on [true, true])) := Sx.eqq (q := ((True ∧ (decide ((0 : Int) < (↑(List.length l) : Int)) = true)) ∧ (decide ((↑(List.length l) : Int) ≤ (16 : Int)) = true))) (by kernel_rfl) ⟨⟨trivial, c0⟩, c1⟩
theorem node_r1 (l : List UInt8) (c0 : decide ((0 : Int) < (↑(List.length l) : Int)) = true) (c1 : decide ((↑(List.length l) : Int) ≤ (16 : Int)) = false) : Sx.PureP (Sx.AV.bool false) (call2 65 [.str true l] (Sx.G.on [true, false])) := Sx.eqq (q := ((True ∧ (decide ((0 : Int) < (↑(List.length l) : Int)) = true)) ∧ (decide ((↑(List.length l) : Int) ≤ (16 : Int)) = false))) (by kernel_rfl) ⟨⟨trivial, c0⟩, c1⟩
theorem node_r2 (l : List UInt8) (c0 : decide ((0 : Int) < (↑(List.length l) : Int)) = false) : Sx.PureP (Sx.AV.bool false) (call2 65 [.str true l] (Sx.G.on [false])) := Sx.eqq (q := (True ∧ (decide ((0 : Int) < (↑(List.length l) : Int)) = false))) (by kernel_rfl) ⟨trivial, c0⟩
noncomputable def node_0 (l : List UInt8) : Bool := (bif decide ((0 : Int) < (↑(List.length l) : Int)) then (bif decide ((↑(List.length l) : Int) ≤ (16 : Int)) then (List.all l okB) else (false)) else (false))
noncomputable def nodeS : List Sx.AV → Sx.M Sx.AV
 | [.str s0 l] => Sx.M.ret (Sx.cmpB s0 (node_0 l))
 | args => call2 65 args
theorem nodeS_ok : ∀ args v g g', nodeS args g = .done v g' → Sx.CallIs Try.prog 65 args v g g' := by
 intro args v g g' h
 unfold nodeS at h
 split at h
 ·rename_i s0 l
  obtain ⟨rfl, rfl⟩ := Sx.ret_done h
  refine Sx.scal call2_ok fun μ cargs ha => ?_
  have ha' : Sx.Reps 0 Sx.MM.none [.str true l] cargs.toList := by simpa only [Sx.Reps, Sx.Rep] using ha
  cases t0 : decide ((0 : Int) < (↑(List.length l) : Int)) with
  | true =>
   cases t1 : decide ((↑(List.length l) : Int) ≤ (16 : Int)) with
   | true =>
    exact ⟨_, _, _, ha', node_r0 l t0 t1, rfl, fun cv hc => by have := hc g.nx μ; have e0 : node_0 l = (List.all l okB) := (Sx.ct t0).trans ((Sx.ct t1).trans (rfl)); rw [e0]; simpa only [Sx.Rep, Sx.Reps, Sx.Rep_cmpB] using this⟩
   | false =>
    exact ⟨_, _, _, ha', node_r1 l t0 t1, rfl, fun cv hc => by have := hc g.nx μ; have e0 : node_0 l = (false) := (Sx.ct t0).trans ((Sx.cf t1).trans (rfl)); rw [e0]; simpa only [Sx.Rep, Sx.Reps, Sx.Rep_cmpB] using this⟩
  | false =>
   exact ⟨_, _, _, ha', node_r2 l t0, rfl, fun cv hc => by have := hc g.nx μ; have e0 : node_0 l = (false) := (Sx.cf t0).trans (rfl); rw [e0]; simpa only [Sx.Rep, Sx.Reps, Sx.Rep_cmpB] using this⟩
 ·exact call2_ok _ _ _ _ _ h
theorem nodeS_tch : ∀ args, Sx.Tch (nodeS args) := by
 intro args
 unfold nodeS
 split
 ·exact Sx.Tch.ret _
 ·exact call2_tch _ _
noncomputable def gam3 : Sx.Known := Sx.kc 36 Sx.ofBits (Sx.kc 62 Sx.toBits (Sx.kc 81 smallS (Sx.kc 66 kindS (Sx.kc 63 rowOfS (Sx.kc 82 ofS (Sx.kc 64 nameS (Sx.kc 65 nodeS (Sx.kn))))))))
theorem gam3_ok : Sx.KnownOk Try.prog gam3 := Sx.kc_ok ((Sx.ofBits_is Try.prog).callIs Try.func36 (by kernel_rfl) (by kernel_rfl) (by kernel_rfl) (by kernel_rfl)) (Sx.kc_ok ((Sx.toBits_is Try.prog).callIs Try.func62 (by kernel_rfl) (by kernel_rfl) (by kernel_rfl) (by kernel_rfl)) (Sx.kc_ok smallS_ok (Sx.kc_ok kindS_ok (Sx.kc_ok rowOfS_ok (Sx.kc_ok ofS_ok (Sx.kc_ok nameS_ok (Sx.kc_ok nodeS_ok (Sx.kn_ok))))))))
theorem gam3_tch : Sx.KnownT gam3 := Sx.kc_tch Sx.Tch.ofBits (Sx.kc_tch Sx.Tch.toBits (Sx.kc_tch smallS_tch (Sx.kc_tch kindS_tch (Sx.kc_tch rowOfS_tch (Sx.kc_tch ofS_tch (Sx.kc_tch nameS_tch (Sx.kc_tch nodeS_tch (Sx.kn_tch))))))))
noncomputable def call3 : Sx.Calls' := Sx.runN Try.prog gam3 (Sx.regionC Try.prog) 1000 50
theorem call3_ok : Sx.CallOk Try.prog call3 := Sx.engineC gam3_ok gam3_tch (by kernel_rfl) (by kernel_rfl) 1000 50
theorem call3_tch : Sx.CallT call3 := Sx.runA_tch gam3_tch (fun _ _ _ h => by cases h) (fun call hc n l fr => Sx.regionC_tch hc n l fr) 50
theorem chk_r0 (k : Int) (n a b c d : List UInt8) (v : Nat) (ph : Int) (c0 : (!rowOf_5 k) = false) (c1 : (!name_1 n) = false) (c2 : (!decide (name_0 n = k)) = false) (c3 : (!node_0 a) = false) (c4 : (!node_0 b) = false) (c5 : rowOf_3 k = true) (c6 : (!node_0 c) = false) (c7 : (!node_0 d) = false) (c8 : (a == b) = true) : Sx.PureP (Sx.AV.int false .i64 2) (call3 37 [.agg [.int true .u8 k, .str true n, .str true a, .str true b, .str true c, .str true d, .raw true v, .int true .i64 ph]] (Sx.G.on [false, false, false, false, false, true, false, false, true])) := Sx.eqq (q := (((((((((True ∧ ((!rowOf_5 k) = false)) ∧ ((!name_1 n) = false)) ∧ ((!decide (name_0 n = k)) = false)) ∧ ((!node_0 a) = false)) ∧ ((!node_0 b) = false)) ∧ (rowOf_3 k = true)) ∧ ((!node_0 c) = false)) ∧ ((!node_0 d) = false)) ∧ ((a == b) = true))) (by kernel_rfl) ⟨⟨⟨⟨⟨⟨⟨⟨⟨trivial, c0⟩, c1⟩, c2⟩, c3⟩, c4⟩, c5⟩, c6⟩, c7⟩, c8⟩
theorem chk_r1 (k : Int) (n a b c d : List UInt8) (v : Nat) (ph : Int) (c0 : (!rowOf_5 k) = false) (c1 : (!name_1 n) = false) (c2 : (!decide (name_0 n = k)) = false) (c3 : (!node_0 a) = false) (c4 : (!node_0 b) = false) (c5 : rowOf_3 k = true) (c6 : (!node_0 c) = false) (c7 : (!node_0 d) = false) (c8 : (a == b) = false) (c9 : (!rowOf_3 k) = false) (c10 : (!rowOf_4 k) = false) (c11 : decide ((2 : Int) < Sx.kindDef v) = true) : Sx.PureP (Sx.AV.int false .i64 5) (call3 37 [.agg [.int true .u8 k, .str true n, .str true a, .str true b, .str true c, .str true d, .raw true v, .int true .i64 ph]] (Sx.G.on [false, false, false, false, false, true, false, false, false, false, false, true])) := Sx.eqq (q := ((((((((((((True ∧ ((!rowOf_5 k) = false)) ∧ ((!name_1 n) = false)) ∧ ((!decide (name_0 n = k)) = false)) ∧ ((!node_0 a) = false)) ∧ ((!node_0 b) = false)) ∧ (rowOf_3 k = true)) ∧ ((!node_0 c) = false)) ∧ ((!node_0 d) = false)) ∧ ((a == b) = false)) ∧ ((!rowOf_3 k) = false)) ∧ ((!rowOf_4 k) = false)) ∧ (decide ((2 : Int) < Sx.kindDef v) = true))) (by kernel_rfl) ⟨⟨⟨⟨⟨⟨⟨⟨⟨⟨⟨⟨trivial, c0⟩, c1⟩, c2⟩, c3⟩, c4⟩, c5⟩, c6⟩, c7⟩, c8⟩, c9⟩, c10⟩, c11⟩
theorem chk_r2 (k : Int) (n a b c d : List UInt8) (v : Nat) (ph : Int) (c0 : (!rowOf_5 k) = false) (c1 : (!name_1 n) = false) (c2 : (!decide (name_0 n = k)) = false) (c3 : (!node_0 a) = false) (c4 : (!node_0 b) = false) (c5 : rowOf_3 k = true) (c6 : (!node_0 c) = false) (c7 : (!node_0 d) = false) (c8 : (a == b) = false) (c9 : (!rowOf_3 k) = false) (c10 : (!rowOf_4 k) = false) (c11 : decide ((2 : Int) < Sx.kindDef v) = false) (c12 : rowOf_2 k = true) (c13 : Sx.fle (Sx.cn v) (0 : Nat) = true) : Sx.PureP (Sx.AV.int false .i64 2) (call3 37 [.agg [.int true .u8 k, .str true n, .str true a, .str true b, .str true c, .str true d, .raw true v, .int true .i64 ph]] (Sx.G.on [false, false, false, false, false, true, false, false, false, false, false, false, true, true])) := Sx.eqq (q := ((((((((((((((True ∧ ((!rowOf_5 k) = false)) ∧ ((!name_1 n) = false)) ∧ ((!decide (name_0 n = k)) = false)) ∧ ((!node_0 a) = false)) ∧ ((!node_0 b) = false)) ∧ (rowOf_3 k = true)) ∧ ((!node_0 c) = false)) ∧ ((!node_0 d) = false)) ∧ ((a == b) = false)) ∧ ((!rowOf_3 k) = false)) ∧ ((!rowOf_4 k) = false)) ∧ (decide ((2 : Int) < Sx.kindDef v) = false)) ∧ (rowOf_2 k = true)) ∧ (Sx.fle (Sx.cn v) (0 : Nat) = true))) (by kernel_rfl) ⟨⟨⟨⟨⟨⟨⟨⟨⟨⟨⟨⟨⟨⟨trivial, c0⟩, c1⟩, c2⟩, c3⟩, c4⟩, c5⟩, c6⟩, c7⟩, c8⟩, c9⟩, c10⟩, c11⟩, c12⟩, c13⟩
theorem chk_r3 (k : Int) (n a b c d : List UInt8) (v : Nat) (ph : Int) (c0 : (!rowOf_5 k) = false) (c1 : (!name_1 n) = false) (c2 : (!decide (name_0 n = k)) = false) (c3 : (!node_0 a) = false) (c4 : (!node_0 b) = false) (c5 : rowOf_3 k = true) (c6 : (!node_0 c) = false) (c7 : (!node_0 d) = false) (c8 : (a == b) = false) (c9 : (!rowOf_3 k) = false) (c10 : (!rowOf_4 k) = false) (c11 : decide ((2 : Int) < Sx.kindDef v) = false) (c12 : rowOf_2 k = true) (c13 : Sx.fle (Sx.cn v) (0 : Nat) = false) : Sx.PureP (Sx.AV.int false .i64 0) (call3 37 [.agg [.int true .u8 k, .str true n, .str true a, .str true b, .str true c, .str true d, .raw true v, .int true .i64 ph]] (Sx.G.on [false, false, false, false, false, true, false, false, false, false, false, false, true, false])) := Sx.eqq (q := ((((((((((((((True ∧ ((!rowOf_5 k) = false)) ∧ ((!name_1 n) = false)) ∧ ((!decide (name_0 n = k)) = false)) ∧ ((!node_0 a) = false)) ∧ ((!node_0 b) = false)) ∧ (rowOf_3 k = true)) ∧ ((!node_0 c) = false)) ∧ ((!node_0 d) = false)) ∧ ((a == b) = false)) ∧ ((!rowOf_3 k) = false)) ∧ ((!rowOf_4 k) = false)) ∧ (decide ((2 : Int) < Sx.kindDef v) = false)) ∧ (rowOf_2 k = true)) ∧ (Sx.fle (Sx.cn v) (0 : Nat) = false))) (by kernel_rfl) ⟨⟨⟨⟨⟨⟨⟨⟨⟨⟨⟨⟨⟨⟨trivial, c0⟩, c1⟩, c2⟩, c3⟩, c4⟩, c5⟩, c6⟩, c7⟩, c8⟩, c9⟩, c10⟩, c11⟩, c12⟩, c13⟩
theorem chk_r4 (k : Int) (n a b c d : List UInt8) (v : Nat) (ph : Int) (c0 : (!rowOf_5 k) = false) (c1 : (!name_1 n) = false) (c2 : (!decide (name_0 n = k)) = false) (c3 : (!node_0 a) = false) (c4 : (!node_0 b) = false) (c5 : rowOf_3 k = true) (c6 : (!node_0 c) = false) (c7 : (!node_0 d) = false) (c8 : (a == b) = false) (c9 : (!rowOf_3 k) = false) (c10 : (!rowOf_4 k) = false) (c11 : decide ((2 : Int) < Sx.kindDef v) = false) (c12 : rowOf_2 k = false) : Sx.PureP (Sx.AV.int false .i64 0) (call3 37 [.agg [.int true .u8 k, .str true n, .str true a, .str true b, .str true c, .str true d, .raw true v, .int true .i64 ph]] (Sx.G.on [false, false, false, false, false, true, false, false, false, false, false, false, false])) := Sx.eqq (q := (((((((((((((True ∧ ((!rowOf_5 k) = false)) ∧ ((!name_1 n) = false)) ∧ ((!decide (name_0 n = k)) = false)) ∧ ((!node_0 a) = false)) ∧ ((!node_0 b) = false)) ∧ (rowOf_3 k = true)) ∧ ((!node_0 c) = false)) ∧ ((!node_0 d) = false)) ∧ ((a == b) = false)) ∧ ((!rowOf_3 k) = false)) ∧ ((!rowOf_4 k) = false)) ∧ (decide ((2 : Int) < Sx.kindDef v) = false)) ∧ (rowOf_2 k = false))) (by kernel_rfl) ⟨⟨⟨⟨⟨⟨⟨⟨⟨⟨⟨⟨⟨trivial, c0⟩, c1⟩, c2⟩, c3⟩, c4⟩, c5⟩, c6⟩, c7⟩, c8⟩, c9⟩, c10⟩, c11⟩, c12⟩
theorem chk_r5 (k : Int) (n a b c d : List UInt8) (v : Nat) (ph : Int) (c0 : (!rowOf_5 k) = false) (c1 : (!name_1 n) = false) (c2 : (!decide (name_0 n = k)) = false) (c3 : (!node_0 a) = false) (c4 : (!node_0 b) = false) (c5 : rowOf_3 k = true) (c6 : (!node_0 c) = false) (c7 : (!node_0 d) = false) (c8 : (a == b) = false) (c9 : (!rowOf_3 k) = false) (c10 : (!rowOf_4 k) = true) (c11 : (!decide (ph = (0 : Int))) = false) (c12 : decide ((2 : Int) < Sx.kindDef v) = true) : Sx.PureP (Sx.AV.int false .i64 5) (call3 37 [.agg [.int true .u8 k, .str true n, .str true a, .str true b, .str true c, .str true d, .raw true v, .int true .i64 ph]] (Sx.G.on [false, false, false, false, false, true, false, false, false, false, true, false, true])) := Sx.eqq (q := (((((((((((((True ∧ ((!rowOf_5 k) = false)) ∧ ((!name_1 n) = false)) ∧ ((!decide (name_0 n = k)) = false)) ∧ ((!node_0 a) = false)) ∧ ((!node_0 b) = false)) ∧ (rowOf_3 k = true)) ∧ ((!node_0 c) = false)) ∧ ((!node_0 d) = false)) ∧ ((a == b) = false)) ∧ ((!rowOf_3 k) = false)) ∧ ((!rowOf_4 k) = true)) ∧ ((!decide (ph = (0 : Int))) = false)) ∧ (decide ((2 : Int) < Sx.kindDef v) = true))) (by kernel_rfl) ⟨⟨⟨⟨⟨⟨⟨⟨⟨⟨⟨⟨⟨trivial, c0⟩, c1⟩, c2⟩, c3⟩, c4⟩, c5⟩, c6⟩, c7⟩, c8⟩, c9⟩, c10⟩, c11⟩, c12⟩
theorem chk_r6 (k : Int) (n a b c d : List UInt8) (v : Nat) (ph : Int) (c0 : (!rowOf_5 k) = false) (c1 : (!name_1 n) = false) (c2 : (!decide (name_0 n = k)) = false) (c3 : (!node_0 a) = false) (c4 : (!node_0 b) = false) (c5 : rowOf_3 k = true) (c6 : (!node_0 c) = false) (c7 : (!node_0 d) = false) (c8 : (a == b) = false) (c9 : (!rowOf_3 k) = false) (c10 : (!rowOf_4 k) = true) (c11 : (!decide (ph = (0 : Int))) = false) (c12 : decide ((2 : Int) < Sx.kindDef v) = false) (c13 : rowOf_2 k = true) (c14 : Sx.fle (Sx.cn v) (0 : Nat) = true) : Sx.PureP (Sx.AV.int false .i64 2) (call3 37 [.agg [.int true .u8 k, .str true n, .str true a, .str true b, .str true c, .str true d, .raw true v, .int true .i64 ph]] (Sx.G.on [false, false, false, false, false, true, false, false, false, false, true, false, false, true, true])) := Sx.eqq (q := (((((((((((((((True ∧ ((!rowOf_5 k) = false)) ∧ ((!name_1 n) = false)) ∧ ((!decide (name_0 n = k)) = false)) ∧ ((!node_0 a) = false)) ∧ ((!node_0 b) = false)) ∧ (rowOf_3 k = true)) ∧ ((!node_0 c) = false)) ∧ ((!node_0 d) = false)) ∧ ((a == b) = false)) ∧ ((!rowOf_3 k) = false)) ∧ ((!rowOf_4 k) = true)) ∧ ((!decide (ph = (0 : Int))) = false)) ∧ (decide ((2 : Int) < Sx.kindDef v) = false)) ∧ (rowOf_2 k = true)) ∧ (Sx.fle (Sx.cn v) (0 : Nat) = true))) (by kernel_rfl) ⟨⟨⟨⟨⟨⟨⟨⟨⟨⟨⟨⟨⟨⟨⟨trivial, c0⟩, c1⟩, c2⟩, c3⟩, c4⟩, c5⟩, c6⟩, c7⟩, c8⟩, c9⟩, c10⟩, c11⟩, c12⟩, c13⟩, c14⟩
theorem chk_r7 (k : Int) (n a b c d : List UInt8) (v : Nat) (ph : Int) (c0 : (!rowOf_5 k) = false) (c1 : (!name_1 n) = false) (c2 : (!decide (name_0 n = k)) = false) (c3 : (!node_0 a) = false) (c4 : (!node_0 b) = false) (c5 : rowOf_3 k = true) (c6 : (!node_0 c) = false) (c7 : (!node_0 d) = false) (c8 : (a == b) = false) (c9 : (!rowOf_3 k) = false) (c10 : (!rowOf_4 k) = true) (c11 : (!decide (ph = (0 : Int))) = false) (c12 : decide ((2 : Int) < Sx.kindDef v) = false) (c13 : rowOf_2 k = true) (c14 : Sx.fle (Sx.cn v) (0 : Nat) = false) : Sx.PureP (Sx.AV.int false .i64 0) (call3 37 [.agg [.int true .u8 k, .str true n, .str true a, .str true b, .str true c, .str true d, .raw true v, .int true .i64 ph]] (Sx.G.on [false, false, false, false, false, true, false, false, false, false, true, false, false, true, false])) := Sx.eqq (q := (((((((((((((((True ∧ ((!rowOf_5 k) = false)) ∧ ((!name_1 n) = false)) ∧ ((!decide (name_0 n = k)) = false)) ∧ ((!node_0 a) = false)) ∧ ((!node_0 b) = false)) ∧ (rowOf_3 k = true)) ∧ ((!node_0 c) = false)) ∧ ((!node_0 d) = false)) ∧ ((a == b) = false)) ∧ ((!rowOf_3 k) = false)) ∧ ((!rowOf_4 k) = true)) ∧ ((!decide (ph = (0 : Int))) = false)) ∧ (decide ((2 : Int) < Sx.kindDef v) = false)) ∧ (rowOf_2 k = true)) ∧ (Sx.fle (Sx.cn v) (0 : Nat) = false))) (by kernel_rfl) ⟨⟨⟨⟨⟨⟨⟨⟨⟨⟨⟨⟨⟨⟨⟨trivial, c0⟩, c1⟩, c2⟩, c3⟩, c4⟩, c5⟩, c6⟩, c7⟩, c8⟩, c9⟩, c10⟩, c11⟩, c12⟩, c13⟩, c14⟩
theorem chk_r8 (k : Int) (n a b c d : List UInt8) (v : Nat) (ph : Int) (c0 : (!rowOf_5 k) = false) (c1 : (!name_1 n) = false) (c2 : (!decide (name_0 n = k)) = false) (c3 : (!node_0 a) = false) (c4 : (!node_0 b) = false) (c5 : rowOf_3 k = true) (c6 : (!node_0 c) = false) (c7 : (!node_0 d) = false) (c8 : (a == b) = false) (c9 : (!rowOf_3 k) = false) (c10 : (!rowOf_4 k) = true) (c11 : (!decide (ph = (0 : Int))) = false) (c12 : decide ((2 : Int) < Sx.kindDef v) = false) (c13 : rowOf_2 k = false) : Sx.PureP (Sx.AV.int false .i64 0) (call3 37 [.agg [.int true .u8 k, .str true n, .str true a, .str true b, .str true c, .str true d, .raw true v, .int true .i64 ph]] (Sx.G.on [false, false, false, false, false, true, false, false, false, false, true, false, false, false])) := Sx.eqq (q := ((((((((((((((True ∧ ((!rowOf_5 k) = false)) ∧ ((!name_1 n) = false)) ∧ ((!decide (name_0 n = k)) = false)) ∧ ((!node_0 a) = false)) ∧ ((!node_0 b) = false)) ∧ (rowOf_3 k = true)) ∧ ((!node_0 c) = false)) ∧ ((!node_0 d) = false)) ∧ ((a == b) = false)) ∧ ((!rowOf_3 k) = false)) ∧ ((!rowOf_4 k) = true)) ∧ ((!decide (ph = (0 : Int))) = false)) ∧ (decide ((2 : Int) < Sx.kindDef v) = false)) ∧ (rowOf_2 k = false))) (by kernel_rfl) ⟨⟨⟨⟨⟨⟨⟨⟨⟨⟨⟨⟨⟨⟨trivial, c0⟩, c1⟩, c2⟩, c3⟩, c4⟩, c5⟩, c6⟩, c7⟩, c8⟩, c9⟩, c10⟩, c11⟩, c12⟩, c13⟩
theorem chk_r9 (k : Int) (n a b c d : List UInt8) (v : Nat) (ph : Int) (c0 : (!rowOf_5 k) = false) (c1 : (!name_1 n) = false) (c2 : (!decide (name_0 n = k)) = false) (c3 : (!node_0 a) = false) (c4 : (!node_0 b) = false) (c5 : rowOf_3 k = true) (c6 : (!node_0 c) = false) (c7 : (!node_0 d) = false) (c8 : (a == b) = false) (c9 : (!rowOf_3 k) = false) (c10 : (!rowOf_4 k) = true) (c11 : (!decide (ph = (0 : Int))) = true) : Sx.PureP (Sx.AV.int false .i64 2) (call3 37 [.agg [.int true .u8 k, .str true n, .str true a, .str true b, .str true c, .str true d, .raw true v, .int true .i64 ph]] (Sx.G.on [false, false, false, false, false, true, false, false, false, false, true, true])) := Sx.eqq (q := ((((((((((((True ∧ ((!rowOf_5 k) = false)) ∧ ((!name_1 n) = false)) ∧ ((!decide (name_0 n = k)) = false)) ∧ ((!node_0 a) = false)) ∧ ((!node_0 b) = false)) ∧ (rowOf_3 k = true)) ∧ ((!node_0 c) = false)) ∧ ((!node_0 d) = false)) ∧ ((a == b) = false)) ∧ ((!rowOf_3 k) = false)) ∧ ((!rowOf_4 k) = true)) ∧ ((!decide (ph = (0 : Int))) = true))) (by kernel_rfl) ⟨⟨⟨⟨⟨⟨⟨⟨⟨⟨⟨⟨trivial, c0⟩, c1⟩, c2⟩, c3⟩, c4⟩, c5⟩, c6⟩, c7⟩, c8⟩, c9⟩, c10⟩, c11⟩
theorem chk_r10 (k : Int) (n a b c d : List UInt8) (v : Nat) (ph : Int) (c0 : (!rowOf_5 k) = false) (c1 : (!name_1 n) = false) (c2 : (!decide (name_0 n = k)) = false) (c3 : (!node_0 a) = false) (c4 : (!node_0 b) = false) (c5 : rowOf_3 k = true) (c6 : (!node_0 c) = false) (c7 : (!node_0 d) = true) : Sx.PureP (Sx.AV.int false .i64 8) (call3 37 [.agg [.int true .u8 k, .str true n, .str true a, .str true b, .str true c, .str true d, .raw true v, .int true .i64 ph]] (Sx.G.on [false, false, false, false, false, true, false, true])) := Sx.eqq (q := ((((((((True ∧ ((!rowOf_5 k) = false)) ∧ ((!name_1 n) = false)) ∧ ((!decide (name_0 n = k)) = false)) ∧ ((!node_0 a) = false)) ∧ ((!node_0 b) = false)) ∧ (rowOf_3 k = true)) ∧ ((!node_0 c) = false)) ∧ ((!node_0 d) = true))) (by kernel_rfl) ⟨⟨⟨⟨⟨⟨⟨⟨trivial, c0⟩, c1⟩, c2⟩, c3⟩, c4⟩, c5⟩, c6⟩, c7⟩
theorem chk_r11 (k : Int) (n a b c d : List UInt8) (v : Nat) (ph : Int) (c0 : (!rowOf_5 k) = false) (c1 : (!name_1 n) = false) (c2 : (!decide (name_0 n = k)) = false) (c3 : (!node_0 a) = false) (c4 : (!node_0 b) = false) (c5 : rowOf_3 k = true) (c6 : (!node_0 c) = true) : Sx.PureP (Sx.AV.int false .i64 8) (call3 37 [.agg [.int true .u8 k, .str true n, .str true a, .str true b, .str true c, .str true d, .raw true v, .int true .i64 ph]] (Sx.G.on [false, false, false, false, false, true, true])) := Sx.eqq (q := (((((((True ∧ ((!rowOf_5 k) = false)) ∧ ((!name_1 n) = false)) ∧ ((!decide (name_0 n = k)) = false)) ∧ ((!node_0 a) = false)) ∧ ((!node_0 b) = false)) ∧ (rowOf_3 k = true)) ∧ ((!node_0 c) = true))) (by kernel_rfl) ⟨⟨⟨⟨⟨⟨⟨trivial, c0⟩, c1⟩, c2⟩, c3⟩, c4⟩, c5⟩, c6⟩
theorem chk_r12 (k : Int) (n a b c d : List UInt8) (v : Nat) (ph : Int) (c0 : (!rowOf_5 k) = false) (c1 : (!name_1 n) = false) (c2 : (!decide (name_0 n = k)) = false) (c3 : (!node_0 a) = false) (c4 : (!node_0 b) = false) (c5 : rowOf_3 k = false) (c6 : (a == b) = true) : Sx.PureP (Sx.AV.int false .i64 2) (call3 37 [.agg [.int true .u8 k, .str true n, .str true a, .str true b, .str true c, .str true d, .raw true v, .int true .i64 ph]] (Sx.G.on [false, false, false, false, false, false, true])) := Sx.eqq (q := (((((((True ∧ ((!rowOf_5 k) = false)) ∧ ((!name_1 n) = false)) ∧ ((!decide (name_0 n = k)) = false)) ∧ ((!node_0 a) = false)) ∧ ((!node_0 b) = false)) ∧ (rowOf_3 k = false)) ∧ ((a == b) = true))) (by kernel_rfl) ⟨⟨⟨⟨⟨⟨⟨trivial, c0⟩, c1⟩, c2⟩, c3⟩, c4⟩, c5⟩, c6⟩
theorem chk_r13 (k : Int) (n a b c d : List UInt8) (v : Nat) (ph : Int) (c0 : (!rowOf_5 k) = false) (c1 : (!name_1 n) = false) (c2 : (!decide (name_0 n = k)) = false) (c3 : (!node_0 a) = false) (c4 : (!node_0 b) = false) (c5 : rowOf_3 k = false) (c6 : (a == b) = false) (c7 : (!rowOf_3 k) = true) (c8 : (!c == []) = false) (c9 : (!d == []) = false) (c10 : (!rowOf_4 k) = false) (c11 : decide ((2 : Int) < Sx.kindDef v) = true) : Sx.PureP (Sx.AV.int false .i64 5) (call3 37 [.agg [.int true .u8 k, .str true n, .str true a, .str true b, .str true c, .str true d, .raw true v, .int true .i64 ph]] (Sx.G.on [false, false, false, false, false, false, false, true, false, false, false, true])) := Sx.eqq (q := ((((((((((((True ∧ ((!rowOf_5 k) = false)) ∧ ((!name_1 n) = false)) ∧ ((!decide (name_0 n = k)) = false)) ∧ ((!node_0 a) = false)) ∧ ((!node_0 b) = false)) ∧ (rowOf_3 k = false)) ∧ ((a == b) = false)) ∧ ((!rowOf_3 k) = true)) ∧ ((!c == []) = false)) ∧ ((!d == []) = false)) ∧ ((!rowOf_4 k) = false)) ∧ (decide ((2 : Int) < Sx.kindDef v) = true))) (by kernel_rfl) ⟨⟨⟨⟨⟨⟨⟨⟨⟨⟨⟨⟨trivial, c0⟩, c1⟩, c2⟩, c3⟩, c4⟩, c5⟩, c6⟩, c7⟩, c8⟩, c9⟩, c10⟩, c11⟩
theorem chk_r14 (k : Int) (n a b c d : List UInt8) (v : Nat) (ph : Int) (c0 : (!rowOf_5 k) = false) (c1 : (!name_1 n) = false) (c2 : (!decide (name_0 n = k)) = false) (c3 : (!node_0 a) = false) (c4 : (!node_0 b) = false) (c5 : rowOf_3 k = false) (c6 : (a == b) = false) (c7 : (!rowOf_3 k) = true) (c8 : (!c == []) = false) (c9 : (!d == []) = false) (c10 : (!rowOf_4 k) = false) (c11 : decide ((2 : Int) < Sx.kindDef v) = false) (c12 : rowOf_2 k = true) (c13 : Sx.fle (Sx.cn v) (0 : Nat) = true) : Sx.PureP (Sx.AV.int false .i64 2) (call3 37 [.agg [.int true .u8 k, .str true n, .str true a, .str true b, .str true c, .str true d, .raw true v, .int true .i64 ph]] (Sx.G.on [false, false, false, false, false, false, false, true, false, false, false, false, true, true])) := Sx.eqq (q := ((((((((((((((True ∧ ((!rowOf_5 k) = false)) ∧ ((!name_1 n) = false)) ∧ ((!decide (name_0 n = k)) = false)) ∧ ((!node_0 a) = false)) ∧ ((!node_0 b) = false)) ∧ (rowOf_3 k = false)) ∧ ((a == b) = false)) ∧ ((!rowOf_3 k) = true)) ∧ ((!c == []) = false)) ∧ ((!d == []) = false)) ∧ ((!rowOf_4 k) = false)) ∧ (decide ((2 : Int) < Sx.kindDef v) = false)) ∧ (rowOf_2 k = true)) ∧ (Sx.fle (Sx.cn v) (0 : Nat) = true))) (by kernel_rfl) ⟨⟨⟨⟨⟨⟨⟨⟨⟨⟨⟨⟨⟨⟨trivial, c0⟩, c1⟩, c2⟩, c3⟩, c4⟩, c5⟩, c6⟩, c7⟩, c8⟩, c9⟩, c10⟩, c11⟩, c12⟩, c13⟩
theorem chk_r15 (k : Int) (n a b c d : List UInt8) (v : Nat) (ph : Int) (c0 : (!rowOf_5 k) = false) (c1 : (!name_1 n) = false) (c2 : (!decide (name_0 n = k)) = false) (c3 : (!node_0 a) = false) (c4 : (!node_0 b) = false) (c5 : rowOf_3 k = false) (c6 : (a == b) = false) (c7 : (!rowOf_3 k) = true) (c8 : (!c == []) = false) (c9 : (!d == []) = false) (c10 : (!rowOf_4 k) = false) (c11 : decide ((2 : Int) < Sx.kindDef v) = false) (c12 : rowOf_2 k = true) (c13 : Sx.fle (Sx.cn v) (0 : Nat) = false) : Sx.PureP (Sx.AV.int false .i64 0) (call3 37 [.agg [.int true .u8 k, .str true n, .str true a, .str true b, .str true c, .str true d, .raw true v, .int true .i64 ph]] (Sx.G.on [false, false, false, false, false, false, false, true, false, false, false, false, true, false])) := Sx.eqq (q := ((((((((((((((True ∧ ((!rowOf_5 k) = false)) ∧ ((!name_1 n) = false)) ∧ ((!decide (name_0 n = k)) = false)) ∧ ((!node_0 a) = false)) ∧ ((!node_0 b) = false)) ∧ (rowOf_3 k = false)) ∧ ((a == b) = false)) ∧ ((!rowOf_3 k) = true)) ∧ ((!c == []) = false)) ∧ ((!d == []) = false)) ∧ ((!rowOf_4 k) = false)) ∧ (decide ((2 : Int) < Sx.kindDef v) = false)) ∧ (rowOf_2 k = true)) ∧ (Sx.fle (Sx.cn v) (0 : Nat) = false))) (by kernel_rfl) ⟨⟨⟨⟨⟨⟨⟨⟨⟨⟨⟨⟨⟨⟨trivial, c0⟩, c1⟩, c2⟩, c3⟩, c4⟩, c5⟩, c6⟩, c7⟩, c8⟩, c9⟩, c10⟩, c11⟩, c12⟩, c13⟩
theorem chk_r16 (k : Int) (n a b c d : List UInt8) (v : Nat) (ph : Int) (c0 : (!rowOf_5 k) = false) (c1 : (!name_1 n) = false) (c2 : (!decide (name_0 n = k)) = false) (c3 : (!node_0 a) = false) (c4 : (!node_0 b) = false) (c5 : rowOf_3 k = false) (c6 : (a == b) = false) (c7 : (!rowOf_3 k) = true) (c8 : (!c == []) = false) (c9 : (!d == []) = false) (c10 : (!rowOf_4 k) = false) (c11 : decide ((2 : Int) < Sx.kindDef v) = false) (c12 : rowOf_2 k = false) : Sx.PureP (Sx.AV.int false .i64 0) (call3 37 [.agg [.int true .u8 k, .str true n, .str true a, .str true b, .str true c, .str true d, .raw true v, .int true .i64 ph]] (Sx.G.on [false, false, false, false, false, false, false, true, false, false, false, false, false])) := Sx.eqq (q := (((((((((((((True ∧ ((!rowOf_5 k) = false)) ∧ ((!name_1 n) = false)) ∧ ((!decide (name_0 n = k)) = false)) ∧ ((!node_0 a) = false)) ∧ ((!node_0 b) = false)) ∧ (rowOf_3 k = false)) ∧ ((a == b) = false)) ∧ ((!rowOf_3 k) = true)) ∧ ((!c == []) = false)) ∧ ((!d == []) = false)) ∧ ((!rowOf_4 k) = false)) ∧ (decide ((2 : Int) < Sx.kindDef v) = false)) ∧ (rowOf_2 k = false))) (by kernel_rfl) ⟨⟨⟨⟨⟨⟨⟨⟨⟨⟨⟨⟨⟨trivial, c0⟩, c1⟩, c2⟩, c3⟩, c4⟩, c5⟩, c6⟩, c7⟩, c8⟩, c9⟩, c10⟩, c11⟩, c12⟩
theorem chk_r17 (k : Int) (n a b c d : List UInt8) (v : Nat) (ph : Int) (c0 : (!rowOf_5 k) = false) (c1 : (!name_1 n) = false) (c2 : (!decide (name_0 n = k)) = false) (c3 : (!node_0 a) = false) (c4 : (!node_0 b) = false) (c5 : rowOf_3 k = false) (c6 : (a == b) = false) (c7 : (!rowOf_3 k) = true) (c8 : (!c == []) = false) (c9 : (!d == []) = false) (c10 : (!rowOf_4 k) = true) (c11 : (!decide (ph = (0 : Int))) = false) (c12 : decide ((2 : Int) < Sx.kindDef v) = true) : Sx.PureP (Sx.AV.int false .i64 5) (call3 37 [.agg [.int true .u8 k, .str true n, .str true a, .str true b, .str true c, .str true d, .raw true v, .int true .i64 ph]] (Sx.G.on [false, false, false, false, false, false, false, true, false, false, true, false, true])) := Sx.eqq (q := (((((((((((((True ∧ ((!rowOf_5 k) = false)) ∧ ((!name_1 n) = false)) ∧ ((!decide (name_0 n = k)) = false)) ∧ ((!node_0 a) = false)) ∧ ((!node_0 b) = false)) ∧ (rowOf_3 k = false)) ∧ ((a == b) = false)) ∧ ((!rowOf_3 k) = true)) ∧ ((!c == []) = false)) ∧ ((!d == []) = false)) ∧ ((!rowOf_4 k) = true)) ∧ ((!decide (ph = (0 : Int))) = false)) ∧ (decide ((2 : Int) < Sx.kindDef v) = true))) (by kernel_rfl) ⟨⟨⟨⟨⟨⟨⟨⟨⟨⟨⟨⟨⟨trivial, c0⟩, c1⟩, c2⟩, c3⟩, c4⟩, c5⟩, c6⟩, c7⟩, c8⟩, c9⟩, c10⟩, c11⟩, c12⟩
theorem chk_r18 (k : Int) (n a b c d : List UInt8) (v : Nat) (ph : Int) (c0 : (!rowOf_5 k) = false) (c1 : (!name_1 n) = false) (c2 : (!decide (name_0 n = k)) = false) (c3 : (!node_0 a) = false) (c4 : (!node_0 b) = false) (c5 : rowOf_3 k = false) (c6 : (a == b) = false) (c7 : (!rowOf_3 k) = true) (c8 : (!c == []) = false) (c9 : (!d == []) = false) (c10 : (!rowOf_4 k) = true) (c11 : (!decide (ph = (0 : Int))) = false) (c12 : decide ((2 : Int) < Sx.kindDef v) = false) (c13 : rowOf_2 k = true) (c14 : Sx.fle (Sx.cn v) (0 : Nat) = true) : Sx.PureP (Sx.AV.int false .i64 2) (call3 37 [.agg [.int true .u8 k, .str true n, .str true a, .str true b, .str true c, .str true d, .raw true v, .int true .i64 ph]] (Sx.G.on [false, false, false, false, false, false, false, true, false, false, true, false, false, true, true])) := Sx.eqq (q := (((((((((((((((True ∧ ((!rowOf_5 k) = false)) ∧ ((!name_1 n) = false)) ∧ ((!decide (name_0 n = k)) = false)) ∧ ((!node_0 a) = false)) ∧ ((!node_0 b) = false)) ∧ (rowOf_3 k = false)) ∧ ((a == b) = false)) ∧ ((!rowOf_3 k) = true)) ∧ ((!c == []) = false)) ∧ ((!d == []) = false)) ∧ ((!rowOf_4 k) = true)) ∧ ((!decide (ph = (0 : Int))) = false)) ∧ (decide ((2 : Int) < Sx.kindDef v) = false)) ∧ (rowOf_2 k = true)) ∧ (Sx.fle (Sx.cn v) (0 : Nat) = true))) (by kernel_rfl) ⟨⟨⟨⟨⟨⟨⟨⟨⟨⟨⟨⟨⟨⟨⟨trivial, c0⟩, c1⟩, c2⟩, c3⟩, c4⟩, c5⟩, c6⟩, c7⟩, c8⟩, c9⟩, c10⟩, c11⟩, c12⟩, c13⟩, c14⟩
theorem chk_r19 (k : Int) (n a b c d : List UInt8) (v : Nat) (ph : Int) (c0 : (!rowOf_5 k) = false) (c1 : (!name_1 n) = false) (c2 : (!decide (name_0 n = k)) = false) (c3 : (!node_0 a) = false) (c4 : (!node_0 b) = false) (c5 : rowOf_3 k = false) (c6 : (a == b) = false) (c7 : (!rowOf_3 k) = true) (c8 : (!c == []) = false) (c9 : (!d == []) = false) (c10 : (!rowOf_4 k) = true) (c11 : (!decide (ph = (0 : Int))) = false) (c12 : decide ((2 : Int) < Sx.kindDef v) = false) (c13 : rowOf_2 k = true) (c14 : Sx.fle (Sx.cn v) (0 : Nat) = false) : Sx.PureP (Sx.AV.int false .i64 0) (call3 37 [.agg [.int true .u8 k, .str true n, .str true a, .str true b, .str true c, .str true d, .raw true v, .int true .i64 ph]] (Sx.G.on [false, false, false, false, false, false, false, true, false, false, true, false, false, true, false])) := Sx.eqq (q := (((((((((((((((True ∧ ((!rowOf_5 k) = false)) ∧ ((!name_1 n) = false)) ∧ ((!decide (name_0 n = k)) = false)) ∧ ((!node_0 a) = false)) ∧ ((!node_0 b) = false)) ∧ (rowOf_3 k = false)) ∧ ((a == b) = false)) ∧ ((!rowOf_3 k) = true)) ∧ ((!c == []) = false)) ∧ ((!d == []) = false)) ∧ ((!rowOf_4 k) = true)) ∧ ((!decide (ph = (0 : Int))) = false)) ∧ (decide ((2 : Int) < Sx.kindDef v) = false)) ∧ (rowOf_2 k = true)) ∧ (Sx.fle (Sx.cn v) (0 : Nat) = false))) (by kernel_rfl) ⟨⟨⟨⟨⟨⟨⟨⟨⟨⟨⟨⟨⟨⟨⟨trivial, c0⟩, c1⟩, c2⟩, c3⟩, c4⟩, c5⟩, c6⟩, c7⟩, c8⟩, c9⟩, c10⟩, c11⟩, c12⟩, c13⟩, c14⟩
theorem chk_r20 (k : Int) (n a b c d : List UInt8) (v : Nat) (ph : Int) (c0 : (!rowOf_5 k) = false) (c1 : (!name_1 n) = false) (c2 : (!decide (name_0 n = k)) = false) (c3 : (!node_0 a) = false) (c4 : (!node_0 b) = false) (c5 : rowOf_3 k = false) (c6 : (a == b) = false) (c7 : (!rowOf_3 k) = true) (c8 : (!c == []) = false) (c9 : (!d == []) = false) (c10 : (!rowOf_4 k) = true) (c11 : (!decide (ph = (0 : Int))) = false) (c12 : decide ((2 : Int) < Sx.kindDef v) = false) (c13 : rowOf_2 k = false) : Sx.PureP (Sx.AV.int false .i64 0) (call3 37 [.agg [.int true .u8 k, .str true n, .str true a, .str true b, .str true c, .str true d, .raw true v, .int true .i64 ph]] (Sx.G.on [false, false, false, false, false, false, false, true, false, false, true, false, false, false])) := Sx.eqq (q := ((((((((((((((True ∧ ((!rowOf_5 k) = false)) ∧ ((!name_1 n) = false)) ∧ ((!decide (name_0 n = k)) = false)) ∧ ((!node_0 a) = false)) ∧ ((!node_0 b) = false)) ∧ (rowOf_3 k = false)) ∧ ((a == b) = false)) ∧ ((!rowOf_3 k) = true)) ∧ ((!c == []) = false)) ∧ ((!d == []) = false)) ∧ ((!rowOf_4 k) = true)) ∧ ((!decide (ph = (0 : Int))) = false)) ∧ (decide ((2 : Int) < Sx.kindDef v) = false)) ∧ (rowOf_2 k = false))) (by kernel_rfl) ⟨⟨⟨⟨⟨⟨⟨⟨⟨⟨⟨⟨⟨⟨trivial, c0⟩, c1⟩, c2⟩, c3⟩, c4⟩, c5⟩, c6⟩, c7⟩, c8⟩, c9⟩, c10⟩, c11⟩, c12⟩, c13⟩
theorem chk_r21 (k : Int) (n a b c d : List UInt8) (v : Nat) (ph : Int) (c0 : (!rowOf_5 k) = false) (c1 : (!name_1 n) = false) (c2 : (!decide (name_0 n = k)) = false) (c3 : (!node_0 a) = false) (c4 : (!node_0 b) = false) (c5 : rowOf_3 k = false) (c6 : (a == b) = false) (c7 : (!rowOf_3 k) = true) (c8 : (!c == []) = false) (c9 : (!d == []) = false) (c10 : (!rowOf_4 k) = true) (c11 : (!decide (ph = (0 : Int))) = true) : Sx.PureP (Sx.AV.int false .i64 2) (call3 37 [.agg [.int true .u8 k, .str true n, .str true a, .str true b, .str true c, .str true d, .raw true v, .int true .i64 ph]] (Sx.G.on [false, false, false, false, false, false, false, true, false, false, true, true])) := Sx.eqq (q := ((((((((((((True ∧ ((!rowOf_5 k) = false)) ∧ ((!name_1 n) = false)) ∧ ((!decide (name_0 n = k)) = false)) ∧ ((!node_0 a) = false)) ∧ ((!node_0 b) = false)) ∧ (rowOf_3 k = false)) ∧ ((a == b) = false)) ∧ ((!rowOf_3 k) = true)) ∧ ((!c == []) = false)) ∧ ((!d == []) = false)) ∧ ((!rowOf_4 k) = true)) ∧ ((!decide (ph = (0 : Int))) = true))) (by kernel_rfl) ⟨⟨⟨⟨⟨⟨⟨⟨⟨⟨⟨⟨trivial, c0⟩, c1⟩, c2⟩, c3⟩, c4⟩, c5⟩, c6⟩, c7⟩, c8⟩, c9⟩, c10⟩, c11⟩
theorem chk_r22 (k : Int) (n a b c d : List UInt8) (v : Nat) (ph : Int) (c0 : (!rowOf_5 k) = false) (c1 : (!name_1 n) = false) (c2 : (!decide (name_0 n = k)) = false) (c3 : (!node_0 a) = false) (c4 : (!node_0 b) = false) (c5 : rowOf_3 k = false) (c6 : (a == b) = false) (c7 : (!rowOf_3 k) = true) (c8 : (!c == []) = false) (c9 : (!d == []) = true) : Sx.PureP (Sx.AV.int false .i64 2) (call3 37 [.agg [.int true .u8 k, .str true n, .str true a, .str true b, .str true c, .str true d, .raw true v, .int true .i64 ph]] (Sx.G.on [false, false, false, false, false, false, false, true, false, true])) := Sx.eqq (q := ((((((((((True ∧ ((!rowOf_5 k) = false)) ∧ ((!name_1 n) = false)) ∧ ((!decide (name_0 n = k)) = false)) ∧ ((!node_0 a) = false)) ∧ ((!node_0 b) = false)) ∧ (rowOf_3 k = false)) ∧ ((a == b) = false)) ∧ ((!rowOf_3 k) = true)) ∧ ((!c == []) = false)) ∧ ((!d == []) = true))) (by kernel_rfl) ⟨⟨⟨⟨⟨⟨⟨⟨⟨⟨trivial, c0⟩, c1⟩, c2⟩, c3⟩, c4⟩, c5⟩, c6⟩, c7⟩, c8⟩, c9⟩
theorem chk_r23 (k : Int) (n a b c d : List UInt8) (v : Nat) (ph : Int) (c0 : (!rowOf_5 k) = false) (c1 : (!name_1 n) = false) (c2 : (!decide (name_0 n = k)) = false) (c3 : (!node_0 a) = false) (c4 : (!node_0 b) = false) (c5 : rowOf_3 k = false) (c6 : (a == b) = false) (c7 : (!rowOf_3 k) = true) (c8 : (!c == []) = true) : Sx.PureP (Sx.AV.int false .i64 2) (call3 37 [.agg [.int true .u8 k, .str true n, .str true a, .str true b, .str true c, .str true d, .raw true v, .int true .i64 ph]] (Sx.G.on [false, false, false, false, false, false, false, true, true])) := Sx.eqq (q := (((((((((True ∧ ((!rowOf_5 k) = false)) ∧ ((!name_1 n) = false)) ∧ ((!decide (name_0 n = k)) = false)) ∧ ((!node_0 a) = false)) ∧ ((!node_0 b) = false)) ∧ (rowOf_3 k = false)) ∧ ((a == b) = false)) ∧ ((!rowOf_3 k) = true)) ∧ ((!c == []) = true))) (by kernel_rfl) ⟨⟨⟨⟨⟨⟨⟨⟨⟨trivial, c0⟩, c1⟩, c2⟩, c3⟩, c4⟩, c5⟩, c6⟩, c7⟩, c8⟩
theorem chk_r24 (k : Int) (n a b c d : List UInt8) (v : Nat) (ph : Int) (c0 : (!rowOf_5 k) = false) (c1 : (!name_1 n) = false) (c2 : (!decide (name_0 n = k)) = false) (c3 : (!node_0 a) = false) (c4 : (!node_0 b) = true) : Sx.PureP (Sx.AV.int false .i64 8) (call3 37 [.agg [.int true .u8 k, .str true n, .str true a, .str true b, .str true c, .str true d, .raw true v, .int true .i64 ph]] (Sx.G.on [false, false, false, false, true])) := Sx.eqq (q := (((((True ∧ ((!rowOf_5 k) = false)) ∧ ((!name_1 n) = false)) ∧ ((!decide (name_0 n = k)) = false)) ∧ ((!node_0 a) = false)) ∧ ((!node_0 b) = true))) (by kernel_rfl) ⟨⟨⟨⟨⟨trivial, c0⟩, c1⟩, c2⟩, c3⟩, c4⟩
theorem chk_r25 (k : Int) (n a b c d : List UInt8) (v : Nat) (ph : Int) (c0 : (!rowOf_5 k) = false) (c1 : (!name_1 n) = false) (c2 : (!decide (name_0 n = k)) = false) (c3 : (!node_0 a) = true) : Sx.PureP (Sx.AV.int false .i64 8) (call3 37 [.agg [.int true .u8 k, .str true n, .str true a, .str true b, .str true c, .str true d, .raw true v, .int true .i64 ph]] (Sx.G.on [false, false, false, true])) := Sx.eqq (q := ((((True ∧ ((!rowOf_5 k) = false)) ∧ ((!name_1 n) = false)) ∧ ((!decide (name_0 n = k)) = false)) ∧ ((!node_0 a) = true))) (by kernel_rfl) ⟨⟨⟨⟨trivial, c0⟩, c1⟩, c2⟩, c3⟩
theorem chk_r26 (k : Int) (n a b c d : List UInt8) (v : Nat) (ph : Int) (c0 : (!rowOf_5 k) = false) (c1 : (!name_1 n) = false) (c2 : (!decide (name_0 n = k)) = true) : Sx.PureP (Sx.AV.int false .i64 8) (call3 37 [.agg [.int true .u8 k, .str true n, .str true a, .str true b, .str true c, .str true d, .raw true v, .int true .i64 ph]] (Sx.G.on [false, false, true])) := Sx.eqq (q := (((True ∧ ((!rowOf_5 k) = false)) ∧ ((!name_1 n) = false)) ∧ ((!decide (name_0 n = k)) = true))) (by kernel_rfl) ⟨⟨⟨trivial, c0⟩, c1⟩, c2⟩
theorem chk_r27 (k : Int) (n a b c d : List UInt8) (v : Nat) (ph : Int) (c0 : (!rowOf_5 k) = false) (c1 : (!name_1 n) = true) : Sx.PureP (Sx.AV.int false .i64 8) (call3 37 [.agg [.int true .u8 k, .str true n, .str true a, .str true b, .str true c, .str true d, .raw true v, .int true .i64 ph]] (Sx.G.on [false, true])) := Sx.eqq (q := ((True ∧ ((!rowOf_5 k) = false)) ∧ ((!name_1 n) = true))) (by kernel_rfl) ⟨⟨trivial, c0⟩, c1⟩
theorem chk_r28 (k : Int) (n a b c d : List UInt8) (v : Nat) (ph : Int) (c0 : (!rowOf_5 k) = true) : Sx.PureP (Sx.AV.int false .i64 2) (call3 37 [.agg [.int true .u8 k, .str true n, .str true a, .str true b, .str true c, .str true d, .raw true v, .int true .i64 ph]] (Sx.G.on [true])) := Sx.eqq (q := (True ∧ ((!rowOf_5 k) = true))) (by kernel_rfl) ⟨trivial, c0⟩
noncomputable def chk_0 (k : Int) (n a b c d : List UInt8) (v : Nat) (ph : Int) : Int := (bif rowOf_5 k then (bif name_1 n then (bif decide (name_0 n = k) then (bif node_0 a then (bif node_0 b then (bif rowOf_3 k then (bif node_0 c then (bif node_0 d then (bif a == b then ((2 : Int)) else (bif rowOf_4 k then (bif decide ((2 : Int) < Sx.kindDef v) then ((5 : Int)) else (bif rowOf_2 k then (bif Sx.fle (Sx.cn v) (0 : Nat) then ((2 : Int)) else ((0 : Int))) else ((0 : Int)))) else (bif decide (ph = (0 : Int)) then (bif decide ((2 : Int) < Sx.kindDef v) then ((5 : Int)) else (bif rowOf_2 k then (bif Sx.fle (Sx.cn v) (0 : Nat) then ((2 : Int)) else ((0 : Int))) else ((0 : Int)))) else ((2 : Int))))) else ((8 : Int))) else ((8 : Int))) else (bif a == b then ((2 : Int)) else (bif c == [] then (bif d == [] then (bif rowOf_4 k then (bif decide ((2 : Int) < Sx.kindDef v) then ((5 : Int)) else (bif rowOf_2 k then (bif Sx.fle (Sx.cn v) (0 : Nat) then ((2 : Int)) else ((0 : Int))) else ((0 : Int)))) else (bif decide (ph = (0 : Int)) then (bif decide ((2 : Int) < Sx.kindDef v) then ((5 : Int)) else (bif rowOf_2 k then (bif Sx.fle (Sx.cn v) (0 : Nat) then ((2 : Int)) else ((0 : Int))) else ((0 : Int)))) else ((2 : Int)))) else ((2 : Int))) else ((2 : Int))))) else ((8 : Int))) else ((8 : Int))) else ((8 : Int))) else ((8 : Int))) else ((2 : Int)))
noncomputable def chkS : List Sx.AV → Sx.M Sx.AV
 | [.agg [.int s0 .u8 k, .str s1 n, .str s2 a, .str s3 b, .str s4 c, .str s5 d, .raw s6 v, .int s7 .i64 ph]] => Sx.M.ret (Sx.AV.int (Bool.or s0 (Bool.or s1 (Bool.or s2 (Bool.or s3 (Bool.or s4 (Bool.or s5 (Bool.or s6 s7))))))) (IntKind.i64) (chk_0 k n a b c d v ph))
 | args => call3 37 args
theorem chkS_ok : ∀ args v g g', chkS args g = .done v g' → Sx.CallIs Try.prog 37 args v g g' := by
 intro args v g g' h
 unfold chkS at h
 split at h
 ·rename_i s0 k s1 n s2 a s3 b s4 c s5 d s6 v s7 ph
  obtain ⟨rfl, rfl⟩ := Sx.ret_done h
  refine Sx.scal call3_ok fun μ cargs ha => ?_
  have ha' : Sx.Reps 0 Sx.MM.none [.agg [.int true .u8 k, .str true n, .str true a, .str true b, .str true c, .str true d, .raw true v, .int true .i64 ph]] cargs.toList := by simpa only [Sx.Reps, Sx.Rep] using ha
  cases t0 : rowOf_5 k with
  | true =>
   cases t1 : name_1 n with
   | true =>
    cases t2 : decide (name_0 n = k) with
    | true =>
     cases t3 : node_0 a with
     | true =>
      cases t4 : node_0 b with
      | true =>
       cases t5 : rowOf_3 k with
       | true =>
        cases t6 : node_0 c with
        | true =>
         cases t7 : node_0 d with
         | true =>
          cases t8 : a == b with
          | true =>
           exact ⟨_, _, _, ha', chk_r0 k n a b c d v ph (by rw [t0]; rfl) (by rw [t1]; rfl) (by rw [t2]; rfl) (by rw [t3]; rfl) (by rw [t4]; rfl) t5 (by rw [t6]; rfl) (by rw [t7]; rfl) t8, rfl, fun cv hc => by have := hc g.nx μ; have e0 : chk_0 k n a b c d v ph = ((2 : Int)) := (Sx.ct t0).trans ((Sx.ct t1).trans ((Sx.ct t2).trans ((Sx.ct t3).trans ((Sx.ct t4).trans ((Sx.ct t5).trans ((Sx.ct t6).trans ((Sx.ct t7).trans ((Sx.ct t8).trans (rfl))))))))); rw [e0]; simpa only [Sx.Rep, Sx.Reps, Sx.Rep_cmpB] using this⟩
          | false =>
           cases t9 : rowOf_4 k with
           | true =>
            cases t10 : decide ((2 : Int) < Sx.kindDef v) with
            | true =>
             exact ⟨_, _, _, ha', chk_r1 k n a b c d v ph (by rw [t0]; rfl) (by rw [t1]; rfl) (by rw [t2]; rfl) (by rw [t3]; rfl) (by rw [t4]; rfl) t5 (by rw [t6]; rfl) (by rw [t7]; rfl) t8 (by rw [t5]; rfl) (by rw [t9]; rfl) t10, rfl, fun cv hc => by have := hc g.nx μ; have e0 : chk_0 k n a b c d v ph = ((5 : Int)) := (Sx.ct t0).trans ((Sx.ct t1).trans ((Sx.ct t2).trans ((Sx.ct t3).trans ((Sx.ct t4).trans ((Sx.ct t5).trans ((Sx.ct t6).trans ((Sx.ct t7).trans ((Sx.cf t8).trans ((Sx.ct t9).trans ((Sx.ct t10).trans (rfl))))))))))); rw [e0]; simpa only [Sx.Rep, Sx.Reps, Sx.Rep_cmpB] using this⟩
            | false =>
             cases t11 : rowOf_2 k with
             | true =>
              cases t12 : Sx.fle (Sx.cn v) (0 : Nat) with
              | true =>
               exact ⟨_, _, _, ha', chk_r2 k n a b c d v ph (by rw [t0]; rfl) (by rw [t1]; rfl) (by rw [t2]; rfl) (by rw [t3]; rfl) (by rw [t4]; rfl) t5 (by rw [t6]; rfl) (by rw [t7]; rfl) t8 (by rw [t5]; rfl) (by rw [t9]; rfl) t10 t11 t12, rfl, fun cv hc => by have := hc g.nx μ; have e0 : chk_0 k n a b c d v ph = ((2 : Int)) := (Sx.ct t0).trans ((Sx.ct t1).trans ((Sx.ct t2).trans ((Sx.ct t3).trans ((Sx.ct t4).trans ((Sx.ct t5).trans ((Sx.ct t6).trans ((Sx.ct t7).trans ((Sx.cf t8).trans ((Sx.ct t9).trans ((Sx.cf t10).trans ((Sx.ct t11).trans ((Sx.ct t12).trans (rfl))))))))))))); rw [e0]; simpa only [Sx.Rep, Sx.Reps, Sx.Rep_cmpB] using this⟩
              | false =>
               exact ⟨_, _, _, ha', chk_r3 k n a b c d v ph (by rw [t0]; rfl) (by rw [t1]; rfl) (by rw [t2]; rfl) (by rw [t3]; rfl) (by rw [t4]; rfl) t5 (by rw [t6]; rfl) (by rw [t7]; rfl) t8 (by rw [t5]; rfl) (by rw [t9]; rfl) t10 t11 t12, rfl, fun cv hc => by have := hc g.nx μ; have e0 : chk_0 k n a b c d v ph = ((0 : Int)) := (Sx.ct t0).trans ((Sx.ct t1).trans ((Sx.ct t2).trans ((Sx.ct t3).trans ((Sx.ct t4).trans ((Sx.ct t5).trans ((Sx.ct t6).trans ((Sx.ct t7).trans ((Sx.cf t8).trans ((Sx.ct t9).trans ((Sx.cf t10).trans ((Sx.ct t11).trans ((Sx.cf t12).trans (rfl))))))))))))); rw [e0]; simpa only [Sx.Rep, Sx.Reps, Sx.Rep_cmpB] using this⟩
             | false =>
              exact ⟨_, _, _, ha', chk_r4 k n a b c d v ph (by rw [t0]; rfl) (by rw [t1]; rfl) (by rw [t2]; rfl) (by rw [t3]; rfl) (by rw [t4]; rfl) t5 (by rw [t6]; rfl) (by rw [t7]; rfl) t8 (by rw [t5]; rfl) (by rw [t9]; rfl) t10 t11, rfl, fun cv hc => by have := hc g.nx μ; have e0 : chk_0 k n a b c d v ph = ((0 : Int)) := (Sx.ct t0).trans ((Sx.ct t1).trans ((Sx.ct t2).trans ((Sx.ct t3).trans ((Sx.ct t4).trans ((Sx.ct t5).trans ((Sx.ct t6).trans ((Sx.ct t7).trans ((Sx.cf t8).trans ((Sx.ct t9).trans ((Sx.cf t10).trans ((Sx.cf t11).trans (rfl)))))))))))); rw [e0]; simpa only [Sx.Rep, Sx.Reps, Sx.Rep_cmpB] using this⟩
           | false =>
            cases t10 : decide (ph = (0 : Int)) with
            | true =>
             cases t11 : decide ((2 : Int) < Sx.kindDef v) with
             | true =>
              exact ⟨_, _, _, ha', chk_r5 k n a b c d v ph (by rw [t0]; rfl) (by rw [t1]; rfl) (by rw [t2]; rfl) (by rw [t3]; rfl) (by rw [t4]; rfl) t5 (by rw [t6]; rfl) (by rw [t7]; rfl) t8 (by rw [t5]; rfl) (by rw [t9]; rfl) (by rw [t10]; rfl) t11, rfl, fun cv hc => by have := hc g.nx μ; have e0 : chk_0 k n a b c d v ph = ((5 : Int)) := (Sx.ct t0).trans ((Sx.ct t1).trans ((Sx.ct t2).trans ((Sx.ct t3).trans ((Sx.ct t4).trans ((Sx.ct t5).trans ((Sx.ct t6).trans ((Sx.ct t7).trans ((Sx.cf t8).trans ((Sx.cf t9).trans ((Sx.ct t10).trans ((Sx.ct t11).trans (rfl)))))))))))); rw [e0]; simpa only [Sx.Rep, Sx.Reps, Sx.Rep_cmpB] using this⟩
             | false =>
              cases t12 : rowOf_2 k with
              | true =>
               cases t13 : Sx.fle (Sx.cn v) (0 : Nat) with
               | true =>
                exact ⟨_, _, _, ha', chk_r6 k n a b c d v ph (by rw [t0]; rfl) (by rw [t1]; rfl) (by rw [t2]; rfl) (by rw [t3]; rfl) (by rw [t4]; rfl) t5 (by rw [t6]; rfl) (by rw [t7]; rfl) t8 (by rw [t5]; rfl) (by rw [t9]; rfl) (by rw [t10]; rfl) t11 t12 t13, rfl, fun cv hc => by have := hc g.nx μ; have e0 : chk_0 k n a b c d v ph = ((2 : Int)) := (Sx.ct t0).trans ((Sx.ct t1).trans ((Sx.ct t2).trans ((Sx.ct t3).trans ((Sx.ct t4).trans ((Sx.ct t5).trans ((Sx.ct t6).trans ((Sx.ct t7).trans ((Sx.cf t8).trans ((Sx.cf t9).trans ((Sx.ct t10).trans ((Sx.cf t11).trans ((Sx.ct t12).trans ((Sx.ct t13).trans (rfl)))))))))))))); rw [e0]; simpa only [Sx.Rep, Sx.Reps, Sx.Rep_cmpB] using this⟩
               | false =>
                exact ⟨_, _, _, ha', chk_r7 k n a b c d v ph (by rw [t0]; rfl) (by rw [t1]; rfl) (by rw [t2]; rfl) (by rw [t3]; rfl) (by rw [t4]; rfl) t5 (by rw [t6]; rfl) (by rw [t7]; rfl) t8 (by rw [t5]; rfl) (by rw [t9]; rfl) (by rw [t10]; rfl) t11 t12 t13, rfl, fun cv hc => by have := hc g.nx μ; have e0 : chk_0 k n a b c d v ph = ((0 : Int)) := (Sx.ct t0).trans ((Sx.ct t1).trans ((Sx.ct t2).trans ((Sx.ct t3).trans ((Sx.ct t4).trans ((Sx.ct t5).trans ((Sx.ct t6).trans ((Sx.ct t7).trans ((Sx.cf t8).trans ((Sx.cf t9).trans ((Sx.ct t10).trans ((Sx.cf t11).trans ((Sx.ct t12).trans ((Sx.cf t13).trans (rfl)))))))))))))); rw [e0]; simpa only [Sx.Rep, Sx.Reps, Sx.Rep_cmpB] using this⟩
              | false =>
               exact ⟨_, _, _, ha', chk_r8 k n a b c d v ph (by rw [t0]; rfl) (by rw [t1]; rfl) (by rw [t2]; rfl) (by rw [t3]; rfl) (by rw [t4]; rfl) t5 (by rw [t6]; rfl) (by rw [t7]; rfl) t8 (by rw [t5]; rfl) (by rw [t9]; rfl) (by rw [t10]; rfl) t11 t12, rfl, fun cv hc => by have := hc g.nx μ; have e0 : chk_0 k n a b c d v ph = ((0 : Int)) := (Sx.ct t0).trans ((Sx.ct t1).trans ((Sx.ct t2).trans ((Sx.ct t3).trans ((Sx.ct t4).trans ((Sx.ct t5).trans ((Sx.ct t6).trans ((Sx.ct t7).trans ((Sx.cf t8).trans ((Sx.cf t9).trans ((Sx.ct t10).trans ((Sx.cf t11).trans ((Sx.cf t12).trans (rfl))))))))))))); rw [e0]; simpa only [Sx.Rep, Sx.Reps, Sx.Rep_cmpB] using this⟩
            | false =>
             exact ⟨_, _, _, ha', chk_r9 k n a b c d v ph (by rw [t0]; rfl) (by rw [t1]; rfl) (by rw [t2]; rfl) (by rw [t3]; rfl) (by rw [t4]; rfl) t5 (by rw [t6]; rfl) (by rw [t7]; rfl) t8 (by rw [t5]; rfl) (by rw [t9]; rfl) (by rw [t10]; rfl), rfl, fun cv hc => by have := hc g.nx μ; have e0 : chk_0 k n a b c d v ph = ((2 : Int)) := (Sx.ct t0).trans ((Sx.ct t1).trans ((Sx.ct t2).trans ((Sx.ct t3).trans ((Sx.ct t4).trans ((Sx.ct t5).trans ((Sx.ct t6).trans ((Sx.ct t7).trans ((Sx.cf t8).trans ((Sx.cf t9).trans ((Sx.cf t10).trans (rfl))))))))))); rw [e0]; simpa only [Sx.Rep, Sx.Reps, Sx.Rep_cmpB] using this⟩
         | false =>
          exact ⟨_, _, _, ha', chk_r10 k n a b c d v ph (by rw [t0]; rfl) (by rw [t1]; rfl) (by rw [t2]; rfl) (by rw [t3]; rfl) (by rw [t4]; rfl) t5 (by rw [t6]; rfl) (by rw [t7]; rfl), rfl, fun cv hc => by have := hc g.nx μ; have e0 : chk_0 k n a b c d v ph = ((8 : Int)) := (Sx.ct t0).trans ((Sx.ct t1).trans ((Sx.ct t2).trans ((Sx.ct t3).trans ((Sx.ct t4).trans ((Sx.ct t5).trans ((Sx.ct t6).trans ((Sx.cf t7).trans (rfl)))))))); rw [e0]; simpa only [Sx.Rep, Sx.Reps, Sx.Rep_cmpB] using this⟩
        | false =>
         exact ⟨_, _, _, ha', chk_r11 k n a b c d v ph (by rw [t0]; rfl) (by rw [t1]; rfl) (by rw [t2]; rfl) (by rw [t3]; rfl) (by rw [t4]; rfl) t5 (by rw [t6]; rfl), rfl, fun cv hc => by have := hc g.nx μ; have e0 : chk_0 k n a b c d v ph = ((8 : Int)) := (Sx.ct t0).trans ((Sx.ct t1).trans ((Sx.ct t2).trans ((Sx.ct t3).trans ((Sx.ct t4).trans ((Sx.ct t5).trans ((Sx.cf t6).trans (rfl))))))); rw [e0]; simpa only [Sx.Rep, Sx.Reps, Sx.Rep_cmpB] using this⟩
       | false =>
        cases t6 : a == b with
        | true =>
         exact ⟨_, _, _, ha', chk_r12 k n a b c d v ph (by rw [t0]; rfl) (by rw [t1]; rfl) (by rw [t2]; rfl) (by rw [t3]; rfl) (by rw [t4]; rfl) t5 t6, rfl, fun cv hc => by have := hc g.nx μ; have e0 : chk_0 k n a b c d v ph = ((2 : Int)) := (Sx.ct t0).trans ((Sx.ct t1).trans ((Sx.ct t2).trans ((Sx.ct t3).trans ((Sx.ct t4).trans ((Sx.cf t5).trans ((Sx.ct t6).trans (rfl))))))); rw [e0]; simpa only [Sx.Rep, Sx.Reps, Sx.Rep_cmpB] using this⟩
        | false =>
         cases t7 : c == [] with
         | true =>
          cases t8 : d == [] with
          | true =>
           cases t9 : rowOf_4 k with
           | true =>
            cases t10 : decide ((2 : Int) < Sx.kindDef v) with
            | true =>
             exact ⟨_, _, _, ha', chk_r13 k n a b c d v ph (by rw [t0]; rfl) (by rw [t1]; rfl) (by rw [t2]; rfl) (by rw [t3]; rfl) (by rw [t4]; rfl) t5 t6 (by rw [t5]; rfl) (by rw [t7]; rfl) (by rw [t8]; rfl) (by rw [t9]; rfl) t10, rfl, fun cv hc => by have := hc g.nx μ; have e0 : chk_0 k n a b c d v ph = ((5 : Int)) := (Sx.ct t0).trans ((Sx.ct t1).trans ((Sx.ct t2).trans ((Sx.ct t3).trans ((Sx.ct t4).trans ((Sx.cf t5).trans ((Sx.cf t6).trans ((Sx.ct t7).trans ((Sx.ct t8).trans ((Sx.ct t9).trans ((Sx.ct t10).trans (rfl))))))))))); rw [e0]; simpa only [Sx.Rep, Sx.Reps, Sx.Rep_cmpB] using this⟩
            | false =>
             cases t11 : rowOf_2 k with
             | true =>
              cases t12 : Sx.fle (Sx.cn v) (0 : Nat) with
              | true =>
               exact ⟨_, _, _, ha', chk_r14 k n a b c d v ph (by rw [t0]; rfl) (by rw [t1]; rfl) (by rw [t2]; rfl) (by rw [t3]; rfl) (by rw [t4]; rfl) t5 t6 (by rw [t5]; rfl) (by rw [t7]; rfl) (by rw [t8]; rfl) (by rw [t9]; rfl) t10 t11 t12, rfl, fun cv hc => by have := hc g.nx μ; have e0 : chk_0 k n a b c d v ph = ((2 : Int)) := (Sx.ct t0).trans ((Sx.ct t1).trans ((Sx.ct t2).trans ((Sx.ct t3).trans ((Sx.ct t4).trans ((Sx.cf t5).trans ((Sx.cf t6).trans ((Sx.ct t7).trans ((Sx.ct t8).trans ((Sx.ct t9).trans ((Sx.cf t10).trans ((Sx.ct t11).trans ((Sx.ct t12).trans (rfl))))))))))))); rw [e0]; simpa only [Sx.Rep, Sx.Reps, Sx.Rep_cmpB] using this⟩
              | false =>
               exact ⟨_, _, _, ha', chk_r15 k n a b c d v ph (by rw [t0]; rfl) (by rw [t1]; rfl) (by rw [t2]; rfl) (by rw [t3]; rfl) (by rw [t4]; rfl) t5 t6 (by rw [t5]; rfl) (by rw [t7]; rfl) (by rw [t8]; rfl) (by rw [t9]; rfl) t10 t11 t12, rfl, fun cv hc => by have := hc g.nx μ; have e0 : chk_0 k n a b c d v ph = ((0 : Int)) := (Sx.ct t0).trans ((Sx.ct t1).trans ((Sx.ct t2).trans ((Sx.ct t3).trans ((Sx.ct t4).trans ((Sx.cf t5).trans ((Sx.cf t6).trans ((Sx.ct t7).trans ((Sx.ct t8).trans ((Sx.ct t9).trans ((Sx.cf t10).trans ((Sx.ct t11).trans ((Sx.cf t12).trans (rfl))))))))))))); rw [e0]; simpa only [Sx.Rep, Sx.Reps, Sx.Rep_cmpB] using this⟩
             | false =>
              exact ⟨_, _, _, ha', chk_r16 k n a b c d v ph (by rw [t0]; rfl) (by rw [t1]; rfl) (by rw [t2]; rfl) (by rw [t3]; rfl) (by rw [t4]; rfl) t5 t6 (by rw [t5]; rfl) (by rw [t7]; rfl) (by rw [t8]; rfl) (by rw [t9]; rfl) t10 t11, rfl, fun cv hc => by have := hc g.nx μ; have e0 : chk_0 k n a b c d v ph = ((0 : Int)) := (Sx.ct t0).trans ((Sx.ct t1).trans ((Sx.ct t2).trans ((Sx.ct t3).trans ((Sx.ct t4).trans ((Sx.cf t5).trans ((Sx.cf t6).trans ((Sx.ct t7).trans ((Sx.ct t8).trans ((Sx.ct t9).trans ((Sx.cf t10).trans ((Sx.cf t11).trans (rfl)))))))))))); rw [e0]; simpa only [Sx.Rep, Sx.Reps, Sx.Rep_cmpB] using this⟩
           | false =>
            cases t10 : decide (ph = (0 : Int)) with
            | true =>
             cases t11 : decide ((2 : Int) < Sx.kindDef v) with
             | true =>
              exact ⟨_, _, _, ha', chk_r17 k n a b c d v ph (by rw [t0]; rfl) (by rw [t1]; rfl) (by rw [t2]; rfl) (by rw [t3]; rfl) (by rw [t4]; rfl) t5 t6 (by rw [t5]; rfl) (by rw [t7]; rfl) (by rw [t8]; rfl) (by rw [t9]; rfl) (by rw [t10]; rfl) t11, rfl, fun cv hc => by have := hc g.nx μ; have e0 : chk_0 k n a b c d v ph = ((5 : Int)) := (Sx.ct t0).trans ((Sx.ct t1).trans ((Sx.ct t2).trans ((Sx.ct t3).trans ((Sx.ct t4).trans ((Sx.cf t5).trans ((Sx.cf t6).trans ((Sx.ct t7).trans ((Sx.ct t8).trans ((Sx.cf t9).trans ((Sx.ct t10).trans ((Sx.ct t11).trans (rfl)))))))))))); rw [e0]; simpa only [Sx.Rep, Sx.Reps, Sx.Rep_cmpB] using this⟩
             | false =>
              cases t12 : rowOf_2 k with
              | true =>
               cases t13 : Sx.fle (Sx.cn v) (0 : Nat) with
               | true =>
                exact ⟨_, _, _, ha', chk_r18 k n a b c d v ph (by rw [t0]; rfl) (by rw [t1]; rfl) (by rw [t2]; rfl) (by rw [t3]; rfl) (by rw [t4]; rfl) t5 t6 (by rw [t5]; rfl) (by rw [t7]; rfl) (by rw [t8]; rfl) (by rw [t9]; rfl) (by rw [t10]; rfl) t11 t12 t13, rfl, fun cv hc => by have := hc g.nx μ; have e0 : chk_0 k n a b c d v ph = ((2 : Int)) := (Sx.ct t0).trans ((Sx.ct t1).trans ((Sx.ct t2).trans ((Sx.ct t3).trans ((Sx.ct t4).trans ((Sx.cf t5).trans ((Sx.cf t6).trans ((Sx.ct t7).trans ((Sx.ct t8).trans ((Sx.cf t9).trans ((Sx.ct t10).trans ((Sx.cf t11).trans ((Sx.ct t12).trans ((Sx.ct t13).trans (rfl)))))))))))))); rw [e0]; simpa only [Sx.Rep, Sx.Reps, Sx.Rep_cmpB] using this⟩
               | false =>
                exact ⟨_, _, _, ha', chk_r19 k n a b c d v ph (by rw [t0]; rfl) (by rw [t1]; rfl) (by rw [t2]; rfl) (by rw [t3]; rfl) (by rw [t4]; rfl) t5 t6 (by rw [t5]; rfl) (by rw [t7]; rfl) (by rw [t8]; rfl) (by rw [t9]; rfl) (by rw [t10]; rfl) t11 t12 t13, rfl, fun cv hc => by have := hc g.nx μ; have e0 : chk_0 k n a b c d v ph = ((0 : Int)) := (Sx.ct t0).trans ((Sx.ct t1).trans ((Sx.ct t2).trans ((Sx.ct t3).trans ((Sx.ct t4).trans ((Sx.cf t5).trans ((Sx.cf t6).trans ((Sx.ct t7).trans ((Sx.ct t8).trans ((Sx.cf t9).trans ((Sx.ct t10).trans ((Sx.cf t11).trans ((Sx.ct t12).trans ((Sx.cf t13).trans (rfl)))))))))))))); rw [e0]; simpa only [Sx.Rep, Sx.Reps, Sx.Rep_cmpB] using this⟩
              | false =>
               exact ⟨_, _, _, ha', chk_r20 k n a b c d v ph (by rw [t0]; rfl) (by rw [t1]; rfl) (by rw [t2]; rfl) (by rw [t3]; rfl) (by rw [t4]; rfl) t5 t6 (by rw [t5]; rfl) (by rw [t7]; rfl) (by rw [t8]; rfl) (by rw [t9]; rfl) (by rw [t10]; rfl) t11 t12, rfl, fun cv hc => by have := hc g.nx μ; have e0 : chk_0 k n a b c d v ph = ((0 : Int)) := (Sx.ct t0).trans ((Sx.ct t1).trans ((Sx.ct t2).trans ((Sx.ct t3).trans ((Sx.ct t4).trans ((Sx.cf t5).trans ((Sx.cf t6).trans ((Sx.ct t7).trans ((Sx.ct t8).trans ((Sx.cf t9).trans ((Sx.ct t10).trans ((Sx.cf t11).trans ((Sx.cf t12).trans (rfl))))))))))))); rw [e0]; simpa only [Sx.Rep, Sx.Reps, Sx.Rep_cmpB] using this⟩
            | false =>
             exact ⟨_, _, _, ha', chk_r21 k n a b c d v ph (by rw [t0]; rfl) (by rw [t1]; rfl) (by rw [t2]; rfl) (by rw [t3]; rfl) (by rw [t4]; rfl) t5 t6 (by rw [t5]; rfl) (by rw [t7]; rfl) (by rw [t8]; rfl) (by rw [t9]; rfl) (by rw [t10]; rfl), rfl, fun cv hc => by have := hc g.nx μ; have e0 : chk_0 k n a b c d v ph = ((2 : Int)) := (Sx.ct t0).trans ((Sx.ct t1).trans ((Sx.ct t2).trans ((Sx.ct t3).trans ((Sx.ct t4).trans ((Sx.cf t5).trans ((Sx.cf t6).trans ((Sx.ct t7).trans ((Sx.ct t8).trans ((Sx.cf t9).trans ((Sx.cf t10).trans (rfl))))))))))); rw [e0]; simpa only [Sx.Rep, Sx.Reps, Sx.Rep_cmpB] using this⟩
          | false =>
           exact ⟨_, _, _, ha', chk_r22 k n a b c d v ph (by rw [t0]; rfl) (by rw [t1]; rfl) (by rw [t2]; rfl) (by rw [t3]; rfl) (by rw [t4]; rfl) t5 t6 (by rw [t5]; rfl) (by rw [t7]; rfl) (by rw [t8]; rfl), rfl, fun cv hc => by have := hc g.nx μ; have e0 : chk_0 k n a b c d v ph = ((2 : Int)) := (Sx.ct t0).trans ((Sx.ct t1).trans ((Sx.ct t2).trans ((Sx.ct t3).trans ((Sx.ct t4).trans ((Sx.cf t5).trans ((Sx.cf t6).trans ((Sx.ct t7).trans ((Sx.cf t8).trans (rfl))))))))); rw [e0]; simpa only [Sx.Rep, Sx.Reps, Sx.Rep_cmpB] using this⟩
         | false =>
          exact ⟨_, _, _, ha', chk_r23 k n a b c d v ph (by rw [t0]; rfl) (by rw [t1]; rfl) (by rw [t2]; rfl) (by rw [t3]; rfl) (by rw [t4]; rfl) t5 t6 (by rw [t5]; rfl) (by rw [t7]; rfl), rfl, fun cv hc => by have := hc g.nx μ; have e0 : chk_0 k n a b c d v ph = ((2 : Int)) := (Sx.ct t0).trans ((Sx.ct t1).trans ((Sx.ct t2).trans ((Sx.ct t3).trans ((Sx.ct t4).trans ((Sx.cf t5).trans ((Sx.cf t6).trans ((Sx.cf t7).trans (rfl)))))))); rw [e0]; simpa only [Sx.Rep, Sx.Reps, Sx.Rep_cmpB] using this⟩
      | false =>
       exact ⟨_, _, _, ha', chk_r24 k n a b c d v ph (by rw [t0]; rfl) (by rw [t1]; rfl) (by rw [t2]; rfl) (by rw [t3]; rfl) (by rw [t4]; rfl), rfl, fun cv hc => by have := hc g.nx μ; have e0 : chk_0 k n a b c d v ph = ((8 : Int)) := (Sx.ct t0).trans ((Sx.ct t1).trans ((Sx.ct t2).trans ((Sx.ct t3).trans ((Sx.cf t4).trans (rfl))))); rw [e0]; simpa only [Sx.Rep, Sx.Reps, Sx.Rep_cmpB] using this⟩
     | false =>
      exact ⟨_, _, _, ha', chk_r25 k n a b c d v ph (by rw [t0]; rfl) (by rw [t1]; rfl) (by rw [t2]; rfl) (by rw [t3]; rfl), rfl, fun cv hc => by have := hc g.nx μ; have e0 : chk_0 k n a b c d v ph = ((8 : Int)) := (Sx.ct t0).trans ((Sx.ct t1).trans ((Sx.ct t2).trans ((Sx.cf t3).trans (rfl)))); rw [e0]; simpa only [Sx.Rep, Sx.Reps, Sx.Rep_cmpB] using this⟩
    | false =>
     exact ⟨_, _, _, ha', chk_r26 k n a b c d v ph (by rw [t0]; rfl) (by rw [t1]; rfl) (by rw [t2]; rfl), rfl, fun cv hc => by have := hc g.nx μ; have e0 : chk_0 k n a b c d v ph = ((8 : Int)) := (Sx.ct t0).trans ((Sx.ct t1).trans ((Sx.cf t2).trans (rfl))); rw [e0]; simpa only [Sx.Rep, Sx.Reps, Sx.Rep_cmpB] using this⟩
   | false =>
    exact ⟨_, _, _, ha', chk_r27 k n a b c d v ph (by rw [t0]; rfl) (by rw [t1]; rfl), rfl, fun cv hc => by have := hc g.nx μ; have e0 : chk_0 k n a b c d v ph = ((8 : Int)) := (Sx.ct t0).trans ((Sx.cf t1).trans (rfl)); rw [e0]; simpa only [Sx.Rep, Sx.Reps, Sx.Rep_cmpB] using this⟩
  | false =>
   exact ⟨_, _, _, ha', chk_r28 k n a b c d v ph (by rw [t0]; rfl), rfl, fun cv hc => by have := hc g.nx μ; have e0 : chk_0 k n a b c d v ph = ((2 : Int)) := (Sx.cf t0).trans (rfl); rw [e0]; simpa only [Sx.Rep, Sx.Reps, Sx.Rep_cmpB] using this⟩
 ·exact call3_ok _ _ _ _ _ h
theorem chkS_tch : ∀ args, Sx.Tch (chkS args) := by
 intro args
 unfold chkS
 split
 ·exact Sx.Tch.ret _
 ·exact call3_tch _ _
noncomputable def gamE : Sx.Known := Sx.kc 36 Sx.ofBits (Sx.kc 62 Sx.toBits (Sx.kc 81 smallS (Sx.kc 66 kindS (Sx.kc 63 rowOfS (Sx.kc 82 ofS (Sx.kc 64 nameS (Sx.kc 65 nodeS (Sx.kc 37 chkS (Sx.kn)))))))))
theorem gamE_ok : Sx.KnownOk Try.prog gamE := Sx.kc_ok ((Sx.ofBits_is Try.prog).callIs Try.func36 (by kernel_rfl) (by kernel_rfl) (by kernel_rfl) (by kernel_rfl)) (Sx.kc_ok ((Sx.toBits_is Try.prog).callIs Try.func62 (by kernel_rfl) (by kernel_rfl) (by kernel_rfl) (by kernel_rfl)) (Sx.kc_ok smallS_ok (Sx.kc_ok kindS_ok (Sx.kc_ok rowOfS_ok (Sx.kc_ok ofS_ok (Sx.kc_ok nameS_ok (Sx.kc_ok nodeS_ok (Sx.kc_ok chkS_ok (Sx.kn_ok)))))))))
theorem gamE_tch : Sx.KnownT gamE := Sx.kc_tch Sx.Tch.ofBits (Sx.kc_tch Sx.Tch.toBits (Sx.kc_tch smallS_tch (Sx.kc_tch kindS_tch (Sx.kc_tch rowOfS_tch (Sx.kc_tch ofS_tch (Sx.kc_tch nameS_tch (Sx.kc_tch nodeS_tch (Sx.kc_tch chkS_tch (Sx.kn_tch)))))))))
noncomputable def callE : Sx.Calls' := Sx.runN Try.prog gamE (Sx.regionC Try.prog) 1000 50
theorem callE_ok : Sx.CallOk Try.prog callE := Sx.engineC gamE_ok gamE_tch (by kernel_rfl) (by kernel_rfl) 1000 50
theorem callE_tch : Sx.CallT callE := Sx.runA_tch gamE_tch (fun _ _ _ h => by cases h) (fun call hc n l fr => Sx.regionC_tch hc n l fr) 50
theorem callE_reg (n : Nat) : Sx.RegionOk Try.prog (Sx.regionC Try.prog callE n) n := Sx.runN_regionC gamE_ok gamE_tch (by kernel_rfl) (by kernel_rfl) 1000 50 n
noncomputable abbrev piececallE (f : Func) (c : Code) (fr : Sx.Fr) (H : Sx.T Sx.ABk) (K : Nat) (path : List Bool) : Sx.Res (Sx.Ex × Sx.Fr) :=
 Sx.codeA Try.prog callE (Sx.regionC Try.prog callE f.ntmps) Sx.noLoops f.ntmps 1000 c fr ⟨H, K, [], path, True⟩


/-- an element -/
structure El where
 k : Int
 n : List UInt8
 a : List UInt8
 b : List UInt8
 c : List UInt8
 d : List UInt8
 v : Nat
 ph : Int
abbrev Tx := List UInt8
/-- the first place of a text -/
def pos (x : Tx) : List Tx → Option Nat
 | [] => none
 | y :: l => bif x == y then some 0 else (pos x l).map (· + 1)
theorem pos_lt {x : Tx} : ∀ {l : List Tx} {i : Nat}, pos x l = some i → i < l.length ∧ l.getD i [] = x
 | y :: l, i, h => by
  unfold pos at h
  cases e : x == y with
  | true =>
   rw [e, cond_true] at h
   cases h
   exact ⟨by simp, by simpa using (eq_of_beq e).symm⟩
  | false =>
   rw [e, cond_false] at h
   cases q : pos x l with
   | none => rw [q] at h; cases h
   | some j =>
    rw [q] at h
    cases h
    obtain ⟨h1, h2⟩ := pos_lt q
    exact ⟨by simpa using h1, by simpa using h2⟩
theorem pos_none {x : Tx} : ∀ {l : List Tx}, pos x l = none ↔ x ∉ l
 | [] => by simp [pos]
 | y :: l => by
  unfold pos
  cases e : x == y with
  | true => simp [eq_of_beq e]
  | false =>
   have : x ≠ y := fun c => by rw [c] at e; simp at e
   simp [pos_none (x := x) (l := l), this]
theorem pos_some {x : Tx} {l : List Tx} (h : x ∈ l) : ∃ i, pos x l = some i := by
 cases e : pos x l with
 | none => exact absurd h (pos_none.1 e)
 | some i => exact ⟨i, rfl⟩
/-- texts with their places: what a map of them holds -/
def zipF (s : Nat) : List Tx → List (Tx × Int)
 | [] => []
 | x :: l => (x, (s : Int)) :: zipF (s + 1) l
theorem find_zip (x : Tx) : ∀ (s : Nat) (l : List Tx), Sx.lfind Sx.seq x (zipF s l) = (pos x l).map fun i => ((s + i : Nat) : Int)
 | s, [] => rfl
 | s, y :: l => by
  show (bif x == y then some (s : Int) else Sx.lfind Sx.seq x (zipF (s + 1) l)) = (bif x == y then some 0 else (pos x l).map (· + 1)).map _
  cases e : x == y with
  | true => rfl
  | false =>
   rw [cond_false, cond_false, find_zip x (s + 1) l]
   cases pos x l with
   | none => rfl
   | some i => simp only [Option.map]; congr 1; omega
theorem put_zip (x : Tx) : ∀ (s : Nat) (l : List Tx), pos x l = none → Sx.lput Sx.seq x ((s + l.length : Nat) : Int) (zipF s l) = zipF s (l ++ [x])
 | s, [], _ => rfl
 | s, y :: l, h => by
  unfold pos at h
  cases e : x == y with
  | true => rw [e] at h; cases h
  | false =>
   rw [e, cond_false] at h
   have h' : pos x l = none := by
    cases q : pos x l with
    | none => rfl
    | some j => rw [q] at h; cases h
   show Sx.lput Sx.seq x _ ((y, (s : Int)) :: zipF (s + 1) l) = (y, (s : Int)) :: zipF (s + 1) (l ++ [x])
   unfold Sx.lput Sx.seq
   rw [e, cond_false]
   congr 1
   have := put_zip x (s + 1) l h'
   rw [← this]
   congr 1
   simp; omega
/-- a node more -/
def addN (l : List Tx) (x : Tx) : List Tx := bif (pos x l).isSome || x == [] || x == [48] then l else l ++ [x]
def isBr (e : El) : Bool := decide (e.k = 5) || decide (e.k = 7)
/-- names, nodes, branches of the first m elements -/
def NM (E : Nat → El) : Nat → List Tx
 | 0 => []
 | m + 1 => NM E m ++ [(E m).n]
def ND (E : Nat → El) : Nat → List Tx
 | 0 => []
 | m + 1 => addN (addN (addN (addN (ND E m) (E m).a) (E m).b) (E m).c) (E m).d
def BR (E : Nat → El) : Nat → List Tx
 | 0 => []
 | m + 1 => bif isBr (E m) then BR E m ++ [(E m).n] else BR E m
theorem NM_len (E : Nat → El) : ∀ m, (NM E m).length = m
 | 0 => rfl
 | m + 1 => by unfold NM; simp [NM_len E m]
theorem BR_len (E : Nat → El) : ∀ m, (BR E m).length ≤ m
 | 0 => Nat.le_refl _
 | m + 1 => by
  have := BR_len E m
  unfold BR
  cases isBr (E m) <;> simp <;> omega
theorem BR_sub (E : Nat → El) {x : Tx} : ∀ {m : Nat}, x ∈ BR E m → x ∈ NM E m
 | m + 1, h => by
  unfold BR at h
  unfold NM
  cases q : isBr (E m) with
  | true =>
   rw [q, cond_true, List.mem_append] at h
   exact List.mem_append.2 (h.imp (BR_sub E) id)
  | false =>
   rw [q, cond_false] at h
   exact List.mem_append.2 (.inl (BR_sub E h))
theorem BR_new (E : Nat → El) {m : Nat} (h : pos (E m).n (NM E m) = none) : pos (E m).n (BR E m) = none :=
 pos_none.2 fun c => pos_none.1 h (BR_sub E c)
theorem addN_len (l : List Tx) (x : Tx) : l.length ≤ (addN l x).length ∧ (addN l x).length ≤ l.length + 1 := by
 unfold addN
 cases (pos x l).isSome || x == [] || x == [48] <;> simp
theorem ND_len (E : Nat → El) : ∀ m, (ND E m).length ≤ 4 * m
 | 0 => Nat.le_refl _
 | m + 1 => by
  have := ND_len E m
  have h1 := addN_len (ND E m) (E m).a
  have h2 := addN_len (addN (ND E m) (E m).a) (E m).b
  have h3 := addN_len (addN (addN (ND E m) (E m).a) (E m).b) (E m).c
  have h4 := addN_len (addN (addN (addN (ND E m) (E m).a) (E m).b) (E m).c) (E m).d
  unfold ND
  omega
/-- what refuses element i, those ahead of it being taken -/
def badE (chk : El → Int) (E : Nat → El) (i : Nat) : Int := bif decide (chk (E i) = 0) then (bif (pos (E i).n (NM E i)).isSome then 9 else 0) else chk (E i)
/-- what Of tells of n elements: the error and its place -/
def ofE (chk : El → Int) (E : Nat → El) (n : Nat) : Nat → Int × Int
 | 0 => bif decide (32 < (ND E n).length) || decide (64 < (ND E n).length + (BR E n).length) then (3, -1) else (0, 0)
 | m + 1 => bif decide (badE chk E (n - (m + 1)) = 0) then ofE chk E n m else (badE chk E (n - (m + 1)), ((n - (m + 1) : Nat) : Int))
def ofR (chk : El → Int) (E : Nat → El) (n : Nat) : Int × Int := bif decide (256 < n) then (3, -1) else ofE chk E n n
theorem ofE_bad {chk : El → Int} {E : Nat → El} {n i : Nat} (hi : i < n) (hb : badE chk E i ≠ 0) : ∀ m, i + m ≤ n → n ≤ i + m → (∀ j, j < i → badE chk E j = 0) → ofE chk E n n = (badE chk E i, (i : Int)) := by
 have step : ∀ m, m ≤ n → n - m ≤ i → (∀ j, n - m ≤ j → j < i → badE chk E j = 0) → ofE chk E n m = (badE chk E i, (i : Int)) := by
  intro m
  induction m with
  | zero => intro _ h; omega
  | succ m ih =>
   intro hm h1 h2
   unfold ofE
   by_cases q : n - (m + 1) = i
   ·rw [q, decide_eq_false hb, cond_false]
   ·rw [decide_eq_true (h2 _ (Nat.le_refl _) (by omega)), cond_true]
    exact ih (by omega) (by omega) fun j a b => h2 j (by omega) b
 intro m _ _ h
 exact step n (Nat.le_refl _) (by omega) fun j _ b => h j b
theorem ofE_good {chk : El → Int} {E : Nat → El} {n : Nat} (h : ∀ j, j < n → badE chk E j = 0) : ofE chk E n n = ofE chk E n 0 := by
 have step : ∀ m, m ≤ n → ofE chk E n m = ofE chk E n 0 := by
  intro m
  induction m with
  | zero => intro _; rfl
  | succ m ih =>
   intro hm
   show (bif decide (badE chk E (n - (m + 1)) = 0) then ofE chk E n m else (badE chk E (n - (m + 1)), ((n - (m + 1) : Nat) : Int))) = _
   rw [decide_eq_true (h _ (by omega)), cond_true]
   exact ih (by omega)
 exact step n (Nat.le_refl _)
/-- rows in memory: an element; a net; a text -/
def elR (e : El) : List Sx.AV := [.int true .u8 e.k, .str true e.n, .str true e.a, .str true e.b, .str true e.c, .str true e.d, .raw true e.v, .int true .i64 e.ph]
def netR (l nd bg m q r : Nat) : List Sx.AV := [.bool true, .slc true true ⟨false, l, 0, 0⟩ m, .mp 3, .slc true true ⟨false, nd, 0, 0⟩ q, .mp 4, .slc true true ⟨false, bg, 0, 0⟩ r, .mp 5]
def txR (f : Nat → Tx) (j : Nat) : List Sx.AV := [.str true (f j)]
theorem of1 {p : Nat → Prop} (h : p 0) (j : Nat) (hj : j < 1) : p j := by
 obtain rfl : j = 0 := by omega
 exact h
theorem hbl1 {g sz : Nat} {own : Bool} {d : List Sx.AV} {t : Sx.T (List Sx.AV)} {H : Sx.T Sx.ABk} {rows' : Nat → List Sx.AV} (h : H.get g = some (.cells own sz 1 (.lit d t))) (e : (Sx.Cont.lit d t).row 0 = rows' 0 := by rfl) : ∃ b', H.get g = some b' ∧ Sx.SameC b' (.cells own sz 1 (.fn rows')) :=
 ⟨_, h, rfl, rfl, rfl, of1 (p := fun j => (Sx.Cont.lit d t).row j = rows' j) e⟩
theorem gM {H : Sx.T Sx.ABk} {g : Nat} {s : Bool} {l l' : List (Tx × Int)} (h : H.get g = some (.mSI s l)) (e : l = l') : ∃ b', H.get g = some b' ∧ Sx.SameC b' (.mSI s l') := ⟨_, h, by rw [e]; exact Sx.SameC.refl _⟩
theorem gR {H : Sx.T Sx.ABk} {g sz n n' : Nat} {own : Bool} {rows rows' : Nat → List Sx.AV} (h : H.get g = some (.cells own sz n (.fn rows))) (e : n = n') (hr : ∀ j, j < n → rows j = rows' j) : ∃ b', H.get g = some b' ∧ Sx.SameC b' (.cells own sz n' (.fn rows')) := ⟨_, h, rfl, rfl, e, hr⟩
def sg (a b x : Nat) : Nat := if x = a then b else x
theorem sg_inj {K a b : Nat} (h : K ≤ b) : ∀ i j, i < K → j < K → sg a b i = sg a b j → i = j := by
 intro i j hi hj e
 unfold sg at e
 split at e <;> split at e <;> omega
theorem sg_low {B a b : Nat} (h : B ≤ a) : ∀ g, g < B → sg a b g = g := by
 intro g hg
 unfold sg
 rw [if_neg (by omega)]
theorem rgM {σ : Nat → Nat} {K' : Nat} {H : Sx.T Sx.ABk} {g : Nat} {s : Bool} {l l' : List (Tx × Int)} (h : H.get (σ g) = some (.mSI s l)) (e : l = l') (hlt : g < K') : ∃ b, H.get (σ g) = some b ∧ Sx.SameC b ((Sx.ABk.mSI s l').ren σ) ∧ (Sx.ABk.mSI s l').lowR K' ∧ g < K' := ⟨_, h, by rw [e]; exact Sx.SameC.refl _, trivial, hlt⟩
theorem rgR {σ : Nat → Nat} {K' : Nat} {H : Sx.T Sx.ABk} {g sz n n' : Nat} {own : Bool} {rows rows' : Nat → List Sx.AV} (hg : H.get (σ g) = some (.cells own sz n (.fn rows))) (e : n = n') (hr : ∀ j, j < n → rows j = Sx.rens σ (rows' j)) (hl : ∀ j, j < n → (rows' j).all (fun v => v.low K') = true) (hlt : g < K') :
  ∃ b, H.get (σ g) = some b ∧ Sx.SameC b ((Sx.ABk.cells own sz n' (.fn rows')).ren σ) ∧ (Sx.ABk.cells own sz n' (.fn rows')).lowR K' ∧ g < K' := by
 subst e
 exact ⟨_, hg, ⟨rfl, rfl, rfl, hr⟩, fun j hj v hv => List.all_eq_true.1 (hl j hj) v hv, hlt⟩
theorem rgB {σ : Nat → Nat} {K' : Nat} {H : Sx.T Sx.ABk} {g sz : Nat} {own : Bool} {rows rows' : Nat → List Sx.AV} (hg : H.get (σ g) = some (.cells own sz 1 (.fn rows))) (hr : rows 0 = Sx.rens σ (rows' 0)) (hl : (rows' 0).all (fun v => v.low K') = true) (hlt : g < K') :
  ∃ b, H.get (σ g) = some b ∧ Sx.SameC b ((Sx.ABk.cells own sz 1 (.fn rows')).ren σ) ∧ (Sx.ABk.cells own sz 1 (.fn rows')).lowR K' ∧ g < K' :=
 rgR hg rfl (of1 (p := fun j => rows j = Sx.rens σ (rows' j)) hr) (of1 (p := fun j => (rows' j).all (fun v => v.low K') = true) hl) hlt
/-- nodes after the first i of an element's four -/
def four (z : El) (j : Nat) : Tx := bif Nat.beq j 0 then z.a else bif Nat.beq j 1 then z.b else bif Nat.beq j 2 then z.c else z.d
def nd4 (l : List Tx) (z : El) : Nat → List Tx
 | 0 => l
 | i + 1 => addN (nd4 l z i) (four z i)
theorem nd4_len (l : List Tx) (z : El) : ∀ i, (nd4 l z i).length ≤ l.length + i
 | 0 => Nat.le_refl _
 | i + 1 => by
  have h1 := nd4_len l z i
  have h2 := (addN_len (nd4 l z i) (four z i)).2
  unfold nd4; omega
theorem isS_zip (x : Tx) (l : List Tx) : (Sx.lfind Sx.seq x (zipF 0 l)).isSome = (pos x l).isSome := by
 rw [find_zip]; cases pos x l <;> rfl
theorem put_zip0 {x : Tx} {l : List Tx} {m : Nat} (hm : m = l.length) (h : pos x l = none) : Sx.lput Sx.seq x (m : Int) (zipF 0 l) = zipF 0 (l ++ [x]) := by
 subst hm
 have := put_zip x 0 l h
 rwa [Nat.zero_add] at this
theorem none_of {o : Option Nat} (h : o.isSome = false) : o = none := by cases o with
 | none => rfl
 | some _ => cases h
def lget (l : List Tx) (j : Nat) : Tx := l.getD j []
theorem lget_app (l : List Tx) (x : Tx) (j : Nat) (h : j < l.length + 1) : (bif decide (j < l.length) then txR (lget l) j else [.str true x]) = txR (lget (l ++ [x])) j := by
 unfold txR lget
 by_cases c : j < l.length
 ·rw [decide_eq_true c, cond_true, List.getD_eq_getElem?_getD, List.getD_eq_getElem?_getD, List.getElem?_append_left c]
 ·obtain rfl : j = l.length := by omega
  rw [decide_eq_false c, cond_false, List.getD_eq_getElem?_getD, List.getElem?_append_right (Nat.le_refl _), Nat.sub_self]
  rfl
section
variable {P : Program} {n B K K' : Nat}
theorem seqR {K1 : Nat} {x y : Code} {fr : Sx.Fr} {H : Sx.T Sx.ABk} {R : Sx.Fr → Sx.T Sx.ABk → Prop} (hK : K1 ≤ K') (h : Sx.GoesB P x n B K K1 fr H fun e fr' H' => e = .ret ∧ R fr' H') : Sx.GoesB P (.seq x y) n B K K' fr H fun e fr' H' => e = .ret ∧ R fr' H' :=
 Sx.GoesB.seq hK (h.mono fun e fr' H' q => by obtain ⟨rfl, q⟩ := q; exact ⟨rfl, q⟩)
theorem blockR {id : Nat} {x : Code} {fr : Sx.Fr} {H : Sx.T Sx.ABk} {R : Sx.Fr → Sx.T Sx.ABk → Prop} (h : Sx.GoesB P x n B K K' fr H fun e fr' H' => e = .ret ∧ R fr' H') : Sx.GoesB P (.block id x) n B K K' fr H fun e fr' H' => e = .ret ∧ R fr' H' :=
 Sx.GoesB.block (h.mono fun e fr' H' q => by obtain ⟨rfl, q⟩ := q; exact ⟨rfl, q⟩)
end
theorem RowGe_refl : ∀ (l : List Sx.AV), l.all Sx.AV.one = true → Sx.RowGe l l
 | [], _ => trivial
 | v :: l, h => by
  rw [List.all_cons, Bool.and_eq_true] at h
  exact ⟨Sx.AV.ge.refl v, h.1, RowGe_refl l h.2⟩
/-- a row as an element -/
def unE : List Sx.AV → El
 | [.int _ _ k, .str _ n, .str _ a, .str _ b, .str _ c, .str _ d, .raw _ v, .int _ _ ph] => ⟨k, n, a, b, c, d, v, ph⟩
 | [.int _ _ k, .str _ n, .str _ a, .str _ b, .str _ c, .str _ d, .flt _ v, .int _ _ ph] => ⟨k, n, a, b, c, d, v, ph⟩
 | _ => ⟨0, [], [], [], [], [], 0, 0⟩
def rowsE (f : Nat → List Sx.AV) (j : Nat) : El := unE (f j)
structure PE (n : Nat) (f : Nat → List Sx.AV) : Prop where
 of : ∀ j, j < n → Sx.RowGe (f j) (elR (rowsE f j))
theorem elR_low (K : Nat) (z : El) : (elR z).all (fun v => v.low K) = true := rfl
/-- a net's row, anywhere -/
def netG (m1 m2 m3 l nd bg m q r : Nat) : List Sx.AV := [.bool true, .slc true true ⟨false, l, 0, 0⟩ m, .mp m1, .slc true true ⟨false, nd, 0, 0⟩ q, .mp m2, .slc true true ⟨false, bg, 0, 0⟩ r, .mp m3]
/-- a net's blocks: the maps, elements, nodes, branches, and the net -/
def netB (N : Nat) (E : Nat → El) (n : Nat) : List Sx.ABk :=
 [.mSI true (zipF 0 (NM E n)), .mSI true (zipF 0 (ND E n)), .mSI true (zipF 0 (BR E n)), .cells true 8 n (.fn fun j => elR (E j)), .cells true 1 (ND E n).length (.fn (txR (lget (ND E n)))), .cells true 1 (BR E n).length (.fn (txR (lget (BR E n)))), .cells true 7 1 (.fn fun _ => netG N (N + 1) (N + 2) (N + 3) (N + 4) (N + 5) n (ND E n).length (BR E n).length)]
/-- a net more in memory; its name -/
noncomputable def netNew (E : Nat → El) (n : Nat) : Sx.M Nat :=
 (Sx.M.newB (.mSI true (zipF 0 (NM E n)))).andThen fun N => (Sx.M.newB (.mSI true (zipF 0 (ND E n)))).andThen fun _ => (Sx.M.newB (.mSI true (zipF 0 (BR E n)))).andThen fun _ => (Sx.M.newB (.cells true 8 n (.fn fun j => elR (E j)))).andThen fun _ => (Sx.M.newB (.cells true 1 (ND E n).length (.fn (txR (lget (ND E n)))))).andThen fun _ => (Sx.M.newB (.cells true 1 (BR E n).length (.fn (txR (lget (BR E n)))))).andThen fun _ => (Sx.M.newB (.cells true 7 1 (.fn fun _ => netG N (N + 1) (N + 2) (N + 3) (N + 4) (N + 5) n (ND E n).length (BR E n).length)))
theorem Tch_netNew (E : Nat → El) (n : Nat) : Sx.Tch (netNew E n) :=
 (Sx.Tch.newB _).andThen fun _ => (Sx.Tch.newB _).andThen fun _ => (Sx.Tch.newB _).andThen fun _ => (Sx.Tch.newB _).andThen fun _ => (Sx.Tch.newB _).andThen fun _ => (Sx.Tch.newB _).andThen fun _ => Sx.Tch.newB _
theorem netNew_done {E : Nat → El} {n : Nat} {N : Nat} {g g' : Sx.G} (h : netNew E n g = .done N g') : N = g.nx + 6 ∧ g'.H = Sx.putNew g.H g.nx (netB g.nx E n) ∧ g'.nx = g.nx + 7 ∧ g'.cs = g.cs := by
 cases h
 exact ⟨rfl, rfl, rfl, rfl⟩
/-- a slice of elements that are read: told by its arguments alone -/
structure PEQ (n : Nat) (f : Nat → List Sx.AV) : Prop where
 of : PE n f
 low : ∀ j, j < n → ∀ u, u ∈ f j → u.low 0 = true
noncomputable def rdQ (esz : Nat) (x : Sx.AV) (Q : Nat → (Nat → List Sx.AV) → Prop) : Sx.M (Nat × (Nat → List Sx.AV)) :=
 (Sx.srcOf esz x).andThen fun y => (Sx.M.req (Q y.2.1 y.2.2)).andThen fun _ => Sx.M.ret (y.2.1, y.2.2)
theorem rdQ_done {esz : Nat} {x : Sx.AV} {Q : Nat → (Nat → List Sx.AV) → Prop} {y : Nat × (Nat → List Sx.AV)} {g g' : Sx.G} (h : rdQ esz x Q g = .done y g') (he : 0 < esz) (hQ : Q y.1 y.2 → ∀ j, j < y.1 → ∀ u, u ∈ y.2 j → u.low 0 = true) :
  ∃ q, Sx.Keep g g' q ∧ (q → Sx.Vw.Ok ⟨x, esz, y.1, y.2⟩ g ∧ Q y.1 y.2) := by
 unfold rdQ at h
 obtain ⟨z, g1, a1, h1⟩ := Sx.done_of h
 obtain ⟨_, g2, a2, h2⟩ := Sx.done_of h1
 obtain ⟨rfl, rfl⟩ := Sx.ret_done h2
 obtain ⟨q1, k1, f1⟩ := Sx.Vw.Ok.of a1 he
 have k2 := Sx.req_done a2
 exact ⟨_, k1.trans k2, fun ⟨e1, e2⟩ => ⟨f1 e1 (hQ e2), e2⟩⟩
theorem Tch_rdQ (esz : Nat) (x : Sx.AV) (Q : Nat → (Nat → List Sx.AV) → Prop) : Sx.Tch (rdQ esz x Q) := (Sx.Tch.srcOf _ _).andThen fun _ => (Sx.Tch.req _).andThen fun _ => Sx.Tch.ret _


def ntL (m q r : Nat) (E : Nat → El) (M1 M2 M3 : List (Tx × Int)) (nd br : Nat → Tx) : List (Nat × Sx.ABk) := [(2, .cells true 7 1 (.fn fun _ => netR 6 7 8 m q r)), (3, .mSI true M1), (4, .mSI true M2), (5, .mSI true M3), (6, .cells true 8 m (.fn fun j => elR (E j))), (7, .cells true 1 q (.fn (txR nd))), (8, .cells true 1 r (.fn (txR br)))]
theorem ptA_r0 (z : El) (m q r i : Nat) (E : Nat → El) (M1 M2 M3 : List (Tx × Int)) (nd br four : Nat → Tx) : Sx.PieceN 11 (Sx.Ex.normal) [(0, .ptr ⟨false, 2, 0, 0⟩), (3, .ptr ⟨false, 10, 0, 0⟩)] (ntL m q r E M1 M2 M3 nd br ++ [(10, .cells true 8 1 (.lit [] (Sx.T.n Sx.T.e (Option.some (elR z)) Sx.T.e)))]) (piececallE Try.f43 ((Sx.nav [0] (Sx.bodyOf Try.f43))) (Sx.frameOf [.ptr ⟨false, 2, 0, 0⟩, .agg (elR z)] 0 .e) (Sx.hpL (ntL m q r E M1 M2 M3 nd br)) 10 []) := Sx.eqn (by kernel_rfl) trivial
theorem ptA (B : Nat) (hB : B ≤ 10) (z : El) (m q r i : Nat) (E : Nat → El) (M1 M2 M3 : List (Tx × Int)) (nd br four : Nat → Tx) : Sx.GoesB Try.prog ((Sx.nav [0] (Sx.bodyOf Try.f43))) Try.f43.ntmps B 10 11 (Sx.frameOf [.ptr ⟨false, 2, 0, 0⟩, .agg (elR z)] 0 .e) (Sx.hpL (ntL m q r E M1 M2 M3 nd br)) fun e fr' H' => (e = .normal ∧ fr' = Sx.frL [(0, .ptr ⟨false, 2, 0, 0⟩), (3, .ptr ⟨false, 10, 0, 0⟩)] ∧ H' = Sx.hpL (ntL m q r E M1 M2 M3 nd br ++ [(10, .cells true 8 1 (.lit [] (Sx.T.n Sx.T.e (Option.some (elR z)) Sx.T.e)))])) := by
 exact (Sx.GoesB.runN callE_ok (callE_reg _) (Sx.LoopsIn.none _ _ _) (ptA_r0 z m q r i E M1 M2 M3 nd br four) hB).mono fun e fr' H' h => h
theorem ptB_r0 (z : El) (m q r i : Nat) (E : Nat → El) (M1 M2 M3 : List (Tx × Int)) (nd br four : Nat → Tx) : Sx.PieceN 11 (Sx.Ex.normal) [(0, .ptr ⟨false, 2, 0, 0⟩), (3, .ptr ⟨false, 10, 0, 0⟩)] [(2, .cells true 7 1 (.fn fun _ => netR 6 7 8 m q r)), (3, .mSI true (Sx.lput Sx.seq (El.n z) (↑m : Int) M1)), (4, .mSI true M2), (5, .mSI true M3), (6, .cells true 8 m (.fn fun j => elR (E j))), (7, .cells true 1 q (.fn (txR nd))), (8, .cells true 1 r (.fn (txR br))), (10, .cells true 8 1 (.fn fun _ => elR z))] (piececallE Try.f43 ((Sx.nav [1,0] (Sx.bodyOf Try.f43))) (Sx.frL [(0, .ptr ⟨false, 2, 0, 0⟩), (3, .ptr ⟨false, 10, 0, 0⟩)]) (Sx.hpL (ntL m q r E M1 M2 M3 nd br ++ [(10, .cells true 8 1 (.fn fun _ => elR z))])) 11 []) := Sx.eqn (by kernel_rfl) trivial
theorem ptB (B : Nat) (hB : B ≤ 11) (z : El) (m q r i : Nat) (E : Nat → El) (M1 M2 M3 : List (Tx × Int)) (nd br four : Nat → Tx) : Sx.GoesB Try.prog ((Sx.nav [1,0] (Sx.bodyOf Try.f43))) Try.f43.ntmps B 11 11 (Sx.frL [(0, .ptr ⟨false, 2, 0, 0⟩), (3, .ptr ⟨false, 10, 0, 0⟩)]) (Sx.hpL (ntL m q r E M1 M2 M3 nd br ++ [(10, .cells true 8 1 (.fn fun _ => elR z))])) fun e fr' H' => (e = .normal ∧ fr' = Sx.frL [(0, .ptr ⟨false, 2, 0, 0⟩), (3, .ptr ⟨false, 10, 0, 0⟩)] ∧ H' = Sx.hpL [(2, .cells true 7 1 (.fn fun _ => netR 6 7 8 m q r)), (3, .mSI true (Sx.lput Sx.seq (El.n z) (↑m : Int) M1)), (4, .mSI true M2), (5, .mSI true M3), (6, .cells true 8 m (.fn fun j => elR (E j))), (7, .cells true 1 q (.fn (txR nd))), (8, .cells true 1 r (.fn (txR br))), (10, .cells true 8 1 (.fn fun _ => elR z))]) := by
 exact (Sx.GoesB.runN callE_ok (callE_reg _) (Sx.LoopsIn.none _ _ _) (ptB_r0 z m q r i E M1 M2 M3 nd br four) hB).mono fun e fr' H' h => h
theorem ptC_r0 (z : El) (m q r i : Nat) (E : Nat → El) (M1 M2 M3 : List (Tx × Int)) (nd br four : Nat → Tx) (c0 : m ≤ m) (c1 : (m + (1 : Nat)) * (104 : Nat) ≤ (140737488355328 : Nat)) (c2 : m + (1 : Nat) ≤ (9223372036854775807 : Nat)) : Sx.PieceN 13 (Sx.Ex.normal) [(0, .ptr ⟨false, 2, 0, 0⟩), (3, .ptr ⟨false, 10, 0, 0⟩)] [(2, .cells true 7 1 (.fn fun j => bif Nat.beq j 0 then (netR 12 7 8 (m + (1 : Nat)) q r) else (netR 6 7 8 m q r))), (3, .mSI true M1), (4, .mSI true M2), (5, .mSI true M3), (7, .cells true 1 q (.fn (txR nd))), (8, .cells true 1 r (.fn (txR br))), (10, .cells true 8 1 (.fn fun _ => elR z)), (12, .cells true 8 (m + (1 : Nat)) (.fn fun j => bif decide (j < m) then (elR (E j)) else (elR z)))] (piececallE Try.f43 ((Sx.nav [1,1,0] (Sx.bodyOf Try.f43))) (Sx.frL [(0, .ptr ⟨false, 2, 0, 0⟩), (3, .ptr ⟨false, 10, 0, 0⟩)]) (Sx.hpL (ntL m q r E M1 M2 M3 nd br ++ [(10, .cells true 8 1 (.fn fun _ => elR z))])) 11 []) := Sx.eqn (by kernel_rfl) (ai trivial (ai c0 (ai c1 c2)))
theorem ptC (B : Nat) (hB : B ≤ 11) (z : El) (m q r i : Nat) (E : Nat → El) (M1 M2 M3 : List (Tx × Int)) (nd br four : Nat → Tx) (x0 : ((m + (1 : Nat)) * (104 : Nat) ≤ (140737488355328 : Nat))) (x1 : (m + (1 : Nat) ≤ (9223372036854775807 : Nat))) : Sx.GoesB Try.prog ((Sx.nav [1,1,0] (Sx.bodyOf Try.f43))) Try.f43.ntmps B 11 13 (Sx.frL [(0, .ptr ⟨false, 2, 0, 0⟩), (3, .ptr ⟨false, 10, 0, 0⟩)]) (Sx.hpL (ntL m q r E M1 M2 M3 nd br ++ [(10, .cells true 8 1 (.fn fun _ => elR z))])) fun e fr' H' => (e = .normal ∧ fr' = Sx.frL [(0, .ptr ⟨false, 2, 0, 0⟩), (3, .ptr ⟨false, 10, 0, 0⟩)] ∧ H' = Sx.hpL [(2, .cells true 7 1 (.fn fun j => bif Nat.beq j 0 then (netR 12 7 8 (m + (1 : Nat)) q r) else (netR 6 7 8 m q r))), (3, .mSI true M1), (4, .mSI true M2), (5, .mSI true M3), (7, .cells true 1 q (.fn (txR nd))), (8, .cells true 1 r (.fn (txR br))), (10, .cells true 8 1 (.fn fun _ => elR z)), (12, .cells true 8 (m + (1 : Nat)) (.fn fun j => bif decide (j < m) then (elR (E j)) else (elR z)))]) := by
 exact (Sx.GoesB.runN callE_ok (callE_reg _) (Sx.LoopsIn.none _ _ _) (ptC_r0 z m q r i E M1 M2 M3 nd br four (by first | decide | omega) (x0) (x1)) hB).mono fun e fr' H' h => h
theorem ptD_r0 (z : El) (m q r i : Nat) (E : Nat → El) (M1 M2 M3 : List (Tx × Int)) (nd br four : Nat → Tx) : Sx.PieceN 12 (Sx.Ex.normal) [(0, .ptr ⟨false, 2, 0, 0⟩), (3, .ptr ⟨false, 10, 0, 0⟩), (37, .slc false true ⟨false, 11, 0, 0⟩ 4), (38, .int false .i64 4), (39, .int false .i64 0)] (ntL m q r E M1 M2 M3 nd br ++ [(10, .cells true 8 1 (.fn fun _ => elR z)), (11, .cells true 1 4 (.lit [.str false []] (Sx.T.n (Sx.T.n (.n .e (some [.str true (El.d z)]) Sx.T.e) (Option.some [.str true (El.b z)]) Sx.T.e) (Option.some [.str true (El.a z)]) (.n .e (some [.str true (El.c z)]) .e))))]) (piececallE Try.f43 ((Sx.nav [1,1,1,0,0] (Sx.bodyOf Try.f43))) (Sx.frL [(0, .ptr ⟨false, 2, 0, 0⟩), (3, .ptr ⟨false, 10, 0, 0⟩)]) (Sx.hpL (ntL m q r E M1 M2 M3 nd br ++ [(10, .cells true 8 1 (.fn fun _ => elR z))])) 11 []) := Sx.eqn (by kernel_rfl) trivial
theorem ptD (B : Nat) (hB : B ≤ 11) (z : El) (m q r i : Nat) (E : Nat → El) (M1 M2 M3 : List (Tx × Int)) (nd br four : Nat → Tx) : Sx.GoesB Try.prog ((Sx.nav [1,1,1,0,0] (Sx.bodyOf Try.f43))) Try.f43.ntmps B 11 12 (Sx.frL [(0, .ptr ⟨false, 2, 0, 0⟩), (3, .ptr ⟨false, 10, 0, 0⟩)]) (Sx.hpL (ntL m q r E M1 M2 M3 nd br ++ [(10, .cells true 8 1 (.fn fun _ => elR z))])) fun e fr' H' => (e = .normal ∧ fr' = Sx.frL [(0, .ptr ⟨false, 2, 0, 0⟩), (3, .ptr ⟨false, 10, 0, 0⟩), (37, .slc false true ⟨false, 11, 0, 0⟩ 4), (38, .int false .i64 4), (39, .int false .i64 0)] ∧ H' = Sx.hpL (ntL m q r E M1 M2 M3 nd br ++ [(10, .cells true 8 1 (.fn fun _ => elR z)), (11, .cells true 1 4 (.lit [.str false []] (Sx.T.n (Sx.T.n (.n .e (some [.str true (El.d z)]) Sx.T.e) (Option.some [.str true (El.b z)]) Sx.T.e) (Option.some [.str true (El.a z)]) (.n .e (some [.str true (El.c z)]) .e))))])) := by
 exact (Sx.GoesB.runN callE_ok (callE_reg _) (Sx.LoopsIn.none _ _ _) (ptD_r0 z m q r i E M1 M2 M3 nd br four) hB).mono fun e fr' H' h => h
theorem ptL_r0 (z : El) (m q r i : Nat) (E : Nat → El) (M1 M2 M3 : List (Tx × Int)) (nd br four : Nat → Tx) (c0 : decide ((↑i : Int) < (4 : Int)) = true) (c1 : (0 : Int) ≤ (↑i : Int)) (c2 : (↑i : Int) < (4 : Int)) (c3 : (0 : Nat) + i < (4 : Nat)) (c4 : (!Option.isSome (Sx.lfind Sx.seq (four ((0 : Nat) + i)) M2)) = false) (c5 : (-9223372036854775808 : Int) ≤ (↑i : Int) + (1 : Int)) (c6 : (↑i : Int) + (1 : Int) ≤ (9223372036854775807 : Int)) : Sx.PieceN 14 (Sx.Ex.normal) [(0, .ptr ⟨false, 2, 0, 0⟩), (3, .ptr ⟨false, 10, 0, 0⟩), (37, .slc true true ⟨false, 11, 0, 0⟩ 4), (38, .int true .i64 4), (39, .int true .i64 ((↑i : Int) + (1 : Int)))] (ntL m q r E M1 M2 M3 nd br ++ [(10, .cells true 8 1 (.fn fun _ => elR z)), (11, .cells true 1 4 (.fn (txR four)))]) (piececallE Try.f43 ((Sx.nav [1,1,1,0,1,0,0] (Sx.bodyOf Try.f43))) (Sx.frL [(0, .ptr ⟨false, 2, 0, 0⟩), (3, .ptr ⟨false, 10, 0, 0⟩), (37, .slc true true ⟨false, 11, 0, 0⟩ 4), (38, .int true .i64 4), (39, .int true .i64 (i : Int))]) (Sx.hpL (ntL m q r E M1 M2 M3 nd br ++ [(10, .cells true 8 1 (.fn fun _ => elR z)), (11, .cells true 1 4 (.fn (txR four)))])) 12 [true, false]) := Sx.eqn (by kernel_rfl) (ai (ai (ai (ai (ai trivial c0) (ai c1 c2)) c3) c4) (ai c5 c6))
theorem ptL_r1 (z : El) (m q r i : Nat) (E : Nat → El) (M1 M2 M3 : List (Tx × Int)) (nd br four : Nat → Tx) (c0 : decide ((↑i : Int) < (4 : Int)) = true) (c1 : (0 : Int) ≤ (↑i : Int)) (c2 : (↑i : Int) < (4 : Int)) (c3 : (0 : Nat) + i < (4 : Nat)) (c4 : (!Option.isSome (Sx.lfind Sx.seq (four ((0 : Nat) + i)) M2)) = true) (c5 : (!four ((0 : Nat) + i) == []) = false) (c6 : (-9223372036854775808 : Int) ≤ (↑i : Int) + (1 : Int)) (c7 : (↑i : Int) + (1 : Int) ≤ (9223372036854775807 : Int)) : Sx.PieceN 14 (Sx.Ex.normal) [(0, .ptr ⟨false, 2, 0, 0⟩), (3, .ptr ⟨false, 10, 0, 0⟩), (37, .slc true true ⟨false, 11, 0, 0⟩ 4), (38, .int true .i64 4), (39, .int true .i64 ((↑i : Int) + (1 : Int)))] (ntL m q r E M1 M2 M3 nd br ++ [(10, .cells true 8 1 (.fn fun _ => elR z)), (11, .cells true 1 4 (.fn (txR four)))]) (piececallE Try.f43 ((Sx.nav [1,1,1,0,1,0,0] (Sx.bodyOf Try.f43))) (Sx.frL [(0, .ptr ⟨false, 2, 0, 0⟩), (3, .ptr ⟨false, 10, 0, 0⟩), (37, .slc true true ⟨false, 11, 0, 0⟩ 4), (38, .int true .i64 4), (39, .int true .i64 (i : Int))]) (Sx.hpL (ntL m q r E M1 M2 M3 nd br ++ [(10, .cells true 8 1 (.fn fun _ => elR z)), (11, .cells true 1 4 (.fn (txR four)))])) 12 [true, true, false]) := Sx.eqn (by kernel_rfl) (ai (ai (ai (ai (ai (ai trivial c0) (ai c1 c2)) c3) c4) c5) (ai c6 c7))
theorem ptL_r2 (z : El) (m q r i : Nat) (E : Nat → El) (M1 M2 M3 : List (Tx × Int)) (nd br four : Nat → Tx) (c0 : decide ((↑i : Int) < (4 : Int)) = true) (c1 : (0 : Int) ≤ (↑i : Int)) (c2 : (↑i : Int) < (4 : Int)) (c3 : (0 : Nat) + i < (4 : Nat)) (c4 : (!Option.isSome (Sx.lfind Sx.seq (four ((0 : Nat) + i)) M2)) = true) (c5 : (!four ((0 : Nat) + i) == []) = true) (c6 : (!four ((0 : Nat) + i) == [(48 : UInt8)]) = false) (c7 : (-9223372036854775808 : Int) ≤ (↑i : Int) + (1 : Int)) (c8 : (↑i : Int) + (1 : Int) ≤ (9223372036854775807 : Int)) : Sx.PieceN 14 (Sx.Ex.normal) [(0, .ptr ⟨false, 2, 0, 0⟩), (3, .ptr ⟨false, 10, 0, 0⟩), (37, .slc true true ⟨false, 11, 0, 0⟩ 4), (38, .int true .i64 4), (39, .int true .i64 ((↑i : Int) + (1 : Int)))] (ntL m q r E M1 M2 M3 nd br ++ [(10, .cells true 8 1 (.fn fun _ => elR z)), (11, .cells true 1 4 (.fn (txR four)))]) (piececallE Try.f43 ((Sx.nav [1,1,1,0,1,0,0] (Sx.bodyOf Try.f43))) (Sx.frL [(0, .ptr ⟨false, 2, 0, 0⟩), (3, .ptr ⟨false, 10, 0, 0⟩), (37, .slc true true ⟨false, 11, 0, 0⟩ 4), (38, .int true .i64 4), (39, .int true .i64 (i : Int))]) (Sx.hpL (ntL m q r E M1 M2 M3 nd br ++ [(10, .cells true 8 1 (.fn fun _ => elR z)), (11, .cells true 1 4 (.fn (txR four)))])) 12 [true, true, true, false]) := Sx.eqn (by kernel_rfl) (ai (ai (ai (ai (ai (ai (ai trivial c0) (ai c1 c2)) c3) c4) c5) c6) (ai c7 c8))
theorem ptL_r3 (z : El) (m q r i : Nat) (E : Nat → El) (M1 M2 M3 : List (Tx × Int)) (nd br four : Nat → Tx) (c0 : decide ((↑i : Int) < (4 : Int)) = true) (c1 : (0 : Int) ≤ (↑i : Int)) (c2 : (↑i : Int) < (4 : Int)) (c3 : (0 : Nat) + i < (4 : Nat)) (c4 : (!Option.isSome (Sx.lfind Sx.seq (four ((0 : Nat) + i)) M2)) = true) (c5 : (!four ((0 : Nat) + i) == []) = true) (c6 : (!four ((0 : Nat) + i) == [(48 : UInt8)]) = true) (c7 : q ≤ q) (c8 : (q + (1 : Nat)) * (16 : Nat) ≤ (140737488355328 : Nat)) (c9 : q + (1 : Nat) ≤ (9223372036854775807 : Nat)) (c10 : (-9223372036854775808 : Int) ≤ (↑i : Int) + (1 : Int)) (c11 : (↑i : Int) + (1 : Int) ≤ (9223372036854775807 : Int)) : Sx.PieceN 14 (Sx.Ex.normal) [(0, .ptr ⟨false, 2, 0, 0⟩), (3, .ptr ⟨false, 10, 0, 0⟩), (37, .slc true true ⟨false, 11, 0, 0⟩ 4), (38, .int true .i64 4), (39, .int true .i64 ((↑i : Int) + (1 : Int)))] [(2, .cells true 7 1 (.fn fun j => bif Nat.beq j 0 then (netR 6 13 8 m (q + (1 : Nat)) r) else (netR 6 7 8 m q r))), (3, .mSI true M1), (4, .mSI true (Sx.lput Sx.seq (four ((0 : Nat) + i)) (↑q : Int) M2)), (5, .mSI true M3), (6, .cells true 8 m (.fn fun j => elR (E j))), (8, .cells true 1 r (.fn (txR br))), (10, .cells true 8 1 (.fn fun _ => elR z)), (11, .cells true 1 4 (.fn (txR four))), (13, .cells true 1 (q + (1 : Nat)) (.fn fun j => bif decide (j < q) then (txR nd j) else [.str true (four ((0 : Nat) + i))]))] (piececallE Try.f43 ((Sx.nav [1,1,1,0,1,0,0] (Sx.bodyOf Try.f43))) (Sx.frL [(0, .ptr ⟨false, 2, 0, 0⟩), (3, .ptr ⟨false, 10, 0, 0⟩), (37, .slc true true ⟨false, 11, 0, 0⟩ 4), (38, .int true .i64 4), (39, .int true .i64 (i : Int))]) (Sx.hpL (ntL m q r E M1 M2 M3 nd br ++ [(10, .cells true 8 1 (.fn fun _ => elR z)), (11, .cells true 1 4 (.fn (txR four)))])) 12 [true, true, true, true]) := Sx.eqn (by kernel_rfl) (ai (ai (ai (ai (ai (ai (ai (ai trivial c0) (ai c1 c2)) c3) c4) c5) c6) (ai c7 (ai c8 c9))) (ai c10 c11))
theorem ptL_r4 (z : El) (m q r i : Nat) (E : Nat → El) (M1 M2 M3 : List (Tx × Int)) (nd br four : Nat → Tx) (c0 : decide ((↑i : Int) < (4 : Int)) = false) : Sx.PieceN 14 (Sx.Ex.exit (0 : Nat)) [(0, .ptr ⟨false, 2, 0, 0⟩), (3, .ptr ⟨false, 10, 0, 0⟩), (37, .slc true true ⟨false, 11, 0, 0⟩ 4), (38, .int true .i64 4), (39, .int true .i64 (↑i : Int))] (ntL m q r E M1 M2 M3 nd br ++ [(10, .cells true 8 1 (.fn fun _ => elR z)), (11, .cells true 1 4 (.fn (txR four)))]) (piececallE Try.f43 ((Sx.nav [1,1,1,0,1,0,0] (Sx.bodyOf Try.f43))) (Sx.frL [(0, .ptr ⟨false, 2, 0, 0⟩), (3, .ptr ⟨false, 10, 0, 0⟩), (37, .slc true true ⟨false, 11, 0, 0⟩ 4), (38, .int true .i64 4), (39, .int true .i64 (i : Int))]) (Sx.hpL (ntL m q r E M1 M2 M3 nd br ++ [(10, .cells true 8 1 (.fn fun _ => elR z)), (11, .cells true 1 4 (.fn (txR four)))])) 12 [false]) := Sx.eqn (by kernel_rfl) (ai trivial c0)
theorem ptL (B : Nat) (hB : B ≤ 12) (z : El) (m q r i : Nat) (E : Nat → El) (M1 M2 M3 : List (Tx × Int)) (nd br four : Nat → Tx) (x0 : ((decide ((↑i : Int) < (4 : Int))) = true → ((Option.isSome (Sx.lfind Sx.seq (four ((0 : Nat) + i)) M2)) = false → ((four ((0 : Nat) + i) == []) = false → ((four ((0 : Nat) + i) == [(48 : UInt8)]) = false → ((q + (1 : Nat)) * (16 : Nat) ≤ (140737488355328 : Nat))))))) (x1 : ((decide ((↑i : Int) < (4 : Int))) = true → ((Option.isSome (Sx.lfind Sx.seq (four ((0 : Nat) + i)) M2)) = false → ((four ((0 : Nat) + i) == []) = false → ((four ((0 : Nat) + i) == [(48 : UInt8)]) = false → (q + (1 : Nat) ≤ (9223372036854775807 : Nat))))))) : Sx.GoesB Try.prog ((Sx.nav [1,1,1,0,1,0,0] (Sx.bodyOf Try.f43))) Try.f43.ntmps B 12 14 (Sx.frL [(0, .ptr ⟨false, 2, 0, 0⟩), (3, .ptr ⟨false, 10, 0, 0⟩), (37, .slc true true ⟨false, 11, 0, 0⟩ 4), (38, .int true .i64 4), (39, .int true .i64 (i : Int))]) (Sx.hpL (ntL m q r E M1 M2 M3 nd br ++ [(10, .cells true 8 1 (.fn fun _ => elR z)), (11, .cells true 1 4 (.fn (txR four)))])) fun e fr' H' => (cond (decide ((↑i : Int) < (4 : Int))) (cond (Option.isSome (Sx.lfind Sx.seq (four ((0 : Nat) + i)) M2)) (e = .normal ∧ fr' = Sx.frL [(0, .ptr ⟨false, 2, 0, 0⟩), (3, .ptr ⟨false, 10, 0, 0⟩), (37, .slc true true ⟨false, 11, 0, 0⟩ 4), (38, .int true .i64 4), (39, .int true .i64 ((↑i : Int) + (1 : Int)))] ∧ H' = Sx.hpL (ntL m q r E M1 M2 M3 nd br ++ [(10, .cells true 8 1 (.fn fun _ => elR z)), (11, .cells true 1 4 (.fn (txR four)))])) (cond (four ((0 : Nat) + i) == []) (e = .normal ∧ fr' = Sx.frL [(0, .ptr ⟨false, 2, 0, 0⟩), (3, .ptr ⟨false, 10, 0, 0⟩), (37, .slc true true ⟨false, 11, 0, 0⟩ 4), (38, .int true .i64 4), (39, .int true .i64 ((↑i : Int) + (1 : Int)))] ∧ H' = Sx.hpL (ntL m q r E M1 M2 M3 nd br ++ [(10, .cells true 8 1 (.fn fun _ => elR z)), (11, .cells true 1 4 (.fn (txR four)))])) (cond (four ((0 : Nat) + i) == [(48 : UInt8)]) (e = .normal ∧ fr' = Sx.frL [(0, .ptr ⟨false, 2, 0, 0⟩), (3, .ptr ⟨false, 10, 0, 0⟩), (37, .slc true true ⟨false, 11, 0, 0⟩ 4), (38, .int true .i64 4), (39, .int true .i64 ((↑i : Int) + (1 : Int)))] ∧ H' = Sx.hpL (ntL m q r E M1 M2 M3 nd br ++ [(10, .cells true 8 1 (.fn fun _ => elR z)), (11, .cells true 1 4 (.fn (txR four)))])) (e = .normal ∧ fr' = Sx.frL [(0, .ptr ⟨false, 2, 0, 0⟩), (3, .ptr ⟨false, 10, 0, 0⟩), (37, .slc true true ⟨false, 11, 0, 0⟩ 4), (38, .int true .i64 4), (39, .int true .i64 ((↑i : Int) + (1 : Int)))] ∧ H' = Sx.hpL [(2, .cells true 7 1 (.fn fun j => bif Nat.beq j 0 then (netR 6 13 8 m (q + (1 : Nat)) r) else (netR 6 7 8 m q r))), (3, .mSI true M1), (4, .mSI true (Sx.lput Sx.seq (four ((0 : Nat) + i)) (↑q : Int) M2)), (5, .mSI true M3), (6, .cells true 8 m (.fn fun j => elR (E j))), (8, .cells true 1 r (.fn (txR br))), (10, .cells true 8 1 (.fn fun _ => elR z)), (11, .cells true 1 4 (.fn (txR four))), (13, .cells true 1 (q + (1 : Nat)) (.fn fun j => bif decide (j < q) then (txR nd j) else [.str true (four ((0 : Nat) + i))]))])))) (e = .exit 0 ∧ fr' = Sx.frL [(0, .ptr ⟨false, 2, 0, 0⟩), (3, .ptr ⟨false, 10, 0, 0⟩), (37, .slc true true ⟨false, 11, 0, 0⟩ 4), (38, .int true .i64 4), (39, .int true .i64 (↑i : Int))] ∧ H' = Sx.hpL (ntL m q r E M1 M2 M3 nd br ++ [(10, .cells true 8 1 (.fn fun _ => elR z)), (11, .cells true 1 4 (.fn (txR four)))]))) := by
 cases t0 : decide ((↑i : Int) < (4 : Int)) with
 | true =>
  cases t1 : Option.isSome (Sx.lfind Sx.seq (four ((0 : Nat) + i)) M2) with
  | true =>
   exact (Sx.GoesB.runN callE_ok (callE_reg _) (Sx.LoopsIn.none _ _ _) (ptL_r0 z m q r i E M1 M2 M3 nd br four t0 (by first | decide | ((try simp only [decide_eq_true_eq, decide_eq_false_iff_not] at t0 t1); (try simp only [List.length_take, List.length_drop]); omega)) (by first | decide | ((try simp only [decide_eq_true_eq, decide_eq_false_iff_not] at t0 t1); (try simp only [List.length_take, List.length_drop]); omega)) (by first | decide | ((try simp only [decide_eq_true_eq, decide_eq_false_iff_not] at t0 t1); (try simp only [List.length_take, List.length_drop]); omega)) (by rw [t1]; rfl) (by first | decide | ((try simp only [decide_eq_true_eq, decide_eq_false_iff_not] at t0 t1); (try simp only [List.length_take, List.length_drop]); omega)) (by first | decide | ((try simp only [decide_eq_true_eq, decide_eq_false_iff_not] at t0 t1); (try simp only [List.length_take, List.length_drop]); omega))) hB).mono fun e fr' H' h => by first | (simp only [t0, t1, cond_true, cond_false]; exact h) | (simp only [t0, t1, cond_true, cond_false] at h ⊢; exact h)
  | false =>
   cases t2 : four ((0 : Nat) + i) == [] with
   | true =>
    exact (Sx.GoesB.runN callE_ok (callE_reg _) (Sx.LoopsIn.none _ _ _) (ptL_r1 z m q r i E M1 M2 M3 nd br four t0 (by first | decide | ((try simp only [decide_eq_true_eq, decide_eq_false_iff_not] at t0 t1 t2); (try simp only [List.length_take, List.length_drop]); omega)) (by first | decide | ((try simp only [decide_eq_true_eq, decide_eq_false_iff_not] at t0 t1 t2); (try simp only [List.length_take, List.length_drop]); omega)) (by first | decide | ((try simp only [decide_eq_true_eq, decide_eq_false_iff_not] at t0 t1 t2); (try simp only [List.length_take, List.length_drop]); omega)) (by rw [t1]; rfl) (by rw [t2]; rfl) (by first | decide | ((try simp only [decide_eq_true_eq, decide_eq_false_iff_not] at t0 t1 t2); (try simp only [List.length_take, List.length_drop]); omega)) (by first | decide | ((try simp only [decide_eq_true_eq, decide_eq_false_iff_not] at t0 t1 t2); (try simp only [List.length_take, List.length_drop]); omega))) hB).mono fun e fr' H' h => by first | (simp only [t0, t1, t2, cond_true, cond_false]; exact h) | (simp only [t0, t1, t2, cond_true, cond_false] at h ⊢; exact h)
   | false =>
    cases t3 : four ((0 : Nat) + i) == [(48 : UInt8)] with
    | true =>
     exact (Sx.GoesB.runN callE_ok (callE_reg _) (Sx.LoopsIn.none _ _ _) (ptL_r2 z m q r i E M1 M2 M3 nd br four t0 (by first | decide | ((try simp only [decide_eq_true_eq, decide_eq_false_iff_not] at t0 t1 t2 t3); (try simp only [List.length_take, List.length_drop]); omega)) (by first | decide | ((try simp only [decide_eq_true_eq, decide_eq_false_iff_not] at t0 t1 t2 t3); (try simp only [List.length_take, List.length_drop]); omega)) (by first | decide | ((try simp only [decide_eq_true_eq, decide_eq_false_iff_not] at t0 t1 t2 t3); (try simp only [List.length_take, List.length_drop]); omega)) (by rw [t1]; rfl) (by rw [t2]; rfl) (by rw [t3]; rfl) (by first | decide | ((try simp only [decide_eq_true_eq, decide_eq_false_iff_not] at t0 t1 t2 t3); (try simp only [List.length_take, List.length_drop]); omega)) (by first | decide | ((try simp only [decide_eq_true_eq, decide_eq_false_iff_not] at t0 t1 t2 t3); (try simp only [List.length_take, List.length_drop]); omega))) hB).mono fun e fr' H' h => by first | (simp only [t0, t1, t2, t3, cond_true, cond_false]; exact h) | (simp only [t0, t1, t2, t3, cond_true, cond_false] at h ⊢; exact h)
    | false =>
     exact (Sx.GoesB.runN callE_ok (callE_reg _) (Sx.LoopsIn.none _ _ _) (ptL_r3 z m q r i E M1 M2 M3 nd br four t0 (by first | decide | ((try simp only [decide_eq_true_eq, decide_eq_false_iff_not] at t0 t1 t2 t3); (try simp only [List.length_take, List.length_drop]); omega)) (by first | decide | ((try simp only [decide_eq_true_eq, decide_eq_false_iff_not] at t0 t1 t2 t3); (try simp only [List.length_take, List.length_drop]); omega)) (by first | decide | ((try simp only [decide_eq_true_eq, decide_eq_false_iff_not] at t0 t1 t2 t3); (try simp only [List.length_take, List.length_drop]); omega)) (by rw [t1]; rfl) (by rw [t2]; rfl) (by rw [t3]; rfl) (by first | decide | ((try simp only [decide_eq_true_eq, decide_eq_false_iff_not] at t0 t1 t2 t3); (try simp only [List.length_take, List.length_drop]); omega)) (x0 t0 t1 t2 t3) (x1 t0 t1 t2 t3) (by first | decide | ((try simp only [decide_eq_true_eq, decide_eq_false_iff_not] at t0 t1 t2 t3); (try simp only [List.length_take, List.length_drop]); omega)) (by first | decide | ((try simp only [decide_eq_true_eq, decide_eq_false_iff_not] at t0 t1 t2 t3); (try simp only [List.length_take, List.length_drop]); omega))) hB).mono fun e fr' H' h => by first | (simp only [t0, t1, t2, t3, cond_true, cond_false]; exact h) | (simp only [t0, t1, t2, t3, cond_true, cond_false] at h ⊢; exact h)
 | false =>
  exact (Sx.GoesB.runN callE_ok (callE_reg _) (Sx.LoopsIn.none _ _ _) (ptL_r4 z m q r i E M1 M2 M3 nd br four t0) hB).mono fun e fr' H' h => by first | (simp only [t0, cond_true, cond_false]; exact h) | (simp only [t0, cond_true, cond_false] at h ⊢; exact h)
theorem ptM_r0 (z : El) (m q r i : Nat) (E : Nat → El) (M1 M2 M3 : List (Tx × Int)) (nd br four : Nat → Tx) (c0 : decide (El.k z = (5 : Int)) = true) (c1 : r ≤ r) (c2 : (r + (1 : Nat)) * (16 : Nat) ≤ (140737488355328 : Nat)) (c3 : r + (1 : Nat) ≤ (9223372036854775807 : Nat)) : Sx.PieceN 14 (Sx.Ex.normal) [(0, .ptr ⟨false, 2, 0, 0⟩), (3, .ptr ⟨false, 10, 0, 0⟩)] [(2, .cells true 7 1 (.fn fun j => bif Nat.beq j 0 then (netR 6 7 13 m q (r + (1 : Nat))) else (netR 6 7 8 m q r))), (3, .mSI true M1), (4, .mSI true M2), (5, .mSI true (Sx.lput Sx.seq (El.n z) (↑r : Int) M3)), (6, .cells true 8 m (.fn fun j => elR (E j))), (7, .cells true 1 q (.fn (txR nd))), (13, .cells true 1 (r + (1 : Nat)) (.fn fun j => bif decide (j < r) then (txR br j) else [.str true (El.n z)]))] (piececallE Try.f43 ((Sx.nav [1,1,1,1] (Sx.bodyOf Try.f43))) (Sx.frL [(0, .ptr ⟨false, 2, 0, 0⟩), (3, .ptr ⟨false, 10, 0, 0⟩)]) (Sx.hpL (ntL m q r E M1 M2 M3 nd br ++ [(10, .cells true 8 1 (.fn fun _ => elR z))])) 12 [true]) := Sx.eqn (by kernel_rfl) (ai (ai trivial c0) (ai c1 (ai c2 c3)))
theorem ptM_r1 (z : El) (m q r i : Nat) (E : Nat → El) (M1 M2 M3 : List (Tx × Int)) (nd br four : Nat → Tx) (c0 : decide (El.k z = (5 : Int)) = false) (c1 : decide (El.k z = (7 : Int)) = true) (c2 : r ≤ r) (c3 : (r + (1 : Nat)) * (16 : Nat) ≤ (140737488355328 : Nat)) (c4 : r + (1 : Nat) ≤ (9223372036854775807 : Nat)) : Sx.PieceN 14 (Sx.Ex.normal) [(0, .ptr ⟨false, 2, 0, 0⟩), (3, .ptr ⟨false, 10, 0, 0⟩)] [(2, .cells true 7 1 (.fn fun j => bif Nat.beq j 0 then (netR 6 7 13 m q (r + (1 : Nat))) else (netR 6 7 8 m q r))), (3, .mSI true M1), (4, .mSI true M2), (5, .mSI true (Sx.lput Sx.seq (El.n z) (↑r : Int) M3)), (6, .cells true 8 m (.fn fun j => elR (E j))), (7, .cells true 1 q (.fn (txR nd))), (13, .cells true 1 (r + (1 : Nat)) (.fn fun j => bif decide (j < r) then (txR br j) else [.str true (El.n z)]))] (piececallE Try.f43 ((Sx.nav [1,1,1,1] (Sx.bodyOf Try.f43))) (Sx.frL [(0, .ptr ⟨false, 2, 0, 0⟩), (3, .ptr ⟨false, 10, 0, 0⟩)]) (Sx.hpL (ntL m q r E M1 M2 M3 nd br ++ [(10, .cells true 8 1 (.fn fun _ => elR z))])) 12 [false, true]) := Sx.eqn (by kernel_rfl) (ai (ai (ai trivial c0) c1) (ai c2 (ai c3 c4)))
theorem ptM_r2 (z : El) (m q r i : Nat) (E : Nat → El) (M1 M2 M3 : List (Tx × Int)) (nd br four : Nat → Tx) (c0 : decide (El.k z = (5 : Int)) = false) (c1 : decide (El.k z = (7 : Int)) = false) : Sx.PieceN 14 (Sx.Ex.normal) [(0, .ptr ⟨false, 2, 0, 0⟩), (3, .ptr ⟨false, 10, 0, 0⟩)] (ntL m q r E M1 M2 M3 nd br) (piececallE Try.f43 ((Sx.nav [1,1,1,1] (Sx.bodyOf Try.f43))) (Sx.frL [(0, .ptr ⟨false, 2, 0, 0⟩), (3, .ptr ⟨false, 10, 0, 0⟩)]) (Sx.hpL (ntL m q r E M1 M2 M3 nd br ++ [(10, .cells true 8 1 (.fn fun _ => elR z))])) 12 [false, false]) := Sx.eqn (by kernel_rfl) (ai (ai trivial c0) c1)
theorem ptM (B : Nat) (hB : B ≤ 12) (z : El) (m q r i : Nat) (E : Nat → El) (M1 M2 M3 : List (Tx × Int)) (nd br four : Nat → Tx) (x0 : ((r + (1 : Nat)) * (16 : Nat) ≤ (140737488355328 : Nat))) (x1 : (r + (1 : Nat) ≤ (9223372036854775807 : Nat))) : Sx.GoesB Try.prog ((Sx.nav [1,1,1,1] (Sx.bodyOf Try.f43))) Try.f43.ntmps B 12 14 (Sx.frL [(0, .ptr ⟨false, 2, 0, 0⟩), (3, .ptr ⟨false, 10, 0, 0⟩)]) (Sx.hpL (ntL m q r E M1 M2 M3 nd br ++ [(10, .cells true 8 1 (.fn fun _ => elR z))])) fun e fr' H' => (cond (decide (El.k z = (5 : Int))) (e = .normal ∧ fr' = Sx.frL [(0, .ptr ⟨false, 2, 0, 0⟩), (3, .ptr ⟨false, 10, 0, 0⟩)] ∧ H' = Sx.hpL [(2, .cells true 7 1 (.fn fun j => bif Nat.beq j 0 then (netR 6 7 13 m q (r + (1 : Nat))) else (netR 6 7 8 m q r))), (3, .mSI true M1), (4, .mSI true M2), (5, .mSI true (Sx.lput Sx.seq (El.n z) (↑r : Int) M3)), (6, .cells true 8 m (.fn fun j => elR (E j))), (7, .cells true 1 q (.fn (txR nd))), (13, .cells true 1 (r + (1 : Nat)) (.fn fun j => bif decide (j < r) then (txR br j) else [.str true (El.n z)]))]) (cond (decide (El.k z = (7 : Int))) (e = .normal ∧ fr' = Sx.frL [(0, .ptr ⟨false, 2, 0, 0⟩), (3, .ptr ⟨false, 10, 0, 0⟩)] ∧ H' = Sx.hpL [(2, .cells true 7 1 (.fn fun j => bif Nat.beq j 0 then (netR 6 7 13 m q (r + (1 : Nat))) else (netR 6 7 8 m q r))), (3, .mSI true M1), (4, .mSI true M2), (5, .mSI true (Sx.lput Sx.seq (El.n z) (↑r : Int) M3)), (6, .cells true 8 m (.fn fun j => elR (E j))), (7, .cells true 1 q (.fn (txR nd))), (13, .cells true 1 (r + (1 : Nat)) (.fn fun j => bif decide (j < r) then (txR br j) else [.str true (El.n z)]))]) (e = .normal ∧ fr' = Sx.frL [(0, .ptr ⟨false, 2, 0, 0⟩), (3, .ptr ⟨false, 10, 0, 0⟩)] ∧ H' = Sx.hpL (ntL m q r E M1 M2 M3 nd br)))) := by
 cases t0 : decide (El.k z = (5 : Int)) with
 | true =>
  exact (Sx.GoesB.runN callE_ok (callE_reg _) (Sx.LoopsIn.none _ _ _) (ptM_r0 z m q r i E M1 M2 M3 nd br four t0 (by first | decide | ((try simp only [decide_eq_true_eq, decide_eq_false_iff_not] at t0); (try simp only [List.length_take, List.length_drop]); omega)) (x0) (x1)) hB).mono fun e fr' H' h => by first | (simp only [t0, cond_true, cond_false]; exact h) | (simp only [t0, cond_true, cond_false] at h ⊢; exact h)
 | false =>
  cases t1 : decide (El.k z = (7 : Int)) with
  | true =>
   exact (Sx.GoesB.runN callE_ok (callE_reg _) (Sx.LoopsIn.none _ _ _) (ptM_r1 z m q r i E M1 M2 M3 nd br four t0 t1 (by first | decide | ((try simp only [decide_eq_true_eq, decide_eq_false_iff_not] at t0 t1); (try simp only [List.length_take, List.length_drop]); omega)) (x0) (x1)) hB).mono fun e fr' H' h => by first | (simp only [t0, t1, cond_true, cond_false]; exact h) | (simp only [t0, t1, cond_true, cond_false] at h ⊢; exact h)
  | false =>
   exact (Sx.GoesB.runN callE_ok (callE_reg _) (Sx.LoopsIn.none _ _ _) (ptM_r2 z m q r i E M1 M2 M3 nd br four t0 t1) hB).mono fun e fr' H' h => by first | (simp only [t0, t1, cond_true, cond_false]; exact h) | (simp only [t0, t1, cond_true, cond_false] at h ⊢; exact h)


theorem put_is : (Sx.bodyOf Try.f43) = .seq (Sx.nav [0] (Sx.bodyOf Try.f43)) (.seq (Sx.nav [1,0] (Sx.bodyOf Try.f43)) (.seq (Sx.nav [1,1,0] (Sx.bodyOf Try.f43)) (.seq (.seq (Sx.nav [1,1,1,0,0] (Sx.bodyOf Try.f43)) (.block 0 (.loop (Sx.nav [1,1,1,0,1,0,0] (Sx.bodyOf Try.f43))))) (Sx.nav [1,1,1,1] (Sx.bodyOf Try.f43))))) := by kernel_rfl
theorem ptL_step (z : El) (m : Nat) (E : Nat → El) (nm nd br : List Tx) (hq : nd.length ≤ 1100) (i : Nat) (hi : i < 4) :
  Sx.GoesB Try.prog (Sx.nav [1,1,1,0,1,0,0] (Sx.bodyOf Try.f43)) Try.f43.ntmps 6 12 12 (Sx.frL [(0, .ptr ⟨false, 2, 0, 0⟩), (3, .ptr ⟨false, 10, 0, 0⟩), (37, .slc true true ⟨false, 11, 0, 0⟩ 4), (38, .int true .i64 4), (39, .int true .i64 ((i : Nat) : Int))]) (Sx.hpL [(2, .cells true 7 1 (.fn fun _ => netR 6 7 8 m ((nd4 nd z i)).length (br).length)), (3, .mSI true (zipF 0 (nm))), (4, .mSI true (zipF 0 ((nd4 nd z i)))), (5, .mSI true (zipF 0 (br))), (6, .cells true 8 (m) (.fn fun j => elR (E j))), (7, .cells true 1 (((nd4 nd z i)).length) (.fn (txR (lget ((nd4 nd z i)))))), (8, .cells true 1 ((br).length) (.fn (txR (lget (br))))), (10, .cells true 8 1 (.fn fun _ => elR z)), (11, .cells true 1 4 (.fn (txR (four z))))]) (Sx.Nm [(0, .ptr ⟨false, 2, 0, 0⟩), (3, .ptr ⟨false, 10, 0, 0⟩), (37, .slc true true ⟨false, 11, 0, 0⟩ 4), (38, .int true .i64 4), (39, .int true .i64 (((i + 1 : Nat)) : Int))] [(2, .cells true 7 1 (.fn fun _ => netR 6 7 8 m (nd4 nd z (i + 1)).length (br).length)), (3, .mSI true (zipF 0 (nm))), (4, .mSI true (zipF 0 (nd4 nd z (i + 1)))), (5, .mSI true (zipF 0 (br))), (6, .cells true 8 (m) (.fn fun j => elR (E j))), (7, .cells true 1 ((nd4 nd z (i + 1)).length) (.fn (txR (lget (nd4 nd z (i + 1)))))), (8, .cells true 1 ((br).length) (.fn (txR (lget (br))))), (10, .cells true 8 1 (.fn fun _ => elR z)), (11, .cells true 1 4 (.fn (txR (four z))))]) := by
 have l4 := nd4_len nd z i
 refine (ptL 6 (by omega) z m (nd4 nd z i).length br.length i E (zipF 0 nm) (zipF 0 (nd4 nd z i)) (zipF 0 br) (lget ((nd4 nd z i))) (lget (br)) (four z) (fun _ _ _ _ => by omega) (fun _ _ _ _ => by omega)).renG fun e fr' H' h => ?_
 rw [decide_eq_true (show (i : Int) < 4 by omega), cond_true, Nat.zero_add, isS_zip] at h
 have same : addN (nd4 nd z i) (four z i) = (nd4 nd z i) → (e = .normal ∧ fr' = Sx.frL [(0, .ptr ⟨false, 2, 0, 0⟩), (3, .ptr ⟨false, 10, 0, 0⟩), (37, .slc true true ⟨false, 11, 0, 0⟩ 4), (38, .int true .i64 4), (39, .int true .i64 ((i : Int) + 1 : Int))] ∧ H' = Sx.hpL [(2, .cells true 7 1 (.fn fun _ => netR 6 7 8 m ((nd4 nd z i)).length (br).length)), (3, .mSI true (zipF 0 (nm))), (4, .mSI true (zipF 0 ((nd4 nd z i)))), (5, .mSI true (zipF 0 (br))), (6, .cells true 8 (m) (.fn fun j => elR (E j))), (7, .cells true 1 (((nd4 nd z i)).length) (.fn (txR (lget ((nd4 nd z i)))))), (8, .cells true 1 ((br).length) (.fn (txR (lget (br))))), (10, .cells true 8 1 (.fn fun _ => elR z)), (11, .cells true 1 4 (.fn (txR (four z))))]) → ∃ σ fl bl, (∀ g, g < 6 → σ g = g) ∧ Sx.RenF 12 σ fr' fl ∧ Sx.RenG 12 σ H' bl ∧ (∀ i j, i < 12 → j < 12 → σ i = σ j → i = j) ∧ Sx.Nm [(0, .ptr ⟨false, 2, 0, 0⟩), (3, .ptr ⟨false, 10, 0, 0⟩), (37, .slc true true ⟨false, 11, 0, 0⟩ 4), (38, .int true .i64 4), (39, .int true .i64 (((i + 1 : Nat)) : Int))] [(2, .cells true 7 1 (.fn fun _ => netR 6 7 8 m (nd4 nd z (i + 1)).length (br).length)), (3, .mSI true (zipF 0 (nm))), (4, .mSI true (zipF 0 (nd4 nd z (i + 1)))), (5, .mSI true (zipF 0 (br))), (6, .cells true 8 (m) (.fn fun j => elR (E j))), (7, .cells true 1 ((nd4 nd z (i + 1)).length) (.fn (txR (lget (nd4 nd z (i + 1)))))), (8, .cells true 1 ((br).length) (.fn (txR (lget (br))))), (10, .cells true 8 1 (.fn fun _ => elR z)), (11, .cells true 1 4 (.fn (txR (four z))))] e (Sx.frL fl) (Sx.hpL bl) := by
  rintro q ⟨rfl, rfl, rfl⟩
  have q2 : nd4 nd z (i + 1) = (nd4 nd z i) := q
  rw [q2]
  exact ⟨id, [(0, .ptr ⟨false, 2, 0, 0⟩), (3, .ptr ⟨false, 10, 0, 0⟩), (37, .slc true true ⟨false, 11, 0, 0⟩ 4), (38, .int true .i64 4), (39, .int true .i64 (((i + 1 : Nat)) : Int))], [(2, .cells true 7 1 (.fn fun _ => netR 6 7 8 m ((nd4 nd z i)).length (br).length)), (3, .mSI true (zipF 0 (nm))), (4, .mSI true (zipF 0 ((nd4 nd z i)))), (5, .mSI true (zipF 0 (br))), (6, .cells true 8 (m) (.fn fun j => elR (E j))), (7, .cells true 1 (((nd4 nd z i)).length) (.fn (txR (lget ((nd4 nd z i)))))), (8, .cells true 1 ((br).length) (.fn (txR (lget (br))))), (10, .cells true 8 1 (.fn fun _ => elR z)), (11, .cells true 1 4 (.fn (txR (four z))))], fun g hg => rfl, ⟨⟨_, rfl, Sx.AV.ge.refl _, rfl⟩, ⟨_, rfl, Sx.AV.ge.refl _, rfl⟩, ⟨_, rfl, Sx.AV.ge.refl _, rfl⟩, ⟨_, rfl, Sx.AV.ge.refl _, rfl⟩, ⟨_, rfl, Sx.AV.ge.refl _, rfl⟩, trivial⟩, ⟨rgB rfl rfl rfl (by omega), rgM rfl rfl (by omega), rgM rfl rfl (by omega), rgM rfl rfl (by omega), rgR rfl rfl (fun j _ => rfl) (fun j _ => rfl) (by omega), rgR rfl rfl (fun j _ => rfl) (fun j _ => rfl) (by omega), rgR rfl rfl (fun j _ => rfl) (fun j _ => rfl) (by omega), rgB rfl rfl rfl (by omega), rgR rfl rfl (fun j _ => rfl) (fun j _ => rfl) (by omega), trivial⟩, fun i j _ _ h => h, rfl, rfl, rfl⟩
 refine Sx.cond_elim h (fun t h => same (by unfold addN; rw [t]; rfl) h) (fun t1 h => ?_)
 refine Sx.cond_elim h (fun t h => same (by unfold addN; rw [t1, t]; rfl) h) (fun t2 h => ?_)
 refine Sx.cond_elim h (fun t h => same (by unfold addN; rw [t1, t2, t]; rfl) h) (fun t3 h => ?_)
 obtain ⟨rfl, rfl, rfl⟩ := h
 have q2 : nd4 nd z (i + 1) = (nd4 nd z i) ++ [four z i] := by
  show addN (nd4 nd z i) (four z i) = _
  unfold addN; rw [t1, t2, t3]; rfl
 have len : (nd4 nd z (i + 1)).length = (nd4 nd z i).length + 1 := by rw [q2]; simp
 refine ⟨sg 7 13, [(0, .ptr ⟨false, 2, 0, 0⟩), (3, .ptr ⟨false, 10, 0, 0⟩), (37, .slc true true ⟨false, 11, 0, 0⟩ 4), (38, .int true .i64 4), (39, .int true .i64 (((i + 1 : Nat)) : Int))], [(2, .cells true 7 1 (.fn fun _ => netR 6 7 8 m (nd4 nd z (i + 1)).length (br).length)), (3, .mSI true (zipF 0 (nm))), (4, .mSI true (zipF 0 (nd4 nd z (i + 1)))), (5, .mSI true (zipF 0 (br))), (6, .cells true 8 (m) (.fn fun j => elR (E j))), (7, .cells true 1 ((nd4 nd z (i + 1)).length) (.fn (txR (lget (nd4 nd z (i + 1)))))), (8, .cells true 1 ((br).length) (.fn (txR (lget (br))))), (10, .cells true 8 1 (.fn fun _ => elR z)), (11, .cells true 1 4 (.fn (txR (four z))))], sg_low (by omega), ⟨⟨_, rfl, Sx.AV.ge.refl _, rfl⟩, ⟨_, rfl, Sx.AV.ge.refl _, rfl⟩, ⟨_, rfl, Sx.AV.ge.refl _, rfl⟩, ⟨_, rfl, Sx.AV.ge.refl _, rfl⟩, ⟨_, rfl, Sx.AV.ge.refl _, rfl⟩, trivial⟩, ⟨rgB rfl (by rw [len]; rfl) rfl (by omega), rgM rfl rfl (by omega), rgM rfl (by rw [q2]; exact put_zip0 rfl (none_of t1)) (by omega), rgM rfl rfl (by omega), rgR rfl rfl (fun j _ => rfl) (fun j _ => rfl) (by omega), rgR rfl len.symm (fun j hj => by rw [q2]; exact lget_app _ _ j hj) (fun j _ => rfl) (by omega), rgR rfl rfl (fun j _ => rfl) (fun j _ => rfl) (by omega), rgB rfl rfl rfl (by omega), rgR rfl rfl (fun j _ => rfl) (fun j _ => rfl) (by omega), trivial⟩, sg_inj (by omega), rfl, rfl, rfl⟩
theorem ptL_end (z : El) (m : Nat) (E : Nat → El) (nm nd br : List Tx) (hq : nd.length ≤ 1100) :
  Sx.GoesB Try.prog (Sx.nav [1,1,1,0,1,0,0] (Sx.bodyOf Try.f43)) Try.f43.ntmps 6 12 12 (Sx.frL [(0, .ptr ⟨false, 2, 0, 0⟩), (3, .ptr ⟨false, 10, 0, 0⟩), (37, .slc true true ⟨false, 11, 0, 0⟩ 4), (38, .int true .i64 4), (39, .int true .i64 ((4 : Nat) : Int))]) (Sx.hpL [(2, .cells true 7 1 (.fn fun _ => netR 6 7 8 m (nd4 nd z 4).length (br).length)), (3, .mSI true (zipF 0 (nm))), (4, .mSI true (zipF 0 (nd4 nd z 4))), (5, .mSI true (zipF 0 (br))), (6, .cells true 8 (m) (.fn fun j => elR (E j))), (7, .cells true 1 ((nd4 nd z 4).length) (.fn (txR (lget (nd4 nd z 4))))), (8, .cells true 1 ((br).length) (.fn (txR (lget (br))))), (10, .cells true 8 1 (.fn fun _ => elR z)), (11, .cells true 1 4 (.fn (txR (four z))))]) (Sx.Xm 0 [(0, .ptr ⟨false, 2, 0, 0⟩), (3, .ptr ⟨false, 10, 0, 0⟩)] [(2, .cells true 7 1 (.fn fun _ => netR 6 7 8 m (nd4 nd z 4).length (br).length)), (3, .mSI true (zipF 0 (nm))), (4, .mSI true (zipF 0 (nd4 nd z 4))), (5, .mSI true (zipF 0 (br))), (6, .cells true 8 (m) (.fn fun j => elR (E j))), (7, .cells true 1 ((nd4 nd z 4).length) (.fn (txR (lget (nd4 nd z 4))))), (8, .cells true 1 ((br).length) (.fn (txR (lget (br))))), (10, .cells true 8 1 (.fn fun _ => elR z))]) := by
 have l4 := nd4_len nd z 4
 refine (ptL 6 (by omega) z m (nd4 nd z 4).length br.length 4 E (zipF 0 nm) (zipF 0 (nd4 nd z 4)) (zipF 0 br) (lget (nd4 nd z 4)) (lget (br)) (four z) (fun _ _ _ _ => by omega) (fun _ _ _ _ => by omega)).renG fun e fr' H' h => ?_
 rw [decide_eq_false (show ¬ ((4 : Nat) : Int) < 4 by omega), cond_false] at h
 obtain ⟨rfl, rfl, rfl⟩ := h
 exact ⟨id, [(0, .ptr ⟨false, 2, 0, 0⟩), (3, .ptr ⟨false, 10, 0, 0⟩)], [(2, .cells true 7 1 (.fn fun _ => netR 6 7 8 m (nd4 nd z 4).length (br).length)), (3, .mSI true (zipF 0 (nm))), (4, .mSI true (zipF 0 (nd4 nd z 4))), (5, .mSI true (zipF 0 (br))), (6, .cells true 8 (m) (.fn fun j => elR (E j))), (7, .cells true 1 ((nd4 nd z 4).length) (.fn (txR (lget (nd4 nd z 4))))), (8, .cells true 1 ((br).length) (.fn (txR (lget (br))))), (10, .cells true 8 1 (.fn fun _ => elR z))], fun g hg => rfl, ⟨⟨_, rfl, Sx.AV.ge.refl _, rfl⟩, ⟨_, rfl, Sx.AV.ge.refl _, rfl⟩, trivial⟩, ⟨rgB rfl rfl rfl (by omega), rgM rfl rfl (by omega), rgM rfl rfl (by omega), rgM rfl rfl (by omega), rgR rfl rfl (fun j _ => rfl) (fun j _ => rfl) (by omega), rgR rfl rfl (fun j _ => rfl) (fun j _ => rfl) (by omega), rgR rfl rfl (fun j _ => rfl) (fun j _ => rfl) (by omega), rgB rfl rfl rfl (by omega), trivial⟩, fun i j _ _ h => h, rfl, rfl, rfl⟩
theorem isBr_5 {z : El} (h : decide (z.k = 5) = true) : isBr z = true := by unfold isBr; rw [h]; rfl
theorem isBr_7 {z : El} (h : decide (z.k = 7) = true) : isBr z = true := by unfold isBr; rw [h]; simp
theorem isBr_n {z : El} (h : decide (z.k = 5) = false) (h2 : decide (z.k = 7) = false) : isBr z = false := by unfold isBr; rw [h, h2]; rfl
end Go.Proofs.Ytdagokpedjfepaa
