/- PowerMeans: a part: summaries of functions that the statement reaches, printed by program, checked by the kernel. -/
import Derived.ProofKit
import Derived.OpenShut
import Derived.KernelRfl
import Derived.SizedLaws
import Derived.Test.YtmmogbldndklnaaProg
import Derived.Test.YtmmogbldndklnaaSm3
namespace Go.Proofs.Ytmmogbldndklnaa
open Go.ChangeShapes Go.WideShapes Go.ChangeAt Go.RowKit Go.Sx
set_option linter.unusedVariables false
set_option linter.unusedSimpArgs false
set_option maxRecDepth 100000

theorem ai {p q : Prop} (h : p) (k : q) : p ∧ q := ⟨h, k⟩
noncomputable def gam0 : Known := kc 37 ofBits (kc 72 toBits (kn))
theorem gam0_ok : KnownOk Try.prog gam0 := kc_ok ((ofBits_is Try.prog).callIs Try.func37 (by kernel_rfl) (by kernel_rfl) (by kernel_rfl) (by kernel_rfl)) (kc_ok ((toBits_is Try.prog).callIs Try.func72 (by kernel_rfl) (by kernel_rfl) (by kernel_rfl) (by kernel_rfl)) (kn_ok))
theorem gam0_tch : KnownT gam0 := kc_tch Tch.ofBits (kc_tch Tch.toBits (kn_tch))
noncomputable def call0 : Calls' := Sx.runN Try.prog gam0 (regionC Try.prog) 1000 50
theorem call0_ok : CallOk Try.prog call0 := engineC gam0_ok gam0_tch (by kernel_rfl) (by kernel_rfl) 1000 50
theorem call0_tch : CallT call0 := runA_tch gam0_tch (fun _ _ _ h => by cases h) (fun call hc n l fr => regionC_tch hc n l fr) 50
theorem call0_reg (n : Nat) : RegionOk Try.prog (regionC Try.prog call0 n) n := runN_regionC gam0_ok gam0_tch (by kernel_rfl) (by kernel_rfl) 1000 50 n
noncomputable abbrev piececall0 (f : Func) (c : Code) (fr : Fr) (H : T ABk) (K : Nat) (path : List Bool) : Res (Ex × Fr) :=
 codeA Try.prog call0 (regionC Try.prog call0 f.ntmps) noLoops f.ntmps 1000 c fr ⟨H, K, [], path, True⟩
theorem rc0 {fn : Func} {K K' B : Nat} {e : Ex} {F : List (Nat × AV)} {Hl : List (Nat × ABk)} {c : Code} {fr : Fr} {H : T ABk} {path : List Bool} (h : PieceN K' e F Hl (piececall0 fn c fr H K path)) (hB : B ≤ K) : GoesB Try.prog c fn.ntmps B K K' fr H fun e' fr' H' => e' = e ∧ fr' = frL F ∧ H' = hpL Hl := GoesB.runN call0_ok (call0_reg _) (LoopsIn.none _ _ _) h hB
theorem smA_r0 (l : List UInt8) : PieceN 0 (Ex.normal) [(0, .str true l)] [] (piececall0 Try.f80 (nav [0] (bodyOf Try.f80)) (frameOf [.str true l] 0 .e) (.e) 0 []) := eqn (by kernel_rfl) trivial
theorem smA (B : Nat) (hB : B ≤ 0) (l : List UInt8) : GoesB Try.prog (nav [0] (bodyOf Try.f80)) Try.f80.ntmps B 0 0 (frameOf [.str true l] 0 .e) (.e) fun e fr' H' => (e = .normal ∧ fr' = frL [(0, .str true l)] ∧ H' = hpL []) := by
 exact (rc0 (smA_r0 l) hB).mono fun e fr' H' h => h
theorem smR_r0 (l : List UInt8) : PieceN 1 (Ex.normal) [(6, .ptr ⟨false, 0, 0, 0⟩)] [(0, ABk.sit true l (0 : Nat))] (piececall0 Try.f80 (nav [1,0,0] (bodyOf Try.f80)) (frL [(0, .str true l)]) (hpL []) 0 []) := eqn (by kernel_rfl) trivial
theorem smR (B : Nat) (hB : B ≤ 0) (l : List UInt8) : GoesB Try.prog (nav [1,0,0] (bodyOf Try.f80)) Try.f80.ntmps B 0 1 (frL [(0, .str true l)]) (hpL []) fun e fr' H' => (e = .normal ∧ fr' = frL [(6, .ptr ⟨false, 0, 0, 0⟩)] ∧ H' = hpL [(0, ABk.sit true l (0 : Nat))]) := by
 exact (rc0 (smR_r0 l) hB).mono fun e fr' H' h => h
theorem smB_r0 (l : List UInt8) (pos : Nat) (c0 : decide (pos < List.length l) = true) (c1 : decide ((↑(Prod.fst (Go.Utf8.decode (ByteArray.mk (List.toArray l)) pos)) : Int) < (97 : Int)) = true) (c2 : decide ((↑(Prod.fst (Go.Utf8.decode (ByteArray.mk (List.toArray l)) pos)) : Int) < (48 : Int)) = true) (c3 : (!decide ((↑(Prod.fst (Go.Utf8.decode (ByteArray.mk (List.toArray l)) pos)) : Int) = (95 : Int))) = false) : PieceN 1 (Ex.normal) [(6, .ptr ⟨false, 0, 0, 0⟩)] [(0, ABk.sit true l (pos + Prod.snd (Go.Utf8.decode (ByteArray.mk (List.toArray l)) pos)))] (piececall0 Try.f80 (nav [1,0,1,0,0] (bodyOf Try.f80)) (frL [(6, .ptr ⟨false, 0, 0, 0⟩)]) (hpL [(0, .sit true l pos)]) 1 [true, true, true, false]) := eqn (by kernel_rfl) (ai (ai (ai (ai trivial c0) c1) c2) c3)
theorem smB_r1 (l : List UInt8) (pos : Nat) (c0 : decide (pos < List.length l) = true) (c1 : decide ((↑(Prod.fst (Go.Utf8.decode (ByteArray.mk (List.toArray l)) pos)) : Int) < (97 : Int)) = true) (c2 : decide ((↑(Prod.fst (Go.Utf8.decode (ByteArray.mk (List.toArray l)) pos)) : Int) < (48 : Int)) = true) (c3 : (!decide ((↑(Prod.fst (Go.Utf8.decode (ByteArray.mk (List.toArray l)) pos)) : Int) = (95 : Int))) = true) : PieceN 1 (Ex.ret) [(2, .bool false), (6, .ptr ⟨false, 0, 0, 0⟩)] [(0, ABk.sit true l (pos + Prod.snd (Go.Utf8.decode (ByteArray.mk (List.toArray l)) pos)))] (piececall0 Try.f80 (nav [1,0,1,0,0] (bodyOf Try.f80)) (frL [(6, .ptr ⟨false, 0, 0, 0⟩)]) (hpL [(0, .sit true l pos)]) 1 [true, true, true, true]) := eqn (by kernel_rfl) (ai (ai (ai (ai trivial c0) c1) c2) c3)
theorem smB_r2 (l : List UInt8) (pos : Nat) (c0 : decide (pos < List.length l) = true) (c1 : decide ((↑(Prod.fst (Go.Utf8.decode (ByteArray.mk (List.toArray l)) pos)) : Int) < (97 : Int)) = true) (c2 : decide ((↑(Prod.fst (Go.Utf8.decode (ByteArray.mk (List.toArray l)) pos)) : Int) < (48 : Int)) = false) (c3 : decide ((57 : Int) < (↑(Prod.fst (Go.Utf8.decode (ByteArray.mk (List.toArray l)) pos)) : Int)) = true) (c4 : (!decide ((↑(Prod.fst (Go.Utf8.decode (ByteArray.mk (List.toArray l)) pos)) : Int) = (95 : Int))) = false) : PieceN 1 (Ex.normal) [(6, .ptr ⟨false, 0, 0, 0⟩)] [(0, ABk.sit true l (pos + Prod.snd (Go.Utf8.decode (ByteArray.mk (List.toArray l)) pos)))] (piececall0 Try.f80 (nav [1,0,1,0,0] (bodyOf Try.f80)) (frL [(6, .ptr ⟨false, 0, 0, 0⟩)]) (hpL [(0, .sit true l pos)]) 1 [true, true, false, true, false]) := eqn (by kernel_rfl) (ai (ai (ai (ai (ai trivial c0) c1) c2) c3) c4)
theorem smB_r3 (l : List UInt8) (pos : Nat) (c0 : decide (pos < List.length l) = true) (c1 : decide ((↑(Prod.fst (Go.Utf8.decode (ByteArray.mk (List.toArray l)) pos)) : Int) < (97 : Int)) = true) (c2 : decide ((↑(Prod.fst (Go.Utf8.decode (ByteArray.mk (List.toArray l)) pos)) : Int) < (48 : Int)) = false) (c3 : decide ((57 : Int) < (↑(Prod.fst (Go.Utf8.decode (ByteArray.mk (List.toArray l)) pos)) : Int)) = true) (c4 : (!decide ((↑(Prod.fst (Go.Utf8.decode (ByteArray.mk (List.toArray l)) pos)) : Int) = (95 : Int))) = true) : PieceN 1 (Ex.ret) [(2, .bool false), (6, .ptr ⟨false, 0, 0, 0⟩)] [(0, ABk.sit true l (pos + Prod.snd (Go.Utf8.decode (ByteArray.mk (List.toArray l)) pos)))] (piececall0 Try.f80 (nav [1,0,1,0,0] (bodyOf Try.f80)) (frL [(6, .ptr ⟨false, 0, 0, 0⟩)]) (hpL [(0, .sit true l pos)]) 1 [true, true, false, true, true]) := eqn (by kernel_rfl) (ai (ai (ai (ai (ai trivial c0) c1) c2) c3) c4)
theorem smB_r4 (l : List UInt8) (pos : Nat) (c0 : decide (pos < List.length l) = true) (c1 : decide ((↑(Prod.fst (Go.Utf8.decode (ByteArray.mk (List.toArray l)) pos)) : Int) < (97 : Int)) = true) (c2 : decide ((↑(Prod.fst (Go.Utf8.decode (ByteArray.mk (List.toArray l)) pos)) : Int) < (48 : Int)) = false) (c3 : decide ((57 : Int) < (↑(Prod.fst (Go.Utf8.decode (ByteArray.mk (List.toArray l)) pos)) : Int)) = false) : PieceN 1 (Ex.normal) [(6, .ptr ⟨false, 0, 0, 0⟩)] [(0, ABk.sit true l (pos + Prod.snd (Go.Utf8.decode (ByteArray.mk (List.toArray l)) pos)))] (piececall0 Try.f80 (nav [1,0,1,0,0] (bodyOf Try.f80)) (frL [(6, .ptr ⟨false, 0, 0, 0⟩)]) (hpL [(0, .sit true l pos)]) 1 [true, true, false, false]) := eqn (by kernel_rfl) (ai (ai (ai (ai trivial c0) c1) c2) c3)
theorem smB_r5 (l : List UInt8) (pos : Nat) (c0 : decide (pos < List.length l) = true) (c1 : decide ((↑(Prod.fst (Go.Utf8.decode (ByteArray.mk (List.toArray l)) pos)) : Int) < (97 : Int)) = false) (c2 : decide ((122 : Int) < (↑(Prod.fst (Go.Utf8.decode (ByteArray.mk (List.toArray l)) pos)) : Int)) = true) (c3 : decide ((↑(Prod.fst (Go.Utf8.decode (ByteArray.mk (List.toArray l)) pos)) : Int) < (48 : Int)) = true) (c4 : (!decide ((↑(Prod.fst (Go.Utf8.decode (ByteArray.mk (List.toArray l)) pos)) : Int) = (95 : Int))) = false) : PieceN 1 (Ex.normal) [(6, .ptr ⟨false, 0, 0, 0⟩)] [(0, ABk.sit true l (pos + Prod.snd (Go.Utf8.decode (ByteArray.mk (List.toArray l)) pos)))] (piececall0 Try.f80 (nav [1,0,1,0,0] (bodyOf Try.f80)) (frL [(6, .ptr ⟨false, 0, 0, 0⟩)]) (hpL [(0, .sit true l pos)]) 1 [true, false, true, true, false]) := eqn (by kernel_rfl) (ai (ai (ai (ai (ai trivial c0) c1) c2) c3) c4)
theorem smB_r6 (l : List UInt8) (pos : Nat) (c0 : decide (pos < List.length l) = true) (c1 : decide ((↑(Prod.fst (Go.Utf8.decode (ByteArray.mk (List.toArray l)) pos)) : Int) < (97 : Int)) = false) (c2 : decide ((122 : Int) < (↑(Prod.fst (Go.Utf8.decode (ByteArray.mk (List.toArray l)) pos)) : Int)) = true) (c3 : decide ((↑(Prod.fst (Go.Utf8.decode (ByteArray.mk (List.toArray l)) pos)) : Int) < (48 : Int)) = true) (c4 : (!decide ((↑(Prod.fst (Go.Utf8.decode (ByteArray.mk (List.toArray l)) pos)) : Int) = (95 : Int))) = true) : PieceN 1 (Ex.ret) [(2, .bool false), (6, .ptr ⟨false, 0, 0, 0⟩)] [(0, ABk.sit true l (pos + Prod.snd (Go.Utf8.decode (ByteArray.mk (List.toArray l)) pos)))] (piececall0 Try.f80 (nav [1,0,1,0,0] (bodyOf Try.f80)) (frL [(6, .ptr ⟨false, 0, 0, 0⟩)]) (hpL [(0, .sit true l pos)]) 1 [true, false, true, true, true]) := eqn (by kernel_rfl) (ai (ai (ai (ai (ai trivial c0) c1) c2) c3) c4)
theorem smB_r7 (l : List UInt8) (pos : Nat) (c0 : decide (pos < List.length l) = true) (c1 : decide ((↑(Prod.fst (Go.Utf8.decode (ByteArray.mk (List.toArray l)) pos)) : Int) < (97 : Int)) = false) (c2 : decide ((122 : Int) < (↑(Prod.fst (Go.Utf8.decode (ByteArray.mk (List.toArray l)) pos)) : Int)) = true) (c3 : decide ((↑(Prod.fst (Go.Utf8.decode (ByteArray.mk (List.toArray l)) pos)) : Int) < (48 : Int)) = false) (c4 : decide ((57 : Int) < (↑(Prod.fst (Go.Utf8.decode (ByteArray.mk (List.toArray l)) pos)) : Int)) = true) (c5 : (!decide ((↑(Prod.fst (Go.Utf8.decode (ByteArray.mk (List.toArray l)) pos)) : Int) = (95 : Int))) = false) : PieceN 1 (Ex.normal) [(6, .ptr ⟨false, 0, 0, 0⟩)] [(0, ABk.sit true l (pos + Prod.snd (Go.Utf8.decode (ByteArray.mk (List.toArray l)) pos)))] (piececall0 Try.f80 (nav [1,0,1,0,0] (bodyOf Try.f80)) (frL [(6, .ptr ⟨false, 0, 0, 0⟩)]) (hpL [(0, .sit true l pos)]) 1 [true, false, true, false, true, false]) := eqn (by kernel_rfl) (ai (ai (ai (ai (ai (ai trivial c0) c1) c2) c3) c4) c5)
theorem smB_r8 (l : List UInt8) (pos : Nat) (c0 : decide (pos < List.length l) = true) (c1 : decide ((↑(Prod.fst (Go.Utf8.decode (ByteArray.mk (List.toArray l)) pos)) : Int) < (97 : Int)) = false) (c2 : decide ((122 : Int) < (↑(Prod.fst (Go.Utf8.decode (ByteArray.mk (List.toArray l)) pos)) : Int)) = true) (c3 : decide ((↑(Prod.fst (Go.Utf8.decode (ByteArray.mk (List.toArray l)) pos)) : Int) < (48 : Int)) = false) (c4 : decide ((57 : Int) < (↑(Prod.fst (Go.Utf8.decode (ByteArray.mk (List.toArray l)) pos)) : Int)) = true) (c5 : (!decide ((↑(Prod.fst (Go.Utf8.decode (ByteArray.mk (List.toArray l)) pos)) : Int) = (95 : Int))) = true) : PieceN 1 (Ex.ret) [(2, .bool false), (6, .ptr ⟨false, 0, 0, 0⟩)] [(0, ABk.sit true l (pos + Prod.snd (Go.Utf8.decode (ByteArray.mk (List.toArray l)) pos)))] (piececall0 Try.f80 (nav [1,0,1,0,0] (bodyOf Try.f80)) (frL [(6, .ptr ⟨false, 0, 0, 0⟩)]) (hpL [(0, .sit true l pos)]) 1 [true, false, true, false, true, true]) := eqn (by kernel_rfl) (ai (ai (ai (ai (ai (ai trivial c0) c1) c2) c3) c4) c5)
theorem smB_r9 (l : List UInt8) (pos : Nat) (c0 : decide (pos < List.length l) = true) (c1 : decide ((↑(Prod.fst (Go.Utf8.decode (ByteArray.mk (List.toArray l)) pos)) : Int) < (97 : Int)) = false) (c2 : decide ((122 : Int) < (↑(Prod.fst (Go.Utf8.decode (ByteArray.mk (List.toArray l)) pos)) : Int)) = true) (c3 : decide ((↑(Prod.fst (Go.Utf8.decode (ByteArray.mk (List.toArray l)) pos)) : Int) < (48 : Int)) = false) (c4 : decide ((57 : Int) < (↑(Prod.fst (Go.Utf8.decode (ByteArray.mk (List.toArray l)) pos)) : Int)) = false) : PieceN 1 (Ex.normal) [(6, .ptr ⟨false, 0, 0, 0⟩)] [(0, ABk.sit true l (pos + Prod.snd (Go.Utf8.decode (ByteArray.mk (List.toArray l)) pos)))] (piececall0 Try.f80 (nav [1,0,1,0,0] (bodyOf Try.f80)) (frL [(6, .ptr ⟨false, 0, 0, 0⟩)]) (hpL [(0, .sit true l pos)]) 1 [true, false, true, false, false]) := eqn (by kernel_rfl) (ai (ai (ai (ai (ai trivial c0) c1) c2) c3) c4)
theorem smB_r10 (l : List UInt8) (pos : Nat) (c0 : decide (pos < List.length l) = true) (c1 : decide ((↑(Prod.fst (Go.Utf8.decode (ByteArray.mk (List.toArray l)) pos)) : Int) < (97 : Int)) = false) (c2 : decide ((122 : Int) < (↑(Prod.fst (Go.Utf8.decode (ByteArray.mk (List.toArray l)) pos)) : Int)) = false) : PieceN 1 (Ex.normal) [(6, .ptr ⟨false, 0, 0, 0⟩)] [(0, ABk.sit true l (pos + Prod.snd (Go.Utf8.decode (ByteArray.mk (List.toArray l)) pos)))] (piececall0 Try.f80 (nav [1,0,1,0,0] (bodyOf Try.f80)) (frL [(6, .ptr ⟨false, 0, 0, 0⟩)]) (hpL [(0, .sit true l pos)]) 1 [true, false, false]) := eqn (by kernel_rfl) (ai (ai (ai trivial c0) c1) c2)
theorem smB_r11 (l : List UInt8) (pos : Nat) (c0 : decide (pos < List.length l) = false) : PieceN 1 (Ex.exit (0 : Nat)) [(6, .ptr ⟨false, 0, 0, 0⟩)] [(0, ABk.sit true l pos)] (piececall0 Try.f80 (nav [1,0,1,0,0] (bodyOf Try.f80)) (frL [(6, .ptr ⟨false, 0, 0, 0⟩)]) (hpL [(0, .sit true l pos)]) 1 [false]) := eqn (by kernel_rfl) (ai trivial c0)
theorem smB (B : Nat) (hB : B ≤ 1) (l : List UInt8) (pos : Nat) : GoesB Try.prog (nav [1,0,1,0,0] (bodyOf Try.f80)) Try.f80.ntmps B 1 1 (frL [(6, .ptr ⟨false, 0, 0, 0⟩)]) (hpL [(0, .sit true l pos)]) fun e fr' H' => (cond (decide (pos < List.length l)) (cond (decide ((↑(Prod.fst (Go.Utf8.decode (ByteArray.mk (List.toArray l)) pos)) : Int) < (97 : Int))) (cond (decide ((↑(Prod.fst (Go.Utf8.decode (ByteArray.mk (List.toArray l)) pos)) : Int) < (48 : Int))) (cond (decide ((↑(Prod.fst (Go.Utf8.decode (ByteArray.mk (List.toArray l)) pos)) : Int) = (95 : Int))) (e = .normal ∧ fr' = frL [(6, .ptr ⟨false, 0, 0, 0⟩)] ∧ H' = hpL [(0, ABk.sit true l (pos + Prod.snd (Go.Utf8.decode (ByteArray.mk (List.toArray l)) pos)))]) (e = .ret ∧ fr' = frL [(2, .bool false), (6, .ptr ⟨false, 0, 0, 0⟩)] ∧ H' = hpL [(0, ABk.sit true l (pos + Prod.snd (Go.Utf8.decode (ByteArray.mk (List.toArray l)) pos)))])) (cond (decide ((57 : Int) < (↑(Prod.fst (Go.Utf8.decode (ByteArray.mk (List.toArray l)) pos)) : Int))) (cond (decide ((↑(Prod.fst (Go.Utf8.decode (ByteArray.mk (List.toArray l)) pos)) : Int) = (95 : Int))) (e = .normal ∧ fr' = frL [(6, .ptr ⟨false, 0, 0, 0⟩)] ∧ H' = hpL [(0, ABk.sit true l (pos + Prod.snd (Go.Utf8.decode (ByteArray.mk (List.toArray l)) pos)))]) (e = .ret ∧ fr' = frL [(2, .bool false), (6, .ptr ⟨false, 0, 0, 0⟩)] ∧ H' = hpL [(0, ABk.sit true l (pos + Prod.snd (Go.Utf8.decode (ByteArray.mk (List.toArray l)) pos)))])) (e = .normal ∧ fr' = frL [(6, .ptr ⟨false, 0, 0, 0⟩)] ∧ H' = hpL [(0, ABk.sit true l (pos + Prod.snd (Go.Utf8.decode (ByteArray.mk (List.toArray l)) pos)))]))) (cond (decide ((122 : Int) < (↑(Prod.fst (Go.Utf8.decode (ByteArray.mk (List.toArray l)) pos)) : Int))) (cond (decide ((↑(Prod.fst (Go.Utf8.decode (ByteArray.mk (List.toArray l)) pos)) : Int) < (48 : Int))) (cond (decide ((↑(Prod.fst (Go.Utf8.decode (ByteArray.mk (List.toArray l)) pos)) : Int) = (95 : Int))) (e = .normal ∧ fr' = frL [(6, .ptr ⟨false, 0, 0, 0⟩)] ∧ H' = hpL [(0, ABk.sit true l (pos + Prod.snd (Go.Utf8.decode (ByteArray.mk (List.toArray l)) pos)))]) (e = .ret ∧ fr' = frL [(2, .bool false), (6, .ptr ⟨false, 0, 0, 0⟩)] ∧ H' = hpL [(0, ABk.sit true l (pos + Prod.snd (Go.Utf8.decode (ByteArray.mk (List.toArray l)) pos)))])) (cond (decide ((57 : Int) < (↑(Prod.fst (Go.Utf8.decode (ByteArray.mk (List.toArray l)) pos)) : Int))) (cond (decide ((↑(Prod.fst (Go.Utf8.decode (ByteArray.mk (List.toArray l)) pos)) : Int) = (95 : Int))) (e = .normal ∧ fr' = frL [(6, .ptr ⟨false, 0, 0, 0⟩)] ∧ H' = hpL [(0, ABk.sit true l (pos + Prod.snd (Go.Utf8.decode (ByteArray.mk (List.toArray l)) pos)))]) (e = .ret ∧ fr' = frL [(2, .bool false), (6, .ptr ⟨false, 0, 0, 0⟩)] ∧ H' = hpL [(0, ABk.sit true l (pos + Prod.snd (Go.Utf8.decode (ByteArray.mk (List.toArray l)) pos)))])) (e = .normal ∧ fr' = frL [(6, .ptr ⟨false, 0, 0, 0⟩)] ∧ H' = hpL [(0, ABk.sit true l (pos + Prod.snd (Go.Utf8.decode (ByteArray.mk (List.toArray l)) pos)))]))) (e = .normal ∧ fr' = frL [(6, .ptr ⟨false, 0, 0, 0⟩)] ∧ H' = hpL [(0, ABk.sit true l (pos + Prod.snd (Go.Utf8.decode (ByteArray.mk (List.toArray l)) pos)))]))) (e = .exit 0 ∧ fr' = frL [(6, .ptr ⟨false, 0, 0, 0⟩)] ∧ H' = hpL [(0, ABk.sit true l pos)])) := by
 cases t0 : decide (pos < List.length l) with
 | true =>
  cases t1 : decide ((↑(Prod.fst (Go.Utf8.decode (ByteArray.mk (List.toArray l)) pos)) : Int) < (97 : Int)) with
  | true =>
   cases t2 : decide ((↑(Prod.fst (Go.Utf8.decode (ByteArray.mk (List.toArray l)) pos)) : Int) < (48 : Int)) with
   | true =>
    cases t3 : decide ((↑(Prod.fst (Go.Utf8.decode (ByteArray.mk (List.toArray l)) pos)) : Int) = (95 : Int)) with
    | true =>
     exact (rc0 (smB_r0 l pos t0 t1 t2 (by rw [t3]; rfl)) hB).mono fun e fr' H' h => by first | (simp only [t0, t1, t2, t3, cond_true, cond_false]; exact h) | (simp only [t0, t1, t2, t3, cond_true, cond_false] at h ⊢; exact h)
    | false =>
     exact (rc0 (smB_r1 l pos t0 t1 t2 (by rw [t3]; rfl)) hB).mono fun e fr' H' h => by first | (simp only [t0, t1, t2, t3, cond_true, cond_false]; exact h) | (simp only [t0, t1, t2, t3, cond_true, cond_false] at h ⊢; exact h)
   | false =>
    cases t3 : decide ((57 : Int) < (↑(Prod.fst (Go.Utf8.decode (ByteArray.mk (List.toArray l)) pos)) : Int)) with
    | true =>
     cases t4 : decide ((↑(Prod.fst (Go.Utf8.decode (ByteArray.mk (List.toArray l)) pos)) : Int) = (95 : Int)) with
     | true =>
      exact (rc0 (smB_r2 l pos t0 t1 t2 t3 (by rw [t4]; rfl)) hB).mono fun e fr' H' h => by first | (simp only [t0, t1, t2, t3, t4, cond_true, cond_false]; exact h) | (simp only [t0, t1, t2, t3, t4, cond_true, cond_false] at h ⊢; exact h)
     | false =>
      exact (rc0 (smB_r3 l pos t0 t1 t2 t3 (by rw [t4]; rfl)) hB).mono fun e fr' H' h => by first | (simp only [t0, t1, t2, t3, t4, cond_true, cond_false]; exact h) | (simp only [t0, t1, t2, t3, t4, cond_true, cond_false] at h ⊢; exact h)
    | false =>
     exact (rc0 (smB_r4 l pos t0 t1 t2 t3) hB).mono fun e fr' H' h => by first | (simp only [t0, t1, t2, t3, cond_true, cond_false]; exact h) | (simp only [t0, t1, t2, t3, cond_true, cond_false] at h ⊢; exact h)
  | false =>
   cases t2 : decide ((122 : Int) < (↑(Prod.fst (Go.Utf8.decode (ByteArray.mk (List.toArray l)) pos)) : Int)) with
   | true =>
    cases t3 : decide ((↑(Prod.fst (Go.Utf8.decode (ByteArray.mk (List.toArray l)) pos)) : Int) < (48 : Int)) with
    | true =>
     cases t4 : decide ((↑(Prod.fst (Go.Utf8.decode (ByteArray.mk (List.toArray l)) pos)) : Int) = (95 : Int)) with
     | true =>
      exact (rc0 (smB_r5 l pos t0 t1 t2 t3 (by rw [t4]; rfl)) hB).mono fun e fr' H' h => by first | (simp only [t0, t1, t2, t3, t4, cond_true, cond_false]; exact h) | (simp only [t0, t1, t2, t3, t4, cond_true, cond_false] at h ⊢; exact h)
     | false =>
      exact (rc0 (smB_r6 l pos t0 t1 t2 t3 (by rw [t4]; rfl)) hB).mono fun e fr' H' h => by first | (simp only [t0, t1, t2, t3, t4, cond_true, cond_false]; exact h) | (simp only [t0, t1, t2, t3, t4, cond_true, cond_false] at h ⊢; exact h)
    | false =>
     cases t4 : decide ((57 : Int) < (↑(Prod.fst (Go.Utf8.decode (ByteArray.mk (List.toArray l)) pos)) : Int)) with
     | true =>
      cases t5 : decide ((↑(Prod.fst (Go.Utf8.decode (ByteArray.mk (List.toArray l)) pos)) : Int) = (95 : Int)) with
      | true =>
       exact (rc0 (smB_r7 l pos t0 t1 t2 t3 t4 (by rw [t5]; rfl)) hB).mono fun e fr' H' h => by first | (simp only [t0, t1, t2, t3, t4, t5, cond_true, cond_false]; exact h) | (simp only [t0, t1, t2, t3, t4, t5, cond_true, cond_false] at h ⊢; exact h)
      | false =>
       exact (rc0 (smB_r8 l pos t0 t1 t2 t3 t4 (by rw [t5]; rfl)) hB).mono fun e fr' H' h => by first | (simp only [t0, t1, t2, t3, t4, t5, cond_true, cond_false]; exact h) | (simp only [t0, t1, t2, t3, t4, t5, cond_true, cond_false] at h ⊢; exact h)
     | false =>
      exact (rc0 (smB_r9 l pos t0 t1 t2 t3 t4) hB).mono fun e fr' H' h => by first | (simp only [t0, t1, t2, t3, t4, cond_true, cond_false]; exact h) | (simp only [t0, t1, t2, t3, t4, cond_true, cond_false] at h ⊢; exact h)
   | false =>
    exact (rc0 (smB_r10 l pos t0 t1 t2) hB).mono fun e fr' H' h => by first | (simp only [t0, t1, t2, cond_true, cond_false]; exact h) | (simp only [t0, t1, t2, cond_true, cond_false] at h ⊢; exact h)
 | false =>
  exact (rc0 (smB_r11 l pos t0) hB).mono fun e fr' H' h => by first | (simp only [t0, cond_true, cond_false]; exact h) | (simp only [t0, cond_true, cond_false] at h ⊢; exact h)
theorem smZ_r0  : PieceN 1 (Ex.ret) [(2, .bool true)] [] (piececall0 Try.f80 (nav [1,1] (bodyOf Try.f80)) (frL []) (hpL []) 1 []) := eqn (by kernel_rfl) trivial
theorem smZ (B : Nat) (hB : B ≤ 1)  : GoesB Try.prog (nav [1,1] (bodyOf Try.f80)) Try.f80.ntmps B 1 1 (frL []) (hpL []) fun e fr' H' => (e = .ret ∧ fr' = frL [(2, .bool true)] ∧ H' = hpL []) := by
 exact (rc0 (smZ_r0 ) hB).mono fun e fr' H' h => h
def okB (b : UInt8) : Bool := (decide (97 ≤ b.toNat) && decide (b.toNat ≤ 122)) || (decide (48 ≤ b.toNat) && decide (b.toNat ≤ 57)) || decide (b.toNat = 95)
theorem rune_at (l : List UInt8) (pos : Nat) (h : pos < l.length) : (l[pos].toNat < 128 ∧ Utf8.decode ⟨l.toArray⟩ pos = (l[pos].toNat, 1)) ∨ (128 ≤ l[pos].toNat ∧ 128 ≤ (Utf8.decode ⟨l.toArray⟩ pos).1) := by
 have hs : pos < (⟨l.toArray⟩ : ByteArray).size := by rw [ba_size]; exact h
 have e : (⟨l.toArray⟩ : ByteArray)[pos]'hs = l[pos] := rfl
 by_cases hb : l[pos].toNat < 128
 ·exact .inl ⟨hb, decode_ascii _ pos hs hb⟩
 ·exact .inr ⟨by omega, (decode_high _ pos hs (by rw [e]; omega)).1⟩
theorem take_all (l : List UInt8) (pos : Nat) (h : pos < l.length) (hp : (l.take pos).all okB = true) (hk : okB l[pos] = true) : (l.take (pos + 1)).all okB = true := by
 rw [List.take_succ_eq_append_getElem h, List.all_append, hp]; simp [hk]
theorem all_false (l : List UInt8) (pos : Nat) (h : pos < l.length) (hk : okB l[pos] = false) : l.all okB = false := by
 rw [List.all_eq_false]; exact ⟨l[pos], List.getElem_mem h, by simp [hk]⟩
theorem okB_iff (b : UInt8) : okB b = true ↔ ((97 ≤ b.toNat ∧ b.toNat ≤ 122) ∨ (48 ≤ b.toNat ∧ b.toNat ≤ 57) ∨ b.toNat = 95) := by
 unfold okB; simp only [Bool.or_eq_true, Bool.and_eq_true, decide_eq_true_eq]; omega
theorem okB_not (b : UInt8) : okB b = false ↔ ¬ ((97 ≤ b.toNat ∧ b.toNat ≤ 122) ∨ (48 ≤ b.toNat ∧ b.toNat ≤ 57) ∨ b.toNat = 95) := by
 rw [← okB_iff]; simp
def smI (l : List UInt8) (k : Nat) (fr : Fr) (H : T ABk) : Prop :=
 ∃ pos, k = l.length - pos ∧ (l.take pos).all okB = true ∧ fr = frL [(6, .ptr ⟨false, 0, 0, 0⟩)] ∧ H = hpL [(0, .sit true l pos)]
def smPost (l : List UInt8) : Po := fun e fr H => (e = .exit 0 ∧ l.all okB = true) ∨ (e = .ret ∧ l.all okB = false ∧ fr.get 2 = some (.bool false))
theorem sm_body (l : List UInt8) (k : Nat) (fr : Fr) (H : T ABk) (hI : smI l k fr H) : GoesB Try.prog (nav [1,0,1,0,0] (bodyOf Try.f80)) Try.f80.ntmps 0 1 1 fr H fun e fr' H' => match e with
   | .normal => ∃ k', k' < k ∧ smI l k' fr' H'
   | e => smPost l e fr' H' := by
 obtain ⟨pos, rfl, hp, rfl, rfl⟩ := hI
 refine (smB 0 (by omega) l pos).mono fun e fr' H' h => ?_
 refine cond_elim h (fun t0 h => ?_) (fun t0 h => ?_)
 ·have hlt := of_decide_eq_true t0
  have ru := rune_at l pos hlt
  have hok := okB_iff l[pos]
  have hno := okB_not l[pos]
  have go : okB l[pos] = true → (Utf8.decode ⟨l.toArray⟩ pos).2 = 1 → ∃ k', k' < l.length - pos ∧ smI l k' (frL [(6, .ptr ⟨false, 0, 0, 0⟩)]) (hpL [(0, .sit true l (pos + (Utf8.decode ⟨l.toArray⟩ pos).2))]) := fun hk hw => by
   rw [hw]
   exact ⟨l.length - (pos + 1), by omega, pos + 1, rfl, take_all l pos hlt hp hk, rfl, rfl⟩
  obtain ⟨r, hr⟩ : ∃ r : Nat × Nat, Utf8.decode ⟨l.toArray⟩ pos = r := ⟨_, rfl⟩
  rw [hr] at ru h go
  have ru' : (l[pos].toNat < 128 ∧ r.1 = l[pos].toNat ∧ r.2 = 1) ∨ (128 ≤ l[pos].toNat ∧ 128 ≤ r.1) := by
   rcases ru with ⟨h1, h2⟩ | h
   ·exact .inl ⟨h1, by rw [h2], by rw [h2]⟩
   ·exact .inr h
  repeat' (refine cond_elim h (fun t1 h => ?_) (fun t1 h => ?_) <;> first | replace t1 := of_decide_eq_true t1 | replace t1 := of_decide_eq_false t1)
  all_goals (obtain ⟨rfl, rfl, rfl⟩ := h)
  all_goals (first | (exact go (hok.2 (by omega)) (by omega)) | (exact .inr ⟨rfl, all_false l pos hlt (hno.2 (by omega)), rfl⟩))
 ·obtain ⟨rfl, rfl, rfl⟩ := h
  refine .inl ⟨rfl, ?_⟩
  rw [List.take_of_length_le (by have := of_decide_eq_false t0; omega)] at hp
  exact hp
theorem sm_is : bodyOf Try.f80 = .seq (nav [0] (bodyOf Try.f80)) (.seq (.seq (nav [1,0,0] (bodyOf Try.f80)) (.block 0 (.loop (nav [1,0,1,0,0] (bodyOf Try.f80))))) (nav [1,1] (bodyOf Try.f80))) := by kernel_rfl
theorem sm_goes (l : List UInt8) : GoesB Try.prog (bodyOf Try.f80) Try.f80.ntmps 0 0 1 (frameOf [.str true l] 0 .e) (hpL []) fun e fr' H' => (e = .ret ∨ e = .normal) ∧ fr'.get 2 = some (.bool (l.all okB)) := by
 rw [sm_is]
 refine GoesB.seq (K1 := 0) (by omega) ((smA 0 (by omega) l).mono fun e fr' H' ⟨e1, e2, e3⟩ => ?_)
 subst e1 e2 e3
 refine GoesB.seq (K1 := 1) (by omega) (GoesB.seq (K1 := 1) (by omega) ((smR 0 (by omega) l).mono fun e fr' H' ⟨e1, e2, e3⟩ => ?_))
 subst e1 e2 e3
 refine GoesB.block ((GoesB.loop (smI l) (Post := smPost l) (sm_body l) _ _ _ ⟨0, rfl, by simp, rfl, rfl⟩).mono fun e fr' H' hp => ?_)
 rcases hp with ⟨rfl, h1⟩ | ⟨rfl, h1, h2⟩
 ·simp only [if_true]
  refine GoesB.weakL (fl := []) (bl := []) trivial trivial ((smZ 0 (by omega)).mono fun e fr' H' ⟨e1, e2, e3⟩ => ?_)
  subst e1 e2 e3
  exact ⟨.inl rfl, by rw [h1]; rfl⟩
 ·exact ⟨.inl rfl, by rw [h1]; exact h2⟩
noncomputable def smallS : List AV → M AV
 | [.str s l] => M.ret (cmpB s (l.all okB))
 | args => call0 80 args
theorem smallS_ok : ∀ args v g g', smallS args g = .done v g' → CallIs Try.prog 80 args v g g' := by
 intro args v g g' h
 unfold smallS at h
 split at h
 ·rename_i s l
  obtain ⟨rfl, rfl⟩ := ret_done h
  refine reads (c := bodyOf Try.f80) Try.func80 (by kernel_rfl) (by kernel_rfl) (g1 := g) (p := True) (Keep.refl g) [] (fun _ v hv => by cases hv) (argsC := [.str true l]) (fun _ N μ cs h => by simpa only [Reps, Rep] using h) (nms := []) (bs := []) (K' := 1) (fun _ => (sm_goes l).mono fun e fr' H' ⟨h1, h2⟩ => ⟨h1, [.bool (l.all okB)], ⟨H', 1, [], [], True⟩, ?_, trivial, ?_, ⟨rfl, fun i b h => by simp at h, List.nodup_nil⟩⟩) (by cases s <;> rfl) (by cases s <;> trivial) rfl rfl id
  ·have e : Try.f80.results.toList = [.tmp 2] := by kernel_rfl
   rw [e]
   simp only [resultsA, resultA, h2, Option.getD_some]
   rfl
  ·cases s
   ·exact AV.ge.refl _
   ·exact AV.ge.bool _
 ·exact call0_ok _ _ _ _ _ h
theorem smallS_tch : ∀ args, Tch (smallS args) := by
 intro args
 unfold smallS
 split
 ·exact Tch.ret _
 ·exact call0_tch _ _
theorem kind_0 (n : Nat) (hE : decide (kE n = 0) = true) (hR : decide (kR n = 0) = true) : PureP (AV.int false .i64 0) (call0 61 [.raw true n] (G.on [true, true])) := by
 have e : pureP (AV.int false .i64 0) (call0 61 [.raw true n] (G.on [true, true])) = (AV.int false .i64 0 = AV.int false .i64 0 ∧ ((((True ∧ (0 : Int) ≤ 52) ∧ (0 : Int) ≤ 12) ∧ decide (kE n = 0) = true) ∧ decide (kR n = 0) = true)) := by kernel_rfl
 exact ⟨by rw [e]; exact ⟨rfl, ⟨⟨⟨⟨trivial, by decide⟩, by decide⟩, hE⟩, hR⟩⟩⟩
theorem kind_1 (n : Nat) (hE : decide (kE n = 0) = true) (hR : decide (kR n = 0) = false) : PureP (AV.int false .i64 1) (call0 61 [.raw true n] (G.on [true, false, true])) := by
 have e : pureP (AV.int false .i64 1) (call0 61 [.raw true n] (G.on [true, false, true])) = (AV.int false .i64 1 = AV.int false .i64 1 ∧ (((((True ∧ (0 : Int) ≤ 52) ∧ (0 : Int) ≤ 12) ∧ decide (kE n = 0) = true) ∧ decide (kR n = 0) = false) ∧ decide (kE n = 0) = true)) := by kernel_rfl
 exact ⟨by rw [e]; exact ⟨rfl, ⟨⟨⟨⟨⟨trivial, by decide⟩, by decide⟩, hE⟩, hR⟩, hE⟩⟩⟩
theorem kind_2 (n : Nat) (hE : decide (kE n = 0) = false) (hL : decide (kE n < 2047) = true) : PureP (AV.int false .i64 2) (call0 61 [.raw true n] (G.on [false, false, true])) := by
 have e : pureP (AV.int false .i64 2) (call0 61 [.raw true n] (G.on [false, false, true])) = (AV.int false .i64 2 = AV.int false .i64 2 ∧ (((((True ∧ (0 : Int) ≤ 52) ∧ (0 : Int) ≤ 12) ∧ decide (kE n = 0) = false) ∧ decide (kE n = 0) = false) ∧ decide (kE n < 2047) = true)) := by kernel_rfl
 exact ⟨by rw [e]; exact ⟨rfl, ⟨⟨⟨⟨⟨trivial, by decide⟩, by decide⟩, hE⟩, hE⟩, hL⟩⟩⟩
theorem kind_3 (n : Nat) (hE : decide (kE n = 0) = false) (hL : decide (kE n < 2047) = false) (hR : decide (kR n = 0) = true) : PureP (AV.int false .i64 3) (call0 61 [.raw true n] (G.on [false, false, false, true])) := by
 have e : pureP (AV.int false .i64 3) (call0 61 [.raw true n] (G.on [false, false, false, true])) = (AV.int false .i64 3 = AV.int false .i64 3 ∧ ((((((True ∧ (0 : Int) ≤ 52) ∧ (0 : Int) ≤ 12) ∧ decide (kE n = 0) = false) ∧ decide (kE n = 0) = false) ∧ decide (kE n < 2047) = false) ∧ decide (kR n = 0) = true)) := by kernel_rfl
 exact ⟨by rw [e]; exact ⟨rfl, ⟨⟨⟨⟨⟨⟨trivial, by decide⟩, by decide⟩, hE⟩, hE⟩, hL⟩, hR⟩⟩⟩
theorem kind_4 (n : Nat) (hE : decide (kE n = 0) = false) (hL : decide (kE n < 2047) = false) (hR : decide (kR n = 0) = false) : PureP (AV.int false .i64 4) (call0 61 [.raw true n] (G.on [false, false, false, false])) := by
 have e : pureP (AV.int false .i64 4) (call0 61 [.raw true n] (G.on [false, false, false, false])) = (AV.int false .i64 4 = AV.int false .i64 4 ∧ ((((((True ∧ (0 : Int) ≤ 52) ∧ (0 : Int) ≤ 12) ∧ decide (kE n = 0) = false) ∧ decide (kE n = 0) = false) ∧ decide (kE n < 2047) = false) ∧ decide (kR n = 0) = false)) := by kernel_rfl
 exact ⟨by rw [e]; exact ⟨rfl, ⟨⟨⟨⟨⟨⟨trivial, by decide⟩, by decide⟩, hE⟩, hE⟩, hL⟩, hR⟩⟩⟩
noncomputable def kindS : List AV → M AV
 | [.flt s n] => M.ret (.int s .i64 (kindDef n))
 | [.raw s n] => M.ret (.int s .i64 (kindDef n))
 | _ => M.no
theorem kind_road (n : Nat) : ∃ path lv, PureP lv (call0 61 [.raw true n] (G.on path)) ∧ lv = AV.int false .i64 (kindDef n) := by
 cases hE : decide (kE n = 0) with
 | true =>
  cases hR : decide (kR n = 0) with
  | true => exact ⟨_, _, kind_0 n hE hR, by simp only [kindDef, hE, hR, cond_true]⟩
  | false => exact ⟨_, _, kind_1 n hE hR, by simp only [kindDef, hE, hR, cond_true, cond_false]⟩
 | false =>
  cases hL : decide (kE n < 2047) with
  | true => exact ⟨_, _, kind_2 n hE hL, by simp only [kindDef, hE, hL, cond_true, cond_false]⟩
  | false =>
   cases hR : decide (kR n = 0) with
   | true => exact ⟨_, _, kind_3 n hE hL hR, by simp only [kindDef, hE, hL, hR, cond_true, cond_false]⟩
   | false => exact ⟨_, _, kind_4 n hE hL hR, by simp only [kindDef, hE, hL, hR, cond_true, cond_false]⟩
theorem kindS_ok : ∀ args v g g', kindS args g = .done v g' → CallIs Try.prog 61 args v g g' := by
 intro args v g g' h
 unfold kindS at h
 split at h
 ·rename_i s n
  obtain ⟨rfl, rfl⟩ := ret_done h
  refine scal call0_ok fun μ cargs ha => ?_
  obtain ⟨c, rfl, hx⟩ := ha.one
  simp only [Rep] at hx
  obtain ⟨b, rfl, hb⟩ := hx
  obtain ⟨path, lv, h1, rfl⟩ := kind_road b
  refine ⟨[.raw true b], path, _, ?_, h1, rfl, fun c hc => ?_⟩
  ·simp only [Reps, Rep]; exact ⟨_, _, rfl, ⟨rfl, hb.2⟩, rfl⟩
  ·have := hc 0 MM.none
   simp only [Rep] at this ⊢
   rw [this, ← hb.1, kind_cn hb.2]
 ·rename_i s n
  obtain ⟨rfl, rfl⟩ := ret_done h
  refine scal call0_ok fun μ cargs ha => ?_
  obtain ⟨c, rfl, hx⟩ := ha.one
  simp only [Rep] at hx
  obtain ⟨rfl, hb⟩ := hx
  obtain ⟨path, lv, h1, rfl⟩ := kind_road n
  refine ⟨[.raw true n], path, _, ?_, h1, rfl, fun c hc => ?_⟩
  ·simp only [Reps, Rep]; exact ⟨_, _, rfl, ⟨rfl, hb⟩, rfl⟩
  ·have := hc 0 MM.none
   simpa only [Rep] using this
 ·exact (no_done h).elim
theorem kindS_tch : ∀ args, Tch (kindS args) := by
 intro args
 unfold kindS
 split
 ·exact Tch.ret _
 ·exact Tch.ret _
 ·exact Tch.no
noncomputable def gam1 : Known := kc 37 ofBits (kc 72 toBits (kc 80 smallS (kc 61 kindS (kn))))
theorem gam1_ok : KnownOk Try.prog gam1 := kc_ok ((ofBits_is Try.prog).callIs Try.func37 (by kernel_rfl) (by kernel_rfl) (by kernel_rfl) (by kernel_rfl)) (kc_ok ((toBits_is Try.prog).callIs Try.func72 (by kernel_rfl) (by kernel_rfl) (by kernel_rfl) (by kernel_rfl)) (kc_ok smallS_ok (kc_ok kindS_ok (kn_ok))))
theorem gam1_tch : KnownT gam1 := kc_tch Tch.ofBits (kc_tch Tch.toBits (kc_tch smallS_tch (kc_tch kindS_tch (kn_tch))))
noncomputable def call1 : Calls' := Sx.runN Try.prog gam1 (regionC Try.prog) 1000 50
theorem call1_ok : CallOk Try.prog call1 := engineC gam1_ok gam1_tch (by kernel_rfl) (by kernel_rfl) 1000 50
theorem call1_tch : CallT call1 := runA_tch gam1_tch (fun _ _ _ h => by cases h) (fun call hc n l fr => regionC_tch hc n l fr) 50
theorem rowOf_r0 (k : Int) (c0 : decide (k = (1 : Int)) = true) : PureP (AV.tup [AV.agg [AV.int false .u8 82, AV.str false [(111 : UInt8), (104 : UInt8), (109 : UInt8)], AV.bool true, AV.bool false, AV.bool false], AV.bool true]) (call1 58 [.int true .u8 k] (G.on [true])) := eqq (q := (True ∧ (decide (k = (1 : Int)) = true))) (by kernel_rfl) ⟨trivial, c0⟩
theorem rowOf_r1 (k : Int) (c0 : decide (k = (1 : Int)) = false) (c1 : decide (k = (2 : Int)) = true) : PureP (AV.tup [AV.agg [AV.int false .u8 76, AV.str false [(104 : UInt8), (101 : UInt8), (110 : UInt8), (114 : UInt8), (121 : UInt8)], AV.bool true, AV.bool false, AV.bool false], AV.bool true]) (call1 58 [.int true .u8 k] (G.on [false, true])) := eqq (q := ((True ∧ (decide (k = (1 : Int)) = false)) ∧ (decide (k = (2 : Int)) = true))) (by kernel_rfl) ⟨⟨trivial, c0⟩, c1⟩
theorem rowOf_r2 (k : Int) (c0 : decide (k = (1 : Int)) = false) (c1 : decide (k = (2 : Int)) = false) (c2 : decide (k = (3 : Int)) = true) : PureP (AV.tup [AV.agg [AV.int false .u8 67, AV.str false [(102 : UInt8), (97 : UInt8), (114 : UInt8), (97 : UInt8), (100 : UInt8)], AV.bool true, AV.bool false, AV.bool false], AV.bool true]) (call1 58 [.int true .u8 k] (G.on [false, false, true])) := eqq (q := (((True ∧ (decide (k = (1 : Int)) = false)) ∧ (decide (k = (2 : Int)) = false)) ∧ (decide (k = (3 : Int)) = true))) (by kernel_rfl) ⟨⟨⟨trivial, c0⟩, c1⟩, c2⟩
theorem rowOf_r3 (k : Int) (c0 : decide (k = (1 : Int)) = false) (c1 : decide (k = (2 : Int)) = false) (c2 : decide (k = (3 : Int)) = false) (c3 : decide (k = (4 : Int)) = true) : PureP (AV.tup [AV.agg [AV.int false .u8 73, AV.str false [(97 : UInt8), (109 : UInt8), (112 : UInt8), (101 : UInt8), (114 : UInt8), (101 : UInt8)], AV.bool false, AV.bool false, AV.bool true], AV.bool true]) (call1 58 [.int true .u8 k] (G.on [false, false, false, true])) := eqq (q := ((((True ∧ (decide (k = (1 : Int)) = false)) ∧ (decide (k = (2 : Int)) = false)) ∧ (decide (k = (3 : Int)) = false)) ∧ (decide (k = (4 : Int)) = true))) (by kernel_rfl) ⟨⟨⟨⟨trivial, c0⟩, c1⟩, c2⟩, c3⟩
theorem rowOf_r4 (k : Int) (c0 : decide (k = (1 : Int)) = false) (c1 : decide (k = (2 : Int)) = false) (c2 : decide (k = (3 : Int)) = false) (c3 : decide (k = (4 : Int)) = false) (c4 : decide (k = (5 : Int)) = true) : PureP (AV.tup [AV.agg [AV.int false .u8 86, AV.str false [(118 : UInt8), (111 : UInt8), (108 : UInt8), (116 : UInt8)], AV.bool false, AV.bool false, AV.bool true], AV.bool true]) (call1 58 [.int true .u8 k] (G.on [false, false, false, false, true])) := eqq (q := (((((True ∧ (decide (k = (1 : Int)) = false)) ∧ (decide (k = (2 : Int)) = false)) ∧ (decide (k = (3 : Int)) = false)) ∧ (decide (k = (4 : Int)) = false)) ∧ (decide (k = (5 : Int)) = true))) (by kernel_rfl) ⟨⟨⟨⟨⟨trivial, c0⟩, c1⟩, c2⟩, c3⟩, c4⟩
theorem rowOf_r5 (k : Int) (c0 : decide (k = (1 : Int)) = false) (c1 : decide (k = (2 : Int)) = false) (c2 : decide (k = (3 : Int)) = false) (c3 : decide (k = (4 : Int)) = false) (c4 : decide (k = (5 : Int)) = false) (c5 : decide (k = (6 : Int)) = true) : PureP (AV.tup [AV.agg [AV.int false .u8 71, AV.str false [(115 : UInt8), (105 : UInt8), (101 : UInt8), (109 : UInt8), (101 : UInt8), (110 : UInt8), (115 : UInt8)], AV.bool false, AV.bool true, AV.bool false], AV.bool true]) (call1 58 [.int true .u8 k] (G.on [false, false, false, false, false, true])) := eqq (q := ((((((True ∧ (decide (k = (1 : Int)) = false)) ∧ (decide (k = (2 : Int)) = false)) ∧ (decide (k = (3 : Int)) = false)) ∧ (decide (k = (4 : Int)) = false)) ∧ (decide (k = (5 : Int)) = false)) ∧ (decide (k = (6 : Int)) = true))) (by kernel_rfl) ⟨⟨⟨⟨⟨⟨trivial, c0⟩, c1⟩, c2⟩, c3⟩, c4⟩, c5⟩
theorem rowOf_r6 (k : Int) (c0 : decide (k = (1 : Int)) = false) (c1 : decide (k = (2 : Int)) = false) (c2 : decide (k = (3 : Int)) = false) (c3 : decide (k = (4 : Int)) = false) (c4 : decide (k = (5 : Int)) = false) (c5 : decide (k = (6 : Int)) = false) (c6 : decide (k = (7 : Int)) = true) : PureP (AV.tup [AV.agg [AV.int false .u8 69, AV.str false [], AV.bool false, AV.bool true, AV.bool false], AV.bool true]) (call1 58 [.int true .u8 k] (G.on [false, false, false, false, false, false, true])) := eqq (q := (((((((True ∧ (decide (k = (1 : Int)) = false)) ∧ (decide (k = (2 : Int)) = false)) ∧ (decide (k = (3 : Int)) = false)) ∧ (decide (k = (4 : Int)) = false)) ∧ (decide (k = (5 : Int)) = false)) ∧ (decide (k = (6 : Int)) = false)) ∧ (decide (k = (7 : Int)) = true))) (by kernel_rfl) ⟨⟨⟨⟨⟨⟨⟨trivial, c0⟩, c1⟩, c2⟩, c3⟩, c4⟩, c5⟩, c6⟩
theorem rowOf_r7 (k : Int) (c0 : decide (k = (1 : Int)) = false) (c1 : decide (k = (2 : Int)) = false) (c2 : decide (k = (3 : Int)) = false) (c3 : decide (k = (4 : Int)) = false) (c4 : decide (k = (5 : Int)) = false) (c5 : decide (k = (6 : Int)) = false) (c6 : decide (k = (7 : Int)) = false) (c7 : decide (k = (8 : Int)) = true) : PureP (AV.tup [AV.agg [AV.int false .u8 80, AV.str false [(111 : UInt8), (104 : UInt8), (109 : UInt8)], AV.bool true, AV.bool false, AV.bool false], AV.bool true]) (call1 58 [.int true .u8 k] (G.on [false, false, false, false, false, false, false, true])) := eqq (q := ((((((((True ∧ (decide (k = (1 : Int)) = false)) ∧ (decide (k = (2 : Int)) = false)) ∧ (decide (k = (3 : Int)) = false)) ∧ (decide (k = (4 : Int)) = false)) ∧ (decide (k = (5 : Int)) = false)) ∧ (decide (k = (6 : Int)) = false)) ∧ (decide (k = (7 : Int)) = false)) ∧ (decide (k = (8 : Int)) = true))) (by kernel_rfl) ⟨⟨⟨⟨⟨⟨⟨⟨trivial, c0⟩, c1⟩, c2⟩, c3⟩, c4⟩, c5⟩, c6⟩, c7⟩
theorem rowOf_r8 (k : Int) (c0 : decide (k = (1 : Int)) = false) (c1 : decide (k = (2 : Int)) = false) (c2 : decide (k = (3 : Int)) = false) (c3 : decide (k = (4 : Int)) = false) (c4 : decide (k = (5 : Int)) = false) (c5 : decide (k = (6 : Int)) = false) (c6 : decide (k = (7 : Int)) = false) (c7 : decide (k = (8 : Int)) = false) : PureP (AV.tup [AV.agg [AV.int false .u8 0, AV.str false [], AV.bool false, AV.bool false, AV.bool false], AV.bool false]) (call1 58 [.int true .u8 k] (G.on [false, false, false, false, false, false, false, false])) := eqq (q := ((((((((True ∧ (decide (k = (1 : Int)) = false)) ∧ (decide (k = (2 : Int)) = false)) ∧ (decide (k = (3 : Int)) = false)) ∧ (decide (k = (4 : Int)) = false)) ∧ (decide (k = (5 : Int)) = false)) ∧ (decide (k = (6 : Int)) = false)) ∧ (decide (k = (7 : Int)) = false)) ∧ (decide (k = (8 : Int)) = false))) (by kernel_rfl) ⟨⟨⟨⟨⟨⟨⟨⟨trivial, c0⟩, c1⟩, c2⟩, c3⟩, c4⟩, c5⟩, c6⟩, c7⟩
noncomputable def rowOf_0 (k : Int) : Int := (bif decide (k = (1 : Int)) then ((82 : Int)) else (bif decide (k = (2 : Int)) then ((76 : Int)) else (bif decide (k = (3 : Int)) then ((67 : Int)) else (bif decide (k = (4 : Int)) then ((73 : Int)) else (bif decide (k = (5 : Int)) then ((86 : Int)) else (bif decide (k = (6 : Int)) then ((71 : Int)) else (bif decide (k = (7 : Int)) then ((69 : Int)) else (bif decide (k = (8 : Int)) then ((80 : Int)) else ((0 : Int))))))))))
noncomputable def rowOf_1 (k : Int) : List UInt8 := (bif decide (k = (1 : Int)) then ([(111 : UInt8), (104 : UInt8), (109 : UInt8)]) else (bif decide (k = (2 : Int)) then ([(104 : UInt8), (101 : UInt8), (110 : UInt8), (114 : UInt8), (121 : UInt8)]) else (bif decide (k = (3 : Int)) then ([(102 : UInt8), (97 : UInt8), (114 : UInt8), (97 : UInt8), (100 : UInt8)]) else (bif decide (k = (4 : Int)) then ([(97 : UInt8), (109 : UInt8), (112 : UInt8), (101 : UInt8), (114 : UInt8), (101 : UInt8)]) else (bif decide (k = (5 : Int)) then ([(118 : UInt8), (111 : UInt8), (108 : UInt8), (116 : UInt8)]) else (bif decide (k = (6 : Int)) then ([(115 : UInt8), (105 : UInt8), (101 : UInt8), (109 : UInt8), (101 : UInt8), (110 : UInt8), (115 : UInt8)]) else (bif decide (k = (7 : Int)) then ([]) else (bif decide (k = (8 : Int)) then ([(111 : UInt8), (104 : UInt8), (109 : UInt8)]) else ([])))))))))
noncomputable def rowOf_2 (k : Int) : Bool := (bif decide (k = (1 : Int)) then (true) else (bif decide (k = (2 : Int)) then (true) else (bif decide (k = (3 : Int)) then (true) else (bif decide (k = (4 : Int)) then (false) else (bif decide (k = (5 : Int)) then (false) else (bif decide (k = (6 : Int)) then (false) else (bif decide (k = (7 : Int)) then (false) else (bif decide (k = (8 : Int)) then (true) else (false)))))))))
noncomputable def rowOf_3 (k : Int) : Bool := (bif decide (k = (1 : Int)) then (false) else (bif decide (k = (2 : Int)) then (false) else (bif decide (k = (3 : Int)) then (false) else (bif decide (k = (4 : Int)) then (false) else (bif decide (k = (5 : Int)) then (false) else (bif decide (k = (6 : Int)) then (true) else (bif decide (k = (7 : Int)) then (true) else (bif decide (k = (8 : Int)) then (false) else (false)))))))))
noncomputable def rowOf_4 (k : Int) : Bool := (bif decide (k = (1 : Int)) then (false) else (bif decide (k = (2 : Int)) then (false) else (bif decide (k = (3 : Int)) then (false) else (bif decide (k = (4 : Int)) then (true) else (bif decide (k = (5 : Int)) then (true) else (bif decide (k = (6 : Int)) then (false) else (bif decide (k = (7 : Int)) then (false) else (bif decide (k = (8 : Int)) then (false) else (false)))))))))
noncomputable def rowOf_5 (k : Int) : Bool := (bif decide (k = (1 : Int)) then (true) else (bif decide (k = (2 : Int)) then (true) else (bif decide (k = (3 : Int)) then (true) else (bif decide (k = (4 : Int)) then (true) else (bif decide (k = (5 : Int)) then (true) else (bif decide (k = (6 : Int)) then (true) else (bif decide (k = (7 : Int)) then (true) else (bif decide (k = (8 : Int)) then (true) else (false)))))))))
noncomputable def rowOfS : List AV → M AV
 | [.int s0 .u8 k] => M.ret (AV.tup [AV.agg [AV.int s0 (IntKind.u8) (rowOf_0 k), AV.str s0 (rowOf_1 k), cmpB s0 (rowOf_2 k), cmpB s0 (rowOf_3 k), cmpB s0 (rowOf_4 k)], cmpB s0 (rowOf_5 k)])
 | args => call1 58 args
theorem rowOfS_ok : ∀ args v g g', rowOfS args g = .done v g' → CallIs Try.prog 58 args v g g' := by
 intro args v g g' h
 unfold rowOfS at h
 split at h
 ·rename_i s0 k
  obtain ⟨rfl, rfl⟩ := ret_done h
  refine scal call1_ok fun μ cargs ha => ?_
  have ha' : Reps 0 MM.none [.int true .u8 k] cargs.toList := by simpa only [Reps, Rep] using ha
  cases t0 : decide (k = (1 : Int)) with
  | true =>
   exact ⟨_, _, _, ha', rowOf_r0 k t0, rfl, fun cv hc => by have := hc g.nx μ; have e0 : rowOf_0 k = ((82 : Int)) := (ct t0).trans (rfl); have e1 : rowOf_1 k = ([(111 : UInt8), (104 : UInt8), (109 : UInt8)]) := (ct t0).trans (rfl); have e2 : rowOf_2 k = (true) := (ct t0).trans (rfl); have e3 : rowOf_3 k = (false) := (ct t0).trans (rfl); have e4 : rowOf_4 k = (false) := (ct t0).trans (rfl); have e5 : rowOf_5 k = (true) := (ct t0).trans (rfl); rw [e0, e1, e2, e3, e4, e5]; simpa only [Rep, Reps, Rep_cmpB] using this⟩
  | false =>
   cases t1 : decide (k = (2 : Int)) with
   | true =>
    exact ⟨_, _, _, ha', rowOf_r1 k t0 t1, rfl, fun cv hc => by have := hc g.nx μ; have e0 : rowOf_0 k = ((76 : Int)) := (cf t0).trans ((ct t1).trans (rfl)); have e1 : rowOf_1 k = ([(104 : UInt8), (101 : UInt8), (110 : UInt8), (114 : UInt8), (121 : UInt8)]) := (cf t0).trans ((ct t1).trans (rfl)); have e2 : rowOf_2 k = (true) := (cf t0).trans ((ct t1).trans (rfl)); have e3 : rowOf_3 k = (false) := (cf t0).trans ((ct t1).trans (rfl)); have e4 : rowOf_4 k = (false) := (cf t0).trans ((ct t1).trans (rfl)); have e5 : rowOf_5 k = (true) := (cf t0).trans ((ct t1).trans (rfl)); rw [e0, e1, e2, e3, e4, e5]; simpa only [Rep, Reps, Rep_cmpB] using this⟩
   | false =>
    cases t2 : decide (k = (3 : Int)) with
    | true =>
     exact ⟨_, _, _, ha', rowOf_r2 k t0 t1 t2, rfl, fun cv hc => by have := hc g.nx μ; have e0 : rowOf_0 k = ((67 : Int)) := (cf t0).trans ((cf t1).trans ((ct t2).trans (rfl))); have e1 : rowOf_1 k = ([(102 : UInt8), (97 : UInt8), (114 : UInt8), (97 : UInt8), (100 : UInt8)]) := (cf t0).trans ((cf t1).trans ((ct t2).trans (rfl))); have e2 : rowOf_2 k = (true) := (cf t0).trans ((cf t1).trans ((ct t2).trans (rfl))); have e3 : rowOf_3 k = (false) := (cf t0).trans ((cf t1).trans ((ct t2).trans (rfl))); have e4 : rowOf_4 k = (false) := (cf t0).trans ((cf t1).trans ((ct t2).trans (rfl))); have e5 : rowOf_5 k = (true) := (cf t0).trans ((cf t1).trans ((ct t2).trans (rfl))); rw [e0, e1, e2, e3, e4, e5]; simpa only [Rep, Reps, Rep_cmpB] using this⟩
    | false =>
     cases t3 : decide (k = (4 : Int)) with
     | true =>
      exact ⟨_, _, _, ha', rowOf_r3 k t0 t1 t2 t3, rfl, fun cv hc => by have := hc g.nx μ; have e0 : rowOf_0 k = ((73 : Int)) := (cf t0).trans ((cf t1).trans ((cf t2).trans ((ct t3).trans (rfl)))); have e1 : rowOf_1 k = ([(97 : UInt8), (109 : UInt8), (112 : UInt8), (101 : UInt8), (114 : UInt8), (101 : UInt8)]) := (cf t0).trans ((cf t1).trans ((cf t2).trans ((ct t3).trans (rfl)))); have e2 : rowOf_2 k = (false) := (cf t0).trans ((cf t1).trans ((cf t2).trans ((ct t3).trans (rfl)))); have e3 : rowOf_3 k = (false) := (cf t0).trans ((cf t1).trans ((cf t2).trans ((ct t3).trans (rfl)))); have e4 : rowOf_4 k = (true) := (cf t0).trans ((cf t1).trans ((cf t2).trans ((ct t3).trans (rfl)))); have e5 : rowOf_5 k = (true) := (cf t0).trans ((cf t1).trans ((cf t2).trans ((ct t3).trans (rfl)))); rw [e0, e1, e2, e3, e4, e5]; simpa only [Rep, Reps, Rep_cmpB] using this⟩
     | false =>
      cases t4 : decide (k = (5 : Int)) with
      | true =>
       exact ⟨_, _, _, ha', rowOf_r4 k t0 t1 t2 t3 t4, rfl, fun cv hc => by have := hc g.nx μ; have e0 : rowOf_0 k = ((86 : Int)) := (cf t0).trans ((cf t1).trans ((cf t2).trans ((cf t3).trans ((ct t4).trans (rfl))))); have e1 : rowOf_1 k = ([(118 : UInt8), (111 : UInt8), (108 : UInt8), (116 : UInt8)]) := (cf t0).trans ((cf t1).trans ((cf t2).trans ((cf t3).trans ((ct t4).trans (rfl))))); have e2 : rowOf_2 k = (false) := (cf t0).trans ((cf t1).trans ((cf t2).trans ((cf t3).trans ((ct t4).trans (rfl))))); have e3 : rowOf_3 k = (false) := (cf t0).trans ((cf t1).trans ((cf t2).trans ((cf t3).trans ((ct t4).trans (rfl))))); have e4 : rowOf_4 k = (true) := (cf t0).trans ((cf t1).trans ((cf t2).trans ((cf t3).trans ((ct t4).trans (rfl))))); have e5 : rowOf_5 k = (true) := (cf t0).trans ((cf t1).trans ((cf t2).trans ((cf t3).trans ((ct t4).trans (rfl))))); rw [e0, e1, e2, e3, e4, e5]; simpa only [Rep, Reps, Rep_cmpB] using this⟩
      | false =>
       cases t5 : decide (k = (6 : Int)) with
       | true =>
        exact ⟨_, _, _, ha', rowOf_r5 k t0 t1 t2 t3 t4 t5, rfl, fun cv hc => by have := hc g.nx μ; have e0 : rowOf_0 k = ((71 : Int)) := (cf t0).trans ((cf t1).trans ((cf t2).trans ((cf t3).trans ((cf t4).trans ((ct t5).trans (rfl)))))); have e1 : rowOf_1 k = ([(115 : UInt8), (105 : UInt8), (101 : UInt8), (109 : UInt8), (101 : UInt8), (110 : UInt8), (115 : UInt8)]) := (cf t0).trans ((cf t1).trans ((cf t2).trans ((cf t3).trans ((cf t4).trans ((ct t5).trans (rfl)))))); have e2 : rowOf_2 k = (false) := (cf t0).trans ((cf t1).trans ((cf t2).trans ((cf t3).trans ((cf t4).trans ((ct t5).trans (rfl)))))); have e3 : rowOf_3 k = (true) := (cf t0).trans ((cf t1).trans ((cf t2).trans ((cf t3).trans ((cf t4).trans ((ct t5).trans (rfl)))))); have e4 : rowOf_4 k = (false) := (cf t0).trans ((cf t1).trans ((cf t2).trans ((cf t3).trans ((cf t4).trans ((ct t5).trans (rfl)))))); have e5 : rowOf_5 k = (true) := (cf t0).trans ((cf t1).trans ((cf t2).trans ((cf t3).trans ((cf t4).trans ((ct t5).trans (rfl)))))); rw [e0, e1, e2, e3, e4, e5]; simpa only [Rep, Reps, Rep_cmpB] using this⟩
       | false =>
        cases t6 : decide (k = (7 : Int)) with
        | true =>
         exact ⟨_, _, _, ha', rowOf_r6 k t0 t1 t2 t3 t4 t5 t6, rfl, fun cv hc => by have := hc g.nx μ; have e0 : rowOf_0 k = ((69 : Int)) := (cf t0).trans ((cf t1).trans ((cf t2).trans ((cf t3).trans ((cf t4).trans ((cf t5).trans ((ct t6).trans (rfl))))))); have e1 : rowOf_1 k = ([]) := (cf t0).trans ((cf t1).trans ((cf t2).trans ((cf t3).trans ((cf t4).trans ((cf t5).trans ((ct t6).trans (rfl))))))); have e2 : rowOf_2 k = (false) := (cf t0).trans ((cf t1).trans ((cf t2).trans ((cf t3).trans ((cf t4).trans ((cf t5).trans ((ct t6).trans (rfl))))))); have e3 : rowOf_3 k = (true) := (cf t0).trans ((cf t1).trans ((cf t2).trans ((cf t3).trans ((cf t4).trans ((cf t5).trans ((ct t6).trans (rfl))))))); have e4 : rowOf_4 k = (false) := (cf t0).trans ((cf t1).trans ((cf t2).trans ((cf t3).trans ((cf t4).trans ((cf t5).trans ((ct t6).trans (rfl))))))); have e5 : rowOf_5 k = (true) := (cf t0).trans ((cf t1).trans ((cf t2).trans ((cf t3).trans ((cf t4).trans ((cf t5).trans ((ct t6).trans (rfl))))))); rw [e0, e1, e2, e3, e4, e5]; simpa only [Rep, Reps, Rep_cmpB] using this⟩
        | false =>
         cases t7 : decide (k = (8 : Int)) with
         | true =>
          exact ⟨_, _, _, ha', rowOf_r7 k t0 t1 t2 t3 t4 t5 t6 t7, rfl, fun cv hc => by have := hc g.nx μ; have e0 : rowOf_0 k = ((80 : Int)) := (cf t0).trans ((cf t1).trans ((cf t2).trans ((cf t3).trans ((cf t4).trans ((cf t5).trans ((cf t6).trans ((ct t7).trans (rfl)))))))); have e1 : rowOf_1 k = ([(111 : UInt8), (104 : UInt8), (109 : UInt8)]) := (cf t0).trans ((cf t1).trans ((cf t2).trans ((cf t3).trans ((cf t4).trans ((cf t5).trans ((cf t6).trans ((ct t7).trans (rfl)))))))); have e2 : rowOf_2 k = (true) := (cf t0).trans ((cf t1).trans ((cf t2).trans ((cf t3).trans ((cf t4).trans ((cf t5).trans ((cf t6).trans ((ct t7).trans (rfl)))))))); have e3 : rowOf_3 k = (false) := (cf t0).trans ((cf t1).trans ((cf t2).trans ((cf t3).trans ((cf t4).trans ((cf t5).trans ((cf t6).trans ((ct t7).trans (rfl)))))))); have e4 : rowOf_4 k = (false) := (cf t0).trans ((cf t1).trans ((cf t2).trans ((cf t3).trans ((cf t4).trans ((cf t5).trans ((cf t6).trans ((ct t7).trans (rfl)))))))); have e5 : rowOf_5 k = (true) := (cf t0).trans ((cf t1).trans ((cf t2).trans ((cf t3).trans ((cf t4).trans ((cf t5).trans ((cf t6).trans ((ct t7).trans (rfl)))))))); rw [e0, e1, e2, e3, e4, e5]; simpa only [Rep, Reps, Rep_cmpB] using this⟩
         | false =>
          exact ⟨_, _, _, ha', rowOf_r8 k t0 t1 t2 t3 t4 t5 t6 t7, rfl, fun cv hc => by have := hc g.nx μ; have e0 : rowOf_0 k = ((0 : Int)) := (cf t0).trans ((cf t1).trans ((cf t2).trans ((cf t3).trans ((cf t4).trans ((cf t5).trans ((cf t6).trans ((cf t7).trans (rfl)))))))); have e1 : rowOf_1 k = ([]) := (cf t0).trans ((cf t1).trans ((cf t2).trans ((cf t3).trans ((cf t4).trans ((cf t5).trans ((cf t6).trans ((cf t7).trans (rfl)))))))); have e2 : rowOf_2 k = (false) := (cf t0).trans ((cf t1).trans ((cf t2).trans ((cf t3).trans ((cf t4).trans ((cf t5).trans ((cf t6).trans ((cf t7).trans (rfl)))))))); have e3 : rowOf_3 k = (false) := (cf t0).trans ((cf t1).trans ((cf t2).trans ((cf t3).trans ((cf t4).trans ((cf t5).trans ((cf t6).trans ((cf t7).trans (rfl)))))))); have e4 : rowOf_4 k = (false) := (cf t0).trans ((cf t1).trans ((cf t2).trans ((cf t3).trans ((cf t4).trans ((cf t5).trans ((cf t6).trans ((cf t7).trans (rfl)))))))); have e5 : rowOf_5 k = (false) := (cf t0).trans ((cf t1).trans ((cf t2).trans ((cf t3).trans ((cf t4).trans ((cf t5).trans ((cf t6).trans ((cf t7).trans (rfl)))))))); rw [e0, e1, e2, e3, e4, e5]; simpa only [Rep, Reps, Rep_cmpB] using this⟩
 ·exact call1_ok _ _ _ _ _ h
theorem rowOfS_tch : ∀ args, Tch (rowOfS args) := by
 intro args
 unfold rowOfS
 split
 ·exact Tch.ret _
 ·exact call1_tch _ _
theorem of_r0 (k : Int) (c0 : decide ((82 : Int) = k) = true) : PureP (AV.tup [AV.int false .u8 1, AV.bool true]) (call1 81 [.int true .u8 k] (G.on [true])) := eqq (q := (True ∧ (decide ((82 : Int) = k) = true))) (by kernel_rfl) ⟨trivial, c0⟩
theorem of_r1 (k : Int) (c0 : decide ((82 : Int) = k) = false) (c1 : decide ((76 : Int) = k) = true) : PureP (AV.tup [AV.int false .u8 2, AV.bool true]) (call1 81 [.int true .u8 k] (G.on [false, true])) := eqq (q := ((True ∧ (decide ((82 : Int) = k) = false)) ∧ (decide ((76 : Int) = k) = true))) (by kernel_rfl) ⟨⟨trivial, c0⟩, c1⟩
theorem of_r2 (k : Int) (c0 : decide ((82 : Int) = k) = false) (c1 : decide ((76 : Int) = k) = false) (c2 : decide ((67 : Int) = k) = true) : PureP (AV.tup [AV.int false .u8 3, AV.bool true]) (call1 81 [.int true .u8 k] (G.on [false, false, true])) := eqq (q := (((True ∧ (decide ((82 : Int) = k) = false)) ∧ (decide ((76 : Int) = k) = false)) ∧ (decide ((67 : Int) = k) = true))) (by kernel_rfl) ⟨⟨⟨trivial, c0⟩, c1⟩, c2⟩
theorem of_r3 (k : Int) (c0 : decide ((82 : Int) = k) = false) (c1 : decide ((76 : Int) = k) = false) (c2 : decide ((67 : Int) = k) = false) (c3 : decide ((73 : Int) = k) = true) : PureP (AV.tup [AV.int false .u8 4, AV.bool true]) (call1 81 [.int true .u8 k] (G.on [false, false, false, true])) := eqq (q := ((((True ∧ (decide ((82 : Int) = k) = false)) ∧ (decide ((76 : Int) = k) = false)) ∧ (decide ((67 : Int) = k) = false)) ∧ (decide ((73 : Int) = k) = true))) (by kernel_rfl) ⟨⟨⟨⟨trivial, c0⟩, c1⟩, c2⟩, c3⟩
theorem of_r4 (k : Int) (c0 : decide ((82 : Int) = k) = false) (c1 : decide ((76 : Int) = k) = false) (c2 : decide ((67 : Int) = k) = false) (c3 : decide ((73 : Int) = k) = false) (c4 : decide ((86 : Int) = k) = true) : PureP (AV.tup [AV.int false .u8 5, AV.bool true]) (call1 81 [.int true .u8 k] (G.on [false, false, false, false, true])) := eqq (q := (((((True ∧ (decide ((82 : Int) = k) = false)) ∧ (decide ((76 : Int) = k) = false)) ∧ (decide ((67 : Int) = k) = false)) ∧ (decide ((73 : Int) = k) = false)) ∧ (decide ((86 : Int) = k) = true))) (by kernel_rfl) ⟨⟨⟨⟨⟨trivial, c0⟩, c1⟩, c2⟩, c3⟩, c4⟩
theorem of_r5 (k : Int) (c0 : decide ((82 : Int) = k) = false) (c1 : decide ((76 : Int) = k) = false) (c2 : decide ((67 : Int) = k) = false) (c3 : decide ((73 : Int) = k) = false) (c4 : decide ((86 : Int) = k) = false) (c5 : decide ((71 : Int) = k) = true) : PureP (AV.tup [AV.int false .u8 6, AV.bool true]) (call1 81 [.int true .u8 k] (G.on [false, false, false, false, false, true])) := eqq (q := ((((((True ∧ (decide ((82 : Int) = k) = false)) ∧ (decide ((76 : Int) = k) = false)) ∧ (decide ((67 : Int) = k) = false)) ∧ (decide ((73 : Int) = k) = false)) ∧ (decide ((86 : Int) = k) = false)) ∧ (decide ((71 : Int) = k) = true))) (by kernel_rfl) ⟨⟨⟨⟨⟨⟨trivial, c0⟩, c1⟩, c2⟩, c3⟩, c4⟩, c5⟩
theorem of_r6 (k : Int) (c0 : decide ((82 : Int) = k) = false) (c1 : decide ((76 : Int) = k) = false) (c2 : decide ((67 : Int) = k) = false) (c3 : decide ((73 : Int) = k) = false) (c4 : decide ((86 : Int) = k) = false) (c5 : decide ((71 : Int) = k) = false) (c6 : decide ((69 : Int) = k) = true) : PureP (AV.tup [AV.int false .u8 7, AV.bool true]) (call1 81 [.int true .u8 k] (G.on [false, false, false, false, false, false, true])) := eqq (q := (((((((True ∧ (decide ((82 : Int) = k) = false)) ∧ (decide ((76 : Int) = k) = false)) ∧ (decide ((67 : Int) = k) = false)) ∧ (decide ((73 : Int) = k) = false)) ∧ (decide ((86 : Int) = k) = false)) ∧ (decide ((71 : Int) = k) = false)) ∧ (decide ((69 : Int) = k) = true))) (by kernel_rfl) ⟨⟨⟨⟨⟨⟨⟨trivial, c0⟩, c1⟩, c2⟩, c3⟩, c4⟩, c5⟩, c6⟩
theorem of_r7 (k : Int) (c0 : decide ((82 : Int) = k) = false) (c1 : decide ((76 : Int) = k) = false) (c2 : decide ((67 : Int) = k) = false) (c3 : decide ((73 : Int) = k) = false) (c4 : decide ((86 : Int) = k) = false) (c5 : decide ((71 : Int) = k) = false) (c6 : decide ((69 : Int) = k) = false) (c7 : decide ((80 : Int) = k) = true) : PureP (AV.tup [AV.int false .u8 8, AV.bool true]) (call1 81 [.int true .u8 k] (G.on [false, false, false, false, false, false, false, true])) := eqq (q := ((((((((True ∧ (decide ((82 : Int) = k) = false)) ∧ (decide ((76 : Int) = k) = false)) ∧ (decide ((67 : Int) = k) = false)) ∧ (decide ((73 : Int) = k) = false)) ∧ (decide ((86 : Int) = k) = false)) ∧ (decide ((71 : Int) = k) = false)) ∧ (decide ((69 : Int) = k) = false)) ∧ (decide ((80 : Int) = k) = true))) (by kernel_rfl) ⟨⟨⟨⟨⟨⟨⟨⟨trivial, c0⟩, c1⟩, c2⟩, c3⟩, c4⟩, c5⟩, c6⟩, c7⟩
theorem of_r8 (k : Int) (c0 : decide ((82 : Int) = k) = false) (c1 : decide ((76 : Int) = k) = false) (c2 : decide ((67 : Int) = k) = false) (c3 : decide ((73 : Int) = k) = false) (c4 : decide ((86 : Int) = k) = false) (c5 : decide ((71 : Int) = k) = false) (c6 : decide ((69 : Int) = k) = false) (c7 : decide ((80 : Int) = k) = false) : PureP (AV.tup [AV.int false .u8 0, AV.bool false]) (call1 81 [.int true .u8 k] (G.on [false, false, false, false, false, false, false, false])) := eqq (q := ((((((((True ∧ (decide ((82 : Int) = k) = false)) ∧ (decide ((76 : Int) = k) = false)) ∧ (decide ((67 : Int) = k) = false)) ∧ (decide ((73 : Int) = k) = false)) ∧ (decide ((86 : Int) = k) = false)) ∧ (decide ((71 : Int) = k) = false)) ∧ (decide ((69 : Int) = k) = false)) ∧ (decide ((80 : Int) = k) = false))) (by kernel_rfl) ⟨⟨⟨⟨⟨⟨⟨⟨trivial, c0⟩, c1⟩, c2⟩, c3⟩, c4⟩, c5⟩, c6⟩, c7⟩
noncomputable def of_0 (k : Int) : Int := (bif decide ((82 : Int) = k) then ((1 : Int)) else (bif decide ((76 : Int) = k) then ((2 : Int)) else (bif decide ((67 : Int) = k) then ((3 : Int)) else (bif decide ((73 : Int) = k) then ((4 : Int)) else (bif decide ((86 : Int) = k) then ((5 : Int)) else (bif decide ((71 : Int) = k) then ((6 : Int)) else (bif decide ((69 : Int) = k) then ((7 : Int)) else (bif decide ((80 : Int) = k) then ((8 : Int)) else ((0 : Int))))))))))
noncomputable def of_1 (k : Int) : Bool := (bif decide ((82 : Int) = k) then (true) else (bif decide ((76 : Int) = k) then (true) else (bif decide ((67 : Int) = k) then (true) else (bif decide ((73 : Int) = k) then (true) else (bif decide ((86 : Int) = k) then (true) else (bif decide ((71 : Int) = k) then (true) else (bif decide ((69 : Int) = k) then (true) else (bif decide ((80 : Int) = k) then (true) else (false)))))))))
noncomputable def ofS : List AV → M AV
 | [.int s0 .u8 k] => M.ret (AV.tup [AV.int s0 (IntKind.u8) (of_0 k), cmpB s0 (of_1 k)])
 | args => call1 81 args
theorem ofS_ok : ∀ args v g g', ofS args g = .done v g' → CallIs Try.prog 81 args v g g' := by
 intro args v g g' h
 unfold ofS at h
 split at h
 ·rename_i s0 k
  obtain ⟨rfl, rfl⟩ := ret_done h
  refine scal call1_ok fun μ cargs ha => ?_
  have ha' : Reps 0 MM.none [.int true .u8 k] cargs.toList := by simpa only [Reps, Rep] using ha
  cases t0 : decide ((82 : Int) = k) with
  | true =>
   exact ⟨_, _, _, ha', of_r0 k t0, rfl, fun cv hc => by have := hc g.nx μ; have e0 : of_0 k = ((1 : Int)) := (ct t0).trans (rfl); have e1 : of_1 k = (true) := (ct t0).trans (rfl); rw [e0, e1]; simpa only [Rep, Reps, Rep_cmpB] using this⟩
  | false =>
   cases t1 : decide ((76 : Int) = k) with
   | true =>
    exact ⟨_, _, _, ha', of_r1 k t0 t1, rfl, fun cv hc => by have := hc g.nx μ; have e0 : of_0 k = ((2 : Int)) := (cf t0).trans ((ct t1).trans (rfl)); have e1 : of_1 k = (true) := (cf t0).trans ((ct t1).trans (rfl)); rw [e0, e1]; simpa only [Rep, Reps, Rep_cmpB] using this⟩
   | false =>
    cases t2 : decide ((67 : Int) = k) with
    | true =>
     exact ⟨_, _, _, ha', of_r2 k t0 t1 t2, rfl, fun cv hc => by have := hc g.nx μ; have e0 : of_0 k = ((3 : Int)) := (cf t0).trans ((cf t1).trans ((ct t2).trans (rfl))); have e1 : of_1 k = (true) := (cf t0).trans ((cf t1).trans ((ct t2).trans (rfl))); rw [e0, e1]; simpa only [Rep, Reps, Rep_cmpB] using this⟩
    | false =>
     cases t3 : decide ((73 : Int) = k) with
     | true =>
      exact ⟨_, _, _, ha', of_r3 k t0 t1 t2 t3, rfl, fun cv hc => by have := hc g.nx μ; have e0 : of_0 k = ((4 : Int)) := (cf t0).trans ((cf t1).trans ((cf t2).trans ((ct t3).trans (rfl)))); have e1 : of_1 k = (true) := (cf t0).trans ((cf t1).trans ((cf t2).trans ((ct t3).trans (rfl)))); rw [e0, e1]; simpa only [Rep, Reps, Rep_cmpB] using this⟩
     | false =>
      cases t4 : decide ((86 : Int) = k) with
      | true =>
       exact ⟨_, _, _, ha', of_r4 k t0 t1 t2 t3 t4, rfl, fun cv hc => by have := hc g.nx μ; have e0 : of_0 k = ((5 : Int)) := (cf t0).trans ((cf t1).trans ((cf t2).trans ((cf t3).trans ((ct t4).trans (rfl))))); have e1 : of_1 k = (true) := (cf t0).trans ((cf t1).trans ((cf t2).trans ((cf t3).trans ((ct t4).trans (rfl))))); rw [e0, e1]; simpa only [Rep, Reps, Rep_cmpB] using this⟩
      | false =>
       cases t5 : decide ((71 : Int) = k) with
       | true =>
        exact ⟨_, _, _, ha', of_r5 k t0 t1 t2 t3 t4 t5, rfl, fun cv hc => by have := hc g.nx μ; have e0 : of_0 k = ((6 : Int)) := (cf t0).trans ((cf t1).trans ((cf t2).trans ((cf t3).trans ((cf t4).trans ((ct t5).trans (rfl)))))); have e1 : of_1 k = (true) := (cf t0).trans ((cf t1).trans ((cf t2).trans ((cf t3).trans ((cf t4).trans ((ct t5).trans (rfl)))))); rw [e0, e1]; simpa only [Rep, Reps, Rep_cmpB] using this⟩
       | false =>
        cases t6 : decide ((69 : Int) = k) with
        | true =>
         exact ⟨_, _, _, ha', of_r6 k t0 t1 t2 t3 t4 t5 t6, rfl, fun cv hc => by have := hc g.nx μ; have e0 : of_0 k = ((7 : Int)) := (cf t0).trans ((cf t1).trans ((cf t2).trans ((cf t3).trans ((cf t4).trans ((cf t5).trans ((ct t6).trans (rfl))))))); have e1 : of_1 k = (true) := (cf t0).trans ((cf t1).trans ((cf t2).trans ((cf t3).trans ((cf t4).trans ((cf t5).trans ((ct t6).trans (rfl))))))); rw [e0, e1]; simpa only [Rep, Reps, Rep_cmpB] using this⟩
        | false =>
         cases t7 : decide ((80 : Int) = k) with
         | true =>
          exact ⟨_, _, _, ha', of_r7 k t0 t1 t2 t3 t4 t5 t6 t7, rfl, fun cv hc => by have := hc g.nx μ; have e0 : of_0 k = ((8 : Int)) := (cf t0).trans ((cf t1).trans ((cf t2).trans ((cf t3).trans ((cf t4).trans ((cf t5).trans ((cf t6).trans ((ct t7).trans (rfl)))))))); have e1 : of_1 k = (true) := (cf t0).trans ((cf t1).trans ((cf t2).trans ((cf t3).trans ((cf t4).trans ((cf t5).trans ((cf t6).trans ((ct t7).trans (rfl)))))))); rw [e0, e1]; simpa only [Rep, Reps, Rep_cmpB] using this⟩
         | false =>
          exact ⟨_, _, _, ha', of_r8 k t0 t1 t2 t3 t4 t5 t6 t7, rfl, fun cv hc => by have := hc g.nx μ; have e0 : of_0 k = ((0 : Int)) := (cf t0).trans ((cf t1).trans ((cf t2).trans ((cf t3).trans ((cf t4).trans ((cf t5).trans ((cf t6).trans ((cf t7).trans (rfl)))))))); have e1 : of_1 k = (false) := (cf t0).trans ((cf t1).trans ((cf t2).trans ((cf t3).trans ((cf t4).trans ((cf t5).trans ((cf t6).trans ((cf t7).trans (rfl)))))))); rw [e0, e1]; simpa only [Rep, Reps, Rep_cmpB] using this⟩
 ·exact call1_ok _ _ _ _ _ h
theorem ofS_tch : ∀ args, Tch (ofS args) := by
 intro args
 unfold ofS
 split
 ·exact Tch.ret _
 ·exact call1_tch _ _
noncomputable def gam2 : Known := kc 37 ofBits (kc 72 toBits (kc 80 smallS (kc 61 kindS (kc 58 rowOfS (kc 81 ofS (kn))))))
theorem gam2_ok : KnownOk Try.prog gam2 := kc_ok ((ofBits_is Try.prog).callIs Try.func37 (by kernel_rfl) (by kernel_rfl) (by kernel_rfl) (by kernel_rfl)) (kc_ok ((toBits_is Try.prog).callIs Try.func72 (by kernel_rfl) (by kernel_rfl) (by kernel_rfl) (by kernel_rfl)) (kc_ok smallS_ok (kc_ok kindS_ok (kc_ok rowOfS_ok (kc_ok ofS_ok (kn_ok))))))
theorem gam2_tch : KnownT gam2 := kc_tch Tch.ofBits (kc_tch Tch.toBits (kc_tch smallS_tch (kc_tch kindS_tch (kc_tch rowOfS_tch (kc_tch ofS_tch (kn_tch))))))
noncomputable def call2 : Calls' := Sx.runN Try.prog gam2 (regionC Try.prog) 1000 50
theorem call2_ok : CallOk Try.prog call2 := engineC gam2_ok gam2_tch (by kernel_rfl) (by kernel_rfl) 1000 50
theorem call2_tch : CallT call2 := runA_tch gam2_tch (fun _ _ _ h => by cases h) (fun call hc n l fr => regionC_tch hc n l fr) 50
theorem name_r0 (l : List UInt8) (c0 : decide ((↑(List.length l) : Int) < (2 : Int)) = true) : PureP (AV.tup [AV.int false .u8 0, AV.bool false]) (call2 59 [.str true l] (G.on [true])) := eqq (q := (True ∧ (decide ((↑(List.length l) : Int) < (2 : Int)) = true))) (by kernel_rfl) ⟨trivial, c0⟩
theorem name_r1 (l : List UInt8) (c0 : decide ((↑(List.length l) : Int) < (2 : Int)) = false) (c1 : decide ((16 : Int) < (↑(List.length l) : Int)) = true) : PureP (AV.tup [AV.int false .u8 0, AV.bool false]) (call2 59 [.str true l] (G.on [false, true])) := eqq (q := ((True ∧ (decide ((↑(List.length l) : Int) < (2 : Int)) = false)) ∧ (decide ((16 : Int) < (↑(List.length l) : Int)) = true))) (by kernel_rfl) ⟨⟨trivial, c0⟩, c1⟩
theorem name_r2 (l : List UInt8) (c0 : decide ((↑(List.length l) : Int) < (2 : Int)) = false) (c1 : decide ((16 : Int) < (↑(List.length l) : Int)) = false) (c2 : (0 : Int) ≤ (1 : Int)) (c3 : (1 : Int) ≤ (↑(List.length l) : Int)) (c4 : (↑(List.length l) : Int) ≤ (↑(List.length l) : Int)) (c5 : (!List.all (List.take (List.length l - (1 : Nat)) (List.drop (1 : Nat) l)) okB) = false) (c6 : (0 : Int) ≤ (0 : Int)) (c7 : (0 : Int) < (↑(List.length l) : Int)) : PureP (AV.tup [AV.int true .u8 (of_0 (↑(UInt8.toNat (List.getD l (0 : Nat) (0 : UInt8))) : Int)), AV.sbool (of_1 (↑(UInt8.toNat (List.getD l (0 : Nat) (0 : UInt8))) : Int))]) (call2 59 [.str true l] (G.on [false, false, false])) := eqq (q := (((((True ∧ (decide ((↑(List.length l) : Int) < (2 : Int)) = false)) ∧ (decide ((16 : Int) < (↑(List.length l) : Int)) = false)) ∧ (((0 : Int) ≤ (1 : Int)) ∧ (((1 : Int) ≤ (↑(List.length l) : Int)) ∧ ((↑(List.length l) : Int) ≤ (↑(List.length l) : Int))))) ∧ ((!List.all (List.take (List.length l - (1 : Nat)) (List.drop (1 : Nat) l)) okB) = false)) ∧ (((0 : Int) ≤ (0 : Int)) ∧ ((0 : Int) < (↑(List.length l) : Int))))) (by kernel_rfl) ⟨⟨⟨⟨⟨trivial, c0⟩, c1⟩, ⟨c2, ⟨c3, c4⟩⟩⟩, c5⟩, ⟨c6, c7⟩⟩
theorem name_r3 (l : List UInt8) (c0 : decide ((↑(List.length l) : Int) < (2 : Int)) = false) (c1 : decide ((16 : Int) < (↑(List.length l) : Int)) = false) (c2 : (0 : Int) ≤ (1 : Int)) (c3 : (1 : Int) ≤ (↑(List.length l) : Int)) (c4 : (↑(List.length l) : Int) ≤ (↑(List.length l) : Int)) (c5 : (!List.all (List.take (List.length l - (1 : Nat)) (List.drop (1 : Nat) l)) okB) = true) : PureP (AV.tup [AV.int false .u8 0, AV.bool false]) (call2 59 [.str true l] (G.on [false, false, true])) := eqq (q := ((((True ∧ (decide ((↑(List.length l) : Int) < (2 : Int)) = false)) ∧ (decide ((16 : Int) < (↑(List.length l) : Int)) = false)) ∧ (((0 : Int) ≤ (1 : Int)) ∧ (((1 : Int) ≤ (↑(List.length l) : Int)) ∧ ((↑(List.length l) : Int) ≤ (↑(List.length l) : Int))))) ∧ ((!List.all (List.take (List.length l - (1 : Nat)) (List.drop (1 : Nat) l)) okB) = true))) (by kernel_rfl) ⟨⟨⟨⟨trivial, c0⟩, c1⟩, ⟨c2, ⟨c3, c4⟩⟩⟩, c5⟩
noncomputable def name_0 (l : List UInt8) : Int := (bif decide ((↑(List.length l) : Int) < (2 : Int)) then ((0 : Int)) else (bif decide ((16 : Int) < (↑(List.length l) : Int)) then ((0 : Int)) else (bif List.all (List.take (List.length l - (1 : Nat)) (List.drop (1 : Nat) l)) okB then (of_0 (↑(UInt8.toNat (List.getD l (0 : Nat) (0 : UInt8))) : Int)) else ((0 : Int)))))
noncomputable def name_1 (l : List UInt8) : Bool := (bif decide ((↑(List.length l) : Int) < (2 : Int)) then (false) else (bif decide ((16 : Int) < (↑(List.length l) : Int)) then (false) else (bif List.all (List.take (List.length l - (1 : Nat)) (List.drop (1 : Nat) l)) okB then (of_1 (↑(UInt8.toNat (List.getD l (0 : Nat) (0 : UInt8))) : Int)) else (false))))
noncomputable def nameS : List AV → M AV
 | [.str s0 l] => M.ret (AV.tup [AV.int s0 (IntKind.u8) (name_0 l), cmpB s0 (name_1 l)])
 | args => call2 59 args
theorem nameS_ok : ∀ args v g g', nameS args g = .done v g' → CallIs Try.prog 59 args v g g' := by
 intro args v g g' h
 unfold nameS at h
 split at h
 ·rename_i s0 l
  obtain ⟨rfl, rfl⟩ := ret_done h
  refine scal call2_ok fun μ cargs ha => ?_
  have ha' : Reps 0 MM.none [.str true l] cargs.toList := by simpa only [Reps, Rep] using ha
  cases t0 : decide ((↑(List.length l) : Int) < (2 : Int)) with
  | true =>
   exact ⟨_, _, _, ha', name_r0 l t0, rfl, fun cv hc => by have := hc g.nx μ; have e0 : name_0 l = ((0 : Int)) := (ct t0).trans (rfl); have e1 : name_1 l = (false) := (ct t0).trans (rfl); rw [e0, e1]; simpa only [Rep, Reps, Rep_cmpB] using this⟩
  | false =>
   cases t1 : decide ((16 : Int) < (↑(List.length l) : Int)) with
   | true =>
    exact ⟨_, _, _, ha', name_r1 l t0 t1, rfl, fun cv hc => by have := hc g.nx μ; have e0 : name_0 l = ((0 : Int)) := (cf t0).trans ((ct t1).trans (rfl)); have e1 : name_1 l = (false) := (cf t0).trans ((ct t1).trans (rfl)); rw [e0, e1]; simpa only [Rep, Reps, Rep_cmpB] using this⟩
   | false =>
    cases t2 : List.all (List.take (List.length l - (1 : Nat)) (List.drop (1 : Nat) l)) okB with
    | true =>
     exact ⟨_, _, _, ha', name_r2 l t0 t1 (by first | ((try simp only [decide_eq_true_eq, decide_eq_false_iff_not] at t0 t1 t2); (try simp only [List.length_take, List.length_drop]); omega) | decide | (have hp' := hp; simp_all; try omega)) (by first | ((try simp only [decide_eq_true_eq, decide_eq_false_iff_not] at t0 t1 t2); (try simp only [List.length_take, List.length_drop]); omega) | decide | (have hp' := hp; simp_all; try omega)) (by first | ((try simp only [decide_eq_true_eq, decide_eq_false_iff_not] at t0 t1 t2); (try simp only [List.length_take, List.length_drop]); omega) | decide | (have hp' := hp; simp_all; try omega)) (by rw [t2]; rfl) (by first | ((try simp only [decide_eq_true_eq, decide_eq_false_iff_not] at t0 t1 t2); (try simp only [List.length_take, List.length_drop]); omega) | decide | (have hp' := hp; simp_all; try omega)) (by first | ((try simp only [decide_eq_true_eq, decide_eq_false_iff_not] at t0 t1 t2); (try simp only [List.length_take, List.length_drop]); omega) | decide | (have hp' := hp; simp_all; try omega)), rfl, fun cv hc => by have := hc g.nx μ; have e0 : name_0 l = (of_0 (↑(UInt8.toNat (List.getD l (0 : Nat) (0 : UInt8))) : Int)) := (cf t0).trans ((cf t1).trans ((ct t2).trans (rfl))); have e1 : name_1 l = (of_1 (↑(UInt8.toNat (List.getD l (0 : Nat) (0 : UInt8))) : Int)) := (cf t0).trans ((cf t1).trans ((ct t2).trans (rfl))); rw [e0, e1]; simpa only [Rep, Reps, Rep_cmpB] using this⟩
    | false =>
     exact ⟨_, _, _, ha', name_r3 l t0 t1 (by first | ((try simp only [decide_eq_true_eq, decide_eq_false_iff_not] at t0 t1 t2); (try simp only [List.length_take, List.length_drop]); omega) | decide | (have hp' := hp; simp_all; try omega)) (by first | ((try simp only [decide_eq_true_eq, decide_eq_false_iff_not] at t0 t1 t2); (try simp only [List.length_take, List.length_drop]); omega) | decide | (have hp' := hp; simp_all; try omega)) (by first | ((try simp only [decide_eq_true_eq, decide_eq_false_iff_not] at t0 t1 t2); (try simp only [List.length_take, List.length_drop]); omega) | decide | (have hp' := hp; simp_all; try omega)) (by rw [t2]; rfl), rfl, fun cv hc => by have := hc g.nx μ; have e0 : name_0 l = ((0 : Int)) := (cf t0).trans ((cf t1).trans ((cf t2).trans (rfl))); have e1 : name_1 l = (false) := (cf t0).trans ((cf t1).trans ((cf t2).trans (rfl))); rw [e0, e1]; simpa only [Rep, Reps, Rep_cmpB] using this⟩
 ·exact call2_ok _ _ _ _ _ h
theorem nameS_tch : ∀ args, Tch (nameS args) := by
 intro args
 unfold nameS
 split
 ·exact Tch.ret _
 ·exact call2_tch _ _
theorem node_r0 (l : List UInt8) (c0 : decide ((0 : Int) < (↑(List.length l) : Int)) = true) (c1 : decide ((↑(List.length l) : Int) ≤ (16 : Int)) = true) : PureP (AV.sbool (List.all l okB)) (call2 60 [.str true l] (G.on [true, true])) := eqq (q := ((True ∧ (decide ((0 : Int) < (↑(List.length l) : Int)) = true)) ∧ (decide ((↑(List.length l) : Int) ≤ (16 : Int)) = true))) (by kernel_rfl) ⟨⟨trivial, c0⟩, c1⟩
theorem node_r1 (l : List UInt8) (c0 : decide ((0 : Int) < (↑(List.length l) : Int)) = true) (c1 : decide ((↑(List.length l) : Int) ≤ (16 : Int)) = false) : PureP (AV.bool false) (call2 60 [.str true l] (G.on [true, false])) := eqq (q := ((True ∧ (decide ((0 : Int) < (↑(List.length l) : Int)) = true)) ∧ (decide ((↑(List.length l) : Int) ≤ (16 : Int)) = false))) (by kernel_rfl) ⟨⟨trivial, c0⟩, c1⟩
theorem node_r2 (l : List UInt8) (c0 : decide ((0 : Int) < (↑(List.length l) : Int)) = false) : PureP (AV.bool false) (call2 60 [.str true l] (G.on [false])) := eqq (q := (True ∧ (decide ((0 : Int) < (↑(List.length l) : Int)) = false))) (by kernel_rfl) ⟨trivial, c0⟩
noncomputable def node_0 (l : List UInt8) : Bool := (bif decide ((0 : Int) < (↑(List.length l) : Int)) then (bif decide ((↑(List.length l) : Int) ≤ (16 : Int)) then (List.all l okB) else (false)) else (false))
noncomputable def nodeS : List AV → M AV
 | [.str s0 l] => M.ret (cmpB s0 (node_0 l))
 | args => call2 60 args
theorem nodeS_ok : ∀ args v g g', nodeS args g = .done v g' → CallIs Try.prog 60 args v g g' := by
 intro args v g g' h
 unfold nodeS at h
 split at h
 ·rename_i s0 l
  obtain ⟨rfl, rfl⟩ := ret_done h
  refine scal call2_ok fun μ cargs ha => ?_
  have ha' : Reps 0 MM.none [.str true l] cargs.toList := by simpa only [Reps, Rep] using ha
  cases t0 : decide ((0 : Int) < (↑(List.length l) : Int)) with
  | true =>
   cases t1 : decide ((↑(List.length l) : Int) ≤ (16 : Int)) with
   | true =>
    exact ⟨_, _, _, ha', node_r0 l t0 t1, rfl, fun cv hc => by have := hc g.nx μ; have e0 : node_0 l = (List.all l okB) := (ct t0).trans ((ct t1).trans (rfl)); rw [e0]; simpa only [Rep, Reps, Rep_cmpB] using this⟩
   | false =>
    exact ⟨_, _, _, ha', node_r1 l t0 t1, rfl, fun cv hc => by have := hc g.nx μ; have e0 : node_0 l = (false) := (ct t0).trans ((cf t1).trans (rfl)); rw [e0]; simpa only [Rep, Reps, Rep_cmpB] using this⟩
  | false =>
   exact ⟨_, _, _, ha', node_r2 l t0, rfl, fun cv hc => by have := hc g.nx μ; have e0 : node_0 l = (false) := (cf t0).trans (rfl); rw [e0]; simpa only [Rep, Reps, Rep_cmpB] using this⟩
 ·exact call2_ok _ _ _ _ _ h
theorem nodeS_tch : ∀ args, Tch (nodeS args) := by
 intro args
 unfold nodeS
 split
 ·exact Tch.ret _
 ·exact call2_tch _ _
noncomputable def gam3 : Known := kc 37 ofBits (kc 72 toBits (kc 80 smallS (kc 61 kindS (kc 58 rowOfS (kc 81 ofS (kc 59 nameS (kc 60 nodeS (kn))))))))
theorem gam3_ok : KnownOk Try.prog gam3 := kc_ok ((ofBits_is Try.prog).callIs Try.func37 (by kernel_rfl) (by kernel_rfl) (by kernel_rfl) (by kernel_rfl)) (kc_ok ((toBits_is Try.prog).callIs Try.func72 (by kernel_rfl) (by kernel_rfl) (by kernel_rfl) (by kernel_rfl)) (kc_ok smallS_ok (kc_ok kindS_ok (kc_ok rowOfS_ok (kc_ok ofS_ok (kc_ok nameS_ok (kc_ok nodeS_ok (kn_ok))))))))
theorem gam3_tch : KnownT gam3 := kc_tch Tch.ofBits (kc_tch Tch.toBits (kc_tch smallS_tch (kc_tch kindS_tch (kc_tch rowOfS_tch (kc_tch ofS_tch (kc_tch nameS_tch (kc_tch nodeS_tch (kn_tch))))))))
noncomputable def call3 : Calls' := Sx.runN Try.prog gam3 (regionC Try.prog) 1000 50
theorem call3_ok : CallOk Try.prog call3 := engineC gam3_ok gam3_tch (by kernel_rfl) (by kernel_rfl) 1000 50
theorem call3_tch : CallT call3 := runA_tch gam3_tch (fun _ _ _ h => by cases h) (fun call hc n l fr => regionC_tch hc n l fr) 50
theorem chk_r0 (k : Int) (n a b c d : List UInt8) (v : Nat) (ph : Int) (c0 : (!rowOf_5 k) = false) (c1 : (!name_1 n) = false) (c2 : (!decide (name_0 n = k)) = false) (c3 : (!node_0 a) = false) (c4 : (!node_0 b) = false) (c5 : rowOf_3 k = true) (c6 : (!node_0 c) = false) (c7 : (!node_0 d) = false) (c8 : (a == b) = true) : PureP (AV.int false .i64 2) (call3 33 [.agg [.int true .u8 k, .str true n, .str true a, .str true b, .str true c, .str true d, .raw true v, .int true .i64 ph]] (G.on [false, false, false, false, false, true, false, false, true])) := eqq (q := (((((((((True ∧ ((!rowOf_5 k) = false)) ∧ ((!name_1 n) = false)) ∧ ((!decide (name_0 n = k)) = false)) ∧ ((!node_0 a) = false)) ∧ ((!node_0 b) = false)) ∧ (rowOf_3 k = true)) ∧ ((!node_0 c) = false)) ∧ ((!node_0 d) = false)) ∧ ((a == b) = true))) (by kernel_rfl) ⟨⟨⟨⟨⟨⟨⟨⟨⟨trivial, c0⟩, c1⟩, c2⟩, c3⟩, c4⟩, c5⟩, c6⟩, c7⟩, c8⟩
theorem chk_r1 (k : Int) (n a b c d : List UInt8) (v : Nat) (ph : Int) (c0 : (!rowOf_5 k) = false) (c1 : (!name_1 n) = false) (c2 : (!decide (name_0 n = k)) = false) (c3 : (!node_0 a) = false) (c4 : (!node_0 b) = false) (c5 : rowOf_3 k = true) (c6 : (!node_0 c) = false) (c7 : (!node_0 d) = false) (c8 : (a == b) = false) (c9 : (!rowOf_3 k) = false) (c10 : (!rowOf_4 k) = false) (c11 : decide ((2 : Int) < kindDef v) = true) : PureP (AV.int false .i64 5) (call3 33 [.agg [.int true .u8 k, .str true n, .str true a, .str true b, .str true c, .str true d, .raw true v, .int true .i64 ph]] (G.on [false, false, false, false, false, true, false, false, false, false, false, true])) := eqq (q := ((((((((((((True ∧ ((!rowOf_5 k) = false)) ∧ ((!name_1 n) = false)) ∧ ((!decide (name_0 n = k)) = false)) ∧ ((!node_0 a) = false)) ∧ ((!node_0 b) = false)) ∧ (rowOf_3 k = true)) ∧ ((!node_0 c) = false)) ∧ ((!node_0 d) = false)) ∧ ((a == b) = false)) ∧ ((!rowOf_3 k) = false)) ∧ ((!rowOf_4 k) = false)) ∧ (decide ((2 : Int) < kindDef v) = true))) (by kernel_rfl) ⟨⟨⟨⟨⟨⟨⟨⟨⟨⟨⟨⟨trivial, c0⟩, c1⟩, c2⟩, c3⟩, c4⟩, c5⟩, c6⟩, c7⟩, c8⟩, c9⟩, c10⟩, c11⟩
theorem chk_r2 (k : Int) (n a b c d : List UInt8) (v : Nat) (ph : Int) (c0 : (!rowOf_5 k) = false) (c1 : (!name_1 n) = false) (c2 : (!decide (name_0 n = k)) = false) (c3 : (!node_0 a) = false) (c4 : (!node_0 b) = false) (c5 : rowOf_3 k = true) (c6 : (!node_0 c) = false) (c7 : (!node_0 d) = false) (c8 : (a == b) = false) (c9 : (!rowOf_3 k) = false) (c10 : (!rowOf_4 k) = false) (c11 : decide ((2 : Int) < kindDef v) = false) (c12 : rowOf_2 k = true) (c13 : fle (cn v) (0 : Nat) = true) : PureP (AV.int false .i64 2) (call3 33 [.agg [.int true .u8 k, .str true n, .str true a, .str true b, .str true c, .str true d, .raw true v, .int true .i64 ph]] (G.on [false, false, false, false, false, true, false, false, false, false, false, false, true, true])) := eqq (q := ((((((((((((((True ∧ ((!rowOf_5 k) = false)) ∧ ((!name_1 n) = false)) ∧ ((!decide (name_0 n = k)) = false)) ∧ ((!node_0 a) = false)) ∧ ((!node_0 b) = false)) ∧ (rowOf_3 k = true)) ∧ ((!node_0 c) = false)) ∧ ((!node_0 d) = false)) ∧ ((a == b) = false)) ∧ ((!rowOf_3 k) = false)) ∧ ((!rowOf_4 k) = false)) ∧ (decide ((2 : Int) < kindDef v) = false)) ∧ (rowOf_2 k = true)) ∧ (fle (cn v) (0 : Nat) = true))) (by kernel_rfl) ⟨⟨⟨⟨⟨⟨⟨⟨⟨⟨⟨⟨⟨⟨trivial, c0⟩, c1⟩, c2⟩, c3⟩, c4⟩, c5⟩, c6⟩, c7⟩, c8⟩, c9⟩, c10⟩, c11⟩, c12⟩, c13⟩
theorem chk_r3 (k : Int) (n a b c d : List UInt8) (v : Nat) (ph : Int) (c0 : (!rowOf_5 k) = false) (c1 : (!name_1 n) = false) (c2 : (!decide (name_0 n = k)) = false) (c3 : (!node_0 a) = false) (c4 : (!node_0 b) = false) (c5 : rowOf_3 k = true) (c6 : (!node_0 c) = false) (c7 : (!node_0 d) = false) (c8 : (a == b) = false) (c9 : (!rowOf_3 k) = false) (c10 : (!rowOf_4 k) = false) (c11 : decide ((2 : Int) < kindDef v) = false) (c12 : rowOf_2 k = true) (c13 : fle (cn v) (0 : Nat) = false) : PureP (AV.int false .i64 0) (call3 33 [.agg [.int true .u8 k, .str true n, .str true a, .str true b, .str true c, .str true d, .raw true v, .int true .i64 ph]] (G.on [false, false, false, false, false, true, false, false, false, false, false, false, true, false])) := eqq (q := ((((((((((((((True ∧ ((!rowOf_5 k) = false)) ∧ ((!name_1 n) = false)) ∧ ((!decide (name_0 n = k)) = false)) ∧ ((!node_0 a) = false)) ∧ ((!node_0 b) = false)) ∧ (rowOf_3 k = true)) ∧ ((!node_0 c) = false)) ∧ ((!node_0 d) = false)) ∧ ((a == b) = false)) ∧ ((!rowOf_3 k) = false)) ∧ ((!rowOf_4 k) = false)) ∧ (decide ((2 : Int) < kindDef v) = false)) ∧ (rowOf_2 k = true)) ∧ (fle (cn v) (0 : Nat) = false))) (by kernel_rfl) ⟨⟨⟨⟨⟨⟨⟨⟨⟨⟨⟨⟨⟨⟨trivial, c0⟩, c1⟩, c2⟩, c3⟩, c4⟩, c5⟩, c6⟩, c7⟩, c8⟩, c9⟩, c10⟩, c11⟩, c12⟩, c13⟩
theorem chk_r4 (k : Int) (n a b c d : List UInt8) (v : Nat) (ph : Int) (c0 : (!rowOf_5 k) = false) (c1 : (!name_1 n) = false) (c2 : (!decide (name_0 n = k)) = false) (c3 : (!node_0 a) = false) (c4 : (!node_0 b) = false) (c5 : rowOf_3 k = true) (c6 : (!node_0 c) = false) (c7 : (!node_0 d) = false) (c8 : (a == b) = false) (c9 : (!rowOf_3 k) = false) (c10 : (!rowOf_4 k) = false) (c11 : decide ((2 : Int) < kindDef v) = false) (c12 : rowOf_2 k = false) : PureP (AV.int false .i64 0) (call3 33 [.agg [.int true .u8 k, .str true n, .str true a, .str true b, .str true c, .str true d, .raw true v, .int true .i64 ph]] (G.on [false, false, false, false, false, true, false, false, false, false, false, false, false])) := eqq (q := (((((((((((((True ∧ ((!rowOf_5 k) = false)) ∧ ((!name_1 n) = false)) ∧ ((!decide (name_0 n = k)) = false)) ∧ ((!node_0 a) = false)) ∧ ((!node_0 b) = false)) ∧ (rowOf_3 k = true)) ∧ ((!node_0 c) = false)) ∧ ((!node_0 d) = false)) ∧ ((a == b) = false)) ∧ ((!rowOf_3 k) = false)) ∧ ((!rowOf_4 k) = false)) ∧ (decide ((2 : Int) < kindDef v) = false)) ∧ (rowOf_2 k = false))) (by kernel_rfl) ⟨⟨⟨⟨⟨⟨⟨⟨⟨⟨⟨⟨⟨trivial, c0⟩, c1⟩, c2⟩, c3⟩, c4⟩, c5⟩, c6⟩, c7⟩, c8⟩, c9⟩, c10⟩, c11⟩, c12⟩
theorem chk_r5 (k : Int) (n a b c d : List UInt8) (v : Nat) (ph : Int) (c0 : (!rowOf_5 k) = false) (c1 : (!name_1 n) = false) (c2 : (!decide (name_0 n = k)) = false) (c3 : (!node_0 a) = false) (c4 : (!node_0 b) = false) (c5 : rowOf_3 k = true) (c6 : (!node_0 c) = false) (c7 : (!node_0 d) = false) (c8 : (a == b) = false) (c9 : (!rowOf_3 k) = false) (c10 : (!rowOf_4 k) = true) (c11 : (!decide (ph = (0 : Int))) = false) (c12 : decide ((2 : Int) < kindDef v) = true) : PureP (AV.int false .i64 5) (call3 33 [.agg [.int true .u8 k, .str true n, .str true a, .str true b, .str true c, .str true d, .raw true v, .int true .i64 ph]] (G.on [false, false, false, false, false, true, false, false, false, false, true, false, true])) := eqq (q := (((((((((((((True ∧ ((!rowOf_5 k) = false)) ∧ ((!name_1 n) = false)) ∧ ((!decide (name_0 n = k)) = false)) ∧ ((!node_0 a) = false)) ∧ ((!node_0 b) = false)) ∧ (rowOf_3 k = true)) ∧ ((!node_0 c) = false)) ∧ ((!node_0 d) = false)) ∧ ((a == b) = false)) ∧ ((!rowOf_3 k) = false)) ∧ ((!rowOf_4 k) = true)) ∧ ((!decide (ph = (0 : Int))) = false)) ∧ (decide ((2 : Int) < kindDef v) = true))) (by kernel_rfl) ⟨⟨⟨⟨⟨⟨⟨⟨⟨⟨⟨⟨⟨trivial, c0⟩, c1⟩, c2⟩, c3⟩, c4⟩, c5⟩, c6⟩, c7⟩, c8⟩, c9⟩, c10⟩, c11⟩, c12⟩
theorem chk_r6 (k : Int) (n a b c d : List UInt8) (v : Nat) (ph : Int) (c0 : (!rowOf_5 k) = false) (c1 : (!name_1 n) = false) (c2 : (!decide (name_0 n = k)) = false) (c3 : (!node_0 a) = false) (c4 : (!node_0 b) = false) (c5 : rowOf_3 k = true) (c6 : (!node_0 c) = false) (c7 : (!node_0 d) = false) (c8 : (a == b) = false) (c9 : (!rowOf_3 k) = false) (c10 : (!rowOf_4 k) = true) (c11 : (!decide (ph = (0 : Int))) = false) (c12 : decide ((2 : Int) < kindDef v) = false) (c13 : rowOf_2 k = true) (c14 : fle (cn v) (0 : Nat) = true) : PureP (AV.int false .i64 2) (call3 33 [.agg [.int true .u8 k, .str true n, .str true a, .str true b, .str true c, .str true d, .raw true v, .int true .i64 ph]] (G.on [false, false, false, false, false, true, false, false, false, false, true, false, false, true, true])) := eqq (q := (((((((((((((((True ∧ ((!rowOf_5 k) = false)) ∧ ((!name_1 n) = false)) ∧ ((!decide (name_0 n = k)) = false)) ∧ ((!node_0 a) = false)) ∧ ((!node_0 b) = false)) ∧ (rowOf_3 k = true)) ∧ ((!node_0 c) = false)) ∧ ((!node_0 d) = false)) ∧ ((a == b) = false)) ∧ ((!rowOf_3 k) = false)) ∧ ((!rowOf_4 k) = true)) ∧ ((!decide (ph = (0 : Int))) = false)) ∧ (decide ((2 : Int) < kindDef v) = false)) ∧ (rowOf_2 k = true)) ∧ (fle (cn v) (0 : Nat) = true))) (by kernel_rfl) ⟨⟨⟨⟨⟨⟨⟨⟨⟨⟨⟨⟨⟨⟨⟨trivial, c0⟩, c1⟩, c2⟩, c3⟩, c4⟩, c5⟩, c6⟩, c7⟩, c8⟩, c9⟩, c10⟩, c11⟩, c12⟩, c13⟩, c14⟩
theorem chk_r7 (k : Int) (n a b c d : List UInt8) (v : Nat) (ph : Int) (c0 : (!rowOf_5 k) = false) (c1 : (!name_1 n) = false) (c2 : (!decide (name_0 n = k)) = false) (c3 : (!node_0 a) = false) (c4 : (!node_0 b) = false) (c5 : rowOf_3 k = true) (c6 : (!node_0 c) = false) (c7 : (!node_0 d) = false) (c8 : (a == b) = false) (c9 : (!rowOf_3 k) = false) (c10 : (!rowOf_4 k) = true) (c11 : (!decide (ph = (0 : Int))) = false) (c12 : decide ((2 : Int) < kindDef v) = false) (c13 : rowOf_2 k = true) (c14 : fle (cn v) (0 : Nat) = false) : PureP (AV.int false .i64 0) (call3 33 [.agg [.int true .u8 k, .str true n, .str true a, .str true b, .str true c, .str true d, .raw true v, .int true .i64 ph]] (G.on [false, false, false, false, false, true, false, false, false, false, true, false, false, true, false])) := eqq (q := (((((((((((((((True ∧ ((!rowOf_5 k) = false)) ∧ ((!name_1 n) = false)) ∧ ((!decide (name_0 n = k)) = false)) ∧ ((!node_0 a) = false)) ∧ ((!node_0 b) = false)) ∧ (rowOf_3 k = true)) ∧ ((!node_0 c) = false)) ∧ ((!node_0 d) = false)) ∧ ((a == b) = false)) ∧ ((!rowOf_3 k) = false)) ∧ ((!rowOf_4 k) = true)) ∧ ((!decide (ph = (0 : Int))) = false)) ∧ (decide ((2 : Int) < kindDef v) = false)) ∧ (rowOf_2 k = true)) ∧ (fle (cn v) (0 : Nat) = false))) (by kernel_rfl) ⟨⟨⟨⟨⟨⟨⟨⟨⟨⟨⟨⟨⟨⟨⟨trivial, c0⟩, c1⟩, c2⟩, c3⟩, c4⟩, c5⟩, c6⟩, c7⟩, c8⟩, c9⟩, c10⟩, c11⟩, c12⟩, c13⟩, c14⟩
theorem chk_r8 (k : Int) (n a b c d : List UInt8) (v : Nat) (ph : Int) (c0 : (!rowOf_5 k) = false) (c1 : (!name_1 n) = false) (c2 : (!decide (name_0 n = k)) = false) (c3 : (!node_0 a) = false) (c4 : (!node_0 b) = false) (c5 : rowOf_3 k = true) (c6 : (!node_0 c) = false) (c7 : (!node_0 d) = false) (c8 : (a == b) = false) (c9 : (!rowOf_3 k) = false) (c10 : (!rowOf_4 k) = true) (c11 : (!decide (ph = (0 : Int))) = false) (c12 : decide ((2 : Int) < kindDef v) = false) (c13 : rowOf_2 k = false) : PureP (AV.int false .i64 0) (call3 33 [.agg [.int true .u8 k, .str true n, .str true a, .str true b, .str true c, .str true d, .raw true v, .int true .i64 ph]] (G.on [false, false, false, false, false, true, false, false, false, false, true, false, false, false])) := eqq (q := ((((((((((((((True ∧ ((!rowOf_5 k) = false)) ∧ ((!name_1 n) = false)) ∧ ((!decide (name_0 n = k)) = false)) ∧ ((!node_0 a) = false)) ∧ ((!node_0 b) = false)) ∧ (rowOf_3 k = true)) ∧ ((!node_0 c) = false)) ∧ ((!node_0 d) = false)) ∧ ((a == b) = false)) ∧ ((!rowOf_3 k) = false)) ∧ ((!rowOf_4 k) = true)) ∧ ((!decide (ph = (0 : Int))) = false)) ∧ (decide ((2 : Int) < kindDef v) = false)) ∧ (rowOf_2 k = false))) (by kernel_rfl) ⟨⟨⟨⟨⟨⟨⟨⟨⟨⟨⟨⟨⟨⟨trivial, c0⟩, c1⟩, c2⟩, c3⟩, c4⟩, c5⟩, c6⟩, c7⟩, c8⟩, c9⟩, c10⟩, c11⟩, c12⟩, c13⟩
theorem chk_r9 (k : Int) (n a b c d : List UInt8) (v : Nat) (ph : Int) (c0 : (!rowOf_5 k) = false) (c1 : (!name_1 n) = false) (c2 : (!decide (name_0 n = k)) = false) (c3 : (!node_0 a) = false) (c4 : (!node_0 b) = false) (c5 : rowOf_3 k = true) (c6 : (!node_0 c) = false) (c7 : (!node_0 d) = false) (c8 : (a == b) = false) (c9 : (!rowOf_3 k) = false) (c10 : (!rowOf_4 k) = true) (c11 : (!decide (ph = (0 : Int))) = true) : PureP (AV.int false .i64 2) (call3 33 [.agg [.int true .u8 k, .str true n, .str true a, .str true b, .str true c, .str true d, .raw true v, .int true .i64 ph]] (G.on [false, false, false, false, false, true, false, false, false, false, true, true])) := eqq (q := ((((((((((((True ∧ ((!rowOf_5 k) = false)) ∧ ((!name_1 n) = false)) ∧ ((!decide (name_0 n = k)) = false)) ∧ ((!node_0 a) = false)) ∧ ((!node_0 b) = false)) ∧ (rowOf_3 k = true)) ∧ ((!node_0 c) = false)) ∧ ((!node_0 d) = false)) ∧ ((a == b) = false)) ∧ ((!rowOf_3 k) = false)) ∧ ((!rowOf_4 k) = true)) ∧ ((!decide (ph = (0 : Int))) = true))) (by kernel_rfl) ⟨⟨⟨⟨⟨⟨⟨⟨⟨⟨⟨⟨trivial, c0⟩, c1⟩, c2⟩, c3⟩, c4⟩, c5⟩, c6⟩, c7⟩, c8⟩, c9⟩, c10⟩, c11⟩
theorem chk_r10 (k : Int) (n a b c d : List UInt8) (v : Nat) (ph : Int) (c0 : (!rowOf_5 k) = false) (c1 : (!name_1 n) = false) (c2 : (!decide (name_0 n = k)) = false) (c3 : (!node_0 a) = false) (c4 : (!node_0 b) = false) (c5 : rowOf_3 k = true) (c6 : (!node_0 c) = false) (c7 : (!node_0 d) = true) : PureP (AV.int false .i64 8) (call3 33 [.agg [.int true .u8 k, .str true n, .str true a, .str true b, .str true c, .str true d, .raw true v, .int true .i64 ph]] (G.on [false, false, false, false, false, true, false, true])) := eqq (q := ((((((((True ∧ ((!rowOf_5 k) = false)) ∧ ((!name_1 n) = false)) ∧ ((!decide (name_0 n = k)) = false)) ∧ ((!node_0 a) = false)) ∧ ((!node_0 b) = false)) ∧ (rowOf_3 k = true)) ∧ ((!node_0 c) = false)) ∧ ((!node_0 d) = true))) (by kernel_rfl) ⟨⟨⟨⟨⟨⟨⟨⟨trivial, c0⟩, c1⟩, c2⟩, c3⟩, c4⟩, c5⟩, c6⟩, c7⟩
theorem chk_r11 (k : Int) (n a b c d : List UInt8) (v : Nat) (ph : Int) (c0 : (!rowOf_5 k) = false) (c1 : (!name_1 n) = false) (c2 : (!decide (name_0 n = k)) = false) (c3 : (!node_0 a) = false) (c4 : (!node_0 b) = false) (c5 : rowOf_3 k = true) (c6 : (!node_0 c) = true) : PureP (AV.int false .i64 8) (call3 33 [.agg [.int true .u8 k, .str true n, .str true a, .str true b, .str true c, .str true d, .raw true v, .int true .i64 ph]] (G.on [false, false, false, false, false, true, true])) := eqq (q := (((((((True ∧ ((!rowOf_5 k) = false)) ∧ ((!name_1 n) = false)) ∧ ((!decide (name_0 n = k)) = false)) ∧ ((!node_0 a) = false)) ∧ ((!node_0 b) = false)) ∧ (rowOf_3 k = true)) ∧ ((!node_0 c) = true))) (by kernel_rfl) ⟨⟨⟨⟨⟨⟨⟨trivial, c0⟩, c1⟩, c2⟩, c3⟩, c4⟩, c5⟩, c6⟩
theorem chk_r12 (k : Int) (n a b c d : List UInt8) (v : Nat) (ph : Int) (c0 : (!rowOf_5 k) = false) (c1 : (!name_1 n) = false) (c2 : (!decide (name_0 n = k)) = false) (c3 : (!node_0 a) = false) (c4 : (!node_0 b) = false) (c5 : rowOf_3 k = false) (c6 : (a == b) = true) : PureP (AV.int false .i64 2) (call3 33 [.agg [.int true .u8 k, .str true n, .str true a, .str true b, .str true c, .str true d, .raw true v, .int true .i64 ph]] (G.on [false, false, false, false, false, false, true])) := eqq (q := (((((((True ∧ ((!rowOf_5 k) = false)) ∧ ((!name_1 n) = false)) ∧ ((!decide (name_0 n = k)) = false)) ∧ ((!node_0 a) = false)) ∧ ((!node_0 b) = false)) ∧ (rowOf_3 k = false)) ∧ ((a == b) = true))) (by kernel_rfl) ⟨⟨⟨⟨⟨⟨⟨trivial, c0⟩, c1⟩, c2⟩, c3⟩, c4⟩, c5⟩, c6⟩
theorem chk_r13 (k : Int) (n a b c d : List UInt8) (v : Nat) (ph : Int) (c0 : (!rowOf_5 k) = false) (c1 : (!name_1 n) = false) (c2 : (!decide (name_0 n = k)) = false) (c3 : (!node_0 a) = false) (c4 : (!node_0 b) = false) (c5 : rowOf_3 k = false) (c6 : (a == b) = false) (c7 : (!rowOf_3 k) = true) (c8 : (!c == []) = false) (c9 : (!d == []) = false) (c10 : (!rowOf_4 k) = false) (c11 : decide ((2 : Int) < kindDef v) = true) : PureP (AV.int false .i64 5) (call3 33 [.agg [.int true .u8 k, .str true n, .str true a, .str true b, .str true c, .str true d, .raw true v, .int true .i64 ph]] (G.on [false, false, false, false, false, false, false, true, false, false, false, true])) := eqq (q := ((((((((((((True ∧ ((!rowOf_5 k) = false)) ∧ ((!name_1 n) = false)) ∧ ((!decide (name_0 n = k)) = false)) ∧ ((!node_0 a) = false)) ∧ ((!node_0 b) = false)) ∧ (rowOf_3 k = false)) ∧ ((a == b) = false)) ∧ ((!rowOf_3 k) = true)) ∧ ((!c == []) = false)) ∧ ((!d == []) = false)) ∧ ((!rowOf_4 k) = false)) ∧ (decide ((2 : Int) < kindDef v) = true))) (by kernel_rfl) ⟨⟨⟨⟨⟨⟨⟨⟨⟨⟨⟨⟨trivial, c0⟩, c1⟩, c2⟩, c3⟩, c4⟩, c5⟩, c6⟩, c7⟩, c8⟩, c9⟩, c10⟩, c11⟩
theorem chk_r14 (k : Int) (n a b c d : List UInt8) (v : Nat) (ph : Int) (c0 : (!rowOf_5 k) = false) (c1 : (!name_1 n) = false) (c2 : (!decide (name_0 n = k)) = false) (c3 : (!node_0 a) = false) (c4 : (!node_0 b) = false) (c5 : rowOf_3 k = false) (c6 : (a == b) = false) (c7 : (!rowOf_3 k) = true) (c8 : (!c == []) = false) (c9 : (!d == []) = false) (c10 : (!rowOf_4 k) = false) (c11 : decide ((2 : Int) < kindDef v) = false) (c12 : rowOf_2 k = true) (c13 : fle (cn v) (0 : Nat) = true) : PureP (AV.int false .i64 2) (call3 33 [.agg [.int true .u8 k, .str true n, .str true a, .str true b, .str true c, .str true d, .raw true v, .int true .i64 ph]] (G.on [false, false, false, false, false, false, false, true, false, false, false, false, true, true])) := eqq (q := ((((((((((((((True ∧ ((!rowOf_5 k) = false)) ∧ ((!name_1 n) = false)) ∧ ((!decide (name_0 n = k)) = false)) ∧ ((!node_0 a) = false)) ∧ ((!node_0 b) = false)) ∧ (rowOf_3 k = false)) ∧ ((a == b) = false)) ∧ ((!rowOf_3 k) = true)) ∧ ((!c == []) = false)) ∧ ((!d == []) = false)) ∧ ((!rowOf_4 k) = false)) ∧ (decide ((2 : Int) < kindDef v) = false)) ∧ (rowOf_2 k = true)) ∧ (fle (cn v) (0 : Nat) = true))) (by kernel_rfl) ⟨⟨⟨⟨⟨⟨⟨⟨⟨⟨⟨⟨⟨⟨trivial, c0⟩, c1⟩, c2⟩, c3⟩, c4⟩, c5⟩, c6⟩, c7⟩, c8⟩, c9⟩, c10⟩, c11⟩, c12⟩, c13⟩
theorem chk_r15 (k : Int) (n a b c d : List UInt8) (v : Nat) (ph : Int) (c0 : (!rowOf_5 k) = false) (c1 : (!name_1 n) = false) (c2 : (!decide (name_0 n = k)) = false) (c3 : (!node_0 a) = false) (c4 : (!node_0 b) = false) (c5 : rowOf_3 k = false) (c6 : (a == b) = false) (c7 : (!rowOf_3 k) = true) (c8 : (!c == []) = false) (c9 : (!d == []) = false) (c10 : (!rowOf_4 k) = false) (c11 : decide ((2 : Int) < kindDef v) = false) (c12 : rowOf_2 k = true) (c13 : fle (cn v) (0 : Nat) = false) : PureP (AV.int false .i64 0) (call3 33 [.agg [.int true .u8 k, .str true n, .str true a, .str true b, .str true c, .str true d, .raw true v, .int true .i64 ph]] (G.on [false, false, false, false, false, false, false, true, false, false, false, false, true, false])) := eqq (q := ((((((((((((((True ∧ ((!rowOf_5 k) = false)) ∧ ((!name_1 n) = false)) ∧ ((!decide (name_0 n = k)) = false)) ∧ ((!node_0 a) = false)) ∧ ((!node_0 b) = false)) ∧ (rowOf_3 k = false)) ∧ ((a == b) = false)) ∧ ((!rowOf_3 k) = true)) ∧ ((!c == []) = false)) ∧ ((!d == []) = false)) ∧ ((!rowOf_4 k) = false)) ∧ (decide ((2 : Int) < kindDef v) = false)) ∧ (rowOf_2 k = true)) ∧ (fle (cn v) (0 : Nat) = false))) (by kernel_rfl) ⟨⟨⟨⟨⟨⟨⟨⟨⟨⟨⟨⟨⟨⟨trivial, c0⟩, c1⟩, c2⟩, c3⟩, c4⟩, c5⟩, c6⟩, c7⟩, c8⟩, c9⟩, c10⟩, c11⟩, c12⟩, c13⟩
theorem chk_r16 (k : Int) (n a b c d : List UInt8) (v : Nat) (ph : Int) (c0 : (!rowOf_5 k) = false) (c1 : (!name_1 n) = false) (c2 : (!decide (name_0 n = k)) = false) (c3 : (!node_0 a) = false) (c4 : (!node_0 b) = false) (c5 : rowOf_3 k = false) (c6 : (a == b) = false) (c7 : (!rowOf_3 k) = true) (c8 : (!c == []) = false) (c9 : (!d == []) = false) (c10 : (!rowOf_4 k) = false) (c11 : decide ((2 : Int) < kindDef v) = false) (c12 : rowOf_2 k = false) : PureP (AV.int false .i64 0) (call3 33 [.agg [.int true .u8 k, .str true n, .str true a, .str true b, .str true c, .str true d, .raw true v, .int true .i64 ph]] (G.on [false, false, false, false, false, false, false, true, false, false, false, false, false])) := eqq (q := (((((((((((((True ∧ ((!rowOf_5 k) = false)) ∧ ((!name_1 n) = false)) ∧ ((!decide (name_0 n = k)) = false)) ∧ ((!node_0 a) = false)) ∧ ((!node_0 b) = false)) ∧ (rowOf_3 k = false)) ∧ ((a == b) = false)) ∧ ((!rowOf_3 k) = true)) ∧ ((!c == []) = false)) ∧ ((!d == []) = false)) ∧ ((!rowOf_4 k) = false)) ∧ (decide ((2 : Int) < kindDef v) = false)) ∧ (rowOf_2 k = false))) (by kernel_rfl) ⟨⟨⟨⟨⟨⟨⟨⟨⟨⟨⟨⟨⟨trivial, c0⟩, c1⟩, c2⟩, c3⟩, c4⟩, c5⟩, c6⟩, c7⟩, c8⟩, c9⟩, c10⟩, c11⟩, c12⟩
theorem chk_r17 (k : Int) (n a b c d : List UInt8) (v : Nat) (ph : Int) (c0 : (!rowOf_5 k) = false) (c1 : (!name_1 n) = false) (c2 : (!decide (name_0 n = k)) = false) (c3 : (!node_0 a) = false) (c4 : (!node_0 b) = false) (c5 : rowOf_3 k = false) (c6 : (a == b) = false) (c7 : (!rowOf_3 k) = true) (c8 : (!c == []) = false) (c9 : (!d == []) = false) (c10 : (!rowOf_4 k) = true) (c11 : (!decide (ph = (0 : Int))) = false) (c12 : decide ((2 : Int) < kindDef v) = true) : PureP (AV.int false .i64 5) (call3 33 [.agg [.int true .u8 k, .str true n, .str true a, .str true b, .str true c, .str true d, .raw true v, .int true .i64 ph]] (G.on [false, false, false, false, false, false, false, true, false, false, true, false, true])) := eqq (q := (((((((((((((True ∧ ((!rowOf_5 k) = false)) ∧ ((!name_1 n) = false)) ∧ ((!decide (name_0 n = k)) = false)) ∧ ((!node_0 a) = false)) ∧ ((!node_0 b) = false)) ∧ (rowOf_3 k = false)) ∧ ((a == b) = false)) ∧ ((!rowOf_3 k) = true)) ∧ ((!c == []) = false)) ∧ ((!d == []) = false)) ∧ ((!rowOf_4 k) = true)) ∧ ((!decide (ph = (0 : Int))) = false)) ∧ (decide ((2 : Int) < kindDef v) = true))) (by kernel_rfl) ⟨⟨⟨⟨⟨⟨⟨⟨⟨⟨⟨⟨⟨trivial, c0⟩, c1⟩, c2⟩, c3⟩, c4⟩, c5⟩, c6⟩, c7⟩, c8⟩, c9⟩, c10⟩, c11⟩, c12⟩
theorem chk_r18 (k : Int) (n a b c d : List UInt8) (v : Nat) (ph : Int) (c0 : (!rowOf_5 k) = false) (c1 : (!name_1 n) = false) (c2 : (!decide (name_0 n = k)) = false) (c3 : (!node_0 a) = false) (c4 : (!node_0 b) = false) (c5 : rowOf_3 k = false) (c6 : (a == b) = false) (c7 : (!rowOf_3 k) = true) (c8 : (!c == []) = false) (c9 : (!d == []) = false) (c10 : (!rowOf_4 k) = true) (c11 : (!decide (ph = (0 : Int))) = false) (c12 : decide ((2 : Int) < kindDef v) = false) (c13 : rowOf_2 k = true) (c14 : fle (cn v) (0 : Nat) = true) : PureP (AV.int false .i64 2) (call3 33 [.agg [.int true .u8 k, .str true n, .str true a, .str true b, .str true c, .str true d, .raw true v, .int true .i64 ph]] (G.on [false, false, false, false, false, false, false, true, false, false, true, false, false, true, true])) := eqq (q := (((((((((((((((True ∧ ((!rowOf_5 k) = false)) ∧ ((!name_1 n) = false)) ∧ ((!decide (name_0 n = k)) = false)) ∧ ((!node_0 a) = false)) ∧ ((!node_0 b) = false)) ∧ (rowOf_3 k = false)) ∧ ((a == b) = false)) ∧ ((!rowOf_3 k) = true)) ∧ ((!c == []) = false)) ∧ ((!d == []) = false)) ∧ ((!rowOf_4 k) = true)) ∧ ((!decide (ph = (0 : Int))) = false)) ∧ (decide ((2 : Int) < kindDef v) = false)) ∧ (rowOf_2 k = true)) ∧ (fle (cn v) (0 : Nat) = true))) (by kernel_rfl) ⟨⟨⟨⟨⟨⟨⟨⟨⟨⟨⟨⟨⟨⟨⟨trivial, c0⟩, c1⟩, c2⟩, c3⟩, c4⟩, c5⟩, c6⟩, c7⟩, c8⟩, c9⟩, c10⟩, c11⟩, c12⟩, c13⟩, c14⟩
theorem chk_r19 (k : Int) (n a b c d : List UInt8) (v : Nat) (ph : Int) (c0 : (!rowOf_5 k) = false) (c1 : (!name_1 n) = false) (c2 : (!decide (name_0 n = k)) = false) (c3 : (!node_0 a) = false) (c4 : (!node_0 b) = false) (c5 : rowOf_3 k = false) (c6 : (a == b) = false) (c7 : (!rowOf_3 k) = true) (c8 : (!c == []) = false) (c9 : (!d == []) = false) (c10 : (!rowOf_4 k) = true) (c11 : (!decide (ph = (0 : Int))) = false) (c12 : decide ((2 : Int) < kindDef v) = false) (c13 : rowOf_2 k = true) (c14 : fle (cn v) (0 : Nat) = false) : PureP (AV.int false .i64 0) (call3 33 [.agg [.int true .u8 k, .str true n, .str true a, .str true b, .str true c, .str true d, .raw true v, .int true .i64 ph]] (G.on [false, false, false, false, false, false, false, true, false, false, true, false, false, true, false])) := eqq (q := (((((((((((((((True ∧ ((!rowOf_5 k) = false)) ∧ ((!name_1 n) = false)) ∧ ((!decide (name_0 n = k)) = false)) ∧ ((!node_0 a) = false)) ∧ ((!node_0 b) = false)) ∧ (rowOf_3 k = false)) ∧ ((a == b) = false)) ∧ ((!rowOf_3 k) = true)) ∧ ((!c == []) = false)) ∧ ((!d == []) = false)) ∧ ((!rowOf_4 k) = true)) ∧ ((!decide (ph = (0 : Int))) = false)) ∧ (decide ((2 : Int) < kindDef v) = false)) ∧ (rowOf_2 k = true)) ∧ (fle (cn v) (0 : Nat) = false))) (by kernel_rfl) ⟨⟨⟨⟨⟨⟨⟨⟨⟨⟨⟨⟨⟨⟨⟨trivial, c0⟩, c1⟩, c2⟩, c3⟩, c4⟩, c5⟩, c6⟩, c7⟩, c8⟩, c9⟩, c10⟩, c11⟩, c12⟩, c13⟩, c14⟩
theorem chk_r20 (k : Int) (n a b c d : List UInt8) (v : Nat) (ph : Int) (c0 : (!rowOf_5 k) = false) (c1 : (!name_1 n) = false) (c2 : (!decide (name_0 n = k)) = false) (c3 : (!node_0 a) = false) (c4 : (!node_0 b) = false) (c5 : rowOf_3 k = false) (c6 : (a == b) = false) (c7 : (!rowOf_3 k) = true) (c8 : (!c == []) = false) (c9 : (!d == []) = false) (c10 : (!rowOf_4 k) = true) (c11 : (!decide (ph = (0 : Int))) = false) (c12 : decide ((2 : Int) < kindDef v) = false) (c13 : rowOf_2 k = false) : PureP (AV.int false .i64 0) (call3 33 [.agg [.int true .u8 k, .str true n, .str true a, .str true b, .str true c, .str true d, .raw true v, .int true .i64 ph]] (G.on [false, false, false, false, false, false, false, true, false, false, true, false, false, false])) := eqq (q := ((((((((((((((True ∧ ((!rowOf_5 k) = false)) ∧ ((!name_1 n) = false)) ∧ ((!decide (name_0 n = k)) = false)) ∧ ((!node_0 a) = false)) ∧ ((!node_0 b) = false)) ∧ (rowOf_3 k = false)) ∧ ((a == b) = false)) ∧ ((!rowOf_3 k) = true)) ∧ ((!c == []) = false)) ∧ ((!d == []) = false)) ∧ ((!rowOf_4 k) = true)) ∧ ((!decide (ph = (0 : Int))) = false)) ∧ (decide ((2 : Int) < kindDef v) = false)) ∧ (rowOf_2 k = false))) (by kernel_rfl) ⟨⟨⟨⟨⟨⟨⟨⟨⟨⟨⟨⟨⟨⟨trivial, c0⟩, c1⟩, c2⟩, c3⟩, c4⟩, c5⟩, c6⟩, c7⟩, c8⟩, c9⟩, c10⟩, c11⟩, c12⟩, c13⟩
theorem chk_r21 (k : Int) (n a b c d : List UInt8) (v : Nat) (ph : Int) (c0 : (!rowOf_5 k) = false) (c1 : (!name_1 n) = false) (c2 : (!decide (name_0 n = k)) = false) (c3 : (!node_0 a) = false) (c4 : (!node_0 b) = false) (c5 : rowOf_3 k = false) (c6 : (a == b) = false) (c7 : (!rowOf_3 k) = true) (c8 : (!c == []) = false) (c9 : (!d == []) = false) (c10 : (!rowOf_4 k) = true) (c11 : (!decide (ph = (0 : Int))) = true) : PureP (AV.int false .i64 2) (call3 33 [.agg [.int true .u8 k, .str true n, .str true a, .str true b, .str true c, .str true d, .raw true v, .int true .i64 ph]] (G.on [false, false, false, false, false, false, false, true, false, false, true, true])) := eqq (q := ((((((((((((True ∧ ((!rowOf_5 k) = false)) ∧ ((!name_1 n) = false)) ∧ ((!decide (name_0 n = k)) = false)) ∧ ((!node_0 a) = false)) ∧ ((!node_0 b) = false)) ∧ (rowOf_3 k = false)) ∧ ((a == b) = false)) ∧ ((!rowOf_3 k) = true)) ∧ ((!c == []) = false)) ∧ ((!d == []) = false)) ∧ ((!rowOf_4 k) = true)) ∧ ((!decide (ph = (0 : Int))) = true))) (by kernel_rfl) ⟨⟨⟨⟨⟨⟨⟨⟨⟨⟨⟨⟨trivial, c0⟩, c1⟩, c2⟩, c3⟩, c4⟩, c5⟩, c6⟩, c7⟩, c8⟩, c9⟩, c10⟩, c11⟩
theorem chk_r22 (k : Int) (n a b c d : List UInt8) (v : Nat) (ph : Int) (c0 : (!rowOf_5 k) = false) (c1 : (!name_1 n) = false) (c2 : (!decide (name_0 n = k)) = false) (c3 : (!node_0 a) = false) (c4 : (!node_0 b) = false) (c5 : rowOf_3 k = false) (c6 : (a == b) = false) (c7 : (!rowOf_3 k) = true) (c8 : (!c == []) = false) (c9 : (!d == []) = true) : PureP (AV.int false .i64 2) (call3 33 [.agg [.int true .u8 k, .str true n, .str true a, .str true b, .str true c, .str true d, .raw true v, .int true .i64 ph]] (G.on [false, false, false, false, false, false, false, true, false, true])) := eqq (q := ((((((((((True ∧ ((!rowOf_5 k) = false)) ∧ ((!name_1 n) = false)) ∧ ((!decide (name_0 n = k)) = false)) ∧ ((!node_0 a) = false)) ∧ ((!node_0 b) = false)) ∧ (rowOf_3 k = false)) ∧ ((a == b) = false)) ∧ ((!rowOf_3 k) = true)) ∧ ((!c == []) = false)) ∧ ((!d == []) = true))) (by kernel_rfl) ⟨⟨⟨⟨⟨⟨⟨⟨⟨⟨trivial, c0⟩, c1⟩, c2⟩, c3⟩, c4⟩, c5⟩, c6⟩, c7⟩, c8⟩, c9⟩
theorem chk_r23 (k : Int) (n a b c d : List UInt8) (v : Nat) (ph : Int) (c0 : (!rowOf_5 k) = false) (c1 : (!name_1 n) = false) (c2 : (!decide (name_0 n = k)) = false) (c3 : (!node_0 a) = false) (c4 : (!node_0 b) = false) (c5 : rowOf_3 k = false) (c6 : (a == b) = false) (c7 : (!rowOf_3 k) = true) (c8 : (!c == []) = true) : PureP (AV.int false .i64 2) (call3 33 [.agg [.int true .u8 k, .str true n, .str true a, .str true b, .str true c, .str true d, .raw true v, .int true .i64 ph]] (G.on [false, false, false, false, false, false, false, true, true])) := eqq (q := (((((((((True ∧ ((!rowOf_5 k) = false)) ∧ ((!name_1 n) = false)) ∧ ((!decide (name_0 n = k)) = false)) ∧ ((!node_0 a) = false)) ∧ ((!node_0 b) = false)) ∧ (rowOf_3 k = false)) ∧ ((a == b) = false)) ∧ ((!rowOf_3 k) = true)) ∧ ((!c == []) = true))) (by kernel_rfl) ⟨⟨⟨⟨⟨⟨⟨⟨⟨trivial, c0⟩, c1⟩, c2⟩, c3⟩, c4⟩, c5⟩, c6⟩, c7⟩, c8⟩
theorem chk_r24 (k : Int) (n a b c d : List UInt8) (v : Nat) (ph : Int) (c0 : (!rowOf_5 k) = false) (c1 : (!name_1 n) = false) (c2 : (!decide (name_0 n = k)) = false) (c3 : (!node_0 a) = false) (c4 : (!node_0 b) = true) : PureP (AV.int false .i64 8) (call3 33 [.agg [.int true .u8 k, .str true n, .str true a, .str true b, .str true c, .str true d, .raw true v, .int true .i64 ph]] (G.on [false, false, false, false, true])) := eqq (q := (((((True ∧ ((!rowOf_5 k) = false)) ∧ ((!name_1 n) = false)) ∧ ((!decide (name_0 n = k)) = false)) ∧ ((!node_0 a) = false)) ∧ ((!node_0 b) = true))) (by kernel_rfl) ⟨⟨⟨⟨⟨trivial, c0⟩, c1⟩, c2⟩, c3⟩, c4⟩
theorem chk_r25 (k : Int) (n a b c d : List UInt8) (v : Nat) (ph : Int) (c0 : (!rowOf_5 k) = false) (c1 : (!name_1 n) = false) (c2 : (!decide (name_0 n = k)) = false) (c3 : (!node_0 a) = true) : PureP (AV.int false .i64 8) (call3 33 [.agg [.int true .u8 k, .str true n, .str true a, .str true b, .str true c, .str true d, .raw true v, .int true .i64 ph]] (G.on [false, false, false, true])) := eqq (q := ((((True ∧ ((!rowOf_5 k) = false)) ∧ ((!name_1 n) = false)) ∧ ((!decide (name_0 n = k)) = false)) ∧ ((!node_0 a) = true))) (by kernel_rfl) ⟨⟨⟨⟨trivial, c0⟩, c1⟩, c2⟩, c3⟩
theorem chk_r26 (k : Int) (n a b c d : List UInt8) (v : Nat) (ph : Int) (c0 : (!rowOf_5 k) = false) (c1 : (!name_1 n) = false) (c2 : (!decide (name_0 n = k)) = true) : PureP (AV.int false .i64 8) (call3 33 [.agg [.int true .u8 k, .str true n, .str true a, .str true b, .str true c, .str true d, .raw true v, .int true .i64 ph]] (G.on [false, false, true])) := eqq (q := (((True ∧ ((!rowOf_5 k) = false)) ∧ ((!name_1 n) = false)) ∧ ((!decide (name_0 n = k)) = true))) (by kernel_rfl) ⟨⟨⟨trivial, c0⟩, c1⟩, c2⟩
theorem chk_r27 (k : Int) (n a b c d : List UInt8) (v : Nat) (ph : Int) (c0 : (!rowOf_5 k) = false) (c1 : (!name_1 n) = true) : PureP (AV.int false .i64 8) (call3 33 [.agg [.int true .u8 k, .str true n, .str true a, .str true b, .str true c, .str true d, .raw true v, .int true .i64 ph]] (G.on [false, true])) := eqq (q := ((True ∧ ((!rowOf_5 k) = false)) ∧ ((!name_1 n) = true))) (by kernel_rfl) ⟨⟨trivial, c0⟩, c1⟩
theorem chk_r28 (k : Int) (n a b c d : List UInt8) (v : Nat) (ph : Int) (c0 : (!rowOf_5 k) = true) : PureP (AV.int false .i64 2) (call3 33 [.agg [.int true .u8 k, .str true n, .str true a, .str true b, .str true c, .str true d, .raw true v, .int true .i64 ph]] (G.on [true])) := eqq (q := (True ∧ ((!rowOf_5 k) = true))) (by kernel_rfl) ⟨trivial, c0⟩
noncomputable def chk_0 (k : Int) (n a b c d : List UInt8) (v : Nat) (ph : Int) : Int := (bif rowOf_5 k then (bif name_1 n then (bif decide (name_0 n = k) then (bif node_0 a then (bif node_0 b then (bif rowOf_3 k then (bif node_0 c then (bif node_0 d then (bif a == b then ((2 : Int)) else (bif rowOf_4 k then (bif decide ((2 : Int) < kindDef v) then ((5 : Int)) else (bif rowOf_2 k then (bif fle (cn v) (0 : Nat) then ((2 : Int)) else ((0 : Int))) else ((0 : Int)))) else (bif decide (ph = (0 : Int)) then (bif decide ((2 : Int) < kindDef v) then ((5 : Int)) else (bif rowOf_2 k then (bif fle (cn v) (0 : Nat) then ((2 : Int)) else ((0 : Int))) else ((0 : Int)))) else ((2 : Int))))) else ((8 : Int))) else ((8 : Int))) else (bif a == b then ((2 : Int)) else (bif c == [] then (bif d == [] then (bif rowOf_4 k then (bif decide ((2 : Int) < kindDef v) then ((5 : Int)) else (bif rowOf_2 k then (bif fle (cn v) (0 : Nat) then ((2 : Int)) else ((0 : Int))) else ((0 : Int)))) else (bif decide (ph = (0 : Int)) then (bif decide ((2 : Int) < kindDef v) then ((5 : Int)) else (bif rowOf_2 k then (bif fle (cn v) (0 : Nat) then ((2 : Int)) else ((0 : Int))) else ((0 : Int)))) else ((2 : Int)))) else ((2 : Int))) else ((2 : Int))))) else ((8 : Int))) else ((8 : Int))) else ((8 : Int))) else ((8 : Int))) else ((2 : Int)))
noncomputable def chkS : List AV → M AV
 | [.agg [.int s0 .u8 k, .str s1 n, .str s2 a, .str s3 b, .str s4 c, .str s5 d, .raw s6 v, .int s7 .i64 ph]] => M.ret (AV.int (Bool.or s0 (Bool.or s1 (Bool.or s2 (Bool.or s3 (Bool.or s4 (Bool.or s5 (Bool.or s6 s7))))))) (IntKind.i64) (chk_0 k n a b c d v ph))
 | args => call3 33 args
theorem chkS_ok : ∀ args v g g', chkS args g = .done v g' → CallIs Try.prog 33 args v g g' := by
 intro args v g g' h
 unfold chkS at h
 split at h
 ·rename_i s0 k s1 n s2 a s3 b s4 c s5 d s6 v s7 ph
  obtain ⟨rfl, rfl⟩ := ret_done h
  refine scal call3_ok fun μ cargs ha => ?_
  have ha' : Reps 0 MM.none [.agg [.int true .u8 k, .str true n, .str true a, .str true b, .str true c, .str true d, .raw true v, .int true .i64 ph]] cargs.toList := by simpa only [Reps, Rep] using ha
  cases t0 : rowOf_5 k with
  | true =>
   cases t1 : name_1 n with
   | true =>
    cases t2 : decide (name_0 n = k) with
    | true =>
     cases t3 : node_0 a with
     | true =>
      cases t4 : node_0 b with
      | true =>
       cases t5 : rowOf_3 k with
       | true =>
        cases t6 : node_0 c with
        | true =>
         cases t7 : node_0 d with
         | true =>
          cases t8 : a == b with
          | true =>
           exact ⟨_, _, _, ha', chk_r0 k n a b c d v ph (by rw [t0]; rfl) (by rw [t1]; rfl) (by rw [t2]; rfl) (by rw [t3]; rfl) (by rw [t4]; rfl) t5 (by rw [t6]; rfl) (by rw [t7]; rfl) t8, rfl, fun cv hc => by have := hc g.nx μ; have e0 : chk_0 k n a b c d v ph = ((2 : Int)) := (ct t0).trans ((ct t1).trans ((ct t2).trans ((ct t3).trans ((ct t4).trans ((ct t5).trans ((ct t6).trans ((ct t7).trans ((ct t8).trans (rfl))))))))); rw [e0]; simpa only [Rep, Reps, Rep_cmpB] using this⟩
          | false =>
           cases t9 : rowOf_4 k with
           | true =>
            cases t10 : decide ((2 : Int) < kindDef v) with
            | true =>
             exact ⟨_, _, _, ha', chk_r1 k n a b c d v ph (by rw [t0]; rfl) (by rw [t1]; rfl) (by rw [t2]; rfl) (by rw [t3]; rfl) (by rw [t4]; rfl) t5 (by rw [t6]; rfl) (by rw [t7]; rfl) t8 (by rw [t5]; rfl) (by rw [t9]; rfl) t10, rfl, fun cv hc => by have := hc g.nx μ; have e0 : chk_0 k n a b c d v ph = ((5 : Int)) := (ct t0).trans ((ct t1).trans ((ct t2).trans ((ct t3).trans ((ct t4).trans ((ct t5).trans ((ct t6).trans ((ct t7).trans ((cf t8).trans ((ct t9).trans ((ct t10).trans (rfl))))))))))); rw [e0]; simpa only [Rep, Reps, Rep_cmpB] using this⟩
            | false =>
             cases t11 : rowOf_2 k with
             | true =>
              cases t12 : fle (cn v) (0 : Nat) with
              | true =>
               exact ⟨_, _, _, ha', chk_r2 k n a b c d v ph (by rw [t0]; rfl) (by rw [t1]; rfl) (by rw [t2]; rfl) (by rw [t3]; rfl) (by rw [t4]; rfl) t5 (by rw [t6]; rfl) (by rw [t7]; rfl) t8 (by rw [t5]; rfl) (by rw [t9]; rfl) t10 t11 t12, rfl, fun cv hc => by have := hc g.nx μ; have e0 : chk_0 k n a b c d v ph = ((2 : Int)) := (ct t0).trans ((ct t1).trans ((ct t2).trans ((ct t3).trans ((ct t4).trans ((ct t5).trans ((ct t6).trans ((ct t7).trans ((cf t8).trans ((ct t9).trans ((cf t10).trans ((ct t11).trans ((ct t12).trans (rfl))))))))))))); rw [e0]; simpa only [Rep, Reps, Rep_cmpB] using this⟩
              | false =>
               exact ⟨_, _, _, ha', chk_r3 k n a b c d v ph (by rw [t0]; rfl) (by rw [t1]; rfl) (by rw [t2]; rfl) (by rw [t3]; rfl) (by rw [t4]; rfl) t5 (by rw [t6]; rfl) (by rw [t7]; rfl) t8 (by rw [t5]; rfl) (by rw [t9]; rfl) t10 t11 t12, rfl, fun cv hc => by have := hc g.nx μ; have e0 : chk_0 k n a b c d v ph = ((0 : Int)) := (ct t0).trans ((ct t1).trans ((ct t2).trans ((ct t3).trans ((ct t4).trans ((ct t5).trans ((ct t6).trans ((ct t7).trans ((cf t8).trans ((ct t9).trans ((cf t10).trans ((ct t11).trans ((cf t12).trans (rfl))))))))))))); rw [e0]; simpa only [Rep, Reps, Rep_cmpB] using this⟩
             | false =>
              exact ⟨_, _, _, ha', chk_r4 k n a b c d v ph (by rw [t0]; rfl) (by rw [t1]; rfl) (by rw [t2]; rfl) (by rw [t3]; rfl) (by rw [t4]; rfl) t5 (by rw [t6]; rfl) (by rw [t7]; rfl) t8 (by rw [t5]; rfl) (by rw [t9]; rfl) t10 t11, rfl, fun cv hc => by have := hc g.nx μ; have e0 : chk_0 k n a b c d v ph = ((0 : Int)) := (ct t0).trans ((ct t1).trans ((ct t2).trans ((ct t3).trans ((ct t4).trans ((ct t5).trans ((ct t6).trans ((ct t7).trans ((cf t8).trans ((ct t9).trans ((cf t10).trans ((cf t11).trans (rfl)))))))))))); rw [e0]; simpa only [Rep, Reps, Rep_cmpB] using this⟩
           | false =>
            cases t10 : decide (ph = (0 : Int)) with
            | true =>
             cases t11 : decide ((2 : Int) < kindDef v) with
             | true =>
              exact ⟨_, _, _, ha', chk_r5 k n a b c d v ph (by rw [t0]; rfl) (by rw [t1]; rfl) (by rw [t2]; rfl) (by rw [t3]; rfl) (by rw [t4]; rfl) t5 (by rw [t6]; rfl) (by rw [t7]; rfl) t8 (by rw [t5]; rfl) (by rw [t9]; rfl) (by rw [t10]; rfl) t11, rfl, fun cv hc => by have := hc g.nx μ; have e0 : chk_0 k n a b c d v ph = ((5 : Int)) := (ct t0).trans ((ct t1).trans ((ct t2).trans ((ct t3).trans ((ct t4).trans ((ct t5).trans ((ct t6).trans ((ct t7).trans ((cf t8).trans ((cf t9).trans ((ct t10).trans ((ct t11).trans (rfl)))))))))))); rw [e0]; simpa only [Rep, Reps, Rep_cmpB] using this⟩
             | false =>
              cases t12 : rowOf_2 k with
              | true =>
               cases t13 : fle (cn v) (0 : Nat) with
               | true =>
                exact ⟨_, _, _, ha', chk_r6 k n a b c d v ph (by rw [t0]; rfl) (by rw [t1]; rfl) (by rw [t2]; rfl) (by rw [t3]; rfl) (by rw [t4]; rfl) t5 (by rw [t6]; rfl) (by rw [t7]; rfl) t8 (by rw [t5]; rfl) (by rw [t9]; rfl) (by rw [t10]; rfl) t11 t12 t13, rfl, fun cv hc => by have := hc g.nx μ; have e0 : chk_0 k n a b c d v ph = ((2 : Int)) := (ct t0).trans ((ct t1).trans ((ct t2).trans ((ct t3).trans ((ct t4).trans ((ct t5).trans ((ct t6).trans ((ct t7).trans ((cf t8).trans ((cf t9).trans ((ct t10).trans ((cf t11).trans ((ct t12).trans ((ct t13).trans (rfl)))))))))))))); rw [e0]; simpa only [Rep, Reps, Rep_cmpB] using this⟩
               | false =>
                exact ⟨_, _, _, ha', chk_r7 k n a b c d v ph (by rw [t0]; rfl) (by rw [t1]; rfl) (by rw [t2]; rfl) (by rw [t3]; rfl) (by rw [t4]; rfl) t5 (by rw [t6]; rfl) (by rw [t7]; rfl) t8 (by rw [t5]; rfl) (by rw [t9]; rfl) (by rw [t10]; rfl) t11 t12 t13, rfl, fun cv hc => by have := hc g.nx μ; have e0 : chk_0 k n a b c d v ph = ((0 : Int)) := (ct t0).trans ((ct t1).trans ((ct t2).trans ((ct t3).trans ((ct t4).trans ((ct t5).trans ((ct t6).trans ((ct t7).trans ((cf t8).trans ((cf t9).trans ((ct t10).trans ((cf t11).trans ((ct t12).trans ((cf t13).trans (rfl)))))))))))))); rw [e0]; simpa only [Rep, Reps, Rep_cmpB] using this⟩
              | false =>
               exact ⟨_, _, _, ha', chk_r8 k n a b c d v ph (by rw [t0]; rfl) (by rw [t1]; rfl) (by rw [t2]; rfl) (by rw [t3]; rfl) (by rw [t4]; rfl) t5 (by rw [t6]; rfl) (by rw [t7]; rfl) t8 (by rw [t5]; rfl) (by rw [t9]; rfl) (by rw [t10]; rfl) t11 t12, rfl, fun cv hc => by have := hc g.nx μ; have e0 : chk_0 k n a b c d v ph = ((0 : Int)) := (ct t0).trans ((ct t1).trans ((ct t2).trans ((ct t3).trans ((ct t4).trans ((ct t5).trans ((ct t6).trans ((ct t7).trans ((cf t8).trans ((cf t9).trans ((ct t10).trans ((cf t11).trans ((cf t12).trans (rfl))))))))))))); rw [e0]; simpa only [Rep, Reps, Rep_cmpB] using this⟩
            | false =>
             exact ⟨_, _, _, ha', chk_r9 k n a b c d v ph (by rw [t0]; rfl) (by rw [t1]; rfl) (by rw [t2]; rfl) (by rw [t3]; rfl) (by rw [t4]; rfl) t5 (by rw [t6]; rfl) (by rw [t7]; rfl) t8 (by rw [t5]; rfl) (by rw [t9]; rfl) (by rw [t10]; rfl), rfl, fun cv hc => by have := hc g.nx μ; have e0 : chk_0 k n a b c d v ph = ((2 : Int)) := (ct t0).trans ((ct t1).trans ((ct t2).trans ((ct t3).trans ((ct t4).trans ((ct t5).trans ((ct t6).trans ((ct t7).trans ((cf t8).trans ((cf t9).trans ((cf t10).trans (rfl))))))))))); rw [e0]; simpa only [Rep, Reps, Rep_cmpB] using this⟩
         | false =>
          exact ⟨_, _, _, ha', chk_r10 k n a b c d v ph (by rw [t0]; rfl) (by rw [t1]; rfl) (by rw [t2]; rfl) (by rw [t3]; rfl) (by rw [t4]; rfl) t5 (by rw [t6]; rfl) (by rw [t7]; rfl), rfl, fun cv hc => by have := hc g.nx μ; have e0 : chk_0 k n a b c d v ph = ((8 : Int)) := (ct t0).trans ((ct t1).trans ((ct t2).trans ((ct t3).trans ((ct t4).trans ((ct t5).trans ((ct t6).trans ((cf t7).trans (rfl)))))))); rw [e0]; simpa only [Rep, Reps, Rep_cmpB] using this⟩
        | false =>
         exact ⟨_, _, _, ha', chk_r11 k n a b c d v ph (by rw [t0]; rfl) (by rw [t1]; rfl) (by rw [t2]; rfl) (by rw [t3]; rfl) (by rw [t4]; rfl) t5 (by rw [t6]; rfl), rfl, fun cv hc => by have := hc g.nx μ; have e0 : chk_0 k n a b c d v ph = ((8 : Int)) := (ct t0).trans ((ct t1).trans ((ct t2).trans ((ct t3).trans ((ct t4).trans ((ct t5).trans ((cf t6).trans (rfl))))))); rw [e0]; simpa only [Rep, Reps, Rep_cmpB] using this⟩
       | false =>
        cases t6 : a == b with
        | true =>
         exact ⟨_, _, _, ha', chk_r12 k n a b c d v ph (by rw [t0]; rfl) (by rw [t1]; rfl) (by rw [t2]; rfl) (by rw [t3]; rfl) (by rw [t4]; rfl) t5 t6, rfl, fun cv hc => by have := hc g.nx μ; have e0 : chk_0 k n a b c d v ph = ((2 : Int)) := (ct t0).trans ((ct t1).trans ((ct t2).trans ((ct t3).trans ((ct t4).trans ((cf t5).trans ((ct t6).trans (rfl))))))); rw [e0]; simpa only [Rep, Reps, Rep_cmpB] using this⟩
        | false =>
         cases t7 : c == [] with
         | true =>
          cases t8 : d == [] with
          | true =>
           cases t9 : rowOf_4 k with
           | true =>
            cases t10 : decide ((2 : Int) < kindDef v) with
            | true =>
             exact ⟨_, _, _, ha', chk_r13 k n a b c d v ph (by rw [t0]; rfl) (by rw [t1]; rfl) (by rw [t2]; rfl) (by rw [t3]; rfl) (by rw [t4]; rfl) t5 t6 (by rw [t5]; rfl) (by rw [t7]; rfl) (by rw [t8]; rfl) (by rw [t9]; rfl) t10, rfl, fun cv hc => by have := hc g.nx μ; have e0 : chk_0 k n a b c d v ph = ((5 : Int)) := (ct t0).trans ((ct t1).trans ((ct t2).trans ((ct t3).trans ((ct t4).trans ((cf t5).trans ((cf t6).trans ((ct t7).trans ((ct t8).trans ((ct t9).trans ((ct t10).trans (rfl))))))))))); rw [e0]; simpa only [Rep, Reps, Rep_cmpB] using this⟩
            | false =>
             cases t11 : rowOf_2 k with
             | true =>
              cases t12 : fle (cn v) (0 : Nat) with
              | true =>
               exact ⟨_, _, _, ha', chk_r14 k n a b c d v ph (by rw [t0]; rfl) (by rw [t1]; rfl) (by rw [t2]; rfl) (by rw [t3]; rfl) (by rw [t4]; rfl) t5 t6 (by rw [t5]; rfl) (by rw [t7]; rfl) (by rw [t8]; rfl) (by rw [t9]; rfl) t10 t11 t12, rfl, fun cv hc => by have := hc g.nx μ; have e0 : chk_0 k n a b c d v ph = ((2 : Int)) := (ct t0).trans ((ct t1).trans ((ct t2).trans ((ct t3).trans ((ct t4).trans ((cf t5).trans ((cf t6).trans ((ct t7).trans ((ct t8).trans ((ct t9).trans ((cf t10).trans ((ct t11).trans ((ct t12).trans (rfl))))))))))))); rw [e0]; simpa only [Rep, Reps, Rep_cmpB] using this⟩
              | false =>
               exact ⟨_, _, _, ha', chk_r15 k n a b c d v ph (by rw [t0]; rfl) (by rw [t1]; rfl) (by rw [t2]; rfl) (by rw [t3]; rfl) (by rw [t4]; rfl) t5 t6 (by rw [t5]; rfl) (by rw [t7]; rfl) (by rw [t8]; rfl) (by rw [t9]; rfl) t10 t11 t12, rfl, fun cv hc => by have := hc g.nx μ; have e0 : chk_0 k n a b c d v ph = ((0 : Int)) := (ct t0).trans ((ct t1).trans ((ct t2).trans ((ct t3).trans ((ct t4).trans ((cf t5).trans ((cf t6).trans ((ct t7).trans ((ct t8).trans ((ct t9).trans ((cf t10).trans ((ct t11).trans ((cf t12).trans (rfl))))))))))))); rw [e0]; simpa only [Rep, Reps, Rep_cmpB] using this⟩
             | false =>
              exact ⟨_, _, _, ha', chk_r16 k n a b c d v ph (by rw [t0]; rfl) (by rw [t1]; rfl) (by rw [t2]; rfl) (by rw [t3]; rfl) (by rw [t4]; rfl) t5 t6 (by rw [t5]; rfl) (by rw [t7]; rfl) (by rw [t8]; rfl) (by rw [t9]; rfl) t10 t11, rfl, fun cv hc => by have := hc g.nx μ; have e0 : chk_0 k n a b c d v ph = ((0 : Int)) := (ct t0).trans ((ct t1).trans ((ct t2).trans ((ct t3).trans ((ct t4).trans ((cf t5).trans ((cf t6).trans ((ct t7).trans ((ct t8).trans ((ct t9).trans ((cf t10).trans ((cf t11).trans (rfl)))))))))))); rw [e0]; simpa only [Rep, Reps, Rep_cmpB] using this⟩
           | false =>
            cases t10 : decide (ph = (0 : Int)) with
            | true =>
             cases t11 : decide ((2 : Int) < kindDef v) with
             | true =>
              exact ⟨_, _, _, ha', chk_r17 k n a b c d v ph (by rw [t0]; rfl) (by rw [t1]; rfl) (by rw [t2]; rfl) (by rw [t3]; rfl) (by rw [t4]; rfl) t5 t6 (by rw [t5]; rfl) (by rw [t7]; rfl) (by rw [t8]; rfl) (by rw [t9]; rfl) (by rw [t10]; rfl) t11, rfl, fun cv hc => by have := hc g.nx μ; have e0 : chk_0 k n a b c d v ph = ((5 : Int)) := (ct t0).trans ((ct t1).trans ((ct t2).trans ((ct t3).trans ((ct t4).trans ((cf t5).trans ((cf t6).trans ((ct t7).trans ((ct t8).trans ((cf t9).trans ((ct t10).trans ((ct t11).trans (rfl)))))))))))); rw [e0]; simpa only [Rep, Reps, Rep_cmpB] using this⟩
             | false =>
              cases t12 : rowOf_2 k with
              | true =>
               cases t13 : fle (cn v) (0 : Nat) with
               | true =>
                exact ⟨_, _, _, ha', chk_r18 k n a b c d v ph (by rw [t0]; rfl) (by rw [t1]; rfl) (by rw [t2]; rfl) (by rw [t3]; rfl) (by rw [t4]; rfl) t5 t6 (by rw [t5]; rfl) (by rw [t7]; rfl) (by rw [t8]; rfl) (by rw [t9]; rfl) (by rw [t10]; rfl) t11 t12 t13, rfl, fun cv hc => by have := hc g.nx μ; have e0 : chk_0 k n a b c d v ph = ((2 : Int)) := (ct t0).trans ((ct t1).trans ((ct t2).trans ((ct t3).trans ((ct t4).trans ((cf t5).trans ((cf t6).trans ((ct t7).trans ((ct t8).trans ((cf t9).trans ((ct t10).trans ((cf t11).trans ((ct t12).trans ((ct t13).trans (rfl)))))))))))))); rw [e0]; simpa only [Rep, Reps, Rep_cmpB] using this⟩
               | false =>
                exact ⟨_, _, _, ha', chk_r19 k n a b c d v ph (by rw [t0]; rfl) (by rw [t1]; rfl) (by rw [t2]; rfl) (by rw [t3]; rfl) (by rw [t4]; rfl) t5 t6 (by rw [t5]; rfl) (by rw [t7]; rfl) (by rw [t8]; rfl) (by rw [t9]; rfl) (by rw [t10]; rfl) t11 t12 t13, rfl, fun cv hc => by have := hc g.nx μ; have e0 : chk_0 k n a b c d v ph = ((0 : Int)) := (ct t0).trans ((ct t1).trans ((ct t2).trans ((ct t3).trans ((ct t4).trans ((cf t5).trans ((cf t6).trans ((ct t7).trans ((ct t8).trans ((cf t9).trans ((ct t10).trans ((cf t11).trans ((ct t12).trans ((cf t13).trans (rfl)))))))))))))); rw [e0]; simpa only [Rep, Reps, Rep_cmpB] using this⟩
              | false =>
               exact ⟨_, _, _, ha', chk_r20 k n a b c d v ph (by rw [t0]; rfl) (by rw [t1]; rfl) (by rw [t2]; rfl) (by rw [t3]; rfl) (by rw [t4]; rfl) t5 t6 (by rw [t5]; rfl) (by rw [t7]; rfl) (by rw [t8]; rfl) (by rw [t9]; rfl) (by rw [t10]; rfl) t11 t12, rfl, fun cv hc => by have := hc g.nx μ; have e0 : chk_0 k n a b c d v ph = ((0 : Int)) := (ct t0).trans ((ct t1).trans ((ct t2).trans ((ct t3).trans ((ct t4).trans ((cf t5).trans ((cf t6).trans ((ct t7).trans ((ct t8).trans ((cf t9).trans ((ct t10).trans ((cf t11).trans ((cf t12).trans (rfl))))))))))))); rw [e0]; simpa only [Rep, Reps, Rep_cmpB] using this⟩
            | false =>
             exact ⟨_, _, _, ha', chk_r21 k n a b c d v ph (by rw [t0]; rfl) (by rw [t1]; rfl) (by rw [t2]; rfl) (by rw [t3]; rfl) (by rw [t4]; rfl) t5 t6 (by rw [t5]; rfl) (by rw [t7]; rfl) (by rw [t8]; rfl) (by rw [t9]; rfl) (by rw [t10]; rfl), rfl, fun cv hc => by have := hc g.nx μ; have e0 : chk_0 k n a b c d v ph = ((2 : Int)) := (ct t0).trans ((ct t1).trans ((ct t2).trans ((ct t3).trans ((ct t4).trans ((cf t5).trans ((cf t6).trans ((ct t7).trans ((ct t8).trans ((cf t9).trans ((cf t10).trans (rfl))))))))))); rw [e0]; simpa only [Rep, Reps, Rep_cmpB] using this⟩
          | false =>
           exact ⟨_, _, _, ha', chk_r22 k n a b c d v ph (by rw [t0]; rfl) (by rw [t1]; rfl) (by rw [t2]; rfl) (by rw [t3]; rfl) (by rw [t4]; rfl) t5 t6 (by rw [t5]; rfl) (by rw [t7]; rfl) (by rw [t8]; rfl), rfl, fun cv hc => by have := hc g.nx μ; have e0 : chk_0 k n a b c d v ph = ((2 : Int)) := (ct t0).trans ((ct t1).trans ((ct t2).trans ((ct t3).trans ((ct t4).trans ((cf t5).trans ((cf t6).trans ((ct t7).trans ((cf t8).trans (rfl))))))))); rw [e0]; simpa only [Rep, Reps, Rep_cmpB] using this⟩
         | false =>
          exact ⟨_, _, _, ha', chk_r23 k n a b c d v ph (by rw [t0]; rfl) (by rw [t1]; rfl) (by rw [t2]; rfl) (by rw [t3]; rfl) (by rw [t4]; rfl) t5 t6 (by rw [t5]; rfl) (by rw [t7]; rfl), rfl, fun cv hc => by have := hc g.nx μ; have e0 : chk_0 k n a b c d v ph = ((2 : Int)) := (ct t0).trans ((ct t1).trans ((ct t2).trans ((ct t3).trans ((ct t4).trans ((cf t5).trans ((cf t6).trans ((cf t7).trans (rfl)))))))); rw [e0]; simpa only [Rep, Reps, Rep_cmpB] using this⟩
      | false =>
       exact ⟨_, _, _, ha', chk_r24 k n a b c d v ph (by rw [t0]; rfl) (by rw [t1]; rfl) (by rw [t2]; rfl) (by rw [t3]; rfl) (by rw [t4]; rfl), rfl, fun cv hc => by have := hc g.nx μ; have e0 : chk_0 k n a b c d v ph = ((8 : Int)) := (ct t0).trans ((ct t1).trans ((ct t2).trans ((ct t3).trans ((cf t4).trans (rfl))))); rw [e0]; simpa only [Rep, Reps, Rep_cmpB] using this⟩
     | false =>
      exact ⟨_, _, _, ha', chk_r25 k n a b c d v ph (by rw [t0]; rfl) (by rw [t1]; rfl) (by rw [t2]; rfl) (by rw [t3]; rfl), rfl, fun cv hc => by have := hc g.nx μ; have e0 : chk_0 k n a b c d v ph = ((8 : Int)) := (ct t0).trans ((ct t1).trans ((ct t2).trans ((cf t3).trans (rfl)))); rw [e0]; simpa only [Rep, Reps, Rep_cmpB] using this⟩
    | false =>
     exact ⟨_, _, _, ha', chk_r26 k n a b c d v ph (by rw [t0]; rfl) (by rw [t1]; rfl) (by rw [t2]; rfl), rfl, fun cv hc => by have := hc g.nx μ; have e0 : chk_0 k n a b c d v ph = ((8 : Int)) := (ct t0).trans ((ct t1).trans ((cf t2).trans (rfl))); rw [e0]; simpa only [Rep, Reps, Rep_cmpB] using this⟩
   | false =>
    exact ⟨_, _, _, ha', chk_r27 k n a b c d v ph (by rw [t0]; rfl) (by rw [t1]; rfl), rfl, fun cv hc => by have := hc g.nx μ; have e0 : chk_0 k n a b c d v ph = ((8 : Int)) := (ct t0).trans ((cf t1).trans (rfl)); rw [e0]; simpa only [Rep, Reps, Rep_cmpB] using this⟩
  | false =>
   exact ⟨_, _, _, ha', chk_r28 k n a b c d v ph (by rw [t0]; rfl), rfl, fun cv hc => by have := hc g.nx μ; have e0 : chk_0 k n a b c d v ph = ((2 : Int)) := (cf t0).trans (rfl); rw [e0]; simpa only [Rep, Reps, Rep_cmpB] using this⟩
 ·exact call3_ok _ _ _ _ _ h
theorem chkS_tch : ∀ args, Tch (chkS args) := by
 intro args
 unfold chkS
 split
 ·exact Tch.ret _
 ·exact call3_tch _ _
noncomputable def gamE : Known := kc 37 ofBits (kc 72 toBits (kc 80 smallS (kc 61 kindS (kc 58 rowOfS (kc 81 ofS (kc 59 nameS (kc 60 nodeS (kc 33 chkS (kn)))))))))
theorem gamE_ok : KnownOk Try.prog gamE := kc_ok ((ofBits_is Try.prog).callIs Try.func37 (by kernel_rfl) (by kernel_rfl) (by kernel_rfl) (by kernel_rfl)) (kc_ok ((toBits_is Try.prog).callIs Try.func72 (by kernel_rfl) (by kernel_rfl) (by kernel_rfl) (by kernel_rfl)) (kc_ok smallS_ok (kc_ok kindS_ok (kc_ok rowOfS_ok (kc_ok ofS_ok (kc_ok nameS_ok (kc_ok nodeS_ok (kc_ok chkS_ok (kn_ok)))))))))
theorem gamE_tch : KnownT gamE := kc_tch Tch.ofBits (kc_tch Tch.toBits (kc_tch smallS_tch (kc_tch kindS_tch (kc_tch rowOfS_tch (kc_tch ofS_tch (kc_tch nameS_tch (kc_tch nodeS_tch (kc_tch chkS_tch (kn_tch)))))))))
noncomputable def callE : Calls' := Sx.runN Try.prog gamE (regionC Try.prog) 1000 50
theorem callE_ok : CallOk Try.prog callE := engineC gamE_ok gamE_tch (by kernel_rfl) (by kernel_rfl) 1000 50
theorem callE_tch : CallT callE := runA_tch gamE_tch (fun _ _ _ h => by cases h) (fun call hc n l fr => regionC_tch hc n l fr) 50
theorem callE_reg (n : Nat) : RegionOk Try.prog (regionC Try.prog callE n) n := runN_regionC gamE_ok gamE_tch (by kernel_rfl) (by kernel_rfl) 1000 50 n
noncomputable abbrev piececallE (f : Func) (c : Code) (fr : Fr) (H : T ABk) (K : Nat) (path : List Bool) : Res (Ex × Fr) :=
 codeA Try.prog callE (regionC Try.prog callE f.ntmps) noLoops f.ntmps 1000 c fr ⟨H, K, [], path, True⟩


theorem rcE {fn : Func} {K K' B : Nat} {e : Ex} {F : List (Nat × AV)} {Hl : List (Nat × ABk)} {c : Code} {fr : Fr} {H : T ABk} {path : List Bool} (h : PieceN K' e F Hl (piececallE fn c fr H K path)) (hB : B ≤ K) : GoesB Try.prog c fn.ntmps B K K' fr H fun e' fr' H' => e' = e ∧ fr' = frL F ∧ H' = hpL Hl := GoesB.runN callE_ok (callE_reg _) (LoopsIn.none _ _ _) h hB
/-- an element -/
structure El where
 k : Int
 n : List UInt8
 a : List UInt8
 b : List UInt8
 c : List UInt8
 d : List UInt8
 v : Nat
 ph : Int
abbrev Tx := List UInt8
/-- the first place of a text -/
def pos (x : Tx) : List Tx → Option Nat
 | [] => none
 | y :: l => bif x == y then some 0 else (pos x l).map (· + 1)
theorem pos_lt {x : Tx} : ∀ {l : List Tx} {i : Nat}, pos x l = some i → i < l.length ∧ l.getD i [] = x
 | y :: l, i, h => by
  unfold pos at h
  cases e : x == y with
  | true =>
   rw [e, cond_true] at h
   cases h
   exact ⟨by simp, by simpa using (eq_of_beq e).symm⟩
  | false =>
   rw [e, cond_false] at h
   cases q : pos x l with
   | none => rw [q] at h; cases h
   | some j =>
    rw [q] at h
    cases h
    obtain ⟨h1, h2⟩ := pos_lt q
    exact ⟨by simpa using h1, by simpa using h2⟩
theorem pos_none {x : Tx} : ∀ {l : List Tx}, pos x l = none ↔ x ∉ l
 | [] => by simp [pos]
 | y :: l => by
  unfold pos
  cases e : x == y with
  | true => simp [eq_of_beq e]
  | false =>
   have : x ≠ y := fun c => by rw [c] at e; simp at e
   simp [pos_none (x := x) (l := l), this]
theorem pos_some {x : Tx} {l : List Tx} (h : x ∈ l) : ∃ i, pos x l = some i := by
 cases e : pos x l with
 | none => exact absurd h (pos_none.1 e)
 | some i => exact ⟨i, rfl⟩
/-- texts with their places: what a map of them holds -/
def zipF (s : Nat) : List Tx → List (Tx × Int)
 | [] => []
 | x :: l => (x, (s : Int)) :: zipF (s + 1) l
theorem find_zip (x : Tx) : ∀ (s : Nat) (l : List Tx), lfind seq x (zipF s l) = (pos x l).map fun i => ((s + i : Nat) : Int)
 | s, [] => rfl
 | s, y :: l => by
  show (bif x == y then some (s : Int) else lfind seq x (zipF (s + 1) l)) = (bif x == y then some 0 else (pos x l).map (· + 1)).map _
  cases e : x == y with
  | true => rfl
  | false =>
   rw [cond_false, cond_false, find_zip x (s + 1) l]
   cases pos x l with
   | none => rfl
   | some i => simp only [Option.map]; congr 1; omega
theorem put_zip (x : Tx) : ∀ (s : Nat) (l : List Tx), pos x l = none → lput seq x ((s + l.length : Nat) : Int) (zipF s l) = zipF s (l ++ [x])
 | s, [], _ => rfl
 | s, y :: l, h => by
  unfold pos at h
  cases e : x == y with
  | true => rw [e] at h; cases h
  | false =>
   rw [e, cond_false] at h
   have h' : pos x l = none := by
    cases q : pos x l with
    | none => rfl
    | some j => rw [q] at h; cases h
   show lput seq x _ ((y, (s : Int)) :: zipF (s + 1) l) = (y, (s : Int)) :: zipF (s + 1) (l ++ [x])
   unfold lput seq
   rw [e, cond_false]
   congr 1
   have := put_zip x (s + 1) l h'
   rw [← this]
   congr 1
   simp; omega
/-- a node more -/
def addN (l : List Tx) (x : Tx) : List Tx := bif (pos x l).isSome || x == [] || x == [48] then l else l ++ [x]
def isBr (e : El) : Bool := decide (e.k = 5) || decide (e.k = 7)
/-- names, nodes, branches of the first m elements -/
def NM (E : Nat → El) : Nat → List Tx
 | 0 => []
 | m + 1 => NM E m ++ [(E m).n]
def ND (E : Nat → El) : Nat → List Tx
 | 0 => []
 | m + 1 => addN (addN (addN (addN (ND E m) (E m).a) (E m).b) (E m).c) (E m).d
def BR (E : Nat → El) : Nat → List Tx
 | 0 => []
 | m + 1 => bif isBr (E m) then BR E m ++ [(E m).n] else BR E m
theorem NM_len (E : Nat → El) : ∀ m, (NM E m).length = m
 | 0 => rfl
 | m + 1 => by unfold NM; simp [NM_len E m]
theorem BR_len (E : Nat → El) : ∀ m, (BR E m).length ≤ m
 | 0 => Nat.le_refl _
 | m + 1 => by
  have := BR_len E m
  unfold BR
  cases isBr (E m) <;> simp <;> omega
theorem BR_sub (E : Nat → El) {x : Tx} : ∀ {m : Nat}, x ∈ BR E m → x ∈ NM E m
 | m + 1, h => by
  unfold BR at h
  unfold NM
  cases q : isBr (E m) with
  | true =>
   rw [q, cond_true, List.mem_append] at h
   exact List.mem_append.2 (h.imp (BR_sub E) id)
  | false =>
   rw [q, cond_false] at h
   exact List.mem_append.2 (.inl (BR_sub E h))
theorem BR_new (E : Nat → El) {m : Nat} (h : pos (E m).n (NM E m) = none) : pos (E m).n (BR E m) = none :=
 pos_none.2 fun c => pos_none.1 h (BR_sub E c)
theorem addN_len (l : List Tx) (x : Tx) : l.length ≤ (addN l x).length ∧ (addN l x).length ≤ l.length + 1 := by
 unfold addN
 cases (pos x l).isSome || x == [] || x == [48] <;> simp
theorem ND_len (E : Nat → El) : ∀ m, (ND E m).length ≤ 4 * m
 | 0 => Nat.le_refl _
 | m + 1 => by
  have := ND_len E m
  have h1 := addN_len (ND E m) (E m).a
  have h2 := addN_len (addN (ND E m) (E m).a) (E m).b
  have h3 := addN_len (addN (addN (ND E m) (E m).a) (E m).b) (E m).c
  have h4 := addN_len (addN (addN (addN (ND E m) (E m).a) (E m).b) (E m).c) (E m).d
  unfold ND
  omega
/-- what refuses element i, those ahead of it being taken -/
def badE (chk : El → Int) (E : Nat → El) (i : Nat) : Int := bif decide (chk (E i) = 0) then (bif (pos (E i).n (NM E i)).isSome then 9 else 0) else chk (E i)
/-- what Of tells of n elements: the error and its place -/
def ofE (chk : El → Int) (E : Nat → El) (n : Nat) : Nat → Int × Int
 | 0 => bif decide (32 < (ND E n).length) || decide (64 < (ND E n).length + (BR E n).length) then (3, -1) else (0, 0)
 | m + 1 => bif decide (badE chk E (n - (m + 1)) = 0) then ofE chk E n m else (badE chk E (n - (m + 1)), ((n - (m + 1) : Nat) : Int))
def ofR (chk : El → Int) (E : Nat → El) (n : Nat) : Int × Int := bif decide (256 < n) then (3, -1) else ofE chk E n n
theorem ofE_bad {chk : El → Int} {E : Nat → El} {n i : Nat} (hi : i < n) (hb : badE chk E i ≠ 0) : ∀ m, i + m ≤ n → n ≤ i + m → (∀ j, j < i → badE chk E j = 0) → ofE chk E n n = (badE chk E i, (i : Int)) := by
 have step : ∀ m, m ≤ n → n - m ≤ i → (∀ j, n - m ≤ j → j < i → badE chk E j = 0) → ofE chk E n m = (badE chk E i, (i : Int)) := by
  intro m
  induction m with
  | zero => intro _ h; omega
  | succ m ih =>
   intro hm h1 h2
   unfold ofE
   by_cases q : n - (m + 1) = i
   ·rw [q, decide_eq_false hb, cond_false]
   ·rw [decide_eq_true (h2 _ (Nat.le_refl _) (by omega)), cond_true]
    exact ih (by omega) (by omega) fun j a b => h2 j (by omega) b
 intro m _ _ h
 exact step n (Nat.le_refl _) (by omega) fun j _ b => h j b
theorem ofE_good {chk : El → Int} {E : Nat → El} {n : Nat} (h : ∀ j, j < n → badE chk E j = 0) : ofE chk E n n = ofE chk E n 0 := by
 have step : ∀ m, m ≤ n → ofE chk E n m = ofE chk E n 0 := by
  intro m
  induction m with
  | zero => intro _; rfl
  | succ m ih =>
   intro hm
   show (bif decide (badE chk E (n - (m + 1)) = 0) then ofE chk E n m else (badE chk E (n - (m + 1)), ((n - (m + 1) : Nat) : Int))) = _
   rw [decide_eq_true (h _ (by omega)), cond_true]
   exact ih (by omega)
 exact step n (Nat.le_refl _)
/-- rows in memory: an element; a net; a text -/
def elR (e : El) : List AV := [.int true .u8 e.k, .str true e.n, .str true e.a, .str true e.b, .str true e.c, .str true e.d, .raw true e.v, .int true .i64 e.ph]
def netR (l nd bg m q r : Nat) : List AV := [.bool true, .slc true true ⟨false, l, 0, 0⟩ m, .mp 3, .slc true true ⟨false, nd, 0, 0⟩ q, .mp 4, .slc true true ⟨false, bg, 0, 0⟩ r, .mp 5]
def txR (f : Nat → Tx) (j : Nat) : List AV := [.str true (f j)]
theorem of1 {p : Nat → Prop} (h : p 0) (j : Nat) (hj : j < 1) : p j := by
 obtain rfl : j = 0 := by omega
 exact h
theorem hbl1 {g sz : Nat} {own : Bool} {d : List AV} {t : T (List AV)} {H : T ABk} {rows' : Nat → List AV} (h : H.get g = some (.cells own sz 1 (.lit d t))) (e : (Cont.lit d t).row 0 = rows' 0 := by rfl) : ∃ b', H.get g = some b' ∧ SameC b' (.cells own sz 1 (.fn rows')) :=
 ⟨_, h, rfl, rfl, rfl, of1 (p := fun j => (Cont.lit d t).row j = rows' j) e⟩
theorem gM {H : T ABk} {g : Nat} {s : Bool} {l l' : List (Tx × Int)} (h : H.get g = some (.mSI s l)) (e : l = l') : ∃ b', H.get g = some b' ∧ SameC b' (.mSI s l') := ⟨_, h, by rw [e]; exact SameC.refl _⟩
theorem gR {H : T ABk} {g sz n n' : Nat} {own : Bool} {rows rows' : Nat → List AV} (h : H.get g = some (.cells own sz n (.fn rows))) (e : n = n') (hr : ∀ j, j < n → rows j = rows' j) : ∃ b', H.get g = some b' ∧ SameC b' (.cells own sz n' (.fn rows')) := ⟨_, h, rfl, rfl, e, hr⟩
def sg (a b x : Nat) : Nat := if x = a then b else x
theorem sg_inj {K a b : Nat} (h : K ≤ b) : ∀ i j, i < K → j < K → sg a b i = sg a b j → i = j := by
 intro i j hi hj e
 unfold sg at e
 split at e <;> split at e <;> omega
theorem sg_low {B a b : Nat} (h : B ≤ a) : ∀ g, g < B → sg a b g = g := by
 intro g hg
 unfold sg
 rw [if_neg (by omega)]
theorem rgM {σ : Nat → Nat} {K' : Nat} {H : T ABk} {g : Nat} {s : Bool} {l l' : List (Tx × Int)} (h : H.get (σ g) = some (.mSI s l)) (e : l = l') (hlt : g < K') : ∃ b, H.get (σ g) = some b ∧ SameC b ((ABk.mSI s l').ren σ) ∧ (ABk.mSI s l').lowR K' ∧ g < K' := ⟨_, h, by rw [e]; exact SameC.refl _, trivial, hlt⟩
theorem rgR {σ : Nat → Nat} {K' : Nat} {H : T ABk} {g sz n n' : Nat} {own : Bool} {rows rows' : Nat → List AV} (hg : H.get (σ g) = some (.cells own sz n (.fn rows))) (e : n = n') (hr : ∀ j, j < n → rows j = rens σ (rows' j)) (hl : ∀ j, j < n → (rows' j).all (fun v => v.low K') = true) (hlt : g < K') :
  ∃ b, H.get (σ g) = some b ∧ SameC b ((ABk.cells own sz n' (.fn rows')).ren σ) ∧ (ABk.cells own sz n' (.fn rows')).lowR K' ∧ g < K' := by
 subst e
 exact ⟨_, hg, ⟨rfl, rfl, rfl, hr⟩, fun j hj v hv => List.all_eq_true.1 (hl j hj) v hv, hlt⟩
theorem rgB {σ : Nat → Nat} {K' : Nat} {H : T ABk} {g sz : Nat} {own : Bool} {rows rows' : Nat → List AV} (hg : H.get (σ g) = some (.cells own sz 1 (.fn rows))) (hr : rows 0 = rens σ (rows' 0)) (hl : (rows' 0).all (fun v => v.low K') = true) (hlt : g < K') :
  ∃ b, H.get (σ g) = some b ∧ SameC b ((ABk.cells own sz 1 (.fn rows')).ren σ) ∧ (ABk.cells own sz 1 (.fn rows')).lowR K' ∧ g < K' :=
 rgR hg rfl (of1 (p := fun j => rows j = rens σ (rows' j)) hr) (of1 (p := fun j => (rows' j).all (fun v => v.low K') = true) hl) hlt
/-- nodes after the first i of an element's four -/
def four (z : El) (j : Nat) : Tx := bif Nat.beq j 0 then z.a else bif Nat.beq j 1 then z.b else bif Nat.beq j 2 then z.c else z.d
def nd4 (l : List Tx) (z : El) : Nat → List Tx
 | 0 => l
 | i + 1 => addN (nd4 l z i) (four z i)
theorem nd4_len (l : List Tx) (z : El) : ∀ i, (nd4 l z i).length ≤ l.length + i
 | 0 => Nat.le_refl _
 | i + 1 => by
  have h1 := nd4_len l z i
  have h2 := (addN_len (nd4 l z i) (four z i)).2
  unfold nd4; omega
theorem isS_zip (x : Tx) (l : List Tx) : (lfind seq x (zipF 0 l)).isSome = (pos x l).isSome := by
 rw [find_zip]; cases pos x l <;> rfl
theorem put_zip0 {x : Tx} {l : List Tx} {m : Nat} (hm : m = l.length) (h : pos x l = none) : lput seq x (m : Int) (zipF 0 l) = zipF 0 (l ++ [x]) := by
 subst hm
 have := put_zip x 0 l h
 rwa [Nat.zero_add] at this
theorem none_of {o : Option Nat} (h : o.isSome = false) : o = none := by cases o with
 | none => rfl
 | some _ => cases h
def lget (l : List Tx) (j : Nat) : Tx := l.getD j []
theorem lget_app (l : List Tx) (x : Tx) (j : Nat) (h : j < l.length + 1) : (bif decide (j < l.length) then txR (lget l) j else [.str true x]) = txR (lget (l ++ [x])) j := by
 unfold txR lget
 by_cases c : j < l.length
 ·rw [decide_eq_true c, cond_true, List.getD_eq_getElem?_getD, List.getD_eq_getElem?_getD, List.getElem?_append_left c]
 ·obtain rfl : j = l.length := by omega
  rw [decide_eq_false c, cond_false, List.getD_eq_getElem?_getD, List.getElem?_append_right (Nat.le_refl _), Nat.sub_self]
  rfl
section
variable {P : Program} {n B K K' : Nat}
theorem seqR {K1 : Nat} {x y : Code} {fr : Fr} {H : T ABk} {R : Fr → T ABk → Prop} (hK : K1 ≤ K') (h : GoesB P x n B K K1 fr H fun e fr' H' => e = .ret ∧ R fr' H') : GoesB P (.seq x y) n B K K' fr H fun e fr' H' => e = .ret ∧ R fr' H' :=
 GoesB.seq hK (h.mono fun e fr' H' q => by obtain ⟨rfl, q⟩ := q; exact ⟨rfl, q⟩)
theorem blockR {id : Nat} {x : Code} {fr : Fr} {H : T ABk} {R : Fr → T ABk → Prop} (h : GoesB P x n B K K' fr H fun e fr' H' => e = .ret ∧ R fr' H') : GoesB P (.block id x) n B K K' fr H fun e fr' H' => e = .ret ∧ R fr' H' :=
 GoesB.block (h.mono fun e fr' H' q => by obtain ⟨rfl, q⟩ := q; exact ⟨rfl, q⟩)
end
theorem RowGe_refl : ∀ (l : List AV), l.all AV.one = true → RowGe l l
 | [], _ => trivial
 | v :: l, h => by
  rw [List.all_cons, Bool.and_eq_true] at h
  exact ⟨AV.ge.refl v, h.1, RowGe_refl l h.2⟩
/-- a row as an element -/
def unE : List AV → El
 | [.int _ _ k, .str _ n, .str _ a, .str _ b, .str _ c, .str _ d, .raw _ v, .int _ _ ph] => ⟨k, n, a, b, c, d, v, ph⟩
 | [.int _ _ k, .str _ n, .str _ a, .str _ b, .str _ c, .str _ d, .flt _ v, .int _ _ ph] => ⟨k, n, a, b, c, d, v, ph⟩
 | _ => ⟨0, [], [], [], [], [], 0, 0⟩
def rowsE (f : Nat → List AV) (j : Nat) : El := unE (f j)
structure PE (n : Nat) (f : Nat → List AV) : Prop where
 of : ∀ j, j < n → RowGe (f j) (elR (rowsE f j))
theorem elR_low (K : Nat) (z : El) : (elR z).all (fun v => v.low K) = true := rfl
/-- a net's row, anywhere -/
def netG (m1 m2 m3 l nd bg m q r : Nat) : List AV := [.bool true, .slc true true ⟨false, l, 0, 0⟩ m, .mp m1, .slc true true ⟨false, nd, 0, 0⟩ q, .mp m2, .slc true true ⟨false, bg, 0, 0⟩ r, .mp m3]
/-- a net's blocks: the maps, elements, nodes, branches, and the net -/
def netB (N : Nat) (E : Nat → El) (n : Nat) : List ABk :=
 [.mSI true (zipF 0 (NM E n)), .mSI true (zipF 0 (ND E n)), .mSI true (zipF 0 (BR E n)), .cells true 8 n (.fn fun j => elR (E j)), .cells true 1 (ND E n).length (.fn (txR (lget (ND E n)))), .cells true 1 (BR E n).length (.fn (txR (lget (BR E n)))), .cells true 7 1 (.fn fun _ => netG N (N + 1) (N + 2) (N + 3) (N + 4) (N + 5) n (ND E n).length (BR E n).length)]
/-- a net more in memory; its name -/
noncomputable def netNew (E : Nat → El) (n : Nat) : M Nat :=
 (M.newB (.mSI true (zipF 0 (NM E n)))).andThen fun N => (M.newB (.mSI true (zipF 0 (ND E n)))).andThen fun _ => (M.newB (.mSI true (zipF 0 (BR E n)))).andThen fun _ => (M.newB (.cells true 8 n (.fn fun j => elR (E j)))).andThen fun _ => (M.newB (.cells true 1 (ND E n).length (.fn (txR (lget (ND E n)))))).andThen fun _ => (M.newB (.cells true 1 (BR E n).length (.fn (txR (lget (BR E n)))))).andThen fun _ => (M.newB (.cells true 7 1 (.fn fun _ => netG N (N + 1) (N + 2) (N + 3) (N + 4) (N + 5) n (ND E n).length (BR E n).length)))
theorem Tch_netNew (E : Nat → El) (n : Nat) : Tch (netNew E n) :=
 (Tch.newB _).andThen fun _ => (Tch.newB _).andThen fun _ => (Tch.newB _).andThen fun _ => (Tch.newB _).andThen fun _ => (Tch.newB _).andThen fun _ => (Tch.newB _).andThen fun _ => Tch.newB _
theorem netNew_done {E : Nat → El} {n : Nat} {N : Nat} {g g' : G} (h : netNew E n g = .done N g') : N = g.nx + 6 ∧ g'.H = putNew g.H g.nx (netB g.nx E n) ∧ g'.nx = g.nx + 7 ∧ g'.cs = g.cs := by
 cases h
 exact ⟨rfl, rfl, rfl, rfl⟩
/-- a slice of elements that are read: told by its arguments alone -/
structure PEQ (n : Nat) (f : Nat → List AV) : Prop where
 of : PE n f
 low : ∀ j, j < n → ∀ u, u ∈ f j → u.low 0 = true
noncomputable def rdQ (esz : Nat) (x : AV) (Q : Nat → (Nat → List AV) → Prop) : M (Nat × (Nat → List AV)) :=
 (srcOf esz x).andThen fun y => (M.req (Q y.2.1 y.2.2)).andThen fun _ => M.ret (y.2.1, y.2.2)
theorem rdQ_done {esz : Nat} {x : AV} {Q : Nat → (Nat → List AV) → Prop} {y : Nat × (Nat → List AV)} {g g' : G} (h : rdQ esz x Q g = .done y g') (he : 0 < esz) (hQ : Q y.1 y.2 → ∀ j, j < y.1 → ∀ u, u ∈ y.2 j → u.low 0 = true) :
  ∃ q, Keep g g' q ∧ (q → Vw.Ok ⟨x, esz, y.1, y.2⟩ g ∧ Q y.1 y.2) := by
 unfold rdQ at h
 obtain ⟨z, g1, a1, h1⟩ := done_of h
 obtain ⟨_, g2, a2, h2⟩ := done_of h1
 obtain ⟨rfl, rfl⟩ := ret_done h2
 obtain ⟨q1, k1, f1⟩ := Vw.Ok.of a1 he
 have k2 := req_done a2
 exact ⟨_, k1.trans k2, fun ⟨e1, e2⟩ => ⟨f1 e1 (hQ e2), e2⟩⟩
theorem Tch_rdQ (esz : Nat) (x : AV) (Q : Nat → (Nat → List AV) → Prop) : Tch (rdQ esz x Q) := (Tch.srcOf _ _).andThen fun _ => (Tch.req _).andThen fun _ => Tch.ret _


def ntL (m q r : Nat) (E : Nat → El) (M1 M2 M3 : List (Tx × Int)) (nd br : Nat → Tx) : List (Nat × ABk) := [(2, .cells true 7 1 (.fn fun _ => netR 6 7 8 m q r)), (3, .mSI true M1), (4, .mSI true M2), (5, .mSI true M3), (6, .cells true 8 m (.fn fun j => elR (E j))), (7, .cells true 1 q (.fn (txR nd))), (8, .cells true 1 r (.fn (txR br)))]
theorem ptA_r0 (z : El) (m q r : Nat) (E : Nat → El) (M1 M2 M3 : List (Tx × Int)) (nd br : Nat → Tx) : PieceN 11 (Ex.normal) [(0, .ptr ⟨false, 2, 0, 0⟩), (3, .ptr ⟨false, 10, 0, 0⟩)] (ntL m q r E M1 M2 M3 nd br ++ [(10, .cells true 8 1 (.lit [] (T.n T.e (Option.some (elR z)) T.e)))]) (piececallE Try.f34 ((nav [0] (bodyOf Try.f34))) (frameOf [.ptr ⟨false, 2, 0, 0⟩, .agg (elR z)] 0 .e) (hpL (ntL m q r E M1 M2 M3 nd br)) 10 []) := eqn (by kernel_rfl) trivial
theorem ptA (B : Nat) (hB : B ≤ 10) (z : El) (m q r i : Nat) (E : Nat → El) (M1 M2 M3 : List (Tx × Int)) (nd br four : Nat → Tx) : GoesB Try.prog ((nav [0] (bodyOf Try.f34))) Try.f34.ntmps B 10 11 (frameOf [.ptr ⟨false, 2, 0, 0⟩, .agg (elR z)] 0 .e) (hpL (ntL m q r E M1 M2 M3 nd br)) fun e fr' H' => (e = .normal ∧ fr' = frL [(0, .ptr ⟨false, 2, 0, 0⟩), (3, .ptr ⟨false, 10, 0, 0⟩)] ∧ H' = hpL (ntL m q r E M1 M2 M3 nd br ++ [(10, .cells true 8 1 (.lit [] (T.n T.e (Option.some (elR z)) T.e)))])) := by
 exact (rcE (ptA_r0 z m q r E M1 M2 M3 nd br) hB).mono fun e fr' H' h => h
theorem ptB_r0 (z : El) (m q r : Nat) (E : Nat → El) (M1 M2 M3 : List (Tx × Int)) (nd br : Nat → Tx) : PieceN 11 (Ex.normal) [(0, .ptr ⟨false, 2, 0, 0⟩), (3, .ptr ⟨false, 10, 0, 0⟩)] [(2, .cells true 7 1 (.fn fun _ => netR 6 7 8 m q r)), (3, .mSI true (lput seq (El.n z) (↑m : Int) M1)), (4, .mSI true M2), (5, .mSI true M3), (6, .cells true 8 m (.fn fun j => elR (E j))), (7, .cells true 1 q (.fn (txR nd))), (8, .cells true 1 r (.fn (txR br))), (10, .cells true 8 1 (.fn fun _ => elR z))] (piececallE Try.f34 ((nav [1,0] (bodyOf Try.f34))) (frL [(0, .ptr ⟨false, 2, 0, 0⟩), (3, .ptr ⟨false, 10, 0, 0⟩)]) (hpL (ntL m q r E M1 M2 M3 nd br ++ [(10, .cells true 8 1 (.fn fun _ => elR z))])) 11 []) := eqn (by kernel_rfl) trivial
theorem ptB (B : Nat) (hB : B ≤ 11) (z : El) (m q r i : Nat) (E : Nat → El) (M1 M2 M3 : List (Tx × Int)) (nd br four : Nat → Tx) : GoesB Try.prog ((nav [1,0] (bodyOf Try.f34))) Try.f34.ntmps B 11 11 (frL [(0, .ptr ⟨false, 2, 0, 0⟩), (3, .ptr ⟨false, 10, 0, 0⟩)]) (hpL (ntL m q r E M1 M2 M3 nd br ++ [(10, .cells true 8 1 (.fn fun _ => elR z))])) fun e fr' H' => (e = .normal ∧ fr' = frL [(0, .ptr ⟨false, 2, 0, 0⟩), (3, .ptr ⟨false, 10, 0, 0⟩)] ∧ H' = hpL [(2, .cells true 7 1 (.fn fun _ => netR 6 7 8 m q r)), (3, .mSI true (lput seq (El.n z) (↑m : Int) M1)), (4, .mSI true M2), (5, .mSI true M3), (6, .cells true 8 m (.fn fun j => elR (E j))), (7, .cells true 1 q (.fn (txR nd))), (8, .cells true 1 r (.fn (txR br))), (10, .cells true 8 1 (.fn fun _ => elR z))]) := by
 exact (rcE (ptB_r0 z m q r E M1 M2 M3 nd br) hB).mono fun e fr' H' h => h
theorem ptC_r0 (z : El) (m q r : Nat) (E : Nat → El) (M1 M2 M3 : List (Tx × Int)) (nd br : Nat → Tx) (c0 : m ≤ m) (c1 : (m + (1 : Nat)) * (104 : Nat) ≤ (140737488355328 : Nat)) (c2 : m + (1 : Nat) ≤ (9223372036854775807 : Nat)) : PieceN 13 (Ex.normal) [(0, .ptr ⟨false, 2, 0, 0⟩), (3, .ptr ⟨false, 10, 0, 0⟩)] [(2, .cells true 7 1 (.fn fun j => bif Nat.beq j 0 then (netR 12 7 8 (m + (1 : Nat)) q r) else (netR 6 7 8 m q r))), (3, .mSI true M1), (4, .mSI true M2), (5, .mSI true M3), (7, .cells true 1 q (.fn (txR nd))), (8, .cells true 1 r (.fn (txR br))), (10, .cells true 8 1 (.fn fun _ => elR z)), (12, .cells true 8 (m + (1 : Nat)) (.fn fun j => bif decide (j < m) then (elR (E j)) else (elR z)))] (piececallE Try.f34 ((nav [1,1,0] (bodyOf Try.f34))) (frL [(0, .ptr ⟨false, 2, 0, 0⟩), (3, .ptr ⟨false, 10, 0, 0⟩)]) (hpL (ntL m q r E M1 M2 M3 nd br ++ [(10, .cells true 8 1 (.fn fun _ => elR z))])) 11 []) := eqn (by kernel_rfl) (ai trivial (ai c0 (ai c1 c2)))
theorem ptC (B : Nat) (hB : B ≤ 11) (z : El) (m q r i : Nat) (E : Nat → El) (M1 M2 M3 : List (Tx × Int)) (nd br four : Nat → Tx) (x0 : ((m + (1 : Nat)) * (104 : Nat) ≤ (140737488355328 : Nat))) (x1 : (m + (1 : Nat) ≤ (9223372036854775807 : Nat))) : GoesB Try.prog ((nav [1,1,0] (bodyOf Try.f34))) Try.f34.ntmps B 11 13 (frL [(0, .ptr ⟨false, 2, 0, 0⟩), (3, .ptr ⟨false, 10, 0, 0⟩)]) (hpL (ntL m q r E M1 M2 M3 nd br ++ [(10, .cells true 8 1 (.fn fun _ => elR z))])) fun e fr' H' => (e = .normal ∧ fr' = frL [(0, .ptr ⟨false, 2, 0, 0⟩), (3, .ptr ⟨false, 10, 0, 0⟩)] ∧ H' = hpL [(2, .cells true 7 1 (.fn fun j => bif Nat.beq j 0 then (netR 12 7 8 (m + (1 : Nat)) q r) else (netR 6 7 8 m q r))), (3, .mSI true M1), (4, .mSI true M2), (5, .mSI true M3), (7, .cells true 1 q (.fn (txR nd))), (8, .cells true 1 r (.fn (txR br))), (10, .cells true 8 1 (.fn fun _ => elR z)), (12, .cells true 8 (m + (1 : Nat)) (.fn fun j => bif decide (j < m) then (elR (E j)) else (elR z)))]) := by
 exact (rcE (ptC_r0 z m q r E M1 M2 M3 nd br (by first | decide | omega) (x0) (x1)) hB).mono fun e fr' H' h => h
theorem ptD_r0 (z : El) (m q r : Nat) (E : Nat → El) (M1 M2 M3 : List (Tx × Int)) (nd br : Nat → Tx) : PieceN 12 (Ex.normal) [(0, .ptr ⟨false, 2, 0, 0⟩), (3, .ptr ⟨false, 10, 0, 0⟩), (37, .slc false true ⟨false, 11, 0, 0⟩ 4), (38, .int false .i64 4), (39, .int false .i64 0)] (ntL m q r E M1 M2 M3 nd br ++ [(10, .cells true 8 1 (.fn fun _ => elR z)), (11, .cells true 1 4 (.lit [.str false []] (T.n (T.n (.n .e (some [.str true (El.d z)]) T.e) (Option.some [.str true (El.b z)]) T.e) (Option.some [.str true (El.a z)]) (.n .e (some [.str true (El.c z)]) .e))))]) (piececallE Try.f34 ((nav [1,1,1,0,0] (bodyOf Try.f34))) (frL [(0, .ptr ⟨false, 2, 0, 0⟩), (3, .ptr ⟨false, 10, 0, 0⟩)]) (hpL (ntL m q r E M1 M2 M3 nd br ++ [(10, .cells true 8 1 (.fn fun _ => elR z))])) 11 []) := eqn (by kernel_rfl) trivial
theorem ptD (B : Nat) (hB : B ≤ 11) (z : El) (m q r i : Nat) (E : Nat → El) (M1 M2 M3 : List (Tx × Int)) (nd br four : Nat → Tx) : GoesB Try.prog ((nav [1,1,1,0,0] (bodyOf Try.f34))) Try.f34.ntmps B 11 12 (frL [(0, .ptr ⟨false, 2, 0, 0⟩), (3, .ptr ⟨false, 10, 0, 0⟩)]) (hpL (ntL m q r E M1 M2 M3 nd br ++ [(10, .cells true 8 1 (.fn fun _ => elR z))])) fun e fr' H' => (e = .normal ∧ fr' = frL [(0, .ptr ⟨false, 2, 0, 0⟩), (3, .ptr ⟨false, 10, 0, 0⟩), (37, .slc false true ⟨false, 11, 0, 0⟩ 4), (38, .int false .i64 4), (39, .int false .i64 0)] ∧ H' = hpL (ntL m q r E M1 M2 M3 nd br ++ [(10, .cells true 8 1 (.fn fun _ => elR z)), (11, .cells true 1 4 (.lit [.str false []] (T.n (T.n (.n .e (some [.str true (El.d z)]) T.e) (Option.some [.str true (El.b z)]) T.e) (Option.some [.str true (El.a z)]) (.n .e (some [.str true (El.c z)]) .e))))])) := by
 exact (rcE (ptD_r0 z m q r E M1 M2 M3 nd br) hB).mono fun e fr' H' h => h
theorem ptL_r0 (z : El) (m q r i : Nat) (E : Nat → El) (M1 M2 M3 : List (Tx × Int)) (nd br four : Nat → Tx) (c0 : decide ((↑i : Int) < (4 : Int)) = true) (c1 : (0 : Int) ≤ (↑i : Int)) (c2 : (↑i : Int) < (4 : Int)) (c3 : (0 : Nat) + i < (4 : Nat)) (c4 : (!Option.isSome (lfind seq (four ((0 : Nat) + i)) M2)) = false) (c5 : (-9223372036854775808 : Int) ≤ (↑i : Int) + (1 : Int)) (c6 : (↑i : Int) + (1 : Int) ≤ (9223372036854775807 : Int)) : PieceN 14 (Ex.normal) [(0, .ptr ⟨false, 2, 0, 0⟩), (3, .ptr ⟨false, 10, 0, 0⟩), (37, .slc true true ⟨false, 11, 0, 0⟩ 4), (38, .int true .i64 4), (39, .int true .i64 ((↑i : Int) + (1 : Int)))] (ntL m q r E M1 M2 M3 nd br ++ [(10, .cells true 8 1 (.fn fun _ => elR z)), (11, .cells true 1 4 (.fn (txR four)))]) (piececallE Try.f34 ((nav [1,1,1,0,1,0,0] (bodyOf Try.f34))) (frL [(0, .ptr ⟨false, 2, 0, 0⟩), (3, .ptr ⟨false, 10, 0, 0⟩), (37, .slc true true ⟨false, 11, 0, 0⟩ 4), (38, .int true .i64 4), (39, .int true .i64 (i : Int))]) (hpL (ntL m q r E M1 M2 M3 nd br ++ [(10, .cells true 8 1 (.fn fun _ => elR z)), (11, .cells true 1 4 (.fn (txR four)))])) 12 [true, false]) := eqn (by kernel_rfl) (ai (ai (ai (ai (ai trivial c0) (ai c1 c2)) c3) c4) (ai c5 c6))
theorem ptL_r1 (z : El) (m q r i : Nat) (E : Nat → El) (M1 M2 M3 : List (Tx × Int)) (nd br four : Nat → Tx) (c0 : decide ((↑i : Int) < (4 : Int)) = true) (c1 : (0 : Int) ≤ (↑i : Int)) (c2 : (↑i : Int) < (4 : Int)) (c3 : (0 : Nat) + i < (4 : Nat)) (c4 : (!Option.isSome (lfind seq (four ((0 : Nat) + i)) M2)) = true) (c5 : (!four ((0 : Nat) + i) == []) = false) (c6 : (-9223372036854775808 : Int) ≤ (↑i : Int) + (1 : Int)) (c7 : (↑i : Int) + (1 : Int) ≤ (9223372036854775807 : Int)) : PieceN 14 (Ex.normal) [(0, .ptr ⟨false, 2, 0, 0⟩), (3, .ptr ⟨false, 10, 0, 0⟩), (37, .slc true true ⟨false, 11, 0, 0⟩ 4), (38, .int true .i64 4), (39, .int true .i64 ((↑i : Int) + (1 : Int)))] (ntL m q r E M1 M2 M3 nd br ++ [(10, .cells true 8 1 (.fn fun _ => elR z)), (11, .cells true 1 4 (.fn (txR four)))]) (piececallE Try.f34 ((nav [1,1,1,0,1,0,0] (bodyOf Try.f34))) (frL [(0, .ptr ⟨false, 2, 0, 0⟩), (3, .ptr ⟨false, 10, 0, 0⟩), (37, .slc true true ⟨false, 11, 0, 0⟩ 4), (38, .int true .i64 4), (39, .int true .i64 (i : Int))]) (hpL (ntL m q r E M1 M2 M3 nd br ++ [(10, .cells true 8 1 (.fn fun _ => elR z)), (11, .cells true 1 4 (.fn (txR four)))])) 12 [true, true, false]) := eqn (by kernel_rfl) (ai (ai (ai (ai (ai (ai trivial c0) (ai c1 c2)) c3) c4) c5) (ai c6 c7))
theorem ptL_r2 (z : El) (m q r i : Nat) (E : Nat → El) (M1 M2 M3 : List (Tx × Int)) (nd br four : Nat → Tx) (c0 : decide ((↑i : Int) < (4 : Int)) = true) (c1 : (0 : Int) ≤ (↑i : Int)) (c2 : (↑i : Int) < (4 : Int)) (c3 : (0 : Nat) + i < (4 : Nat)) (c4 : (!Option.isSome (lfind seq (four ((0 : Nat) + i)) M2)) = true) (c5 : (!four ((0 : Nat) + i) == []) = true) (c6 : (!four ((0 : Nat) + i) == [(48 : UInt8)]) = false) (c7 : (-9223372036854775808 : Int) ≤ (↑i : Int) + (1 : Int)) (c8 : (↑i : Int) + (1 : Int) ≤ (9223372036854775807 : Int)) : PieceN 14 (Ex.normal) [(0, .ptr ⟨false, 2, 0, 0⟩), (3, .ptr ⟨false, 10, 0, 0⟩), (37, .slc true true ⟨false, 11, 0, 0⟩ 4), (38, .int true .i64 4), (39, .int true .i64 ((↑i : Int) + (1 : Int)))] (ntL m q r E M1 M2 M3 nd br ++ [(10, .cells true 8 1 (.fn fun _ => elR z)), (11, .cells true 1 4 (.fn (txR four)))]) (piececallE Try.f34 ((nav [1,1,1,0,1,0,0] (bodyOf Try.f34))) (frL [(0, .ptr ⟨false, 2, 0, 0⟩), (3, .ptr ⟨false, 10, 0, 0⟩), (37, .slc true true ⟨false, 11, 0, 0⟩ 4), (38, .int true .i64 4), (39, .int true .i64 (i : Int))]) (hpL (ntL m q r E M1 M2 M3 nd br ++ [(10, .cells true 8 1 (.fn fun _ => elR z)), (11, .cells true 1 4 (.fn (txR four)))])) 12 [true, true, true, false]) := eqn (by kernel_rfl) (ai (ai (ai (ai (ai (ai (ai trivial c0) (ai c1 c2)) c3) c4) c5) c6) (ai c7 c8))
theorem ptL_r3 (z : El) (m q r i : Nat) (E : Nat → El) (M1 M2 M3 : List (Tx × Int)) (nd br four : Nat → Tx) (c0 : decide ((↑i : Int) < (4 : Int)) = true) (c1 : (0 : Int) ≤ (↑i : Int)) (c2 : (↑i : Int) < (4 : Int)) (c3 : (0 : Nat) + i < (4 : Nat)) (c4 : (!Option.isSome (lfind seq (four ((0 : Nat) + i)) M2)) = true) (c5 : (!four ((0 : Nat) + i) == []) = true) (c6 : (!four ((0 : Nat) + i) == [(48 : UInt8)]) = true) (c7 : q ≤ q) (c8 : (q + (1 : Nat)) * (16 : Nat) ≤ (140737488355328 : Nat)) (c9 : q + (1 : Nat) ≤ (9223372036854775807 : Nat)) (c10 : (-9223372036854775808 : Int) ≤ (↑i : Int) + (1 : Int)) (c11 : (↑i : Int) + (1 : Int) ≤ (9223372036854775807 : Int)) : PieceN 14 (Ex.normal) [(0, .ptr ⟨false, 2, 0, 0⟩), (3, .ptr ⟨false, 10, 0, 0⟩), (37, .slc true true ⟨false, 11, 0, 0⟩ 4), (38, .int true .i64 4), (39, .int true .i64 ((↑i : Int) + (1 : Int)))] [(2, .cells true 7 1 (.fn fun j => bif Nat.beq j 0 then (netR 6 13 8 m (q + (1 : Nat)) r) else (netR 6 7 8 m q r))), (3, .mSI true M1), (4, .mSI true (lput seq (four ((0 : Nat) + i)) (↑q : Int) M2)), (5, .mSI true M3), (6, .cells true 8 m (.fn fun j => elR (E j))), (8, .cells true 1 r (.fn (txR br))), (10, .cells true 8 1 (.fn fun _ => elR z)), (11, .cells true 1 4 (.fn (txR four))), (13, .cells true 1 (q + (1 : Nat)) (.fn fun j => bif decide (j < q) then (txR nd j) else [.str true (four ((0 : Nat) + i))]))] (piececallE Try.f34 ((nav [1,1,1,0,1,0,0] (bodyOf Try.f34))) (frL [(0, .ptr ⟨false, 2, 0, 0⟩), (3, .ptr ⟨false, 10, 0, 0⟩), (37, .slc true true ⟨false, 11, 0, 0⟩ 4), (38, .int true .i64 4), (39, .int true .i64 (i : Int))]) (hpL (ntL m q r E M1 M2 M3 nd br ++ [(10, .cells true 8 1 (.fn fun _ => elR z)), (11, .cells true 1 4 (.fn (txR four)))])) 12 [true, true, true, true]) := eqn (by kernel_rfl) (ai (ai (ai (ai (ai (ai (ai (ai trivial c0) (ai c1 c2)) c3) c4) c5) c6) (ai c7 (ai c8 c9))) (ai c10 c11))
theorem ptL_r4 (z : El) (m q r i : Nat) (E : Nat → El) (M1 M2 M3 : List (Tx × Int)) (nd br four : Nat → Tx) (c0 : decide ((↑i : Int) < (4 : Int)) = false) : PieceN 14 (Ex.exit (0 : Nat)) [(0, .ptr ⟨false, 2, 0, 0⟩), (3, .ptr ⟨false, 10, 0, 0⟩), (37, .slc true true ⟨false, 11, 0, 0⟩ 4), (38, .int true .i64 4), (39, .int true .i64 (↑i : Int))] (ntL m q r E M1 M2 M3 nd br ++ [(10, .cells true 8 1 (.fn fun _ => elR z)), (11, .cells true 1 4 (.fn (txR four)))]) (piececallE Try.f34 ((nav [1,1,1,0,1,0,0] (bodyOf Try.f34))) (frL [(0, .ptr ⟨false, 2, 0, 0⟩), (3, .ptr ⟨false, 10, 0, 0⟩), (37, .slc true true ⟨false, 11, 0, 0⟩ 4), (38, .int true .i64 4), (39, .int true .i64 (i : Int))]) (hpL (ntL m q r E M1 M2 M3 nd br ++ [(10, .cells true 8 1 (.fn fun _ => elR z)), (11, .cells true 1 4 (.fn (txR four)))])) 12 [false]) := eqn (by kernel_rfl) (ai trivial c0)
theorem ptL (B : Nat) (hB : B ≤ 12) (z : El) (m q r i : Nat) (E : Nat → El) (M1 M2 M3 : List (Tx × Int)) (nd br four : Nat → Tx) (x0 : ((decide ((↑i : Int) < (4 : Int))) = true → ((Option.isSome (lfind seq (four ((0 : Nat) + i)) M2)) = false → ((four ((0 : Nat) + i) == []) = false → ((four ((0 : Nat) + i) == [(48 : UInt8)]) = false → ((q + (1 : Nat)) * (16 : Nat) ≤ (140737488355328 : Nat))))))) (x1 : ((decide ((↑i : Int) < (4 : Int))) = true → ((Option.isSome (lfind seq (four ((0 : Nat) + i)) M2)) = false → ((four ((0 : Nat) + i) == []) = false → ((four ((0 : Nat) + i) == [(48 : UInt8)]) = false → (q + (1 : Nat) ≤ (9223372036854775807 : Nat))))))) : GoesB Try.prog ((nav [1,1,1,0,1,0,0] (bodyOf Try.f34))) Try.f34.ntmps B 12 14 (frL [(0, .ptr ⟨false, 2, 0, 0⟩), (3, .ptr ⟨false, 10, 0, 0⟩), (37, .slc true true ⟨false, 11, 0, 0⟩ 4), (38, .int true .i64 4), (39, .int true .i64 (i : Int))]) (hpL (ntL m q r E M1 M2 M3 nd br ++ [(10, .cells true 8 1 (.fn fun _ => elR z)), (11, .cells true 1 4 (.fn (txR four)))])) fun e fr' H' => (cond (decide ((↑i : Int) < (4 : Int))) (cond (Option.isSome (lfind seq (four ((0 : Nat) + i)) M2)) (e = .normal ∧ fr' = frL [(0, .ptr ⟨false, 2, 0, 0⟩), (3, .ptr ⟨false, 10, 0, 0⟩), (37, .slc true true ⟨false, 11, 0, 0⟩ 4), (38, .int true .i64 4), (39, .int true .i64 ((↑i : Int) + (1 : Int)))] ∧ H' = hpL (ntL m q r E M1 M2 M3 nd br ++ [(10, .cells true 8 1 (.fn fun _ => elR z)), (11, .cells true 1 4 (.fn (txR four)))])) (cond (four ((0 : Nat) + i) == []) (e = .normal ∧ fr' = frL [(0, .ptr ⟨false, 2, 0, 0⟩), (3, .ptr ⟨false, 10, 0, 0⟩), (37, .slc true true ⟨false, 11, 0, 0⟩ 4), (38, .int true .i64 4), (39, .int true .i64 ((↑i : Int) + (1 : Int)))] ∧ H' = hpL (ntL m q r E M1 M2 M3 nd br ++ [(10, .cells true 8 1 (.fn fun _ => elR z)), (11, .cells true 1 4 (.fn (txR four)))])) (cond (four ((0 : Nat) + i) == [(48 : UInt8)]) (e = .normal ∧ fr' = frL [(0, .ptr ⟨false, 2, 0, 0⟩), (3, .ptr ⟨false, 10, 0, 0⟩), (37, .slc true true ⟨false, 11, 0, 0⟩ 4), (38, .int true .i64 4), (39, .int true .i64 ((↑i : Int) + (1 : Int)))] ∧ H' = hpL (ntL m q r E M1 M2 M3 nd br ++ [(10, .cells true 8 1 (.fn fun _ => elR z)), (11, .cells true 1 4 (.fn (txR four)))])) (e = .normal ∧ fr' = frL [(0, .ptr ⟨false, 2, 0, 0⟩), (3, .ptr ⟨false, 10, 0, 0⟩), (37, .slc true true ⟨false, 11, 0, 0⟩ 4), (38, .int true .i64 4), (39, .int true .i64 ((↑i : Int) + (1 : Int)))] ∧ H' = hpL [(2, .cells true 7 1 (.fn fun j => bif Nat.beq j 0 then (netR 6 13 8 m (q + (1 : Nat)) r) else (netR 6 7 8 m q r))), (3, .mSI true M1), (4, .mSI true (lput seq (four ((0 : Nat) + i)) (↑q : Int) M2)), (5, .mSI true M3), (6, .cells true 8 m (.fn fun j => elR (E j))), (8, .cells true 1 r (.fn (txR br))), (10, .cells true 8 1 (.fn fun _ => elR z)), (11, .cells true 1 4 (.fn (txR four))), (13, .cells true 1 (q + (1 : Nat)) (.fn fun j => bif decide (j < q) then (txR nd j) else [.str true (four ((0 : Nat) + i))]))])))) (e = .exit 0 ∧ fr' = frL [(0, .ptr ⟨false, 2, 0, 0⟩), (3, .ptr ⟨false, 10, 0, 0⟩), (37, .slc true true ⟨false, 11, 0, 0⟩ 4), (38, .int true .i64 4), (39, .int true .i64 (↑i : Int))] ∧ H' = hpL (ntL m q r E M1 M2 M3 nd br ++ [(10, .cells true 8 1 (.fn fun _ => elR z)), (11, .cells true 1 4 (.fn (txR four)))]))) := by
 cases t0 : decide ((↑i : Int) < (4 : Int)) with
 | true =>
  cases t1 : Option.isSome (lfind seq (four ((0 : Nat) + i)) M2) with
  | true =>
   exact (rcE (ptL_r0 z m q r i E M1 M2 M3 nd br four t0 (by first | decide | ((try simp only [decide_eq_true_eq, decide_eq_false_iff_not] at t0 t1); (try simp only [List.length_take, List.length_drop]); omega)) (by first | decide | ((try simp only [decide_eq_true_eq, decide_eq_false_iff_not] at t0 t1); (try simp only [List.length_take, List.length_drop]); omega)) (by first | decide | ((try simp only [decide_eq_true_eq, decide_eq_false_iff_not] at t0 t1); (try simp only [List.length_take, List.length_drop]); omega)) (by rw [t1]; rfl) (by first | decide | ((try simp only [decide_eq_true_eq, decide_eq_false_iff_not] at t0 t1); (try simp only [List.length_take, List.length_drop]); omega)) (by first | decide | ((try simp only [decide_eq_true_eq, decide_eq_false_iff_not] at t0 t1); (try simp only [List.length_take, List.length_drop]); omega))) hB).mono fun e fr' H' h => by first | (simp only [t0, t1, cond_true, cond_false]; exact h) | (simp only [t0, t1, cond_true, cond_false] at h ⊢; exact h)
  | false =>
   cases t2 : four ((0 : Nat) + i) == [] with
   | true =>
    exact (rcE (ptL_r1 z m q r i E M1 M2 M3 nd br four t0 (by first | decide | ((try simp only [decide_eq_true_eq, decide_eq_false_iff_not] at t0 t1 t2); (try simp only [List.length_take, List.length_drop]); omega)) (by first | decide | ((try simp only [decide_eq_true_eq, decide_eq_false_iff_not] at t0 t1 t2); (try simp only [List.length_take, List.length_drop]); omega)) (by first | decide | ((try simp only [decide_eq_true_eq, decide_eq_false_iff_not] at t0 t1 t2); (try simp only [List.length_take, List.length_drop]); omega)) (by rw [t1]; rfl) (by rw [t2]; rfl) (by first | decide | ((try simp only [decide_eq_true_eq, decide_eq_false_iff_not] at t0 t1 t2); (try simp only [List.length_take, List.length_drop]); omega)) (by first | decide | ((try simp only [decide_eq_true_eq, decide_eq_false_iff_not] at t0 t1 t2); (try simp only [List.length_take, List.length_drop]); omega))) hB).mono fun e fr' H' h => by first | (simp only [t0, t1, t2, cond_true, cond_false]; exact h) | (simp only [t0, t1, t2, cond_true, cond_false] at h ⊢; exact h)
   | false =>
    cases t3 : four ((0 : Nat) + i) == [(48 : UInt8)] with
    | true =>
     exact (rcE (ptL_r2 z m q r i E M1 M2 M3 nd br four t0 (by first | decide | ((try simp only [decide_eq_true_eq, decide_eq_false_iff_not] at t0 t1 t2 t3); (try simp only [List.length_take, List.length_drop]); omega)) (by first | decide | ((try simp only [decide_eq_true_eq, decide_eq_false_iff_not] at t0 t1 t2 t3); (try simp only [List.length_take, List.length_drop]); omega)) (by first | decide | ((try simp only [decide_eq_true_eq, decide_eq_false_iff_not] at t0 t1 t2 t3); (try simp only [List.length_take, List.length_drop]); omega)) (by rw [t1]; rfl) (by rw [t2]; rfl) (by rw [t3]; rfl) (by first | decide | ((try simp only [decide_eq_true_eq, decide_eq_false_iff_not] at t0 t1 t2 t3); (try simp only [List.length_take, List.length_drop]); omega)) (by first | decide | ((try simp only [decide_eq_true_eq, decide_eq_false_iff_not] at t0 t1 t2 t3); (try simp only [List.length_take, List.length_drop]); omega))) hB).mono fun e fr' H' h => by first | (simp only [t0, t1, t2, t3, cond_true, cond_false]; exact h) | (simp only [t0, t1, t2, t3, cond_true, cond_false] at h ⊢; exact h)
    | false =>
     exact (rcE (ptL_r3 z m q r i E M1 M2 M3 nd br four t0 (by first | decide | ((try simp only [decide_eq_true_eq, decide_eq_false_iff_not] at t0 t1 t2 t3); (try simp only [List.length_take, List.length_drop]); omega)) (by first | decide | ((try simp only [decide_eq_true_eq, decide_eq_false_iff_not] at t0 t1 t2 t3); (try simp only [List.length_take, List.length_drop]); omega)) (by first | decide | ((try simp only [decide_eq_true_eq, decide_eq_false_iff_not] at t0 t1 t2 t3); (try simp only [List.length_take, List.length_drop]); omega)) (by rw [t1]; rfl) (by rw [t2]; rfl) (by rw [t3]; rfl) (by first | decide | ((try simp only [decide_eq_true_eq, decide_eq_false_iff_not] at t0 t1 t2 t3); (try simp only [List.length_take, List.length_drop]); omega)) (x0 t0 t1 t2 t3) (x1 t0 t1 t2 t3) (by first | decide | ((try simp only [decide_eq_true_eq, decide_eq_false_iff_not] at t0 t1 t2 t3); (try simp only [List.length_take, List.length_drop]); omega)) (by first | decide | ((try simp only [decide_eq_true_eq, decide_eq_false_iff_not] at t0 t1 t2 t3); (try simp only [List.length_take, List.length_drop]); omega))) hB).mono fun e fr' H' h => by first | (simp only [t0, t1, t2, t3, cond_true, cond_false]; exact h) | (simp only [t0, t1, t2, t3, cond_true, cond_false] at h ⊢; exact h)
 | false =>
  exact (rcE (ptL_r4 z m q r i E M1 M2 M3 nd br four t0) hB).mono fun e fr' H' h => by first | (simp only [t0, cond_true, cond_false]; exact h) | (simp only [t0, cond_true, cond_false] at h ⊢; exact h)
theorem ptM_r0 (z : El) (m q r : Nat) (E : Nat → El) (M1 M2 M3 : List (Tx × Int)) (nd br : Nat → Tx) (c0 : decide (El.k z = (5 : Int)) = true) (c1 : r ≤ r) (c2 : (r + (1 : Nat)) * (16 : Nat) ≤ (140737488355328 : Nat)) (c3 : r + (1 : Nat) ≤ (9223372036854775807 : Nat)) : PieceN 14 (Ex.normal) [(0, .ptr ⟨false, 2, 0, 0⟩), (3, .ptr ⟨false, 10, 0, 0⟩)] [(2, .cells true 7 1 (.fn fun j => bif Nat.beq j 0 then (netR 6 7 13 m q (r + (1 : Nat))) else (netR 6 7 8 m q r))), (3, .mSI true M1), (4, .mSI true M2), (5, .mSI true (lput seq (El.n z) (↑r : Int) M3)), (6, .cells true 8 m (.fn fun j => elR (E j))), (7, .cells true 1 q (.fn (txR nd))), (13, .cells true 1 (r + (1 : Nat)) (.fn fun j => bif decide (j < r) then (txR br j) else [.str true (El.n z)]))] (piececallE Try.f34 ((nav [1,1,1,1] (bodyOf Try.f34))) (frL [(0, .ptr ⟨false, 2, 0, 0⟩), (3, .ptr ⟨false, 10, 0, 0⟩)]) (hpL (ntL m q r E M1 M2 M3 nd br ++ [(10, .cells true 8 1 (.fn fun _ => elR z))])) 12 [true]) := eqn (by kernel_rfl) (ai (ai trivial c0) (ai c1 (ai c2 c3)))
theorem ptM_r1 (z : El) (m q r : Nat) (E : Nat → El) (M1 M2 M3 : List (Tx × Int)) (nd br : Nat → Tx) (c0 : decide (El.k z = (5 : Int)) = false) (c1 : decide (El.k z = (7 : Int)) = true) (c2 : r ≤ r) (c3 : (r + (1 : Nat)) * (16 : Nat) ≤ (140737488355328 : Nat)) (c4 : r + (1 : Nat) ≤ (9223372036854775807 : Nat)) : PieceN 14 (Ex.normal) [(0, .ptr ⟨false, 2, 0, 0⟩), (3, .ptr ⟨false, 10, 0, 0⟩)] [(2, .cells true 7 1 (.fn fun j => bif Nat.beq j 0 then (netR 6 7 13 m q (r + (1 : Nat))) else (netR 6 7 8 m q r))), (3, .mSI true M1), (4, .mSI true M2), (5, .mSI true (lput seq (El.n z) (↑r : Int) M3)), (6, .cells true 8 m (.fn fun j => elR (E j))), (7, .cells true 1 q (.fn (txR nd))), (13, .cells true 1 (r + (1 : Nat)) (.fn fun j => bif decide (j < r) then (txR br j) else [.str true (El.n z)]))] (piececallE Try.f34 ((nav [1,1,1,1] (bodyOf Try.f34))) (frL [(0, .ptr ⟨false, 2, 0, 0⟩), (3, .ptr ⟨false, 10, 0, 0⟩)]) (hpL (ntL m q r E M1 M2 M3 nd br ++ [(10, .cells true 8 1 (.fn fun _ => elR z))])) 12 [false, true]) := eqn (by kernel_rfl) (ai (ai (ai trivial c0) c1) (ai c2 (ai c3 c4)))
theorem ptM_r2 (z : El) (m q r : Nat) (E : Nat → El) (M1 M2 M3 : List (Tx × Int)) (nd br : Nat → Tx) (c0 : decide (El.k z = (5 : Int)) = false) (c1 : decide (El.k z = (7 : Int)) = false) : PieceN 14 (Ex.normal) [(0, .ptr ⟨false, 2, 0, 0⟩), (3, .ptr ⟨false, 10, 0, 0⟩)] (ntL m q r E M1 M2 M3 nd br) (piececallE Try.f34 ((nav [1,1,1,1] (bodyOf Try.f34))) (frL [(0, .ptr ⟨false, 2, 0, 0⟩), (3, .ptr ⟨false, 10, 0, 0⟩)]) (hpL (ntL m q r E M1 M2 M3 nd br ++ [(10, .cells true 8 1 (.fn fun _ => elR z))])) 12 [false, false]) := eqn (by kernel_rfl) (ai (ai trivial c0) c1)
theorem ptM (B : Nat) (hB : B ≤ 12) (z : El) (m q r i : Nat) (E : Nat → El) (M1 M2 M3 : List (Tx × Int)) (nd br four : Nat → Tx) (x0 : ((r + (1 : Nat)) * (16 : Nat) ≤ (140737488355328 : Nat))) (x1 : (r + (1 : Nat) ≤ (9223372036854775807 : Nat))) : GoesB Try.prog ((nav [1,1,1,1] (bodyOf Try.f34))) Try.f34.ntmps B 12 14 (frL [(0, .ptr ⟨false, 2, 0, 0⟩), (3, .ptr ⟨false, 10, 0, 0⟩)]) (hpL (ntL m q r E M1 M2 M3 nd br ++ [(10, .cells true 8 1 (.fn fun _ => elR z))])) fun e fr' H' => (cond (decide (El.k z = (5 : Int))) (e = .normal ∧ fr' = frL [(0, .ptr ⟨false, 2, 0, 0⟩), (3, .ptr ⟨false, 10, 0, 0⟩)] ∧ H' = hpL [(2, .cells true 7 1 (.fn fun j => bif Nat.beq j 0 then (netR 6 7 13 m q (r + (1 : Nat))) else (netR 6 7 8 m q r))), (3, .mSI true M1), (4, .mSI true M2), (5, .mSI true (lput seq (El.n z) (↑r : Int) M3)), (6, .cells true 8 m (.fn fun j => elR (E j))), (7, .cells true 1 q (.fn (txR nd))), (13, .cells true 1 (r + (1 : Nat)) (.fn fun j => bif decide (j < r) then (txR br j) else [.str true (El.n z)]))]) (cond (decide (El.k z = (7 : Int))) (e = .normal ∧ fr' = frL [(0, .ptr ⟨false, 2, 0, 0⟩), (3, .ptr ⟨false, 10, 0, 0⟩)] ∧ H' = hpL [(2, .cells true 7 1 (.fn fun j => bif Nat.beq j 0 then (netR 6 7 13 m q (r + (1 : Nat))) else (netR 6 7 8 m q r))), (3, .mSI true M1), (4, .mSI true M2), (5, .mSI true (lput seq (El.n z) (↑r : Int) M3)), (6, .cells true 8 m (.fn fun j => elR (E j))), (7, .cells true 1 q (.fn (txR nd))), (13, .cells true 1 (r + (1 : Nat)) (.fn fun j => bif decide (j < r) then (txR br j) else [.str true (El.n z)]))]) (e = .normal ∧ fr' = frL [(0, .ptr ⟨false, 2, 0, 0⟩), (3, .ptr ⟨false, 10, 0, 0⟩)] ∧ H' = hpL (ntL m q r E M1 M2 M3 nd br)))) := by
 cases t0 : decide (El.k z = (5 : Int)) with
 | true =>
  exact (rcE (ptM_r0 z m q r E M1 M2 M3 nd br t0 (by first | decide | ((try simp only [decide_eq_true_eq, decide_eq_false_iff_not] at t0); (try simp only [List.length_take, List.length_drop]); omega)) (x0) (x1)) hB).mono fun e fr' H' h => by first | (simp only [t0, cond_true, cond_false]; exact h) | (simp only [t0, cond_true, cond_false] at h ⊢; exact h)
 | false =>
  cases t1 : decide (El.k z = (7 : Int)) with
  | true =>
   exact (rcE (ptM_r1 z m q r E M1 M2 M3 nd br t0 t1 (by first | decide | ((try simp only [decide_eq_true_eq, decide_eq_false_iff_not] at t0 t1); (try simp only [List.length_take, List.length_drop]); omega)) (x0) (x1)) hB).mono fun e fr' H' h => by first | (simp only [t0, t1, cond_true, cond_false]; exact h) | (simp only [t0, t1, cond_true, cond_false] at h ⊢; exact h)
  | false =>
   exact (rcE (ptM_r2 z m q r E M1 M2 M3 nd br t0 t1) hB).mono fun e fr' H' h => by first | (simp only [t0, t1, cond_true, cond_false]; exact h) | (simp only [t0, t1, cond_true, cond_false] at h ⊢; exact h)


theorem put_is : (bodyOf Try.f34) = .seq (nav [0] (bodyOf Try.f34)) (.seq (nav [1,0] (bodyOf Try.f34)) (.seq (nav [1,1,0] (bodyOf Try.f34)) (.seq (.seq (nav [1,1,1,0,0] (bodyOf Try.f34)) (.block 0 (.loop (nav [1,1,1,0,1,0,0] (bodyOf Try.f34))))) (nav [1,1,1,1] (bodyOf Try.f34))))) := by kernel_rfl
theorem ptL_step (z : El) (m : Nat) (E : Nat → El) (nm nd br : List Tx) (hq : nd.length ≤ 1100) (i : Nat) (hi : i < 4) :
  GoesB Try.prog (nav [1,1,1,0,1,0,0] (bodyOf Try.f34)) Try.f34.ntmps 6 12 12 (frL [(0, .ptr ⟨false, 2, 0, 0⟩), (3, .ptr ⟨false, 10, 0, 0⟩), (37, .slc true true ⟨false, 11, 0, 0⟩ 4), (38, .int true .i64 4), (39, .int true .i64 ((i : Nat) : Int))]) (hpL [(2, .cells true 7 1 (.fn fun _ => netR 6 7 8 m ((nd4 nd z i)).length (br).length)), (3, .mSI true (zipF 0 (nm))), (4, .mSI true (zipF 0 ((nd4 nd z i)))), (5, .mSI true (zipF 0 (br))), (6, .cells true 8 (m) (.fn fun j => elR (E j))), (7, .cells true 1 (((nd4 nd z i)).length) (.fn (txR (lget ((nd4 nd z i)))))), (8, .cells true 1 ((br).length) (.fn (txR (lget (br))))), (10, .cells true 8 1 (.fn fun _ => elR z)), (11, .cells true 1 4 (.fn (txR (four z))))]) (Nm [(0, .ptr ⟨false, 2, 0, 0⟩), (3, .ptr ⟨false, 10, 0, 0⟩), (37, .slc true true ⟨false, 11, 0, 0⟩ 4), (38, .int true .i64 4), (39, .int true .i64 (((i + 1 : Nat)) : Int))] [(2, .cells true 7 1 (.fn fun _ => netR 6 7 8 m (nd4 nd z (i + 1)).length (br).length)), (3, .mSI true (zipF 0 (nm))), (4, .mSI true (zipF 0 (nd4 nd z (i + 1)))), (5, .mSI true (zipF 0 (br))), (6, .cells true 8 (m) (.fn fun j => elR (E j))), (7, .cells true 1 ((nd4 nd z (i + 1)).length) (.fn (txR (lget (nd4 nd z (i + 1)))))), (8, .cells true 1 ((br).length) (.fn (txR (lget (br))))), (10, .cells true 8 1 (.fn fun _ => elR z)), (11, .cells true 1 4 (.fn (txR (four z))))]) := by
 have l4 := nd4_len nd z i
 refine (ptL 6 (by omega) z m (nd4 nd z i).length br.length i E (zipF 0 nm) (zipF 0 (nd4 nd z i)) (zipF 0 br) (lget ((nd4 nd z i))) (lget (br)) (four z) (fun _ _ _ _ => by omega) (fun _ _ _ _ => by omega)).renG fun e fr' H' h => ?_
 rw [decide_eq_true (show (i : Int) < 4 by omega), cond_true, Nat.zero_add, isS_zip] at h
 have same : addN (nd4 nd z i) (four z i) = (nd4 nd z i) → (e = .normal ∧ fr' = frL [(0, .ptr ⟨false, 2, 0, 0⟩), (3, .ptr ⟨false, 10, 0, 0⟩), (37, .slc true true ⟨false, 11, 0, 0⟩ 4), (38, .int true .i64 4), (39, .int true .i64 ((i : Int) + 1 : Int))] ∧ H' = hpL [(2, .cells true 7 1 (.fn fun _ => netR 6 7 8 m ((nd4 nd z i)).length (br).length)), (3, .mSI true (zipF 0 (nm))), (4, .mSI true (zipF 0 ((nd4 nd z i)))), (5, .mSI true (zipF 0 (br))), (6, .cells true 8 (m) (.fn fun j => elR (E j))), (7, .cells true 1 (((nd4 nd z i)).length) (.fn (txR (lget ((nd4 nd z i)))))), (8, .cells true 1 ((br).length) (.fn (txR (lget (br))))), (10, .cells true 8 1 (.fn fun _ => elR z)), (11, .cells true 1 4 (.fn (txR (four z))))]) → ∃ σ fl bl, (∀ g, g < 6 → σ g = g) ∧ RenF 12 σ fr' fl ∧ RenG 12 σ H' bl ∧ (∀ i j, i < 12 → j < 12 → σ i = σ j → i = j) ∧ Nm [(0, .ptr ⟨false, 2, 0, 0⟩), (3, .ptr ⟨false, 10, 0, 0⟩), (37, .slc true true ⟨false, 11, 0, 0⟩ 4), (38, .int true .i64 4), (39, .int true .i64 (((i + 1 : Nat)) : Int))] [(2, .cells true 7 1 (.fn fun _ => netR 6 7 8 m (nd4 nd z (i + 1)).length (br).length)), (3, .mSI true (zipF 0 (nm))), (4, .mSI true (zipF 0 (nd4 nd z (i + 1)))), (5, .mSI true (zipF 0 (br))), (6, .cells true 8 (m) (.fn fun j => elR (E j))), (7, .cells true 1 ((nd4 nd z (i + 1)).length) (.fn (txR (lget (nd4 nd z (i + 1)))))), (8, .cells true 1 ((br).length) (.fn (txR (lget (br))))), (10, .cells true 8 1 (.fn fun _ => elR z)), (11, .cells true 1 4 (.fn (txR (four z))))] e (frL fl) (hpL bl) := by
  rintro q ⟨rfl, rfl, rfl⟩
  have q2 : nd4 nd z (i + 1) = (nd4 nd z i) := q
  rw [q2]
  exact ⟨id, [(0, .ptr ⟨false, 2, 0, 0⟩), (3, .ptr ⟨false, 10, 0, 0⟩), (37, .slc true true ⟨false, 11, 0, 0⟩ 4), (38, .int true .i64 4), (39, .int true .i64 (((i + 1 : Nat)) : Int))], [(2, .cells true 7 1 (.fn fun _ => netR 6 7 8 m ((nd4 nd z i)).length (br).length)), (3, .mSI true (zipF 0 (nm))), (4, .mSI true (zipF 0 ((nd4 nd z i)))), (5, .mSI true (zipF 0 (br))), (6, .cells true 8 (m) (.fn fun j => elR (E j))), (7, .cells true 1 (((nd4 nd z i)).length) (.fn (txR (lget ((nd4 nd z i)))))), (8, .cells true 1 ((br).length) (.fn (txR (lget (br))))), (10, .cells true 8 1 (.fn fun _ => elR z)), (11, .cells true 1 4 (.fn (txR (four z))))], fun g hg => rfl, ⟨⟨_, rfl, AV.ge.refl _, rfl⟩, ⟨_, rfl, AV.ge.refl _, rfl⟩, ⟨_, rfl, AV.ge.refl _, rfl⟩, ⟨_, rfl, AV.ge.refl _, rfl⟩, ⟨_, rfl, AV.ge.refl _, rfl⟩, trivial⟩, ⟨rgB rfl rfl rfl (by omega), rgM rfl rfl (by omega), rgM rfl rfl (by omega), rgM rfl rfl (by omega), rgR rfl rfl (fun j _ => rfl) (fun j _ => rfl) (by omega), rgR rfl rfl (fun j _ => rfl) (fun j _ => rfl) (by omega), rgR rfl rfl (fun j _ => rfl) (fun j _ => rfl) (by omega), rgB rfl rfl rfl (by omega), rgR rfl rfl (fun j _ => rfl) (fun j _ => rfl) (by omega), trivial⟩, fun i j _ _ h => h, rfl, rfl, rfl⟩
 refine cond_elim h (fun t h => same (by unfold addN; rw [t]; rfl) h) (fun t1 h => ?_)
 refine cond_elim h (fun t h => same (by unfold addN; rw [t1, t]; rfl) h) (fun t2 h => ?_)
 refine cond_elim h (fun t h => same (by unfold addN; rw [t1, t2, t]; rfl) h) (fun t3 h => ?_)
 obtain ⟨rfl, rfl, rfl⟩ := h
 have q2 : nd4 nd z (i + 1) = (nd4 nd z i) ++ [four z i] := by
  show addN (nd4 nd z i) (four z i) = _
  unfold addN; rw [t1, t2, t3]; rfl
 have len : (nd4 nd z (i + 1)).length = (nd4 nd z i).length + 1 := by rw [q2]; simp
 refine ⟨sg 7 13, [(0, .ptr ⟨false, 2, 0, 0⟩), (3, .ptr ⟨false, 10, 0, 0⟩), (37, .slc true true ⟨false, 11, 0, 0⟩ 4), (38, .int true .i64 4), (39, .int true .i64 (((i + 1 : Nat)) : Int))], [(2, .cells true 7 1 (.fn fun _ => netR 6 7 8 m (nd4 nd z (i + 1)).length (br).length)), (3, .mSI true (zipF 0 (nm))), (4, .mSI true (zipF 0 (nd4 nd z (i + 1)))), (5, .mSI true (zipF 0 (br))), (6, .cells true 8 (m) (.fn fun j => elR (E j))), (7, .cells true 1 ((nd4 nd z (i + 1)).length) (.fn (txR (lget (nd4 nd z (i + 1)))))), (8, .cells true 1 ((br).length) (.fn (txR (lget (br))))), (10, .cells true 8 1 (.fn fun _ => elR z)), (11, .cells true 1 4 (.fn (txR (four z))))], sg_low (by omega), ⟨⟨_, rfl, AV.ge.refl _, rfl⟩, ⟨_, rfl, AV.ge.refl _, rfl⟩, ⟨_, rfl, AV.ge.refl _, rfl⟩, ⟨_, rfl, AV.ge.refl _, rfl⟩, ⟨_, rfl, AV.ge.refl _, rfl⟩, trivial⟩, ⟨rgB rfl (by rw [len]; rfl) rfl (by omega), rgM rfl rfl (by omega), rgM rfl (by rw [q2]; exact put_zip0 rfl (none_of t1)) (by omega), rgM rfl rfl (by omega), rgR rfl rfl (fun j _ => rfl) (fun j _ => rfl) (by omega), rgR rfl len.symm (fun j hj => by rw [q2]; exact lget_app _ _ j hj) (fun j _ => rfl) (by omega), rgR rfl rfl (fun j _ => rfl) (fun j _ => rfl) (by omega), rgB rfl rfl rfl (by omega), rgR rfl rfl (fun j _ => rfl) (fun j _ => rfl) (by omega), trivial⟩, sg_inj (by omega), rfl, rfl, rfl⟩
theorem ptL_end (z : El) (m : Nat) (E : Nat → El) (nm nd br : List Tx) (hq : nd.length ≤ 1100) :
  GoesB Try.prog (nav [1,1,1,0,1,0,0] (bodyOf Try.f34)) Try.f34.ntmps 6 12 12 (frL [(0, .ptr ⟨false, 2, 0, 0⟩), (3, .ptr ⟨false, 10, 0, 0⟩), (37, .slc true true ⟨false, 11, 0, 0⟩ 4), (38, .int true .i64 4), (39, .int true .i64 ((4 : Nat) : Int))]) (hpL [(2, .cells true 7 1 (.fn fun _ => netR 6 7 8 m (nd4 nd z 4).length (br).length)), (3, .mSI true (zipF 0 (nm))), (4, .mSI true (zipF 0 (nd4 nd z 4))), (5, .mSI true (zipF 0 (br))), (6, .cells true 8 (m) (.fn fun j => elR (E j))), (7, .cells true 1 ((nd4 nd z 4).length) (.fn (txR (lget (nd4 nd z 4))))), (8, .cells true 1 ((br).length) (.fn (txR (lget (br))))), (10, .cells true 8 1 (.fn fun _ => elR z)), (11, .cells true 1 4 (.fn (txR (four z))))]) (Xm 0 [(0, .ptr ⟨false, 2, 0, 0⟩), (3, .ptr ⟨false, 10, 0, 0⟩)] [(2, .cells true 7 1 (.fn fun _ => netR 6 7 8 m (nd4 nd z 4).length (br).length)), (3, .mSI true (zipF 0 (nm))), (4, .mSI true (zipF 0 (nd4 nd z 4))), (5, .mSI true (zipF 0 (br))), (6, .cells true 8 (m) (.fn fun j => elR (E j))), (7, .cells true 1 ((nd4 nd z 4).length) (.fn (txR (lget (nd4 nd z 4))))), (8, .cells true 1 ((br).length) (.fn (txR (lget (br))))), (10, .cells true 8 1 (.fn fun _ => elR z))]) := by
 have l4 := nd4_len nd z 4
 refine (ptL 6 (by omega) z m (nd4 nd z 4).length br.length 4 E (zipF 0 nm) (zipF 0 (nd4 nd z 4)) (zipF 0 br) (lget (nd4 nd z 4)) (lget (br)) (four z) (fun _ _ _ _ => by omega) (fun _ _ _ _ => by omega)).renG fun e fr' H' h => ?_
 rw [decide_eq_false (show ¬ ((4 : Nat) : Int) < 4 by omega), cond_false] at h
 obtain ⟨rfl, rfl, rfl⟩ := h
 exact ⟨id, [(0, .ptr ⟨false, 2, 0, 0⟩), (3, .ptr ⟨false, 10, 0, 0⟩)], [(2, .cells true 7 1 (.fn fun _ => netR 6 7 8 m (nd4 nd z 4).length (br).length)), (3, .mSI true (zipF 0 (nm))), (4, .mSI true (zipF 0 (nd4 nd z 4))), (5, .mSI true (zipF 0 (br))), (6, .cells true 8 (m) (.fn fun j => elR (E j))), (7, .cells true 1 ((nd4 nd z 4).length) (.fn (txR (lget (nd4 nd z 4))))), (8, .cells true 1 ((br).length) (.fn (txR (lget (br))))), (10, .cells true 8 1 (.fn fun _ => elR z))], fun g hg => rfl, ⟨⟨_, rfl, AV.ge.refl _, rfl⟩, ⟨_, rfl, AV.ge.refl _, rfl⟩, trivial⟩, ⟨rgB rfl rfl rfl (by omega), rgM rfl rfl (by omega), rgM rfl rfl (by omega), rgM rfl rfl (by omega), rgR rfl rfl (fun j _ => rfl) (fun j _ => rfl) (by omega), rgR rfl rfl (fun j _ => rfl) (fun j _ => rfl) (by omega), rgR rfl rfl (fun j _ => rfl) (fun j _ => rfl) (by omega), rgB rfl rfl rfl (by omega), trivial⟩, fun i j _ _ h => h, rfl, rfl, rfl⟩
theorem isBr_5 {z : El} (h : decide (z.k = 5) = true) : isBr z = true := by unfold isBr; rw [h]; rfl
theorem isBr_7 {z : El} (h : decide (z.k = 7) = true) : isBr z = true := by unfold isBr; rw [h]; simp
theorem isBr_n {z : El} (h : decide (z.k = 5) = false) (h2 : decide (z.k = 7) = false) : isBr z = false := by unfold isBr; rw [h, h2]; rfl
theorem put_goes (z : El) (m : Nat) (E : Nat → El) (nm nd br : List Tx) (hE : E m = z) (hm : m ≤ 256) (hl : m = nm.length) (hq : nd.length ≤ 1024) (hr : br.length ≤ 256) (hn : pos z.n nm = none) (hb : pos z.n br = none) :
  GoesB Try.prog (bodyOf Try.f34) Try.f34.ntmps 6 10 12 (frameOf [.ptr ⟨false, 2, 0, 0⟩, .agg (elR z)] 0 .e) (hpL [(2, .cells true 7 1 (.fn fun _ => netR 6 7 8 m (nd).length (br).length)), (3, .mSI true (zipF 0 (nm))), (4, .mSI true (zipF 0 (nd))), (5, .mSI true (zipF 0 (br))), (6, .cells true 8 (m) (.fn fun j => elR (E j))), (7, .cells true 1 ((nd).length) (.fn (txR (lget (nd))))), (8, .cells true 1 ((br).length) (.fn (txR (lget (br)))))]) (fun e fr' H' => (e = .ret ∨ e = .normal) ∧ H' = hpL [(2, .cells true 7 1 (.fn fun _ => netR 6 7 8 (m + 1) (nd4 nd z 4).length ((bif isBr z then br ++ [z.n] else br)).length)), (3, .mSI true (zipF 0 (nm ++ [z.n]))), (4, .mSI true (zipF 0 (nd4 nd z 4))), (5, .mSI true (zipF 0 ((bif isBr z then br ++ [z.n] else br)))), (6, .cells true 8 ((m + 1)) (.fn fun j => elR (E j))), (7, .cells true 1 ((nd4 nd z 4).length) (.fn (txR (lget (nd4 nd z 4))))), (8, .cells true 1 (((bif isBr z then br ++ [z.n] else br)).length) (.fn (txR (lget ((bif isBr z then br ++ [z.n] else br))))))]) := by
 rw [put_is]
 refine GoesB.seqN (K1 := 11) (F1 := [(0, .ptr ⟨false, 2, 0, 0⟩), (3, .ptr ⟨false, 10, 0, 0⟩)]) (H1 := [(2, .cells true 7 1 (.fn fun _ => netR 6 7 8 m (nd).length (br).length)), (3, .mSI true (zipF 0 (nm))), (4, .mSI true (zipF 0 (nd))), (5, .mSI true (zipF 0 (br))), (6, .cells true 8 (m) (.fn fun j => elR (E j))), (7, .cells true 1 ((nd).length) (.fn (txR (lget (nd))))), (8, .cells true 1 ((br).length) (.fn (txR (lget (br))))), (10, .cells true 8 1 (.fn fun _ => elR z))]) (GoesB.toN (ptA 6 (by omega) z m nd.length br.length 0 E (zipF 0 nm) (zipF 0 nd) (zipF 0 br) (lget (nd)) (lget (br)) (four z)) ⟨re rfl, re rfl, trivial⟩ ⟨hs rfl, hs rfl, hs rfl, hs rfl, hs rfl, hs rfl, hs rfl, hbl1 rfl, trivial⟩) (by omega) ?_
 refine GoesB.seqN (K1 := 11) (F1 := [(0, .ptr ⟨false, 2, 0, 0⟩), (3, .ptr ⟨false, 10, 0, 0⟩)]) (H1 := [(2, .cells true 7 1 (.fn fun _ => netR 6 7 8 m (nd).length (br).length)), (3, .mSI true (zipF 0 (nm ++ [z.n]))), (4, .mSI true (zipF 0 (nd))), (5, .mSI true (zipF 0 (br))), (6, .cells true 8 (m) (.fn fun j => elR (E j))), (7, .cells true 1 ((nd).length) (.fn (txR (lget (nd))))), (8, .cells true 1 ((br).length) (.fn (txR (lget (br))))), (10, .cells true 8 1 (.fn fun _ => elR z))]) (GoesB.toN (ptB 6 (by omega) z m nd.length br.length 0 E (zipF 0 nm) (zipF 0 nd) (zipF 0 br) (lget (nd)) (lget (br)) (four z)) ⟨re rfl, re rfl, trivial⟩ ⟨hs rfl, gM rfl (put_zip0 hl hn), hs rfl, hs rfl, hs rfl, hs rfl, hs rfl, hs rfl, trivial⟩) (by omega) ?_
 refine GoesB.seqN (K1 := 11) (F1 := [(0, .ptr ⟨false, 2, 0, 0⟩), (3, .ptr ⟨false, 10, 0, 0⟩)]) (H1 := [(2, .cells true 7 1 (.fn fun _ => netR 6 7 8 (m + 1) (nd).length (br).length)), (3, .mSI true (zipF 0 (nm ++ [z.n]))), (4, .mSI true (zipF 0 (nd))), (5, .mSI true (zipF 0 (br))), (6, .cells true 8 ((m + 1)) (.fn fun j => elR (E j))), (7, .cells true 1 ((nd).length) (.fn (txR (lget (nd))))), (8, .cells true 1 ((br).length) (.fn (txR (lget (br))))), (10, .cells true 8 1 (.fn fun _ => elR z))]) ?_ (by omega) ?_
 ·refine (ptC 6 (by omega) z m nd.length br.length 0 E (zipF 0 (nm ++ [z.n])) (zipF 0 nd) (zipF 0 br) (lget (nd)) (lget (br)) (four z) (by omega) (by omega)).renG fun e fr' H' h => ?_
  obtain ⟨rfl, rfl, rfl⟩ := h
  exact ⟨sg 6 12, [(0, .ptr ⟨false, 2, 0, 0⟩), (3, .ptr ⟨false, 10, 0, 0⟩)], [(2, .cells true 7 1 (.fn fun _ => netR 6 7 8 (m + 1) (nd).length (br).length)), (3, .mSI true (zipF 0 (nm ++ [z.n]))), (4, .mSI true (zipF 0 (nd))), (5, .mSI true (zipF 0 (br))), (6, .cells true 8 ((m + 1)) (.fn fun j => elR (E j))), (7, .cells true 1 ((nd).length) (.fn (txR (lget (nd))))), (8, .cells true 1 ((br).length) (.fn (txR (lget (br))))), (10, .cells true 8 1 (.fn fun _ => elR z))], sg_low (by omega), ⟨⟨_, rfl, AV.ge.refl _, rfl⟩, ⟨_, rfl, AV.ge.refl _, rfl⟩, trivial⟩, ⟨rgB rfl rfl rfl (by omega), rgM rfl rfl (by omega), rgM rfl rfl (by omega), rgM rfl rfl (by omega), rgR rfl rfl (fun j hj => by
   show (bif decide (j < m) then elR (E j) else elR z) = elR (E j)
   by_cases c : j < m
   ·rw [decide_eq_true c, cond_true]
   ·rw [decide_eq_false c, cond_false, ← hE]; congr 2; omega) (fun j _ => rfl) (by omega), rgR rfl rfl (fun j _ => rfl) (fun j _ => rfl) (by omega), rgR rfl rfl (fun j _ => rfl) (fun j _ => rfl) (by omega), rgB rfl rfl rfl (by omega), trivial⟩, sg_inj (by omega), rfl, rfl, rfl⟩
 refine GoesB.seqN (K1 := 12) (F1 := [(0, .ptr ⟨false, 2, 0, 0⟩), (3, .ptr ⟨false, 10, 0, 0⟩)]) (H1 := [(2, .cells true 7 1 (.fn fun _ => netR 6 7 8 (m + 1) (nd4 nd z 4).length (br).length)), (3, .mSI true (zipF 0 (nm ++ [z.n]))), (4, .mSI true (zipF 0 (nd4 nd z 4))), (5, .mSI true (zipF 0 (br))), (6, .cells true 8 ((m + 1)) (.fn fun j => elR (E j))), (7, .cells true 1 ((nd4 nd z 4).length) (.fn (txR (lget (nd4 nd z 4))))), (8, .cells true 1 ((br).length) (.fn (txR (lget (br))))), (10, .cells true 8 1 (.fn fun _ => elR z))]) ?_ (by omega) ?_
 ·refine GoesB.seqN (K1 := 12) (F1 := [(0, .ptr ⟨false, 2, 0, 0⟩), (3, .ptr ⟨false, 10, 0, 0⟩), (37, .slc true true ⟨false, 11, 0, 0⟩ 4), (38, .int true .i64 4), (39, .int true .i64 ((0 : Nat) : Int))]) (H1 := [(2, .cells true 7 1 (.fn fun _ => netR 6 7 8 (m + 1) (nd4 nd z 0).length (br).length)), (3, .mSI true (zipF 0 (nm ++ [z.n]))), (4, .mSI true (zipF 0 (nd4 nd z 0))), (5, .mSI true (zipF 0 (br))), (6, .cells true 8 ((m + 1)) (.fn fun j => elR (E j))), (7, .cells true 1 ((nd4 nd z 0).length) (.fn (txR (lget (nd4 nd z 0))))), (8, .cells true 1 ((br).length) (.fn (txR (lget (br))))), (10, .cells true 8 1 (.fn fun _ => elR z)), (11, .cells true 1 4 (.fn (txR (four z))))]) (GoesB.toN (ptD 6 (by omega) z (m + 1) nd.length br.length 0 E (zipF 0 (nm ++ [z.n])) (zipF 0 nd) (zipF 0 br) (lget (nd)) (lget (br)) (four z)) ⟨re rfl, re rfl, ⟨_, rfl, AV.ge.slc _ _ _ rfl⟩, ⟨_, rfl, AV.ge.int _ _ _ _⟩, ⟨_, rfl, AV.ge.int _ _ _ _⟩, trivial⟩ ⟨hs rfl, hs rfl, hs rfl, hs rfl, hs rfl, hs rfl, hs rfl, hs rfl, ⟨_, rfl, rfl, rfl, rfl, fun j hj => by
   have : j = 0 ∨ j = 1 ∨ j = 2 ∨ j = 3 := by omega
   rcases this with rfl | rfl | rfl | rfl <;> rfl⟩, trivial⟩) (by omega) ?_
  refine (GoesB.rounds 4 (fun i => [(0, .ptr ⟨false, 2, 0, 0⟩), (3, .ptr ⟨false, 10, 0, 0⟩), (37, .slc true true ⟨false, 11, 0, 0⟩ 4), (38, .int true .i64 4), (39, .int true .i64 ((i : Nat) : Int))]) (fun i => [(2, .cells true 7 1 (.fn fun _ => netR 6 7 8 (m + 1) ((nd4 nd z i)).length (br).length)), (3, .mSI true (zipF 0 (nm ++ [z.n]))), (4, .mSI true (zipF 0 ((nd4 nd z i)))), (5, .mSI true (zipF 0 (br))), (6, .cells true 8 ((m + 1)) (.fn fun j => elR (E j))), (7, .cells true 1 (((nd4 nd z i)).length) (.fn (txR (lget ((nd4 nd z i)))))), (8, .cells true 1 ((br).length) (.fn (txR (lget (br))))), (10, .cells true 8 1 (.fn fun _ => elR z)), (11, .cells true 1 4 (.fn (txR (four z))))]) (fun i hi => ptL_step z (m + 1) E (nm ++ [z.n]) nd br (by omega) i hi) (ptL_end z (m + 1) E (nm ++ [z.n]) nd br (by omega))).renG fun e fr' H' h => ?_
  obtain ⟨rfl, rfl, rfl⟩ := h
  exact ⟨id, [(0, .ptr ⟨false, 2, 0, 0⟩), (3, .ptr ⟨false, 10, 0, 0⟩)], [(2, .cells true 7 1 (.fn fun _ => netR 6 7 8 (m + 1) (nd4 nd z 4).length (br).length)), (3, .mSI true (zipF 0 (nm ++ [z.n]))), (4, .mSI true (zipF 0 (nd4 nd z 4))), (5, .mSI true (zipF 0 (br))), (6, .cells true 8 ((m + 1)) (.fn fun j => elR (E j))), (7, .cells true 1 ((nd4 nd z 4).length) (.fn (txR (lget (nd4 nd z 4))))), (8, .cells true 1 ((br).length) (.fn (txR (lget (br))))), (10, .cells true 8 1 (.fn fun _ => elR z))], fun g hg => rfl, ⟨⟨_, rfl, AV.ge.refl _, rfl⟩, ⟨_, rfl, AV.ge.refl _, rfl⟩, trivial⟩, ⟨rgB rfl rfl rfl (by omega), rgM rfl rfl (by omega), rgM rfl rfl (by omega), rgM rfl rfl (by omega), rgR rfl rfl (fun j _ => rfl) (fun j _ => rfl) (by omega), rgR rfl rfl (fun j _ => rfl) (fun j _ => rfl) (by omega), rgR rfl rfl (fun j _ => rfl) (fun j _ => rfl) (by omega), rgB rfl rfl rfl (by omega), trivial⟩, fun i j _ _ h => h, rfl, rfl, rfl⟩
 have big : isBr z = true → ∀ e fr' H', (e = .normal ∧ fr' = frL [(0, .ptr ⟨false, 2, 0, 0⟩), (3, .ptr ⟨false, 10, 0, 0⟩)] ∧ H' = hpL [(2, .cells true 7 1 (.fn fun j => bif Nat.beq j (0 : Nat) then (netR 6 7 13 (m + 1) (nd4 nd z 4).length (br.length + (1 : Nat))) else (netR 6 7 8 (m + 1) (nd4 nd z 4).length br.length))), (3, ABk.mSI true (zipF 0 (nm ++ [z.n]))), (4, ABk.mSI true (zipF 0 (nd4 nd z 4))), (5, ABk.mSI true (lput seq (El.n z) (↑br.length : Int) (zipF 0 br))), (6, .cells true 8 (m + 1) (.fn fun j => (elR (E j)))), (7, .cells true 1 (nd4 nd z 4).length (.fn (txR (lget (nd4 nd z 4))))), (13, .cells true 1 (br.length + (1 : Nat)) (.fn fun j => bif decide (j < br.length) then (txR (lget (br)) j) else [AV.str true (El.n z)]))]) → ∃ σ fl bl, (∀ g, g < 6 → σ g = g) ∧ RenF 12 σ fr' fl ∧ RenG 12 σ H' bl ∧ (∀ i j, i < 12 → j < 12 → σ i = σ j → i = j) ∧ ((e = Ex.ret ∨ e = .normal) ∧ hpL bl = hpL [(2, .cells true 7 1 (.fn fun _ => netR 6 7 8 (m + 1) (nd4 nd z 4).length ((bif isBr z then br ++ [z.n] else br)).length)), (3, .mSI true (zipF 0 (nm ++ [z.n]))), (4, .mSI true (zipF 0 (nd4 nd z 4))), (5, .mSI true (zipF 0 ((bif isBr z then br ++ [z.n] else br)))), (6, .cells true 8 ((m + 1)) (.fn fun j => elR (E j))), (7, .cells true 1 ((nd4 nd z 4).length) (.fn (txR (lget (nd4 nd z 4))))), (8, .cells true 1 (((bif isBr z then br ++ [z.n] else br)).length) (.fn (txR (lget ((bif isBr z then br ++ [z.n] else br))))))]) := by
  rintro hB e fr' H' ⟨rfl, rfl, rfl⟩
  rw [hB, cond_true]
  have len : (br ++ [z.n]).length = br.length + 1 := by simp
  exact ⟨sg 8 13, [(0, .ptr ⟨false, 2, 0, 0⟩)], [(2, .cells true 7 1 (.fn fun _ => netR 6 7 8 (m + 1) (nd4 nd z 4).length (br ++ [z.n]).length)), (3, .mSI true (zipF 0 (nm ++ [z.n]))), (4, .mSI true (zipF 0 (nd4 nd z 4))), (5, .mSI true (zipF 0 (br ++ [z.n]))), (6, .cells true 8 ((m + 1)) (.fn fun j => elR (E j))), (7, .cells true 1 ((nd4 nd z 4).length) (.fn (txR (lget (nd4 nd z 4))))), (8, .cells true 1 ((br ++ [z.n]).length) (.fn (txR (lget (br ++ [z.n])))))], sg_low (by omega), ⟨⟨_, rfl, AV.ge.refl _, rfl⟩, trivial⟩, ⟨rgB rfl (by rw [len]; rfl) rfl (by omega), rgM rfl rfl (by omega), rgM rfl rfl (by omega), rgM rfl (put_zip0 rfl hb) (by omega), rgR rfl rfl (fun j _ => rfl) (fun j _ => rfl) (by omega), rgR rfl rfl (fun j _ => rfl) (fun j _ => rfl) (by omega), rgR rfl len.symm (fun j hj => lget_app _ _ j hj) (fun j _ => rfl) (by omega), trivial⟩, sg_inj (by omega), .inr rfl, rfl⟩
 refine (ptM 6 (by omega) z (m + 1) (nd4 nd z 4).length br.length 0 E (zipF 0 (nm ++ [z.n])) (zipF 0 (nd4 nd z 4)) (zipF 0 br) (lget (nd4 nd z 4)) (lget (br)) (four z) (by omega) (by omega)).renG fun e fr' H' h => ?_
 refine cond_elim h (fun t h => big (isBr_5 t) _ _ _ h) (fun t1 h => ?_)
 refine cond_elim h (fun t h => big (isBr_7 t) _ _ _ h) (fun t2 h => ?_)
 obtain ⟨rfl, rfl, rfl⟩ := h
 rw [isBr_n t1 t2, cond_false]
 exact ⟨id, [(0, .ptr ⟨false, 2, 0, 0⟩)], [(2, .cells true 7 1 (.fn fun _ => netR 6 7 8 (m + 1) (nd4 nd z 4).length (br).length)), (3, .mSI true (zipF 0 (nm ++ [z.n]))), (4, .mSI true (zipF 0 (nd4 nd z 4))), (5, .mSI true (zipF 0 (br))), (6, .cells true 8 ((m + 1)) (.fn fun j => elR (E j))), (7, .cells true 1 ((nd4 nd z 4).length) (.fn (txR (lget (nd4 nd z 4))))), (8, .cells true 1 ((br).length) (.fn (txR (lget (br)))))], fun g hg => rfl, ⟨⟨_, rfl, AV.ge.refl _, rfl⟩, trivial⟩, ⟨rgB rfl rfl rfl (by omega), rgM rfl rfl (by omega), rgM rfl rfl (by omega), rgM rfl rfl (by omega), rgR rfl rfl (fun j _ => rfl) (fun j _ => rfl) (by omega), rgR rfl rfl (fun j _ => rfl) (fun j _ => rfl) (by omega), rgR rfl rfl (fun j _ => rfl) (fun j _ => rfl) (by omega), trivial⟩, fun i j _ _ h => h, .inr rfl, rfl⟩


def hoL (n m q r : Nat) (E : Nat → El) (M1 M2 M3 : List (Tx × Int)) (nd br : Nat → Tx) : List (Nat × ABk) := [(0, .cells false 8 n (.fn fun j => elR (E j))), (1, .cells true 2 1 (.fn fun _ => [.int false .i64 (0), .int false .i64 (0)])), (2, .cells true 7 1 (.fn fun _ => netR 6 7 8 m q r)), (3, .mSI true M1), (4, .mSI true M2), (5, .mSI true M3), (6, .cells true 8 m (.fn fun j => elR (E j))), (7, .cells true 1 q (.fn (txR nd))), (8, .cells true 1 r (.fn (txR br)))]
theorem ofA_r0 (n : Nat) (E : Nat → El) : PieceN 2 (Ex.normal) [(0, .slc true false ⟨false, 0, 0, 0⟩ n), (3, .ptr ⟨false, 1, 0, 0⟩)] [(0, .cells false 8 n (.fn fun j => elR (E j))), (1, .cells true 2 1 (.lit [] (.n .e (some [.int false .i64 0, .int false .i64 0]) .e)))] (piececallE Try.f8 ((nav [0] (bodyOf Try.f8))) (frameOf [.slc true false ⟨false, 0, 0, 0⟩ n] 0 .e) (hpL [(0, .cells false 8 n (.fn fun j => elR (E j)))]) 1 []) := eqn (by kernel_rfl) trivial
theorem ofA (B : Nat) (hB : B ≤ 1) (z : El) (n m q r i : Nat) (E : Nat → El) (M1 M2 M3 : List (Tx × Int)) (nd br : Nat → Tx) (t : Bool) : GoesB Try.prog ((nav [0] (bodyOf Try.f8))) Try.f8.ntmps B 1 2 (frameOf [.slc true false ⟨false, 0, 0, 0⟩ n] 0 .e) (hpL [(0, .cells false 8 n (.fn fun j => elR (E j)))]) fun e fr' H' => (e = .normal ∧ fr' = frL [(0, .slc true false ⟨false, 0, 0, 0⟩ n), (3, .ptr ⟨false, 1, 0, 0⟩)] ∧ H' = hpL [(0, .cells false 8 n (.fn fun j => elR (E j))), (1, .cells true 2 1 (.lit [] (.n .e (some [.int false .i64 0, .int false .i64 0]) .e)))]) := by
 exact (rcE (ofA_r0 n E) hB).mono fun e fr' H' h => h
end Go.Proofs.Ytmmogbldndklnaa
