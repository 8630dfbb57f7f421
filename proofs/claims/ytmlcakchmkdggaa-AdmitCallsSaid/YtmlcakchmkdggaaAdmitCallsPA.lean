/- AdmitCalls: a part: summaries of functions that the statement reaches, printed by program, checked by the kernel. -/
import Derived.ProofKit
import Derived.OpenShut
import Derived.KernelRfl
import Derived.SizedLaws
import Derived.Test.YtmlcakchmkdggaaProg
import Derived.Test.YtmlcakchmkdggaaSyS
namespace Go.Proofs.Ytmlcakchmkdggaa
open Go.ChangeShapes Go.WideShapes Go.ChangeAt Go.RowKit
set_option linter.unusedVariables false
set_option linter.unusedSimpArgs false

noncomputable def gam0 : Sx.Known := fun f => bif Nat.beq f 8 then some Sx.ofBits else (bif Nat.beq f 14 then some Sx.toBits else (none))
theorem gam0_ok : Sx.KnownOk Try.prog gam0 := by
 intro f s h
 unfold gam0 at h
 cases h1 : Nat.beq f 8 with
 | true =>
  rw [h1] at h
  cases h
  cases Nat.eq_of_beq_eq_true h1
  exact (Sx.ofBits_is Try.prog).callIs Try.func8 (by kernel_rfl) (by kernel_rfl) (by kernel_rfl) (by kernel_rfl)
 | false =>
  rw [h1, cond_false] at h
  clear h1
  cases h1 : Nat.beq f 14 with
  | true =>
   rw [h1] at h
   cases h
   cases Nat.eq_of_beq_eq_true h1
   exact (Sx.toBits_is Try.prog).callIs Try.func14 (by kernel_rfl) (by kernel_rfl) (by kernel_rfl) (by kernel_rfl)
  | false =>
   rw [h1, cond_false] at h
   clear h1
   cases h
theorem gam0_tch : Sx.KnownT gam0 := by
 intro f s h
 unfold gam0 at h
 cases h1 : Nat.beq f 8 with
 | true => rw [h1] at h; cases h; exact Sx.Tch.ofBits
 | false =>
  rw [h1, cond_false] at h
  clear h1
  cases h1 : Nat.beq f 14 with
  | true => rw [h1] at h; cases h; exact Sx.Tch.toBits
  | false =>
   rw [h1, cond_false] at h
   clear h1
   cases h
noncomputable def call0 : Sx.Calls' := Sx.runN Try.prog gam0 (Sx.regionC Try.prog) 1000 50
theorem call0_ok : Sx.CallOk Try.prog call0 := Sx.engineC gam0_ok gam0_tch (by kernel_rfl) (by kernel_rfl) 1000 50
theorem call0_tch : Sx.CallT call0 := Sx.runA_tch gam0_tch (fun _ _ _ h => by cases h) (fun call hc n l fr => Sx.regionC_tch hc n l fr) 50
theorem call0_reg (n : Nat) : Sx.RegionOk Try.prog (Sx.regionC Try.prog call0 n) n := Sx.runN_regionC gam0_ok gam0_tch (by kernel_rfl) (by kernel_rfl) 1000 50 n
noncomputable abbrev piececall0 (f : Func) (c : Code) (fr : Sx.Fr) (H : Sx.T Sx.ABk) (K : Nat) (path : List Bool) : Sx.Res (Sx.Ex × Sx.Fr) :=
 Sx.codeA Try.prog call0 (Sx.regionC Try.prog call0 f.ntmps) Sx.noLoops f.ntmps 1000 c fr ⟨H, K, [], path, True⟩
theorem smA_r0 (l : List UInt8) : Sx.PieceN 0 (Sx.Ex.normal) [(0, Sx.AV.str true l)] [] (piececall0 Try.f50 (Sx.nav [0] (Sx.bodyOf Try.f50)) (Sx.frameOf [.str true l] 0 .e) (.e) 0 []) := by
 have e : Sx.pieceN 0 (Sx.Ex.normal) [(0, Sx.AV.str true l)] [] (piececall0 Try.f50 (Sx.nav [0] (Sx.bodyOf Try.f50)) (Sx.frameOf [.str true l] 0 .e) (.e) 0 []) = ((Sx.Ex.normal) = (Sx.Ex.normal) ∧ (some (Sx.AV.str true l) = some (Sx.AV.str true l) ∧ True) ∧ True ∧ true = true ∧ True) := by kernel_rfl
 exact ⟨by rw [e]; exact ⟨rfl, ⟨rfl, trivial⟩, trivial, rfl, trivial⟩⟩
theorem smA (B : Nat) (hB : B ≤ 0) (l : List UInt8) : Sx.GoesB Try.prog (Sx.nav [0] (Sx.bodyOf Try.f50)) Try.f50.ntmps B 0 0 (Sx.frameOf [.str true l] 0 .e) (.e) fun e fr' H' => (e = Sx.Ex.normal ∧ fr' = Sx.frL [(0, Sx.AV.str true l)] ∧ H' = Sx.hpL []) := by
 exact (Sx.GoesB.runN call0_ok (call0_reg _) (Sx.LoopsIn.none _ _ _) (smA_r0 l) hB).mono fun e fr' H' h => h
theorem smR_r0 (l : List UInt8) : Sx.PieceN 1 (Sx.Ex.normal) [(6, Sx.AV.ptr (Sx.AA.mk false (0 : Nat) (0 : Nat) (0 : Nat)))] [(0, Sx.ABk.sit true l (0 : Nat))] (piececall0 Try.f50 (Sx.nav [1,0,0] (Sx.bodyOf Try.f50)) (Sx.frL [(0, .str true l)]) (Sx.hpL []) 0 []) := by
 have e : Sx.pieceN 1 (Sx.Ex.normal) [(6, Sx.AV.ptr (Sx.AA.mk false (0 : Nat) (0 : Nat) (0 : Nat)))] [(0, Sx.ABk.sit true l (0 : Nat))] (piececall0 Try.f50 (Sx.nav [1,0,0] (Sx.bodyOf Try.f50)) (Sx.frL [(0, .str true l)]) (Sx.hpL []) 0 []) = ((Sx.Ex.normal) = (Sx.Ex.normal) ∧ (some (Sx.AV.ptr (Sx.AA.mk false (0 : Nat) (0 : Nat) (0 : Nat))) = some (Sx.AV.ptr (Sx.AA.mk false (0 : Nat) (0 : Nat) (0 : Nat))) ∧ True) ∧ (some (Sx.ABk.sit true l (0 : Nat)) = some (Sx.ABk.sit true l (0 : Nat)) ∧ True) ∧ true = true ∧ True) := by kernel_rfl
 exact ⟨by rw [e]; exact ⟨rfl, ⟨rfl, trivial⟩, ⟨rfl, trivial⟩, rfl, trivial⟩⟩
theorem smR (B : Nat) (hB : B ≤ 0) (l : List UInt8) : Sx.GoesB Try.prog (Sx.nav [1,0,0] (Sx.bodyOf Try.f50)) Try.f50.ntmps B 0 1 (Sx.frL [(0, .str true l)]) (Sx.hpL []) fun e fr' H' => (e = Sx.Ex.normal ∧ fr' = Sx.frL [(6, Sx.AV.ptr (Sx.AA.mk false (0 : Nat) (0 : Nat) (0 : Nat)))] ∧ H' = Sx.hpL [(0, Sx.ABk.sit true l (0 : Nat))]) := by
 exact (Sx.GoesB.runN call0_ok (call0_reg _) (Sx.LoopsIn.none _ _ _) (smR_r0 l) hB).mono fun e fr' H' h => h
theorem smB_r0 (l : List UInt8) (pos : Nat) (c0 : decide (pos < List.length l) = true) (c1 : decide ((↑(Prod.fst (Go.Utf8.decode (ByteArray.mk (List.toArray l)) pos)) : Int) < (97 : Int)) = true) (c2 : decide ((↑(Prod.fst (Go.Utf8.decode (ByteArray.mk (List.toArray l)) pos)) : Int) < (48 : Int)) = true) (c3 : (!decide ((↑(Prod.fst (Go.Utf8.decode (ByteArray.mk (List.toArray l)) pos)) : Int) = (95 : Int))) = false) : Sx.PieceN 1 (Sx.Ex.normal) [(6, Sx.AV.ptr (Sx.AA.mk false (0 : Nat) (0 : Nat) (0 : Nat)))] [(0, Sx.ABk.sit true l (pos + Prod.snd (Go.Utf8.decode (ByteArray.mk (List.toArray l)) pos)))] (piececall0 Try.f50 (Sx.nav [1,0,1,0,0] (Sx.bodyOf Try.f50)) (Sx.frL [(6, .ptr ⟨false, 0, 0, 0⟩)]) (Sx.hpL [(0, .sit true l pos)]) 1 [true, true, true, false]) := by
 have e : Sx.pieceN 1 (Sx.Ex.normal) [(6, Sx.AV.ptr (Sx.AA.mk false (0 : Nat) (0 : Nat) (0 : Nat)))] [(0, Sx.ABk.sit true l (pos + Prod.snd (Go.Utf8.decode (ByteArray.mk (List.toArray l)) pos)))] (piececall0 Try.f50 (Sx.nav [1,0,1,0,0] (Sx.bodyOf Try.f50)) (Sx.frL [(6, .ptr ⟨false, 0, 0, 0⟩)]) (Sx.hpL [(0, .sit true l pos)]) 1 [true, true, true, false]) = ((Sx.Ex.normal) = (Sx.Ex.normal) ∧ (some (Sx.AV.ptr (Sx.AA.mk false (0 : Nat) (0 : Nat) (0 : Nat))) = some (Sx.AV.ptr (Sx.AA.mk false (0 : Nat) (0 : Nat) (0 : Nat))) ∧ True) ∧ (some (Sx.ABk.sit true l (pos + Prod.snd (Go.Utf8.decode (ByteArray.mk (List.toArray l)) pos))) = some (Sx.ABk.sit true l (pos + Prod.snd (Go.Utf8.decode (ByteArray.mk (List.toArray l)) pos))) ∧ True) ∧ true = true ∧ ((((True ∧ (decide (pos < List.length l) = true)) ∧ (decide ((↑(Prod.fst (Go.Utf8.decode (ByteArray.mk (List.toArray l)) pos)) : Int) < (97 : Int)) = true)) ∧ (decide ((↑(Prod.fst (Go.Utf8.decode (ByteArray.mk (List.toArray l)) pos)) : Int) < (48 : Int)) = true)) ∧ ((!decide ((↑(Prod.fst (Go.Utf8.decode (ByteArray.mk (List.toArray l)) pos)) : Int) = (95 : Int))) = false))) := by kernel_rfl
 exact ⟨by rw [e]; exact ⟨rfl, ⟨rfl, trivial⟩, ⟨rfl, trivial⟩, rfl, ⟨⟨⟨⟨trivial, c0⟩, c1⟩, c2⟩, c3⟩⟩⟩
theorem smB_r1 (l : List UInt8) (pos : Nat) (c0 : decide (pos < List.length l) = true) (c1 : decide ((↑(Prod.fst (Go.Utf8.decode (ByteArray.mk (List.toArray l)) pos)) : Int) < (97 : Int)) = true) (c2 : decide ((↑(Prod.fst (Go.Utf8.decode (ByteArray.mk (List.toArray l)) pos)) : Int) < (48 : Int)) = true) (c3 : (!decide ((↑(Prod.fst (Go.Utf8.decode (ByteArray.mk (List.toArray l)) pos)) : Int) = (95 : Int))) = true) : Sx.PieceN 1 (Sx.Ex.ret) [(2, Sx.AV.bool false), (6, Sx.AV.ptr (Sx.AA.mk false (0 : Nat) (0 : Nat) (0 : Nat)))] [(0, Sx.ABk.sit true l (pos + Prod.snd (Go.Utf8.decode (ByteArray.mk (List.toArray l)) pos)))] (piececall0 Try.f50 (Sx.nav [1,0,1,0,0] (Sx.bodyOf Try.f50)) (Sx.frL [(6, .ptr ⟨false, 0, 0, 0⟩)]) (Sx.hpL [(0, .sit true l pos)]) 1 [true, true, true, true]) := by
 have e : Sx.pieceN 1 (Sx.Ex.ret) [(2, Sx.AV.bool false), (6, Sx.AV.ptr (Sx.AA.mk false (0 : Nat) (0 : Nat) (0 : Nat)))] [(0, Sx.ABk.sit true l (pos + Prod.snd (Go.Utf8.decode (ByteArray.mk (List.toArray l)) pos)))] (piececall0 Try.f50 (Sx.nav [1,0,1,0,0] (Sx.bodyOf Try.f50)) (Sx.frL [(6, .ptr ⟨false, 0, 0, 0⟩)]) (Sx.hpL [(0, .sit true l pos)]) 1 [true, true, true, true]) = ((Sx.Ex.ret) = (Sx.Ex.ret) ∧ (some (Sx.AV.bool false) = some (Sx.AV.bool false) ∧ (some (Sx.AV.ptr (Sx.AA.mk false (0 : Nat) (0 : Nat) (0 : Nat))) = some (Sx.AV.ptr (Sx.AA.mk false (0 : Nat) (0 : Nat) (0 : Nat))) ∧ True)) ∧ (some (Sx.ABk.sit true l (pos + Prod.snd (Go.Utf8.decode (ByteArray.mk (List.toArray l)) pos))) = some (Sx.ABk.sit true l (pos + Prod.snd (Go.Utf8.decode (ByteArray.mk (List.toArray l)) pos))) ∧ True) ∧ true = true ∧ ((((True ∧ (decide (pos < List.length l) = true)) ∧ (decide ((↑(Prod.fst (Go.Utf8.decode (ByteArray.mk (List.toArray l)) pos)) : Int) < (97 : Int)) = true)) ∧ (decide ((↑(Prod.fst (Go.Utf8.decode (ByteArray.mk (List.toArray l)) pos)) : Int) < (48 : Int)) = true)) ∧ ((!decide ((↑(Prod.fst (Go.Utf8.decode (ByteArray.mk (List.toArray l)) pos)) : Int) = (95 : Int))) = true))) := by kernel_rfl
 exact ⟨by rw [e]; exact ⟨rfl, ⟨rfl, ⟨rfl, trivial⟩⟩, ⟨rfl, trivial⟩, rfl, ⟨⟨⟨⟨trivial, c0⟩, c1⟩, c2⟩, c3⟩⟩⟩
theorem smB_r2 (l : List UInt8) (pos : Nat) (c0 : decide (pos < List.length l) = true) (c1 : decide ((↑(Prod.fst (Go.Utf8.decode (ByteArray.mk (List.toArray l)) pos)) : Int) < (97 : Int)) = true) (c2 : decide ((↑(Prod.fst (Go.Utf8.decode (ByteArray.mk (List.toArray l)) pos)) : Int) < (48 : Int)) = false) (c3 : decide ((57 : Int) < (↑(Prod.fst (Go.Utf8.decode (ByteArray.mk (List.toArray l)) pos)) : Int)) = true) (c4 : (!decide ((↑(Prod.fst (Go.Utf8.decode (ByteArray.mk (List.toArray l)) pos)) : Int) = (95 : Int))) = false) : Sx.PieceN 1 (Sx.Ex.normal) [(6, Sx.AV.ptr (Sx.AA.mk false (0 : Nat) (0 : Nat) (0 : Nat)))] [(0, Sx.ABk.sit true l (pos + Prod.snd (Go.Utf8.decode (ByteArray.mk (List.toArray l)) pos)))] (piececall0 Try.f50 (Sx.nav [1,0,1,0,0] (Sx.bodyOf Try.f50)) (Sx.frL [(6, .ptr ⟨false, 0, 0, 0⟩)]) (Sx.hpL [(0, .sit true l pos)]) 1 [true, true, false, true, false]) := by
 have e : Sx.pieceN 1 (Sx.Ex.normal) [(6, Sx.AV.ptr (Sx.AA.mk false (0 : Nat) (0 : Nat) (0 : Nat)))] [(0, Sx.ABk.sit true l (pos + Prod.snd (Go.Utf8.decode (ByteArray.mk (List.toArray l)) pos)))] (piececall0 Try.f50 (Sx.nav [1,0,1,0,0] (Sx.bodyOf Try.f50)) (Sx.frL [(6, .ptr ⟨false, 0, 0, 0⟩)]) (Sx.hpL [(0, .sit true l pos)]) 1 [true, true, false, true, false]) = ((Sx.Ex.normal) = (Sx.Ex.normal) ∧ (some (Sx.AV.ptr (Sx.AA.mk false (0 : Nat) (0 : Nat) (0 : Nat))) = some (Sx.AV.ptr (Sx.AA.mk false (0 : Nat) (0 : Nat) (0 : Nat))) ∧ True) ∧ (some (Sx.ABk.sit true l (pos + Prod.snd (Go.Utf8.decode (ByteArray.mk (List.toArray l)) pos))) = some (Sx.ABk.sit true l (pos + Prod.snd (Go.Utf8.decode (ByteArray.mk (List.toArray l)) pos))) ∧ True) ∧ true = true ∧ (((((True ∧ (decide (pos < List.length l) = true)) ∧ (decide ((↑(Prod.fst (Go.Utf8.decode (ByteArray.mk (List.toArray l)) pos)) : Int) < (97 : Int)) = true)) ∧ (decide ((↑(Prod.fst (Go.Utf8.decode (ByteArray.mk (List.toArray l)) pos)) : Int) < (48 : Int)) = false)) ∧ (decide ((57 : Int) < (↑(Prod.fst (Go.Utf8.decode (ByteArray.mk (List.toArray l)) pos)) : Int)) = true)) ∧ ((!decide ((↑(Prod.fst (Go.Utf8.decode (ByteArray.mk (List.toArray l)) pos)) : Int) = (95 : Int))) = false))) := by kernel_rfl
 exact ⟨by rw [e]; exact ⟨rfl, ⟨rfl, trivial⟩, ⟨rfl, trivial⟩, rfl, ⟨⟨⟨⟨⟨trivial, c0⟩, c1⟩, c2⟩, c3⟩, c4⟩⟩⟩
theorem smB_r3 (l : List UInt8) (pos : Nat) (c0 : decide (pos < List.length l) = true) (c1 : decide ((↑(Prod.fst (Go.Utf8.decode (ByteArray.mk (List.toArray l)) pos)) : Int) < (97 : Int)) = true) (c2 : decide ((↑(Prod.fst (Go.Utf8.decode (ByteArray.mk (List.toArray l)) pos)) : Int) < (48 : Int)) = false) (c3 : decide ((57 : Int) < (↑(Prod.fst (Go.Utf8.decode (ByteArray.mk (List.toArray l)) pos)) : Int)) = true) (c4 : (!decide ((↑(Prod.fst (Go.Utf8.decode (ByteArray.mk (List.toArray l)) pos)) : Int) = (95 : Int))) = true) : Sx.PieceN 1 (Sx.Ex.ret) [(2, Sx.AV.bool false), (6, Sx.AV.ptr (Sx.AA.mk false (0 : Nat) (0 : Nat) (0 : Nat)))] [(0, Sx.ABk.sit true l (pos + Prod.snd (Go.Utf8.decode (ByteArray.mk (List.toArray l)) pos)))] (piececall0 Try.f50 (Sx.nav [1,0,1,0,0] (Sx.bodyOf Try.f50)) (Sx.frL [(6, .ptr ⟨false, 0, 0, 0⟩)]) (Sx.hpL [(0, .sit true l pos)]) 1 [true, true, false, true, true]) := by
 have e : Sx.pieceN 1 (Sx.Ex.ret) [(2, Sx.AV.bool false), (6, Sx.AV.ptr (Sx.AA.mk false (0 : Nat) (0 : Nat) (0 : Nat)))] [(0, Sx.ABk.sit true l (pos + Prod.snd (Go.Utf8.decode (ByteArray.mk (List.toArray l)) pos)))] (piececall0 Try.f50 (Sx.nav [1,0,1,0,0] (Sx.bodyOf Try.f50)) (Sx.frL [(6, .ptr ⟨false, 0, 0, 0⟩)]) (Sx.hpL [(0, .sit true l pos)]) 1 [true, true, false, true, true]) = ((Sx.Ex.ret) = (Sx.Ex.ret) ∧ (some (Sx.AV.bool false) = some (Sx.AV.bool false) ∧ (some (Sx.AV.ptr (Sx.AA.mk false (0 : Nat) (0 : Nat) (0 : Nat))) = some (Sx.AV.ptr (Sx.AA.mk false (0 : Nat) (0 : Nat) (0 : Nat))) ∧ True)) ∧ (some (Sx.ABk.sit true l (pos + Prod.snd (Go.Utf8.decode (ByteArray.mk (List.toArray l)) pos))) = some (Sx.ABk.sit true l (pos + Prod.snd (Go.Utf8.decode (ByteArray.mk (List.toArray l)) pos))) ∧ True) ∧ true = true ∧ (((((True ∧ (decide (pos < List.length l) = true)) ∧ (decide ((↑(Prod.fst (Go.Utf8.decode (ByteArray.mk (List.toArray l)) pos)) : Int) < (97 : Int)) = true)) ∧ (decide ((↑(Prod.fst (Go.Utf8.decode (ByteArray.mk (List.toArray l)) pos)) : Int) < (48 : Int)) = false)) ∧ (decide ((57 : Int) < (↑(Prod.fst (Go.Utf8.decode (ByteArray.mk (List.toArray l)) pos)) : Int)) = true)) ∧ ((!decide ((↑(Prod.fst (Go.Utf8.decode (ByteArray.mk (List.toArray l)) pos)) : Int) = (95 : Int))) = true))) := by kernel_rfl
 exact ⟨by rw [e]; exact ⟨rfl, ⟨rfl, ⟨rfl, trivial⟩⟩, ⟨rfl, trivial⟩, rfl, ⟨⟨⟨⟨⟨trivial, c0⟩, c1⟩, c2⟩, c3⟩, c4⟩⟩⟩
theorem smB_r4 (l : List UInt8) (pos : Nat) (c0 : decide (pos < List.length l) = true) (c1 : decide ((↑(Prod.fst (Go.Utf8.decode (ByteArray.mk (List.toArray l)) pos)) : Int) < (97 : Int)) = true) (c2 : decide ((↑(Prod.fst (Go.Utf8.decode (ByteArray.mk (List.toArray l)) pos)) : Int) < (48 : Int)) = false) (c3 : decide ((57 : Int) < (↑(Prod.fst (Go.Utf8.decode (ByteArray.mk (List.toArray l)) pos)) : Int)) = false) : Sx.PieceN 1 (Sx.Ex.normal) [(6, Sx.AV.ptr (Sx.AA.mk false (0 : Nat) (0 : Nat) (0 : Nat)))] [(0, Sx.ABk.sit true l (pos + Prod.snd (Go.Utf8.decode (ByteArray.mk (List.toArray l)) pos)))] (piececall0 Try.f50 (Sx.nav [1,0,1,0,0] (Sx.bodyOf Try.f50)) (Sx.frL [(6, .ptr ⟨false, 0, 0, 0⟩)]) (Sx.hpL [(0, .sit true l pos)]) 1 [true, true, false, false]) := by
 have e : Sx.pieceN 1 (Sx.Ex.normal) [(6, Sx.AV.ptr (Sx.AA.mk false (0 : Nat) (0 : Nat) (0 : Nat)))] [(0, Sx.ABk.sit true l (pos + Prod.snd (Go.Utf8.decode (ByteArray.mk (List.toArray l)) pos)))] (piececall0 Try.f50 (Sx.nav [1,0,1,0,0] (Sx.bodyOf Try.f50)) (Sx.frL [(6, .ptr ⟨false, 0, 0, 0⟩)]) (Sx.hpL [(0, .sit true l pos)]) 1 [true, true, false, false]) = ((Sx.Ex.normal) = (Sx.Ex.normal) ∧ (some (Sx.AV.ptr (Sx.AA.mk false (0 : Nat) (0 : Nat) (0 : Nat))) = some (Sx.AV.ptr (Sx.AA.mk false (0 : Nat) (0 : Nat) (0 : Nat))) ∧ True) ∧ (some (Sx.ABk.sit true l (pos + Prod.snd (Go.Utf8.decode (ByteArray.mk (List.toArray l)) pos))) = some (Sx.ABk.sit true l (pos + Prod.snd (Go.Utf8.decode (ByteArray.mk (List.toArray l)) pos))) ∧ True) ∧ true = true ∧ ((((True ∧ (decide (pos < List.length l) = true)) ∧ (decide ((↑(Prod.fst (Go.Utf8.decode (ByteArray.mk (List.toArray l)) pos)) : Int) < (97 : Int)) = true)) ∧ (decide ((↑(Prod.fst (Go.Utf8.decode (ByteArray.mk (List.toArray l)) pos)) : Int) < (48 : Int)) = false)) ∧ (decide ((57 : Int) < (↑(Prod.fst (Go.Utf8.decode (ByteArray.mk (List.toArray l)) pos)) : Int)) = false))) := by kernel_rfl
 exact ⟨by rw [e]; exact ⟨rfl, ⟨rfl, trivial⟩, ⟨rfl, trivial⟩, rfl, ⟨⟨⟨⟨trivial, c0⟩, c1⟩, c2⟩, c3⟩⟩⟩
theorem smB_r5 (l : List UInt8) (pos : Nat) (c0 : decide (pos < List.length l) = true) (c1 : decide ((↑(Prod.fst (Go.Utf8.decode (ByteArray.mk (List.toArray l)) pos)) : Int) < (97 : Int)) = false) (c2 : decide ((122 : Int) < (↑(Prod.fst (Go.Utf8.decode (ByteArray.mk (List.toArray l)) pos)) : Int)) = true) (c3 : decide ((↑(Prod.fst (Go.Utf8.decode (ByteArray.mk (List.toArray l)) pos)) : Int) < (48 : Int)) = true) (c4 : (!decide ((↑(Prod.fst (Go.Utf8.decode (ByteArray.mk (List.toArray l)) pos)) : Int) = (95 : Int))) = false) : Sx.PieceN 1 (Sx.Ex.normal) [(6, Sx.AV.ptr (Sx.AA.mk false (0 : Nat) (0 : Nat) (0 : Nat)))] [(0, Sx.ABk.sit true l (pos + Prod.snd (Go.Utf8.decode (ByteArray.mk (List.toArray l)) pos)))] (piececall0 Try.f50 (Sx.nav [1,0,1,0,0] (Sx.bodyOf Try.f50)) (Sx.frL [(6, .ptr ⟨false, 0, 0, 0⟩)]) (Sx.hpL [(0, .sit true l pos)]) 1 [true, false, true, true, false]) := by
 have e : Sx.pieceN 1 (Sx.Ex.normal) [(6, Sx.AV.ptr (Sx.AA.mk false (0 : Nat) (0 : Nat) (0 : Nat)))] [(0, Sx.ABk.sit true l (pos + Prod.snd (Go.Utf8.decode (ByteArray.mk (List.toArray l)) pos)))] (piececall0 Try.f50 (Sx.nav [1,0,1,0,0] (Sx.bodyOf Try.f50)) (Sx.frL [(6, .ptr ⟨false, 0, 0, 0⟩)]) (Sx.hpL [(0, .sit true l pos)]) 1 [true, false, true, true, false]) = ((Sx.Ex.normal) = (Sx.Ex.normal) ∧ (some (Sx.AV.ptr (Sx.AA.mk false (0 : Nat) (0 : Nat) (0 : Nat))) = some (Sx.AV.ptr (Sx.AA.mk false (0 : Nat) (0 : Nat) (0 : Nat))) ∧ True) ∧ (some (Sx.ABk.sit true l (pos + Prod.snd (Go.Utf8.decode (ByteArray.mk (List.toArray l)) pos))) = some (Sx.ABk.sit true l (pos + Prod.snd (Go.Utf8.decode (ByteArray.mk (List.toArray l)) pos))) ∧ True) ∧ true = true ∧ (((((True ∧ (decide (pos < List.length l) = true)) ∧ (decide ((↑(Prod.fst (Go.Utf8.decode (ByteArray.mk (List.toArray l)) pos)) : Int) < (97 : Int)) = false)) ∧ (decide ((122 : Int) < (↑(Prod.fst (Go.Utf8.decode (ByteArray.mk (List.toArray l)) pos)) : Int)) = true)) ∧ (decide ((↑(Prod.fst (Go.Utf8.decode (ByteArray.mk (List.toArray l)) pos)) : Int) < (48 : Int)) = true)) ∧ ((!decide ((↑(Prod.fst (Go.Utf8.decode (ByteArray.mk (List.toArray l)) pos)) : Int) = (95 : Int))) = false))) := by kernel_rfl
 exact ⟨by rw [e]; exact ⟨rfl, ⟨rfl, trivial⟩, ⟨rfl, trivial⟩, rfl, ⟨⟨⟨⟨⟨trivial, c0⟩, c1⟩, c2⟩, c3⟩, c4⟩⟩⟩
theorem smB_r6 (l : List UInt8) (pos : Nat) (c0 : decide (pos < List.length l) = true) (c1 : decide ((↑(Prod.fst (Go.Utf8.decode (ByteArray.mk (List.toArray l)) pos)) : Int) < (97 : Int)) = false) (c2 : decide ((122 : Int) < (↑(Prod.fst (Go.Utf8.decode (ByteArray.mk (List.toArray l)) pos)) : Int)) = true) (c3 : decide ((↑(Prod.fst (Go.Utf8.decode (ByteArray.mk (List.toArray l)) pos)) : Int) < (48 : Int)) = true) (c4 : (!decide ((↑(Prod.fst (Go.Utf8.decode (ByteArray.mk (List.toArray l)) pos)) : Int) = (95 : Int))) = true) : Sx.PieceN 1 (Sx.Ex.ret) [(2, Sx.AV.bool false), (6, Sx.AV.ptr (Sx.AA.mk false (0 : Nat) (0 : Nat) (0 : Nat)))] [(0, Sx.ABk.sit true l (pos + Prod.snd (Go.Utf8.decode (ByteArray.mk (List.toArray l)) pos)))] (piececall0 Try.f50 (Sx.nav [1,0,1,0,0] (Sx.bodyOf Try.f50)) (Sx.frL [(6, .ptr ⟨false, 0, 0, 0⟩)]) (Sx.hpL [(0, .sit true l pos)]) 1 [true, false, true, true, true]) := by
 have e : Sx.pieceN 1 (Sx.Ex.ret) [(2, Sx.AV.bool false), (6, Sx.AV.ptr (Sx.AA.mk false (0 : Nat) (0 : Nat) (0 : Nat)))] [(0, Sx.ABk.sit true l (pos + Prod.snd (Go.Utf8.decode (ByteArray.mk (List.toArray l)) pos)))] (piececall0 Try.f50 (Sx.nav [1,0,1,0,0] (Sx.bodyOf Try.f50)) (Sx.frL [(6, .ptr ⟨false, 0, 0, 0⟩)]) (Sx.hpL [(0, .sit true l pos)]) 1 [true, false, true, true, true]) = ((Sx.Ex.ret) = (Sx.Ex.ret) ∧ (some (Sx.AV.bool false) = some (Sx.AV.bool false) ∧ (some (Sx.AV.ptr (Sx.AA.mk false (0 : Nat) (0 : Nat) (0 : Nat))) = some (Sx.AV.ptr (Sx.AA.mk false (0 : Nat) (0 : Nat) (0 : Nat))) ∧ True)) ∧ (some (Sx.ABk.sit true l (pos + Prod.snd (Go.Utf8.decode (ByteArray.mk (List.toArray l)) pos))) = some (Sx.ABk.sit true l (pos + Prod.snd (Go.Utf8.decode (ByteArray.mk (List.toArray l)) pos))) ∧ True) ∧ true = true ∧ (((((True ∧ (decide (pos < List.length l) = true)) ∧ (decide ((↑(Prod.fst (Go.Utf8.decode (ByteArray.mk (List.toArray l)) pos)) : Int) < (97 : Int)) = false)) ∧ (decide ((122 : Int) < (↑(Prod.fst (Go.Utf8.decode (ByteArray.mk (List.toArray l)) pos)) : Int)) = true)) ∧ (decide ((↑(Prod.fst (Go.Utf8.decode (ByteArray.mk (List.toArray l)) pos)) : Int) < (48 : Int)) = true)) ∧ ((!decide ((↑(Prod.fst (Go.Utf8.decode (ByteArray.mk (List.toArray l)) pos)) : Int) = (95 : Int))) = true))) := by kernel_rfl
 exact ⟨by rw [e]; exact ⟨rfl, ⟨rfl, ⟨rfl, trivial⟩⟩, ⟨rfl, trivial⟩, rfl, ⟨⟨⟨⟨⟨trivial, c0⟩, c1⟩, c2⟩, c3⟩, c4⟩⟩⟩
theorem smB_r7 (l : List UInt8) (pos : Nat) (c0 : decide (pos < List.length l) = true) (c1 : decide ((↑(Prod.fst (Go.Utf8.decode (ByteArray.mk (List.toArray l)) pos)) : Int) < (97 : Int)) = false) (c2 : decide ((122 : Int) < (↑(Prod.fst (Go.Utf8.decode (ByteArray.mk (List.toArray l)) pos)) : Int)) = true) (c3 : decide ((↑(Prod.fst (Go.Utf8.decode (ByteArray.mk (List.toArray l)) pos)) : Int) < (48 : Int)) = false) (c4 : decide ((57 : Int) < (↑(Prod.fst (Go.Utf8.decode (ByteArray.mk (List.toArray l)) pos)) : Int)) = true) (c5 : (!decide ((↑(Prod.fst (Go.Utf8.decode (ByteArray.mk (List.toArray l)) pos)) : Int) = (95 : Int))) = false) : Sx.PieceN 1 (Sx.Ex.normal) [(6, Sx.AV.ptr (Sx.AA.mk false (0 : Nat) (0 : Nat) (0 : Nat)))] [(0, Sx.ABk.sit true l (pos + Prod.snd (Go.Utf8.decode (ByteArray.mk (List.toArray l)) pos)))] (piececall0 Try.f50 (Sx.nav [1,0,1,0,0] (Sx.bodyOf Try.f50)) (Sx.frL [(6, .ptr ⟨false, 0, 0, 0⟩)]) (Sx.hpL [(0, .sit true l pos)]) 1 [true, false, true, false, true, false]) := by
 have e : Sx.pieceN 1 (Sx.Ex.normal) [(6, Sx.AV.ptr (Sx.AA.mk false (0 : Nat) (0 : Nat) (0 : Nat)))] [(0, Sx.ABk.sit true l (pos + Prod.snd (Go.Utf8.decode (ByteArray.mk (List.toArray l)) pos)))] (piececall0 Try.f50 (Sx.nav [1,0,1,0,0] (Sx.bodyOf Try.f50)) (Sx.frL [(6, .ptr ⟨false, 0, 0, 0⟩)]) (Sx.hpL [(0, .sit true l pos)]) 1 [true, false, true, false, true, false]) = ((Sx.Ex.normal) = (Sx.Ex.normal) ∧ (some (Sx.AV.ptr (Sx.AA.mk false (0 : Nat) (0 : Nat) (0 : Nat))) = some (Sx.AV.ptr (Sx.AA.mk false (0 : Nat) (0 : Nat) (0 : Nat))) ∧ True) ∧ (some (Sx.ABk.sit true l (pos + Prod.snd (Go.Utf8.decode (ByteArray.mk (List.toArray l)) pos))) = some (Sx.ABk.sit true l (pos + Prod.snd (Go.Utf8.decode (ByteArray.mk (List.toArray l)) pos))) ∧ True) ∧ true = true ∧ ((((((True ∧ (decide (pos < List.length l) = true)) ∧ (decide ((↑(Prod.fst (Go.Utf8.decode (ByteArray.mk (List.toArray l)) pos)) : Int) < (97 : Int)) = false)) ∧ (decide ((122 : Int) < (↑(Prod.fst (Go.Utf8.decode (ByteArray.mk (List.toArray l)) pos)) : Int)) = true)) ∧ (decide ((↑(Prod.fst (Go.Utf8.decode (ByteArray.mk (List.toArray l)) pos)) : Int) < (48 : Int)) = false)) ∧ (decide ((57 : Int) < (↑(Prod.fst (Go.Utf8.decode (ByteArray.mk (List.toArray l)) pos)) : Int)) = true)) ∧ ((!decide ((↑(Prod.fst (Go.Utf8.decode (ByteArray.mk (List.toArray l)) pos)) : Int) = (95 : Int))) = false))) := by kernel_rfl
 exact ⟨by rw [e]; exact ⟨rfl, ⟨rfl, trivial⟩, ⟨rfl, trivial⟩, rfl, ⟨⟨⟨⟨⟨⟨trivial, c0⟩, c1⟩, c2⟩, c3⟩, c4⟩, c5⟩⟩⟩
theorem smB_r8 (l : List UInt8) (pos : Nat) (c0 : decide (pos < List.length l) = true) (c1 : decide ((↑(Prod.fst (Go.Utf8.decode (ByteArray.mk (List.toArray l)) pos)) : Int) < (97 : Int)) = false) (c2 : decide ((122 : Int) < (↑(Prod.fst (Go.Utf8.decode (ByteArray.mk (List.toArray l)) pos)) : Int)) = true) (c3 : decide ((↑(Prod.fst (Go.Utf8.decode (ByteArray.mk (List.toArray l)) pos)) : Int) < (48 : Int)) = false) (c4 : decide ((57 : Int) < (↑(Prod.fst (Go.Utf8.decode (ByteArray.mk (List.toArray l)) pos)) : Int)) = true) (c5 : (!decide ((↑(Prod.fst (Go.Utf8.decode (ByteArray.mk (List.toArray l)) pos)) : Int) = (95 : Int))) = true) : Sx.PieceN 1 (Sx.Ex.ret) [(2, Sx.AV.bool false), (6, Sx.AV.ptr (Sx.AA.mk false (0 : Nat) (0 : Nat) (0 : Nat)))] [(0, Sx.ABk.sit true l (pos + Prod.snd (Go.Utf8.decode (ByteArray.mk (List.toArray l)) pos)))] (piececall0 Try.f50 (Sx.nav [1,0,1,0,0] (Sx.bodyOf Try.f50)) (Sx.frL [(6, .ptr ⟨false, 0, 0, 0⟩)]) (Sx.hpL [(0, .sit true l pos)]) 1 [true, false, true, false, true, true]) := by
 have e : Sx.pieceN 1 (Sx.Ex.ret) [(2, Sx.AV.bool false), (6, Sx.AV.ptr (Sx.AA.mk false (0 : Nat) (0 : Nat) (0 : Nat)))] [(0, Sx.ABk.sit true l (pos + Prod.snd (Go.Utf8.decode (ByteArray.mk (List.toArray l)) pos)))] (piececall0 Try.f50 (Sx.nav [1,0,1,0,0] (Sx.bodyOf Try.f50)) (Sx.frL [(6, .ptr ⟨false, 0, 0, 0⟩)]) (Sx.hpL [(0, .sit true l pos)]) 1 [true, false, true, false, true, true]) = ((Sx.Ex.ret) = (Sx.Ex.ret) ∧ (some (Sx.AV.bool false) = some (Sx.AV.bool false) ∧ (some (Sx.AV.ptr (Sx.AA.mk false (0 : Nat) (0 : Nat) (0 : Nat))) = some (Sx.AV.ptr (Sx.AA.mk false (0 : Nat) (0 : Nat) (0 : Nat))) ∧ True)) ∧ (some (Sx.ABk.sit true l (pos + Prod.snd (Go.Utf8.decode (ByteArray.mk (List.toArray l)) pos))) = some (Sx.ABk.sit true l (pos + Prod.snd (Go.Utf8.decode (ByteArray.mk (List.toArray l)) pos))) ∧ True) ∧ true = true ∧ ((((((True ∧ (decide (pos < List.length l) = true)) ∧ (decide ((↑(Prod.fst (Go.Utf8.decode (ByteArray.mk (List.toArray l)) pos)) : Int) < (97 : Int)) = false)) ∧ (decide ((122 : Int) < (↑(Prod.fst (Go.Utf8.decode (ByteArray.mk (List.toArray l)) pos)) : Int)) = true)) ∧ (decide ((↑(Prod.fst (Go.Utf8.decode (ByteArray.mk (List.toArray l)) pos)) : Int) < (48 : Int)) = false)) ∧ (decide ((57 : Int) < (↑(Prod.fst (Go.Utf8.decode (ByteArray.mk (List.toArray l)) pos)) : Int)) = true)) ∧ ((!decide ((↑(Prod.fst (Go.Utf8.decode (ByteArray.mk (List.toArray l)) pos)) : Int) = (95 : Int))) = true))) := by kernel_rfl
 exact ⟨by rw [e]; exact ⟨rfl, ⟨rfl, ⟨rfl, trivial⟩⟩, ⟨rfl, trivial⟩, rfl, ⟨⟨⟨⟨⟨⟨trivial, c0⟩, c1⟩, c2⟩, c3⟩, c4⟩, c5⟩⟩⟩
theorem smB_r9 (l : List UInt8) (pos : Nat) (c0 : decide (pos < List.length l) = true) (c1 : decide ((↑(Prod.fst (Go.Utf8.decode (ByteArray.mk (List.toArray l)) pos)) : Int) < (97 : Int)) = false) (c2 : decide ((122 : Int) < (↑(Prod.fst (Go.Utf8.decode (ByteArray.mk (List.toArray l)) pos)) : Int)) = true) (c3 : decide ((↑(Prod.fst (Go.Utf8.decode (ByteArray.mk (List.toArray l)) pos)) : Int) < (48 : Int)) = false) (c4 : decide ((57 : Int) < (↑(Prod.fst (Go.Utf8.decode (ByteArray.mk (List.toArray l)) pos)) : Int)) = false) : Sx.PieceN 1 (Sx.Ex.normal) [(6, Sx.AV.ptr (Sx.AA.mk false (0 : Nat) (0 : Nat) (0 : Nat)))] [(0, Sx.ABk.sit true l (pos + Prod.snd (Go.Utf8.decode (ByteArray.mk (List.toArray l)) pos)))] (piececall0 Try.f50 (Sx.nav [1,0,1,0,0] (Sx.bodyOf Try.f50)) (Sx.frL [(6, .ptr ⟨false, 0, 0, 0⟩)]) (Sx.hpL [(0, .sit true l pos)]) 1 [true, false, true, false, false]) := by
 have e : Sx.pieceN 1 (Sx.Ex.normal) [(6, Sx.AV.ptr (Sx.AA.mk false (0 : Nat) (0 : Nat) (0 : Nat)))] [(0, Sx.ABk.sit true l (pos + Prod.snd (Go.Utf8.decode (ByteArray.mk (List.toArray l)) pos)))] (piececall0 Try.f50 (Sx.nav [1,0,1,0,0] (Sx.bodyOf Try.f50)) (Sx.frL [(6, .ptr ⟨false, 0, 0, 0⟩)]) (Sx.hpL [(0, .sit true l pos)]) 1 [true, false, true, false, false]) = ((Sx.Ex.normal) = (Sx.Ex.normal) ∧ (some (Sx.AV.ptr (Sx.AA.mk false (0 : Nat) (0 : Nat) (0 : Nat))) = some (Sx.AV.ptr (Sx.AA.mk false (0 : Nat) (0 : Nat) (0 : Nat))) ∧ True) ∧ (some (Sx.ABk.sit true l (pos + Prod.snd (Go.Utf8.decode (ByteArray.mk (List.toArray l)) pos))) = some (Sx.ABk.sit true l (pos + Prod.snd (Go.Utf8.decode (ByteArray.mk (List.toArray l)) pos))) ∧ True) ∧ true = true ∧ (((((True ∧ (decide (pos < List.length l) = true)) ∧ (decide ((↑(Prod.fst (Go.Utf8.decode (ByteArray.mk (List.toArray l)) pos)) : Int) < (97 : Int)) = false)) ∧ (decide ((122 : Int) < (↑(Prod.fst (Go.Utf8.decode (ByteArray.mk (List.toArray l)) pos)) : Int)) = true)) ∧ (decide ((↑(Prod.fst (Go.Utf8.decode (ByteArray.mk (List.toArray l)) pos)) : Int) < (48 : Int)) = false)) ∧ (decide ((57 : Int) < (↑(Prod.fst (Go.Utf8.decode (ByteArray.mk (List.toArray l)) pos)) : Int)) = false))) := by kernel_rfl
 exact ⟨by rw [e]; exact ⟨rfl, ⟨rfl, trivial⟩, ⟨rfl, trivial⟩, rfl, ⟨⟨⟨⟨⟨trivial, c0⟩, c1⟩, c2⟩, c3⟩, c4⟩⟩⟩
theorem smB_r10 (l : List UInt8) (pos : Nat) (c0 : decide (pos < List.length l) = true) (c1 : decide ((↑(Prod.fst (Go.Utf8.decode (ByteArray.mk (List.toArray l)) pos)) : Int) < (97 : Int)) = false) (c2 : decide ((122 : Int) < (↑(Prod.fst (Go.Utf8.decode (ByteArray.mk (List.toArray l)) pos)) : Int)) = false) : Sx.PieceN 1 (Sx.Ex.normal) [(6, Sx.AV.ptr (Sx.AA.mk false (0 : Nat) (0 : Nat) (0 : Nat)))] [(0, Sx.ABk.sit true l (pos + Prod.snd (Go.Utf8.decode (ByteArray.mk (List.toArray l)) pos)))] (piececall0 Try.f50 (Sx.nav [1,0,1,0,0] (Sx.bodyOf Try.f50)) (Sx.frL [(6, .ptr ⟨false, 0, 0, 0⟩)]) (Sx.hpL [(0, .sit true l pos)]) 1 [true, false, false]) := by
 have e : Sx.pieceN 1 (Sx.Ex.normal) [(6, Sx.AV.ptr (Sx.AA.mk false (0 : Nat) (0 : Nat) (0 : Nat)))] [(0, Sx.ABk.sit true l (pos + Prod.snd (Go.Utf8.decode (ByteArray.mk (List.toArray l)) pos)))] (piececall0 Try.f50 (Sx.nav [1,0,1,0,0] (Sx.bodyOf Try.f50)) (Sx.frL [(6, .ptr ⟨false, 0, 0, 0⟩)]) (Sx.hpL [(0, .sit true l pos)]) 1 [true, false, false]) = ((Sx.Ex.normal) = (Sx.Ex.normal) ∧ (some (Sx.AV.ptr (Sx.AA.mk false (0 : Nat) (0 : Nat) (0 : Nat))) = some (Sx.AV.ptr (Sx.AA.mk false (0 : Nat) (0 : Nat) (0 : Nat))) ∧ True) ∧ (some (Sx.ABk.sit true l (pos + Prod.snd (Go.Utf8.decode (ByteArray.mk (List.toArray l)) pos))) = some (Sx.ABk.sit true l (pos + Prod.snd (Go.Utf8.decode (ByteArray.mk (List.toArray l)) pos))) ∧ True) ∧ true = true ∧ (((True ∧ (decide (pos < List.length l) = true)) ∧ (decide ((↑(Prod.fst (Go.Utf8.decode (ByteArray.mk (List.toArray l)) pos)) : Int) < (97 : Int)) = false)) ∧ (decide ((122 : Int) < (↑(Prod.fst (Go.Utf8.decode (ByteArray.mk (List.toArray l)) pos)) : Int)) = false))) := by kernel_rfl
 exact ⟨by rw [e]; exact ⟨rfl, ⟨rfl, trivial⟩, ⟨rfl, trivial⟩, rfl, ⟨⟨⟨trivial, c0⟩, c1⟩, c2⟩⟩⟩
theorem smB_r11 (l : List UInt8) (pos : Nat) (c0 : decide (pos < List.length l) = false) : Sx.PieceN 1 (Sx.Ex.exit (0 : Nat)) [(6, Sx.AV.ptr (Sx.AA.mk false (0 : Nat) (0 : Nat) (0 : Nat)))] [(0, Sx.ABk.sit true l pos)] (piececall0 Try.f50 (Sx.nav [1,0,1,0,0] (Sx.bodyOf Try.f50)) (Sx.frL [(6, .ptr ⟨false, 0, 0, 0⟩)]) (Sx.hpL [(0, .sit true l pos)]) 1 [false]) := by
 have e : Sx.pieceN 1 (Sx.Ex.exit (0 : Nat)) [(6, Sx.AV.ptr (Sx.AA.mk false (0 : Nat) (0 : Nat) (0 : Nat)))] [(0, Sx.ABk.sit true l pos)] (piececall0 Try.f50 (Sx.nav [1,0,1,0,0] (Sx.bodyOf Try.f50)) (Sx.frL [(6, .ptr ⟨false, 0, 0, 0⟩)]) (Sx.hpL [(0, .sit true l pos)]) 1 [false]) = ((Sx.Ex.exit (0 : Nat)) = (Sx.Ex.exit (0 : Nat)) ∧ (some (Sx.AV.ptr (Sx.AA.mk false (0 : Nat) (0 : Nat) (0 : Nat))) = some (Sx.AV.ptr (Sx.AA.mk false (0 : Nat) (0 : Nat) (0 : Nat))) ∧ True) ∧ (some (Sx.ABk.sit true l pos) = some (Sx.ABk.sit true l pos) ∧ True) ∧ true = true ∧ (True ∧ (decide (pos < List.length l) = false))) := by kernel_rfl
 exact ⟨by rw [e]; exact ⟨rfl, ⟨rfl, trivial⟩, ⟨rfl, trivial⟩, rfl, ⟨trivial, c0⟩⟩⟩
theorem smB (B : Nat) (hB : B ≤ 1) (l : List UInt8) (pos : Nat) : Sx.GoesB Try.prog (Sx.nav [1,0,1,0,0] (Sx.bodyOf Try.f50)) Try.f50.ntmps B 1 1 (Sx.frL [(6, .ptr ⟨false, 0, 0, 0⟩)]) (Sx.hpL [(0, .sit true l pos)]) fun e fr' H' => (cond (decide (pos < List.length l)) (cond (decide ((↑(Prod.fst (Go.Utf8.decode (ByteArray.mk (List.toArray l)) pos)) : Int) < (97 : Int))) (cond (decide ((↑(Prod.fst (Go.Utf8.decode (ByteArray.mk (List.toArray l)) pos)) : Int) < (48 : Int))) (cond (decide ((↑(Prod.fst (Go.Utf8.decode (ByteArray.mk (List.toArray l)) pos)) : Int) = (95 : Int))) (e = Sx.Ex.normal ∧ fr' = Sx.frL [(6, Sx.AV.ptr (Sx.AA.mk false (0 : Nat) (0 : Nat) (0 : Nat)))] ∧ H' = Sx.hpL [(0, Sx.ABk.sit true l (pos + Prod.snd (Go.Utf8.decode (ByteArray.mk (List.toArray l)) pos)))]) (e = Sx.Ex.ret ∧ fr' = Sx.frL [(2, Sx.AV.bool false), (6, Sx.AV.ptr (Sx.AA.mk false (0 : Nat) (0 : Nat) (0 : Nat)))] ∧ H' = Sx.hpL [(0, Sx.ABk.sit true l (pos + Prod.snd (Go.Utf8.decode (ByteArray.mk (List.toArray l)) pos)))])) (cond (decide ((57 : Int) < (↑(Prod.fst (Go.Utf8.decode (ByteArray.mk (List.toArray l)) pos)) : Int))) (cond (decide ((↑(Prod.fst (Go.Utf8.decode (ByteArray.mk (List.toArray l)) pos)) : Int) = (95 : Int))) (e = Sx.Ex.normal ∧ fr' = Sx.frL [(6, Sx.AV.ptr (Sx.AA.mk false (0 : Nat) (0 : Nat) (0 : Nat)))] ∧ H' = Sx.hpL [(0, Sx.ABk.sit true l (pos + Prod.snd (Go.Utf8.decode (ByteArray.mk (List.toArray l)) pos)))]) (e = Sx.Ex.ret ∧ fr' = Sx.frL [(2, Sx.AV.bool false), (6, Sx.AV.ptr (Sx.AA.mk false (0 : Nat) (0 : Nat) (0 : Nat)))] ∧ H' = Sx.hpL [(0, Sx.ABk.sit true l (pos + Prod.snd (Go.Utf8.decode (ByteArray.mk (List.toArray l)) pos)))])) (e = Sx.Ex.normal ∧ fr' = Sx.frL [(6, Sx.AV.ptr (Sx.AA.mk false (0 : Nat) (0 : Nat) (0 : Nat)))] ∧ H' = Sx.hpL [(0, Sx.ABk.sit true l (pos + Prod.snd (Go.Utf8.decode (ByteArray.mk (List.toArray l)) pos)))]))) (cond (decide ((122 : Int) < (↑(Prod.fst (Go.Utf8.decode (ByteArray.mk (List.toArray l)) pos)) : Int))) (cond (decide ((↑(Prod.fst (Go.Utf8.decode (ByteArray.mk (List.toArray l)) pos)) : Int) < (48 : Int))) (cond (decide ((↑(Prod.fst (Go.Utf8.decode (ByteArray.mk (List.toArray l)) pos)) : Int) = (95 : Int))) (e = Sx.Ex.normal ∧ fr' = Sx.frL [(6, Sx.AV.ptr (Sx.AA.mk false (0 : Nat) (0 : Nat) (0 : Nat)))] ∧ H' = Sx.hpL [(0, Sx.ABk.sit true l (pos + Prod.snd (Go.Utf8.decode (ByteArray.mk (List.toArray l)) pos)))]) (e = Sx.Ex.ret ∧ fr' = Sx.frL [(2, Sx.AV.bool false), (6, Sx.AV.ptr (Sx.AA.mk false (0 : Nat) (0 : Nat) (0 : Nat)))] ∧ H' = Sx.hpL [(0, Sx.ABk.sit true l (pos + Prod.snd (Go.Utf8.decode (ByteArray.mk (List.toArray l)) pos)))])) (cond (decide ((57 : Int) < (↑(Prod.fst (Go.Utf8.decode (ByteArray.mk (List.toArray l)) pos)) : Int))) (cond (decide ((↑(Prod.fst (Go.Utf8.decode (ByteArray.mk (List.toArray l)) pos)) : Int) = (95 : Int))) (e = Sx.Ex.normal ∧ fr' = Sx.frL [(6, Sx.AV.ptr (Sx.AA.mk false (0 : Nat) (0 : Nat) (0 : Nat)))] ∧ H' = Sx.hpL [(0, Sx.ABk.sit true l (pos + Prod.snd (Go.Utf8.decode (ByteArray.mk (List.toArray l)) pos)))]) (e = Sx.Ex.ret ∧ fr' = Sx.frL [(2, Sx.AV.bool false), (6, Sx.AV.ptr (Sx.AA.mk false (0 : Nat) (0 : Nat) (0 : Nat)))] ∧ H' = Sx.hpL [(0, Sx.ABk.sit true l (pos + Prod.snd (Go.Utf8.decode (ByteArray.mk (List.toArray l)) pos)))])) (e = Sx.Ex.normal ∧ fr' = Sx.frL [(6, Sx.AV.ptr (Sx.AA.mk false (0 : Nat) (0 : Nat) (0 : Nat)))] ∧ H' = Sx.hpL [(0, Sx.ABk.sit true l (pos + Prod.snd (Go.Utf8.decode (ByteArray.mk (List.toArray l)) pos)))]))) (e = Sx.Ex.normal ∧ fr' = Sx.frL [(6, Sx.AV.ptr (Sx.AA.mk false (0 : Nat) (0 : Nat) (0 : Nat)))] ∧ H' = Sx.hpL [(0, Sx.ABk.sit true l (pos + Prod.snd (Go.Utf8.decode (ByteArray.mk (List.toArray l)) pos)))]))) (e = Sx.Ex.exit (0 : Nat) ∧ fr' = Sx.frL [(6, Sx.AV.ptr (Sx.AA.mk false (0 : Nat) (0 : Nat) (0 : Nat)))] ∧ H' = Sx.hpL [(0, Sx.ABk.sit true l pos)])) := by
 cases t0 : decide (pos < List.length l) with
 | true =>
  cases t1 : decide ((↑(Prod.fst (Go.Utf8.decode (ByteArray.mk (List.toArray l)) pos)) : Int) < (97 : Int)) with
  | true =>
   cases t2 : decide ((↑(Prod.fst (Go.Utf8.decode (ByteArray.mk (List.toArray l)) pos)) : Int) < (48 : Int)) with
   | true =>
    cases t3 : decide ((↑(Prod.fst (Go.Utf8.decode (ByteArray.mk (List.toArray l)) pos)) : Int) = (95 : Int)) with
    | true =>
     exact (Sx.GoesB.runN call0_ok (call0_reg _) (Sx.LoopsIn.none _ _ _) (smB_r0 l pos t0 t1 t2 (by rw [t3]; rfl)) hB).mono fun e fr' H' h => by simp only [t0, t1, t2, t3, cond_true, cond_false]; exact h
    | false =>
     exact (Sx.GoesB.runN call0_ok (call0_reg _) (Sx.LoopsIn.none _ _ _) (smB_r1 l pos t0 t1 t2 (by rw [t3]; rfl)) hB).mono fun e fr' H' h => by simp only [t0, t1, t2, t3, cond_true, cond_false]; exact h
   | false =>
    cases t3 : decide ((57 : Int) < (↑(Prod.fst (Go.Utf8.decode (ByteArray.mk (List.toArray l)) pos)) : Int)) with
    | true =>
     cases t4 : decide ((↑(Prod.fst (Go.Utf8.decode (ByteArray.mk (List.toArray l)) pos)) : Int) = (95 : Int)) with
     | true =>
      exact (Sx.GoesB.runN call0_ok (call0_reg _) (Sx.LoopsIn.none _ _ _) (smB_r2 l pos t0 t1 t2 t3 (by rw [t4]; rfl)) hB).mono fun e fr' H' h => by simp only [t0, t1, t2, t3, t4, cond_true, cond_false]; exact h
     | false =>
      exact (Sx.GoesB.runN call0_ok (call0_reg _) (Sx.LoopsIn.none _ _ _) (smB_r3 l pos t0 t1 t2 t3 (by rw [t4]; rfl)) hB).mono fun e fr' H' h => by simp only [t0, t1, t2, t3, t4, cond_true, cond_false]; exact h
    | false =>
     exact (Sx.GoesB.runN call0_ok (call0_reg _) (Sx.LoopsIn.none _ _ _) (smB_r4 l pos t0 t1 t2 t3) hB).mono fun e fr' H' h => by simp only [t0, t1, t2, t3, cond_true, cond_false]; exact h
  | false =>
   cases t2 : decide ((122 : Int) < (↑(Prod.fst (Go.Utf8.decode (ByteArray.mk (List.toArray l)) pos)) : Int)) with
   | true =>
    cases t3 : decide ((↑(Prod.fst (Go.Utf8.decode (ByteArray.mk (List.toArray l)) pos)) : Int) < (48 : Int)) with
    | true =>
     cases t4 : decide ((↑(Prod.fst (Go.Utf8.decode (ByteArray.mk (List.toArray l)) pos)) : Int) = (95 : Int)) with
     | true =>
      exact (Sx.GoesB.runN call0_ok (call0_reg _) (Sx.LoopsIn.none _ _ _) (smB_r5 l pos t0 t1 t2 t3 (by rw [t4]; rfl)) hB).mono fun e fr' H' h => by simp only [t0, t1, t2, t3, t4, cond_true, cond_false]; exact h
     | false =>
      exact (Sx.GoesB.runN call0_ok (call0_reg _) (Sx.LoopsIn.none _ _ _) (smB_r6 l pos t0 t1 t2 t3 (by rw [t4]; rfl)) hB).mono fun e fr' H' h => by simp only [t0, t1, t2, t3, t4, cond_true, cond_false]; exact h
    | false =>
     cases t4 : decide ((57 : Int) < (↑(Prod.fst (Go.Utf8.decode (ByteArray.mk (List.toArray l)) pos)) : Int)) with
     | true =>
      cases t5 : decide ((↑(Prod.fst (Go.Utf8.decode (ByteArray.mk (List.toArray l)) pos)) : Int) = (95 : Int)) with
      | true =>
       exact (Sx.GoesB.runN call0_ok (call0_reg _) (Sx.LoopsIn.none _ _ _) (smB_r7 l pos t0 t1 t2 t3 t4 (by rw [t5]; rfl)) hB).mono fun e fr' H' h => by simp only [t0, t1, t2, t3, t4, t5, cond_true, cond_false]; exact h
      | false =>
       exact (Sx.GoesB.runN call0_ok (call0_reg _) (Sx.LoopsIn.none _ _ _) (smB_r8 l pos t0 t1 t2 t3 t4 (by rw [t5]; rfl)) hB).mono fun e fr' H' h => by simp only [t0, t1, t2, t3, t4, t5, cond_true, cond_false]; exact h
     | false =>
      exact (Sx.GoesB.runN call0_ok (call0_reg _) (Sx.LoopsIn.none _ _ _) (smB_r9 l pos t0 t1 t2 t3 t4) hB).mono fun e fr' H' h => by simp only [t0, t1, t2, t3, t4, cond_true, cond_false]; exact h
   | false =>
    exact (Sx.GoesB.runN call0_ok (call0_reg _) (Sx.LoopsIn.none _ _ _) (smB_r10 l pos t0 t1 t2) hB).mono fun e fr' H' h => by simp only [t0, t1, t2, cond_true, cond_false]; exact h
 | false =>
  exact (Sx.GoesB.runN call0_ok (call0_reg _) (Sx.LoopsIn.none _ _ _) (smB_r11 l pos t0) hB).mono fun e fr' H' h => by simp only [t0, cond_true, cond_false]; exact h
theorem smZ_r0  : Sx.PieceN 1 (Sx.Ex.ret) [(2, Sx.AV.bool true)] [] (piececall0 Try.f50 (Sx.nav [1,1] (Sx.bodyOf Try.f50)) (Sx.frL []) (Sx.hpL []) 1 []) := by
 have e : Sx.pieceN 1 (Sx.Ex.ret) [(2, Sx.AV.bool true)] [] (piececall0 Try.f50 (Sx.nav [1,1] (Sx.bodyOf Try.f50)) (Sx.frL []) (Sx.hpL []) 1 []) = ((Sx.Ex.ret) = (Sx.Ex.ret) ∧ (some (Sx.AV.bool true) = some (Sx.AV.bool true) ∧ True) ∧ True ∧ true = true ∧ True) := by kernel_rfl
 exact ⟨by rw [e]; exact ⟨rfl, ⟨rfl, trivial⟩, trivial, rfl, trivial⟩⟩
theorem smZ (B : Nat) (hB : B ≤ 1)  : Sx.GoesB Try.prog (Sx.nav [1,1] (Sx.bodyOf Try.f50)) Try.f50.ntmps B 1 1 (Sx.frL []) (Sx.hpL []) fun e fr' H' => (e = Sx.Ex.ret ∧ fr' = Sx.frL [(2, Sx.AV.bool true)] ∧ H' = Sx.hpL []) := by
 exact (Sx.GoesB.runN call0_ok (call0_reg _) (Sx.LoopsIn.none _ _ _) (smZ_r0 ) hB).mono fun e fr' H' h => h
theorem byA_r0 (l : List UInt8) : Sx.PieceN 0 (Sx.Ex.normal) [(0, Sx.AV.str true l)] [] (piececall0 Try.f62 (Sx.nav [0] (Sx.bodyOf Try.f62)) (Sx.frameOf [.str true l] 0 .e) (.e) 0 []) := by
 have e : Sx.pieceN 0 (Sx.Ex.normal) [(0, Sx.AV.str true l)] [] (piececall0 Try.f62 (Sx.nav [0] (Sx.bodyOf Try.f62)) (Sx.frameOf [.str true l] 0 .e) (.e) 0 []) = ((Sx.Ex.normal) = (Sx.Ex.normal) ∧ (some (Sx.AV.str true l) = some (Sx.AV.str true l) ∧ True) ∧ True ∧ true = true ∧ True) := by kernel_rfl
 exact ⟨by rw [e]; exact ⟨rfl, ⟨rfl, trivial⟩, trivial, rfl, trivial⟩⟩
theorem byA (B : Nat) (hB : B ≤ 0) (l : List UInt8) : Sx.GoesB Try.prog (Sx.nav [0] (Sx.bodyOf Try.f62)) Try.f62.ntmps B 0 0 (Sx.frameOf [.str true l] 0 .e) (.e) fun e fr' H' => (e = Sx.Ex.normal ∧ fr' = Sx.frL [(0, Sx.AV.str true l)] ∧ H' = Sx.hpL []) := by
 exact (Sx.GoesB.runN call0_ok (call0_reg _) (Sx.LoopsIn.none _ _ _) (byA_r0 l) hB).mono fun e fr' H' h => h
theorem byR_r0 (l : List UInt8) : Sx.PieceN 0 (Sx.Ex.normal) [(0, Sx.AV.str true l), (3, Sx.AV.int false IntKind.i64 (0 : Int))] [] (piececall0 Try.f62 (Sx.nav [1,0,0] (Sx.bodyOf Try.f62)) (Sx.frL [(0, .str true l)]) (Sx.hpL []) 0 []) := by
 have e : Sx.pieceN 0 (Sx.Ex.normal) [(0, Sx.AV.str true l), (3, Sx.AV.int false IntKind.i64 (0 : Int))] [] (piececall0 Try.f62 (Sx.nav [1,0,0] (Sx.bodyOf Try.f62)) (Sx.frL [(0, .str true l)]) (Sx.hpL []) 0 []) = ((Sx.Ex.normal) = (Sx.Ex.normal) ∧ (some (Sx.AV.str true l) = some (Sx.AV.str true l) ∧ (some (Sx.AV.int false IntKind.i64 (0 : Int)) = some (Sx.AV.int false IntKind.i64 (0 : Int)) ∧ True)) ∧ True ∧ true = true ∧ True) := by kernel_rfl
 exact ⟨by rw [e]; exact ⟨rfl, ⟨rfl, ⟨rfl, trivial⟩⟩, trivial, rfl, trivial⟩⟩
theorem byR (B : Nat) (hB : B ≤ 0) (l : List UInt8) : Sx.GoesB Try.prog (Sx.nav [1,0,0] (Sx.bodyOf Try.f62)) Try.f62.ntmps B 0 0 (Sx.frL [(0, .str true l)]) (Sx.hpL []) fun e fr' H' => (e = Sx.Ex.normal ∧ fr' = Sx.frL [(0, Sx.AV.str true l), (3, Sx.AV.int false IntKind.i64 (0 : Int))] ∧ H' = Sx.hpL []) := by
 exact (Sx.GoesB.runN call0_ok (call0_reg _) (Sx.LoopsIn.none _ _ _) (byR_r0 l) hB).mono fun e fr' H' h => h
theorem byB_r0 (l : List UInt8) (i : Nat) (c0 : decide ((↑i : Int) < (↑(List.length l) : Int)) = true) (c1 : (0 : Int) ≤ (↑i : Int)) (c2 : (↑i : Int) < (↑(List.length l) : Int)) (c3 : decide ((97 : Int) ≤ (↑(UInt8.toNat (List.getD l (Int.toNat (↑i : Int)) (0 : UInt8))) : Int)) = true) (c4 : decide ((↑(UInt8.toNat (List.getD l (Int.toNat (↑i : Int)) (0 : UInt8))) : Int) ≤ (122 : Int)) = true) (c5 : (-9223372036854775808 : Int) ≤ (↑i : Int) + (1 : Int)) (c6 : (↑i : Int) + (1 : Int) ≤ (9223372036854775807 : Int)) : Sx.PieceN 0 (Sx.Ex.normal) [(0, Sx.AV.str true l), (3, Sx.AV.int true IntKind.i64 ((↑i : Int) + (1 : Int)))] [] (piececall0 Try.f62 (Sx.nav [1,0,1,0,0] (Sx.bodyOf Try.f62)) (Sx.frL [(0, .str true l), (3, .int true .i64 i)]) (Sx.hpL []) 0 [true, true, true]) := by
 have e : Sx.pieceN 0 (Sx.Ex.normal) [(0, Sx.AV.str true l), (3, Sx.AV.int true IntKind.i64 ((↑i : Int) + (1 : Int)))] [] (piececall0 Try.f62 (Sx.nav [1,0,1,0,0] (Sx.bodyOf Try.f62)) (Sx.frL [(0, .str true l), (3, .int true .i64 i)]) (Sx.hpL []) 0 [true, true, true]) = ((Sx.Ex.normal) = (Sx.Ex.normal) ∧ (some (Sx.AV.str true l) = some (Sx.AV.str true l) ∧ (some (Sx.AV.int true IntKind.i64 ((↑i : Int) + (1 : Int))) = some (Sx.AV.int true IntKind.i64 ((↑i : Int) + (1 : Int))) ∧ True)) ∧ True ∧ true = true ∧ (((((True ∧ (decide ((↑i : Int) < (↑(List.length l) : Int)) = true)) ∧ (((0 : Int) ≤ (↑i : Int)) ∧ ((↑i : Int) < (↑(List.length l) : Int)))) ∧ (decide ((97 : Int) ≤ (↑(UInt8.toNat (List.getD l (Int.toNat (↑i : Int)) (0 : UInt8))) : Int)) = true)) ∧ (decide ((↑(UInt8.toNat (List.getD l (Int.toNat (↑i : Int)) (0 : UInt8))) : Int) ≤ (122 : Int)) = true)) ∧ (((-9223372036854775808 : Int) ≤ (↑i : Int) + (1 : Int)) ∧ ((↑i : Int) + (1 : Int) ≤ (9223372036854775807 : Int))))) := by kernel_rfl
 exact ⟨by rw [e]; exact ⟨rfl, ⟨rfl, ⟨rfl, trivial⟩⟩, trivial, rfl, ⟨⟨⟨⟨⟨trivial, c0⟩, ⟨c1, c2⟩⟩, c3⟩, c4⟩, ⟨c5, c6⟩⟩⟩⟩
theorem byB_r1 (l : List UInt8) (i : Nat) (c0 : decide ((↑i : Int) < (↑(List.length l) : Int)) = true) (c1 : (0 : Int) ≤ (↑i : Int)) (c2 : (↑i : Int) < (↑(List.length l) : Int)) (c3 : decide ((97 : Int) ≤ (↑(UInt8.toNat (List.getD l (Int.toNat (↑i : Int)) (0 : UInt8))) : Int)) = true) (c4 : decide ((↑(UInt8.toNat (List.getD l (Int.toNat (↑i : Int)) (0 : UInt8))) : Int) ≤ (122 : Int)) = false) (c5 : decide ((48 : Int) ≤ (↑(UInt8.toNat (List.getD l (Int.toNat (↑i : Int)) (0 : UInt8))) : Int)) = true) (c6 : decide ((↑(UInt8.toNat (List.getD l (Int.toNat (↑i : Int)) (0 : UInt8))) : Int) ≤ (57 : Int)) = true) (c7 : (-9223372036854775808 : Int) ≤ (↑i : Int) + (1 : Int)) (c8 : (↑i : Int) + (1 : Int) ≤ (9223372036854775807 : Int)) : Sx.PieceN 0 (Sx.Ex.normal) [(0, Sx.AV.str true l), (3, Sx.AV.int true IntKind.i64 ((↑i : Int) + (1 : Int)))] [] (piececall0 Try.f62 (Sx.nav [1,0,1,0,0] (Sx.bodyOf Try.f62)) (Sx.frL [(0, .str true l), (3, .int true .i64 i)]) (Sx.hpL []) 0 [true, true, false, true, true]) := by
 have e : Sx.pieceN 0 (Sx.Ex.normal) [(0, Sx.AV.str true l), (3, Sx.AV.int true IntKind.i64 ((↑i : Int) + (1 : Int)))] [] (piececall0 Try.f62 (Sx.nav [1,0,1,0,0] (Sx.bodyOf Try.f62)) (Sx.frL [(0, .str true l), (3, .int true .i64 i)]) (Sx.hpL []) 0 [true, true, false, true, true]) = ((Sx.Ex.normal) = (Sx.Ex.normal) ∧ (some (Sx.AV.str true l) = some (Sx.AV.str true l) ∧ (some (Sx.AV.int true IntKind.i64 ((↑i : Int) + (1 : Int))) = some (Sx.AV.int true IntKind.i64 ((↑i : Int) + (1 : Int))) ∧ True)) ∧ True ∧ true = true ∧ (((((((True ∧ (decide ((↑i : Int) < (↑(List.length l) : Int)) = true)) ∧ (((0 : Int) ≤ (↑i : Int)) ∧ ((↑i : Int) < (↑(List.length l) : Int)))) ∧ (decide ((97 : Int) ≤ (↑(UInt8.toNat (List.getD l (Int.toNat (↑i : Int)) (0 : UInt8))) : Int)) = true)) ∧ (decide ((↑(UInt8.toNat (List.getD l (Int.toNat (↑i : Int)) (0 : UInt8))) : Int) ≤ (122 : Int)) = false)) ∧ (decide ((48 : Int) ≤ (↑(UInt8.toNat (List.getD l (Int.toNat (↑i : Int)) (0 : UInt8))) : Int)) = true)) ∧ (decide ((↑(UInt8.toNat (List.getD l (Int.toNat (↑i : Int)) (0 : UInt8))) : Int) ≤ (57 : Int)) = true)) ∧ (((-9223372036854775808 : Int) ≤ (↑i : Int) + (1 : Int)) ∧ ((↑i : Int) + (1 : Int) ≤ (9223372036854775807 : Int))))) := by kernel_rfl
 exact ⟨by rw [e]; exact ⟨rfl, ⟨rfl, ⟨rfl, trivial⟩⟩, trivial, rfl, ⟨⟨⟨⟨⟨⟨⟨trivial, c0⟩, ⟨c1, c2⟩⟩, c3⟩, c4⟩, c5⟩, c6⟩, ⟨c7, c8⟩⟩⟩⟩
theorem byB_r2 (l : List UInt8) (i : Nat) (c0 : decide ((↑i : Int) < (↑(List.length l) : Int)) = true) (c1 : (0 : Int) ≤ (↑i : Int)) (c2 : (↑i : Int) < (↑(List.length l) : Int)) (c3 : decide ((97 : Int) ≤ (↑(UInt8.toNat (List.getD l (Int.toNat (↑i : Int)) (0 : UInt8))) : Int)) = true) (c4 : decide ((↑(UInt8.toNat (List.getD l (Int.toNat (↑i : Int)) (0 : UInt8))) : Int) ≤ (122 : Int)) = false) (c5 : decide ((48 : Int) ≤ (↑(UInt8.toNat (List.getD l (Int.toNat (↑i : Int)) (0 : UInt8))) : Int)) = true) (c6 : decide ((↑(UInt8.toNat (List.getD l (Int.toNat (↑i : Int)) (0 : UInt8))) : Int) ≤ (57 : Int)) = false) (c7 : (!decide ((↑(UInt8.toNat (List.getD l (Int.toNat (↑i : Int)) (0 : UInt8))) : Int) = (95 : Int))) = false) (c8 : (-9223372036854775808 : Int) ≤ (↑i : Int) + (1 : Int)) (c9 : (↑i : Int) + (1 : Int) ≤ (9223372036854775807 : Int)) : Sx.PieceN 0 (Sx.Ex.normal) [(0, Sx.AV.str true l), (3, Sx.AV.int true IntKind.i64 ((↑i : Int) + (1 : Int)))] [] (piececall0 Try.f62 (Sx.nav [1,0,1,0,0] (Sx.bodyOf Try.f62)) (Sx.frL [(0, .str true l), (3, .int true .i64 i)]) (Sx.hpL []) 0 [true, true, false, true, false, false]) := by
 have e : Sx.pieceN 0 (Sx.Ex.normal) [(0, Sx.AV.str true l), (3, Sx.AV.int true IntKind.i64 ((↑i : Int) + (1 : Int)))] [] (piececall0 Try.f62 (Sx.nav [1,0,1,0,0] (Sx.bodyOf Try.f62)) (Sx.frL [(0, .str true l), (3, .int true .i64 i)]) (Sx.hpL []) 0 [true, true, false, true, false, false]) = ((Sx.Ex.normal) = (Sx.Ex.normal) ∧ (some (Sx.AV.str true l) = some (Sx.AV.str true l) ∧ (some (Sx.AV.int true IntKind.i64 ((↑i : Int) + (1 : Int))) = some (Sx.AV.int true IntKind.i64 ((↑i : Int) + (1 : Int))) ∧ True)) ∧ True ∧ true = true ∧ ((((((((True ∧ (decide ((↑i : Int) < (↑(List.length l) : Int)) = true)) ∧ (((0 : Int) ≤ (↑i : Int)) ∧ ((↑i : Int) < (↑(List.length l) : Int)))) ∧ (decide ((97 : Int) ≤ (↑(UInt8.toNat (List.getD l (Int.toNat (↑i : Int)) (0 : UInt8))) : Int)) = true)) ∧ (decide ((↑(UInt8.toNat (List.getD l (Int.toNat (↑i : Int)) (0 : UInt8))) : Int) ≤ (122 : Int)) = false)) ∧ (decide ((48 : Int) ≤ (↑(UInt8.toNat (List.getD l (Int.toNat (↑i : Int)) (0 : UInt8))) : Int)) = true)) ∧ (decide ((↑(UInt8.toNat (List.getD l (Int.toNat (↑i : Int)) (0 : UInt8))) : Int) ≤ (57 : Int)) = false)) ∧ ((!decide ((↑(UInt8.toNat (List.getD l (Int.toNat (↑i : Int)) (0 : UInt8))) : Int) = (95 : Int))) = false)) ∧ (((-9223372036854775808 : Int) ≤ (↑i : Int) + (1 : Int)) ∧ ((↑i : Int) + (1 : Int) ≤ (9223372036854775807 : Int))))) := by kernel_rfl
 exact ⟨by rw [e]; exact ⟨rfl, ⟨rfl, ⟨rfl, trivial⟩⟩, trivial, rfl, ⟨⟨⟨⟨⟨⟨⟨⟨trivial, c0⟩, ⟨c1, c2⟩⟩, c3⟩, c4⟩, c5⟩, c6⟩, c7⟩, ⟨c8, c9⟩⟩⟩⟩
theorem byB_r3 (l : List UInt8) (i : Nat) (c0 : decide ((↑i : Int) < (↑(List.length l) : Int)) = true) (c1 : (0 : Int) ≤ (↑i : Int)) (c2 : (↑i : Int) < (↑(List.length l) : Int)) (c3 : decide ((97 : Int) ≤ (↑(UInt8.toNat (List.getD l (Int.toNat (↑i : Int)) (0 : UInt8))) : Int)) = true) (c4 : decide ((↑(UInt8.toNat (List.getD l (Int.toNat (↑i : Int)) (0 : UInt8))) : Int) ≤ (122 : Int)) = false) (c5 : decide ((48 : Int) ≤ (↑(UInt8.toNat (List.getD l (Int.toNat (↑i : Int)) (0 : UInt8))) : Int)) = true) (c6 : decide ((↑(UInt8.toNat (List.getD l (Int.toNat (↑i : Int)) (0 : UInt8))) : Int) ≤ (57 : Int)) = false) (c7 : (!decide ((↑(UInt8.toNat (List.getD l (Int.toNat (↑i : Int)) (0 : UInt8))) : Int) = (95 : Int))) = true) : Sx.PieceN 0 (Sx.Ex.ret) [(0, Sx.AV.str true l), (2, Sx.AV.bool false), (3, Sx.AV.int true IntKind.i64 (↑i : Int))] [] (piececall0 Try.f62 (Sx.nav [1,0,1,0,0] (Sx.bodyOf Try.f62)) (Sx.frL [(0, .str true l), (3, .int true .i64 i)]) (Sx.hpL []) 0 [true, true, false, true, false, true]) := by
 have e : Sx.pieceN 0 (Sx.Ex.ret) [(0, Sx.AV.str true l), (2, Sx.AV.bool false), (3, Sx.AV.int true IntKind.i64 (↑i : Int))] [] (piececall0 Try.f62 (Sx.nav [1,0,1,0,0] (Sx.bodyOf Try.f62)) (Sx.frL [(0, .str true l), (3, .int true .i64 i)]) (Sx.hpL []) 0 [true, true, false, true, false, true]) = ((Sx.Ex.ret) = (Sx.Ex.ret) ∧ (some (Sx.AV.str true l) = some (Sx.AV.str true l) ∧ (some (Sx.AV.bool false) = some (Sx.AV.bool false) ∧ (some (Sx.AV.int true IntKind.i64 (↑i : Int)) = some (Sx.AV.int true IntKind.i64 (↑i : Int)) ∧ True))) ∧ True ∧ true = true ∧ (((((((True ∧ (decide ((↑i : Int) < (↑(List.length l) : Int)) = true)) ∧ (((0 : Int) ≤ (↑i : Int)) ∧ ((↑i : Int) < (↑(List.length l) : Int)))) ∧ (decide ((97 : Int) ≤ (↑(UInt8.toNat (List.getD l (Int.toNat (↑i : Int)) (0 : UInt8))) : Int)) = true)) ∧ (decide ((↑(UInt8.toNat (List.getD l (Int.toNat (↑i : Int)) (0 : UInt8))) : Int) ≤ (122 : Int)) = false)) ∧ (decide ((48 : Int) ≤ (↑(UInt8.toNat (List.getD l (Int.toNat (↑i : Int)) (0 : UInt8))) : Int)) = true)) ∧ (decide ((↑(UInt8.toNat (List.getD l (Int.toNat (↑i : Int)) (0 : UInt8))) : Int) ≤ (57 : Int)) = false)) ∧ ((!decide ((↑(UInt8.toNat (List.getD l (Int.toNat (↑i : Int)) (0 : UInt8))) : Int) = (95 : Int))) = true))) := by kernel_rfl
 exact ⟨by rw [e]; exact ⟨rfl, ⟨rfl, ⟨rfl, ⟨rfl, trivial⟩⟩⟩, trivial, rfl, ⟨⟨⟨⟨⟨⟨⟨trivial, c0⟩, ⟨c1, c2⟩⟩, c3⟩, c4⟩, c5⟩, c6⟩, c7⟩⟩⟩
theorem byB_r4 (l : List UInt8) (i : Nat) (c0 : decide ((↑i : Int) < (↑(List.length l) : Int)) = true) (c1 : (0 : Int) ≤ (↑i : Int)) (c2 : (↑i : Int) < (↑(List.length l) : Int)) (c3 : decide ((97 : Int) ≤ (↑(UInt8.toNat (List.getD l (Int.toNat (↑i : Int)) (0 : UInt8))) : Int)) = true) (c4 : decide ((↑(UInt8.toNat (List.getD l (Int.toNat (↑i : Int)) (0 : UInt8))) : Int) ≤ (122 : Int)) = false) (c5 : decide ((48 : Int) ≤ (↑(UInt8.toNat (List.getD l (Int.toNat (↑i : Int)) (0 : UInt8))) : Int)) = false) (c6 : (!decide ((↑(UInt8.toNat (List.getD l (Int.toNat (↑i : Int)) (0 : UInt8))) : Int) = (95 : Int))) = false) (c7 : (-9223372036854775808 : Int) ≤ (↑i : Int) + (1 : Int)) (c8 : (↑i : Int) + (1 : Int) ≤ (9223372036854775807 : Int)) : Sx.PieceN 0 (Sx.Ex.normal) [(0, Sx.AV.str true l), (3, Sx.AV.int true IntKind.i64 ((↑i : Int) + (1 : Int)))] [] (piececall0 Try.f62 (Sx.nav [1,0,1,0,0] (Sx.bodyOf Try.f62)) (Sx.frL [(0, .str true l), (3, .int true .i64 i)]) (Sx.hpL []) 0 [true, true, false, false, false]) := by
 have e : Sx.pieceN 0 (Sx.Ex.normal) [(0, Sx.AV.str true l), (3, Sx.AV.int true IntKind.i64 ((↑i : Int) + (1 : Int)))] [] (piececall0 Try.f62 (Sx.nav [1,0,1,0,0] (Sx.bodyOf Try.f62)) (Sx.frL [(0, .str true l), (3, .int true .i64 i)]) (Sx.hpL []) 0 [true, true, false, false, false]) = ((Sx.Ex.normal) = (Sx.Ex.normal) ∧ (some (Sx.AV.str true l) = some (Sx.AV.str true l) ∧ (some (Sx.AV.int true IntKind.i64 ((↑i : Int) + (1 : Int))) = some (Sx.AV.int true IntKind.i64 ((↑i : Int) + (1 : Int))) ∧ True)) ∧ True ∧ true = true ∧ (((((((True ∧ (decide ((↑i : Int) < (↑(List.length l) : Int)) = true)) ∧ (((0 : Int) ≤ (↑i : Int)) ∧ ((↑i : Int) < (↑(List.length l) : Int)))) ∧ (decide ((97 : Int) ≤ (↑(UInt8.toNat (List.getD l (Int.toNat (↑i : Int)) (0 : UInt8))) : Int)) = true)) ∧ (decide ((↑(UInt8.toNat (List.getD l (Int.toNat (↑i : Int)) (0 : UInt8))) : Int) ≤ (122 : Int)) = false)) ∧ (decide ((48 : Int) ≤ (↑(UInt8.toNat (List.getD l (Int.toNat (↑i : Int)) (0 : UInt8))) : Int)) = false)) ∧ ((!decide ((↑(UInt8.toNat (List.getD l (Int.toNat (↑i : Int)) (0 : UInt8))) : Int) = (95 : Int))) = false)) ∧ (((-9223372036854775808 : Int) ≤ (↑i : Int) + (1 : Int)) ∧ ((↑i : Int) + (1 : Int) ≤ (9223372036854775807 : Int))))) := by kernel_rfl
 exact ⟨by rw [e]; exact ⟨rfl, ⟨rfl, ⟨rfl, trivial⟩⟩, trivial, rfl, ⟨⟨⟨⟨⟨⟨⟨trivial, c0⟩, ⟨c1, c2⟩⟩, c3⟩, c4⟩, c5⟩, c6⟩, ⟨c7, c8⟩⟩⟩⟩
theorem byB_r5 (l : List UInt8) (i : Nat) (c0 : decide ((↑i : Int) < (↑(List.length l) : Int)) = true) (c1 : (0 : Int) ≤ (↑i : Int)) (c2 : (↑i : Int) < (↑(List.length l) : Int)) (c3 : decide ((97 : Int) ≤ (↑(UInt8.toNat (List.getD l (Int.toNat (↑i : Int)) (0 : UInt8))) : Int)) = true) (c4 : decide ((↑(UInt8.toNat (List.getD l (Int.toNat (↑i : Int)) (0 : UInt8))) : Int) ≤ (122 : Int)) = false) (c5 : decide ((48 : Int) ≤ (↑(UInt8.toNat (List.getD l (Int.toNat (↑i : Int)) (0 : UInt8))) : Int)) = false) (c6 : (!decide ((↑(UInt8.toNat (List.getD l (Int.toNat (↑i : Int)) (0 : UInt8))) : Int) = (95 : Int))) = true) : Sx.PieceN 0 (Sx.Ex.ret) [(0, Sx.AV.str true l), (2, Sx.AV.bool false), (3, Sx.AV.int true IntKind.i64 (↑i : Int))] [] (piececall0 Try.f62 (Sx.nav [1,0,1,0,0] (Sx.bodyOf Try.f62)) (Sx.frL [(0, .str true l), (3, .int true .i64 i)]) (Sx.hpL []) 0 [true, true, false, false, true]) := by
 have e : Sx.pieceN 0 (Sx.Ex.ret) [(0, Sx.AV.str true l), (2, Sx.AV.bool false), (3, Sx.AV.int true IntKind.i64 (↑i : Int))] [] (piececall0 Try.f62 (Sx.nav [1,0,1,0,0] (Sx.bodyOf Try.f62)) (Sx.frL [(0, .str true l), (3, .int true .i64 i)]) (Sx.hpL []) 0 [true, true, false, false, true]) = ((Sx.Ex.ret) = (Sx.Ex.ret) ∧ (some (Sx.AV.str true l) = some (Sx.AV.str true l) ∧ (some (Sx.AV.bool false) = some (Sx.AV.bool false) ∧ (some (Sx.AV.int true IntKind.i64 (↑i : Int)) = some (Sx.AV.int true IntKind.i64 (↑i : Int)) ∧ True))) ∧ True ∧ true = true ∧ ((((((True ∧ (decide ((↑i : Int) < (↑(List.length l) : Int)) = true)) ∧ (((0 : Int) ≤ (↑i : Int)) ∧ ((↑i : Int) < (↑(List.length l) : Int)))) ∧ (decide ((97 : Int) ≤ (↑(UInt8.toNat (List.getD l (Int.toNat (↑i : Int)) (0 : UInt8))) : Int)) = true)) ∧ (decide ((↑(UInt8.toNat (List.getD l (Int.toNat (↑i : Int)) (0 : UInt8))) : Int) ≤ (122 : Int)) = false)) ∧ (decide ((48 : Int) ≤ (↑(UInt8.toNat (List.getD l (Int.toNat (↑i : Int)) (0 : UInt8))) : Int)) = false)) ∧ ((!decide ((↑(UInt8.toNat (List.getD l (Int.toNat (↑i : Int)) (0 : UInt8))) : Int) = (95 : Int))) = true))) := by kernel_rfl
 exact ⟨by rw [e]; exact ⟨rfl, ⟨rfl, ⟨rfl, ⟨rfl, trivial⟩⟩⟩, trivial, rfl, ⟨⟨⟨⟨⟨⟨trivial, c0⟩, ⟨c1, c2⟩⟩, c3⟩, c4⟩, c5⟩, c6⟩⟩⟩
theorem byB_r6 (l : List UInt8) (i : Nat) (c0 : decide ((↑i : Int) < (↑(List.length l) : Int)) = true) (c1 : (0 : Int) ≤ (↑i : Int)) (c2 : (↑i : Int) < (↑(List.length l) : Int)) (c3 : decide ((97 : Int) ≤ (↑(UInt8.toNat (List.getD l (Int.toNat (↑i : Int)) (0 : UInt8))) : Int)) = false) (c4 : decide ((48 : Int) ≤ (↑(UInt8.toNat (List.getD l (Int.toNat (↑i : Int)) (0 : UInt8))) : Int)) = true) (c5 : decide ((↑(UInt8.toNat (List.getD l (Int.toNat (↑i : Int)) (0 : UInt8))) : Int) ≤ (57 : Int)) = true) (c6 : (-9223372036854775808 : Int) ≤ (↑i : Int) + (1 : Int)) (c7 : (↑i : Int) + (1 : Int) ≤ (9223372036854775807 : Int)) : Sx.PieceN 0 (Sx.Ex.normal) [(0, Sx.AV.str true l), (3, Sx.AV.int true IntKind.i64 ((↑i : Int) + (1 : Int)))] [] (piececall0 Try.f62 (Sx.nav [1,0,1,0,0] (Sx.bodyOf Try.f62)) (Sx.frL [(0, .str true l), (3, .int true .i64 i)]) (Sx.hpL []) 0 [true, false, true, true]) := by
 have e : Sx.pieceN 0 (Sx.Ex.normal) [(0, Sx.AV.str true l), (3, Sx.AV.int true IntKind.i64 ((↑i : Int) + (1 : Int)))] [] (piececall0 Try.f62 (Sx.nav [1,0,1,0,0] (Sx.bodyOf Try.f62)) (Sx.frL [(0, .str true l), (3, .int true .i64 i)]) (Sx.hpL []) 0 [true, false, true, true]) = ((Sx.Ex.normal) = (Sx.Ex.normal) ∧ (some (Sx.AV.str true l) = some (Sx.AV.str true l) ∧ (some (Sx.AV.int true IntKind.i64 ((↑i : Int) + (1 : Int))) = some (Sx.AV.int true IntKind.i64 ((↑i : Int) + (1 : Int))) ∧ True)) ∧ True ∧ true = true ∧ ((((((True ∧ (decide ((↑i : Int) < (↑(List.length l) : Int)) = true)) ∧ (((0 : Int) ≤ (↑i : Int)) ∧ ((↑i : Int) < (↑(List.length l) : Int)))) ∧ (decide ((97 : Int) ≤ (↑(UInt8.toNat (List.getD l (Int.toNat (↑i : Int)) (0 : UInt8))) : Int)) = false)) ∧ (decide ((48 : Int) ≤ (↑(UInt8.toNat (List.getD l (Int.toNat (↑i : Int)) (0 : UInt8))) : Int)) = true)) ∧ (decide ((↑(UInt8.toNat (List.getD l (Int.toNat (↑i : Int)) (0 : UInt8))) : Int) ≤ (57 : Int)) = true)) ∧ (((-9223372036854775808 : Int) ≤ (↑i : Int) + (1 : Int)) ∧ ((↑i : Int) + (1 : Int) ≤ (9223372036854775807 : Int))))) := by kernel_rfl
 exact ⟨by rw [e]; exact ⟨rfl, ⟨rfl, ⟨rfl, trivial⟩⟩, trivial, rfl, ⟨⟨⟨⟨⟨⟨trivial, c0⟩, ⟨c1, c2⟩⟩, c3⟩, c4⟩, c5⟩, ⟨c6, c7⟩⟩⟩⟩
theorem byB_r7 (l : List UInt8) (i : Nat) (c0 : decide ((↑i : Int) < (↑(List.length l) : Int)) = true) (c1 : (0 : Int) ≤ (↑i : Int)) (c2 : (↑i : Int) < (↑(List.length l) : Int)) (c3 : decide ((97 : Int) ≤ (↑(UInt8.toNat (List.getD l (Int.toNat (↑i : Int)) (0 : UInt8))) : Int)) = false) (c4 : decide ((48 : Int) ≤ (↑(UInt8.toNat (List.getD l (Int.toNat (↑i : Int)) (0 : UInt8))) : Int)) = true) (c5 : decide ((↑(UInt8.toNat (List.getD l (Int.toNat (↑i : Int)) (0 : UInt8))) : Int) ≤ (57 : Int)) = false) (c6 : (!decide ((↑(UInt8.toNat (List.getD l (Int.toNat (↑i : Int)) (0 : UInt8))) : Int) = (95 : Int))) = false) (c7 : (-9223372036854775808 : Int) ≤ (↑i : Int) + (1 : Int)) (c8 : (↑i : Int) + (1 : Int) ≤ (9223372036854775807 : Int)) : Sx.PieceN 0 (Sx.Ex.normal) [(0, Sx.AV.str true l), (3, Sx.AV.int true IntKind.i64 ((↑i : Int) + (1 : Int)))] [] (piececall0 Try.f62 (Sx.nav [1,0,1,0,0] (Sx.bodyOf Try.f62)) (Sx.frL [(0, .str true l), (3, .int true .i64 i)]) (Sx.hpL []) 0 [true, false, true, false, false]) := by
 have e : Sx.pieceN 0 (Sx.Ex.normal) [(0, Sx.AV.str true l), (3, Sx.AV.int true IntKind.i64 ((↑i : Int) + (1 : Int)))] [] (piececall0 Try.f62 (Sx.nav [1,0,1,0,0] (Sx.bodyOf Try.f62)) (Sx.frL [(0, .str true l), (3, .int true .i64 i)]) (Sx.hpL []) 0 [true, false, true, false, false]) = ((Sx.Ex.normal) = (Sx.Ex.normal) ∧ (some (Sx.AV.str true l) = some (Sx.AV.str true l) ∧ (some (Sx.AV.int true IntKind.i64 ((↑i : Int) + (1 : Int))) = some (Sx.AV.int true IntKind.i64 ((↑i : Int) + (1 : Int))) ∧ True)) ∧ True ∧ true = true ∧ (((((((True ∧ (decide ((↑i : Int) < (↑(List.length l) : Int)) = true)) ∧ (((0 : Int) ≤ (↑i : Int)) ∧ ((↑i : Int) < (↑(List.length l) : Int)))) ∧ (decide ((97 : Int) ≤ (↑(UInt8.toNat (List.getD l (Int.toNat (↑i : Int)) (0 : UInt8))) : Int)) = false)) ∧ (decide ((48 : Int) ≤ (↑(UInt8.toNat (List.getD l (Int.toNat (↑i : Int)) (0 : UInt8))) : Int)) = true)) ∧ (decide ((↑(UInt8.toNat (List.getD l (Int.toNat (↑i : Int)) (0 : UInt8))) : Int) ≤ (57 : Int)) = false)) ∧ ((!decide ((↑(UInt8.toNat (List.getD l (Int.toNat (↑i : Int)) (0 : UInt8))) : Int) = (95 : Int))) = false)) ∧ (((-9223372036854775808 : Int) ≤ (↑i : Int) + (1 : Int)) ∧ ((↑i : Int) + (1 : Int) ≤ (9223372036854775807 : Int))))) := by kernel_rfl
 exact ⟨by rw [e]; exact ⟨rfl, ⟨rfl, ⟨rfl, trivial⟩⟩, trivial, rfl, ⟨⟨⟨⟨⟨⟨⟨trivial, c0⟩, ⟨c1, c2⟩⟩, c3⟩, c4⟩, c5⟩, c6⟩, ⟨c7, c8⟩⟩⟩⟩
theorem byB_r8 (l : List UInt8) (i : Nat) (c0 : decide ((↑i : Int) < (↑(List.length l) : Int)) = true) (c1 : (0 : Int) ≤ (↑i : Int)) (c2 : (↑i : Int) < (↑(List.length l) : Int)) (c3 : decide ((97 : Int) ≤ (↑(UInt8.toNat (List.getD l (Int.toNat (↑i : Int)) (0 : UInt8))) : Int)) = false) (c4 : decide ((48 : Int) ≤ (↑(UInt8.toNat (List.getD l (Int.toNat (↑i : Int)) (0 : UInt8))) : Int)) = true) (c5 : decide ((↑(UInt8.toNat (List.getD l (Int.toNat (↑i : Int)) (0 : UInt8))) : Int) ≤ (57 : Int)) = false) (c6 : (!decide ((↑(UInt8.toNat (List.getD l (Int.toNat (↑i : Int)) (0 : UInt8))) : Int) = (95 : Int))) = true) : Sx.PieceN 0 (Sx.Ex.ret) [(0, Sx.AV.str true l), (2, Sx.AV.bool false), (3, Sx.AV.int true IntKind.i64 (↑i : Int))] [] (piececall0 Try.f62 (Sx.nav [1,0,1,0,0] (Sx.bodyOf Try.f62)) (Sx.frL [(0, .str true l), (3, .int true .i64 i)]) (Sx.hpL []) 0 [true, false, true, false, true]) := by
 have e : Sx.pieceN 0 (Sx.Ex.ret) [(0, Sx.AV.str true l), (2, Sx.AV.bool false), (3, Sx.AV.int true IntKind.i64 (↑i : Int))] [] (piececall0 Try.f62 (Sx.nav [1,0,1,0,0] (Sx.bodyOf Try.f62)) (Sx.frL [(0, .str true l), (3, .int true .i64 i)]) (Sx.hpL []) 0 [true, false, true, false, true]) = ((Sx.Ex.ret) = (Sx.Ex.ret) ∧ (some (Sx.AV.str true l) = some (Sx.AV.str true l) ∧ (some (Sx.AV.bool false) = some (Sx.AV.bool false) ∧ (some (Sx.AV.int true IntKind.i64 (↑i : Int)) = some (Sx.AV.int true IntKind.i64 (↑i : Int)) ∧ True))) ∧ True ∧ true = true ∧ ((((((True ∧ (decide ((↑i : Int) < (↑(List.length l) : Int)) = true)) ∧ (((0 : Int) ≤ (↑i : Int)) ∧ ((↑i : Int) < (↑(List.length l) : Int)))) ∧ (decide ((97 : Int) ≤ (↑(UInt8.toNat (List.getD l (Int.toNat (↑i : Int)) (0 : UInt8))) : Int)) = false)) ∧ (decide ((48 : Int) ≤ (↑(UInt8.toNat (List.getD l (Int.toNat (↑i : Int)) (0 : UInt8))) : Int)) = true)) ∧ (decide ((↑(UInt8.toNat (List.getD l (Int.toNat (↑i : Int)) (0 : UInt8))) : Int) ≤ (57 : Int)) = false)) ∧ ((!decide ((↑(UInt8.toNat (List.getD l (Int.toNat (↑i : Int)) (0 : UInt8))) : Int) = (95 : Int))) = true))) := by kernel_rfl
 exact ⟨by rw [e]; exact ⟨rfl, ⟨rfl, ⟨rfl, ⟨rfl, trivial⟩⟩⟩, trivial, rfl, ⟨⟨⟨⟨⟨⟨trivial, c0⟩, ⟨c1, c2⟩⟩, c3⟩, c4⟩, c5⟩, c6⟩⟩⟩
theorem byB_r9 (l : List UInt8) (i : Nat) (c0 : decide ((↑i : Int) < (↑(List.length l) : Int)) = true) (c1 : (0 : Int) ≤ (↑i : Int)) (c2 : (↑i : Int) < (↑(List.length l) : Int)) (c3 : decide ((97 : Int) ≤ (↑(UInt8.toNat (List.getD l (Int.toNat (↑i : Int)) (0 : UInt8))) : Int)) = false) (c4 : decide ((48 : Int) ≤ (↑(UInt8.toNat (List.getD l (Int.toNat (↑i : Int)) (0 : UInt8))) : Int)) = false) (c5 : (!decide ((↑(UInt8.toNat (List.getD l (Int.toNat (↑i : Int)) (0 : UInt8))) : Int) = (95 : Int))) = false) (c6 : (-9223372036854775808 : Int) ≤ (↑i : Int) + (1 : Int)) (c7 : (↑i : Int) + (1 : Int) ≤ (9223372036854775807 : Int)) : Sx.PieceN 0 (Sx.Ex.normal) [(0, Sx.AV.str true l), (3, Sx.AV.int true IntKind.i64 ((↑i : Int) + (1 : Int)))] [] (piececall0 Try.f62 (Sx.nav [1,0,1,0,0] (Sx.bodyOf Try.f62)) (Sx.frL [(0, .str true l), (3, .int true .i64 i)]) (Sx.hpL []) 0 [true, false, false, false]) := by
 have e : Sx.pieceN 0 (Sx.Ex.normal) [(0, Sx.AV.str true l), (3, Sx.AV.int true IntKind.i64 ((↑i : Int) + (1 : Int)))] [] (piececall0 Try.f62 (Sx.nav [1,0,1,0,0] (Sx.bodyOf Try.f62)) (Sx.frL [(0, .str true l), (3, .int true .i64 i)]) (Sx.hpL []) 0 [true, false, false, false]) = ((Sx.Ex.normal) = (Sx.Ex.normal) ∧ (some (Sx.AV.str true l) = some (Sx.AV.str true l) ∧ (some (Sx.AV.int true IntKind.i64 ((↑i : Int) + (1 : Int))) = some (Sx.AV.int true IntKind.i64 ((↑i : Int) + (1 : Int))) ∧ True)) ∧ True ∧ true = true ∧ ((((((True ∧ (decide ((↑i : Int) < (↑(List.length l) : Int)) = true)) ∧ (((0 : Int) ≤ (↑i : Int)) ∧ ((↑i : Int) < (↑(List.length l) : Int)))) ∧ (decide ((97 : Int) ≤ (↑(UInt8.toNat (List.getD l (Int.toNat (↑i : Int)) (0 : UInt8))) : Int)) = false)) ∧ (decide ((48 : Int) ≤ (↑(UInt8.toNat (List.getD l (Int.toNat (↑i : Int)) (0 : UInt8))) : Int)) = false)) ∧ ((!decide ((↑(UInt8.toNat (List.getD l (Int.toNat (↑i : Int)) (0 : UInt8))) : Int) = (95 : Int))) = false)) ∧ (((-9223372036854775808 : Int) ≤ (↑i : Int) + (1 : Int)) ∧ ((↑i : Int) + (1 : Int) ≤ (9223372036854775807 : Int))))) := by kernel_rfl
 exact ⟨by rw [e]; exact ⟨rfl, ⟨rfl, ⟨rfl, trivial⟩⟩, trivial, rfl, ⟨⟨⟨⟨⟨⟨trivial, c0⟩, ⟨c1, c2⟩⟩, c3⟩, c4⟩, c5⟩, ⟨c6, c7⟩⟩⟩⟩
theorem byB_r10 (l : List UInt8) (i : Nat) (c0 : decide ((↑i : Int) < (↑(List.length l) : Int)) = true) (c1 : (0 : Int) ≤ (↑i : Int)) (c2 : (↑i : Int) < (↑(List.length l) : Int)) (c3 : decide ((97 : Int) ≤ (↑(UInt8.toNat (List.getD l (Int.toNat (↑i : Int)) (0 : UInt8))) : Int)) = false) (c4 : decide ((48 : Int) ≤ (↑(UInt8.toNat (List.getD l (Int.toNat (↑i : Int)) (0 : UInt8))) : Int)) = false) (c5 : (!decide ((↑(UInt8.toNat (List.getD l (Int.toNat (↑i : Int)) (0 : UInt8))) : Int) = (95 : Int))) = true) : Sx.PieceN 0 (Sx.Ex.ret) [(0, Sx.AV.str true l), (2, Sx.AV.bool false), (3, Sx.AV.int true IntKind.i64 (↑i : Int))] [] (piececall0 Try.f62 (Sx.nav [1,0,1,0,0] (Sx.bodyOf Try.f62)) (Sx.frL [(0, .str true l), (3, .int true .i64 i)]) (Sx.hpL []) 0 [true, false, false, true]) := by
 have e : Sx.pieceN 0 (Sx.Ex.ret) [(0, Sx.AV.str true l), (2, Sx.AV.bool false), (3, Sx.AV.int true IntKind.i64 (↑i : Int))] [] (piececall0 Try.f62 (Sx.nav [1,0,1,0,0] (Sx.bodyOf Try.f62)) (Sx.frL [(0, .str true l), (3, .int true .i64 i)]) (Sx.hpL []) 0 [true, false, false, true]) = ((Sx.Ex.ret) = (Sx.Ex.ret) ∧ (some (Sx.AV.str true l) = some (Sx.AV.str true l) ∧ (some (Sx.AV.bool false) = some (Sx.AV.bool false) ∧ (some (Sx.AV.int true IntKind.i64 (↑i : Int)) = some (Sx.AV.int true IntKind.i64 (↑i : Int)) ∧ True))) ∧ True ∧ true = true ∧ (((((True ∧ (decide ((↑i : Int) < (↑(List.length l) : Int)) = true)) ∧ (((0 : Int) ≤ (↑i : Int)) ∧ ((↑i : Int) < (↑(List.length l) : Int)))) ∧ (decide ((97 : Int) ≤ (↑(UInt8.toNat (List.getD l (Int.toNat (↑i : Int)) (0 : UInt8))) : Int)) = false)) ∧ (decide ((48 : Int) ≤ (↑(UInt8.toNat (List.getD l (Int.toNat (↑i : Int)) (0 : UInt8))) : Int)) = false)) ∧ ((!decide ((↑(UInt8.toNat (List.getD l (Int.toNat (↑i : Int)) (0 : UInt8))) : Int) = (95 : Int))) = true))) := by kernel_rfl
 exact ⟨by rw [e]; exact ⟨rfl, ⟨rfl, ⟨rfl, ⟨rfl, trivial⟩⟩⟩, trivial, rfl, ⟨⟨⟨⟨⟨trivial, c0⟩, ⟨c1, c2⟩⟩, c3⟩, c4⟩, c5⟩⟩⟩
theorem byB_r11 (l : List UInt8) (i : Nat) (c0 : decide ((↑i : Int) < (↑(List.length l) : Int)) = false) : Sx.PieceN 0 (Sx.Ex.exit (0 : Nat)) [(0, Sx.AV.str true l), (3, Sx.AV.int true IntKind.i64 (↑i : Int))] [] (piececall0 Try.f62 (Sx.nav [1,0,1,0,0] (Sx.bodyOf Try.f62)) (Sx.frL [(0, .str true l), (3, .int true .i64 i)]) (Sx.hpL []) 0 [false]) := by
 have e : Sx.pieceN 0 (Sx.Ex.exit (0 : Nat)) [(0, Sx.AV.str true l), (3, Sx.AV.int true IntKind.i64 (↑i : Int))] [] (piececall0 Try.f62 (Sx.nav [1,0,1,0,0] (Sx.bodyOf Try.f62)) (Sx.frL [(0, .str true l), (3, .int true .i64 i)]) (Sx.hpL []) 0 [false]) = ((Sx.Ex.exit (0 : Nat)) = (Sx.Ex.exit (0 : Nat)) ∧ (some (Sx.AV.str true l) = some (Sx.AV.str true l) ∧ (some (Sx.AV.int true IntKind.i64 (↑i : Int)) = some (Sx.AV.int true IntKind.i64 (↑i : Int)) ∧ True)) ∧ True ∧ true = true ∧ (True ∧ (decide ((↑i : Int) < (↑(List.length l) : Int)) = false))) := by kernel_rfl
 exact ⟨by rw [e]; exact ⟨rfl, ⟨rfl, ⟨rfl, trivial⟩⟩, trivial, rfl, ⟨trivial, c0⟩⟩⟩
theorem byB (B : Nat) (hB : B ≤ 0) (l : List UInt8) (i : Nat) (x0 : ((decide ((↑i : Int) < (↑(List.length l) : Int))) = true → ((↑i : Int) + (1 : Int) ≤ (9223372036854775807 : Int)))) : Sx.GoesB Try.prog (Sx.nav [1,0,1,0,0] (Sx.bodyOf Try.f62)) Try.f62.ntmps B 0 0 (Sx.frL [(0, .str true l), (3, .int true .i64 i)]) (Sx.hpL []) fun e fr' H' => (cond (decide ((↑i : Int) < (↑(List.length l) : Int))) (cond (decide ((97 : Int) ≤ (↑(UInt8.toNat (List.getD l (Int.toNat (↑i : Int)) (0 : UInt8))) : Int))) (cond (decide ((↑(UInt8.toNat (List.getD l (Int.toNat (↑i : Int)) (0 : UInt8))) : Int) ≤ (122 : Int))) (e = Sx.Ex.normal ∧ fr' = Sx.frL [(0, Sx.AV.str true l), (3, Sx.AV.int true IntKind.i64 ((↑i : Int) + (1 : Int)))] ∧ H' = Sx.hpL []) (cond (decide ((48 : Int) ≤ (↑(UInt8.toNat (List.getD l (Int.toNat (↑i : Int)) (0 : UInt8))) : Int))) (cond (decide ((↑(UInt8.toNat (List.getD l (Int.toNat (↑i : Int)) (0 : UInt8))) : Int) ≤ (57 : Int))) (e = Sx.Ex.normal ∧ fr' = Sx.frL [(0, Sx.AV.str true l), (3, Sx.AV.int true IntKind.i64 ((↑i : Int) + (1 : Int)))] ∧ H' = Sx.hpL []) (cond (decide ((↑(UInt8.toNat (List.getD l (Int.toNat (↑i : Int)) (0 : UInt8))) : Int) = (95 : Int))) (e = Sx.Ex.normal ∧ fr' = Sx.frL [(0, Sx.AV.str true l), (3, Sx.AV.int true IntKind.i64 ((↑i : Int) + (1 : Int)))] ∧ H' = Sx.hpL []) (e = Sx.Ex.ret ∧ fr' = Sx.frL [(0, Sx.AV.str true l), (2, Sx.AV.bool false), (3, Sx.AV.int true IntKind.i64 (↑i : Int))] ∧ H' = Sx.hpL []))) (cond (decide ((↑(UInt8.toNat (List.getD l (Int.toNat (↑i : Int)) (0 : UInt8))) : Int) = (95 : Int))) (e = Sx.Ex.normal ∧ fr' = Sx.frL [(0, Sx.AV.str true l), (3, Sx.AV.int true IntKind.i64 ((↑i : Int) + (1 : Int)))] ∧ H' = Sx.hpL []) (e = Sx.Ex.ret ∧ fr' = Sx.frL [(0, Sx.AV.str true l), (2, Sx.AV.bool false), (3, Sx.AV.int true IntKind.i64 (↑i : Int))] ∧ H' = Sx.hpL [])))) (cond (decide ((48 : Int) ≤ (↑(UInt8.toNat (List.getD l (Int.toNat (↑i : Int)) (0 : UInt8))) : Int))) (cond (decide ((↑(UInt8.toNat (List.getD l (Int.toNat (↑i : Int)) (0 : UInt8))) : Int) ≤ (57 : Int))) (e = Sx.Ex.normal ∧ fr' = Sx.frL [(0, Sx.AV.str true l), (3, Sx.AV.int true IntKind.i64 ((↑i : Int) + (1 : Int)))] ∧ H' = Sx.hpL []) (cond (decide ((↑(UInt8.toNat (List.getD l (Int.toNat (↑i : Int)) (0 : UInt8))) : Int) = (95 : Int))) (e = Sx.Ex.normal ∧ fr' = Sx.frL [(0, Sx.AV.str true l), (3, Sx.AV.int true IntKind.i64 ((↑i : Int) + (1 : Int)))] ∧ H' = Sx.hpL []) (e = Sx.Ex.ret ∧ fr' = Sx.frL [(0, Sx.AV.str true l), (2, Sx.AV.bool false), (3, Sx.AV.int true IntKind.i64 (↑i : Int))] ∧ H' = Sx.hpL []))) (cond (decide ((↑(UInt8.toNat (List.getD l (Int.toNat (↑i : Int)) (0 : UInt8))) : Int) = (95 : Int))) (e = Sx.Ex.normal ∧ fr' = Sx.frL [(0, Sx.AV.str true l), (3, Sx.AV.int true IntKind.i64 ((↑i : Int) + (1 : Int)))] ∧ H' = Sx.hpL []) (e = Sx.Ex.ret ∧ fr' = Sx.frL [(0, Sx.AV.str true l), (2, Sx.AV.bool false), (3, Sx.AV.int true IntKind.i64 (↑i : Int))] ∧ H' = Sx.hpL [])))) (e = Sx.Ex.exit (0 : Nat) ∧ fr' = Sx.frL [(0, Sx.AV.str true l), (3, Sx.AV.int true IntKind.i64 (↑i : Int))] ∧ H' = Sx.hpL [])) := by
 cases t0 : decide ((↑i : Int) < (↑(List.length l) : Int)) with
 | true =>
  cases t1 : decide ((97 : Int) ≤ (↑(UInt8.toNat (List.getD l (Int.toNat (↑i : Int)) (0 : UInt8))) : Int)) with
  | true =>
   cases t2 : decide ((↑(UInt8.toNat (List.getD l (Int.toNat (↑i : Int)) (0 : UInt8))) : Int) ≤ (122 : Int)) with
   | true =>
    exact (Sx.GoesB.runN call0_ok (call0_reg _) (Sx.LoopsIn.none _ _ _) (byB_r0 l i t0 (by first | decide | ((try simp only [decide_eq_true_eq, decide_eq_false_iff_not] at t0 t1 t2); (try simp only [List.length_take, List.length_drop]); omega)) (by first | decide | ((try simp only [decide_eq_true_eq, decide_eq_false_iff_not] at t0 t1 t2); (try simp only [List.length_take, List.length_drop]); omega)) t1 t2 (by first | decide | ((try simp only [decide_eq_true_eq, decide_eq_false_iff_not] at t0 t1 t2); (try simp only [List.length_take, List.length_drop]); omega)) (x0 t0)) hB).mono fun e fr' H' h => by simp only [t0, t1, t2, cond_true, cond_false]; exact h
   | false =>
    cases t3 : decide ((48 : Int) ≤ (↑(UInt8.toNat (List.getD l (Int.toNat (↑i : Int)) (0 : UInt8))) : Int)) with
    | true =>
     cases t4 : decide ((↑(UInt8.toNat (List.getD l (Int.toNat (↑i : Int)) (0 : UInt8))) : Int) ≤ (57 : Int)) with
     | true =>
      exact (Sx.GoesB.runN call0_ok (call0_reg _) (Sx.LoopsIn.none _ _ _) (byB_r1 l i t0 (by first | decide | ((try simp only [decide_eq_true_eq, decide_eq_false_iff_not] at t0 t1 t2 t3 t4); (try simp only [List.length_take, List.length_drop]); omega)) (by first | decide | ((try simp only [decide_eq_true_eq, decide_eq_false_iff_not] at t0 t1 t2 t3 t4); (try simp only [List.length_take, List.length_drop]); omega)) t1 t2 t3 t4 (by first | decide | ((try simp only [decide_eq_true_eq, decide_eq_false_iff_not] at t0 t1 t2 t3 t4); (try simp only [List.length_take, List.length_drop]); omega)) (x0 t0)) hB).mono fun e fr' H' h => by simp only [t0, t1, t2, t3, t4, cond_true, cond_false]; exact h
     | false =>
      cases t5 : decide ((↑(UInt8.toNat (List.getD l (Int.toNat (↑i : Int)) (0 : UInt8))) : Int) = (95 : Int)) with
      | true =>
       exact (Sx.GoesB.runN call0_ok (call0_reg _) (Sx.LoopsIn.none _ _ _) (byB_r2 l i t0 (by first | decide | ((try simp only [decide_eq_true_eq, decide_eq_false_iff_not] at t0 t1 t2 t3 t4 t5); (try simp only [List.length_take, List.length_drop]); omega)) (by first | decide | ((try simp only [decide_eq_true_eq, decide_eq_false_iff_not] at t0 t1 t2 t3 t4 t5); (try simp only [List.length_take, List.length_drop]); omega)) t1 t2 t3 t4 (by rw [t5]; rfl) (by first | decide | ((try simp only [decide_eq_true_eq, decide_eq_false_iff_not] at t0 t1 t2 t3 t4 t5); (try simp only [List.length_take, List.length_drop]); omega)) (x0 t0)) hB).mono fun e fr' H' h => by simp only [t0, t1, t2, t3, t4, t5, cond_true, cond_false]; exact h
      | false =>
       exact (Sx.GoesB.runN call0_ok (call0_reg _) (Sx.LoopsIn.none _ _ _) (byB_r3 l i t0 (by first | decide | ((try simp only [decide_eq_true_eq, decide_eq_false_iff_not] at t0 t1 t2 t3 t4 t5); (try simp only [List.length_take, List.length_drop]); omega)) (by first | decide | ((try simp only [decide_eq_true_eq, decide_eq_false_iff_not] at t0 t1 t2 t3 t4 t5); (try simp only [List.length_take, List.length_drop]); omega)) t1 t2 t3 t4 (by rw [t5]; rfl)) hB).mono fun e fr' H' h => by simp only [t0, t1, t2, t3, t4, t5, cond_true, cond_false]; exact h
    | false =>
     cases t4 : decide ((↑(UInt8.toNat (List.getD l (Int.toNat (↑i : Int)) (0 : UInt8))) : Int) = (95 : Int)) with
     | true =>
      exact (Sx.GoesB.runN call0_ok (call0_reg _) (Sx.LoopsIn.none _ _ _) (byB_r4 l i t0 (by first | decide | ((try simp only [decide_eq_true_eq, decide_eq_false_iff_not] at t0 t1 t2 t3 t4); (try simp only [List.length_take, List.length_drop]); omega)) (by first | decide | ((try simp only [decide_eq_true_eq, decide_eq_false_iff_not] at t0 t1 t2 t3 t4); (try simp only [List.length_take, List.length_drop]); omega)) t1 t2 t3 (by rw [t4]; rfl) (by first | decide | ((try simp only [decide_eq_true_eq, decide_eq_false_iff_not] at t0 t1 t2 t3 t4); (try simp only [List.length_take, List.length_drop]); omega)) (x0 t0)) hB).mono fun e fr' H' h => by simp only [t0, t1, t2, t3, t4, cond_true, cond_false]; exact h
     | false =>
      exact (Sx.GoesB.runN call0_ok (call0_reg _) (Sx.LoopsIn.none _ _ _) (byB_r5 l i t0 (by first | decide | ((try simp only [decide_eq_true_eq, decide_eq_false_iff_not] at t0 t1 t2 t3 t4); (try simp only [List.length_take, List.length_drop]); omega)) (by first | decide | ((try simp only [decide_eq_true_eq, decide_eq_false_iff_not] at t0 t1 t2 t3 t4); (try simp only [List.length_take, List.length_drop]); omega)) t1 t2 t3 (by rw [t4]; rfl)) hB).mono fun e fr' H' h => by simp only [t0, t1, t2, t3, t4, cond_true, cond_false]; exact h
  | false =>
   cases t2 : decide ((48 : Int) ≤ (↑(UInt8.toNat (List.getD l (Int.toNat (↑i : Int)) (0 : UInt8))) : Int)) with
   | true =>
    cases t3 : decide ((↑(UInt8.toNat (List.getD l (Int.toNat (↑i : Int)) (0 : UInt8))) : Int) ≤ (57 : Int)) with
    | true =>
     exact (Sx.GoesB.runN call0_ok (call0_reg _) (Sx.LoopsIn.none _ _ _) (byB_r6 l i t0 (by first | decide | ((try simp only [decide_eq_true_eq, decide_eq_false_iff_not] at t0 t1 t2 t3); (try simp only [List.length_take, List.length_drop]); omega)) (by first | decide | ((try simp only [decide_eq_true_eq, decide_eq_false_iff_not] at t0 t1 t2 t3); (try simp only [List.length_take, List.length_drop]); omega)) t1 t2 t3 (by first | decide | ((try simp only [decide_eq_true_eq, decide_eq_false_iff_not] at t0 t1 t2 t3); (try simp only [List.length_take, List.length_drop]); omega)) (x0 t0)) hB).mono fun e fr' H' h => by simp only [t0, t1, t2, t3, cond_true, cond_false]; exact h
    | false =>
     cases t4 : decide ((↑(UInt8.toNat (List.getD l (Int.toNat (↑i : Int)) (0 : UInt8))) : Int) = (95 : Int)) with
     | true =>
      exact (Sx.GoesB.runN call0_ok (call0_reg _) (Sx.LoopsIn.none _ _ _) (byB_r7 l i t0 (by first | decide | ((try simp only [decide_eq_true_eq, decide_eq_false_iff_not] at t0 t1 t2 t3 t4); (try simp only [List.length_take, List.length_drop]); omega)) (by first | decide | ((try simp only [decide_eq_true_eq, decide_eq_false_iff_not] at t0 t1 t2 t3 t4); (try simp only [List.length_take, List.length_drop]); omega)) t1 t2 t3 (by rw [t4]; rfl) (by first | decide | ((try simp only [decide_eq_true_eq, decide_eq_false_iff_not] at t0 t1 t2 t3 t4); (try simp only [List.length_take, List.length_drop]); omega)) (x0 t0)) hB).mono fun e fr' H' h => by simp only [t0, t1, t2, t3, t4, cond_true, cond_false]; exact h
     | false =>
      exact (Sx.GoesB.runN call0_ok (call0_reg _) (Sx.LoopsIn.none _ _ _) (byB_r8 l i t0 (by first | decide | ((try simp only [decide_eq_true_eq, decide_eq_false_iff_not] at t0 t1 t2 t3 t4); (try simp only [List.length_take, List.length_drop]); omega)) (by first | decide | ((try simp only [decide_eq_true_eq, decide_eq_false_iff_not] at t0 t1 t2 t3 t4); (try simp only [List.length_take, List.length_drop]); omega)) t1 t2 t3 (by rw [t4]; rfl)) hB).mono fun e fr' H' h => by simp only [t0, t1, t2, t3, t4, cond_true, cond_false]; exact h
   | false =>
    cases t3 : decide ((↑(UInt8.toNat (List.getD l (Int.toNat (↑i : Int)) (0 : UInt8))) : Int) = (95 : Int)) with
    | true =>
     exact (Sx.GoesB.runN call0_ok (call0_reg _) (Sx.LoopsIn.none _ _ _) (byB_r9 l i t0 (by first | decide | ((try simp only [decide_eq_true_eq, decide_eq_false_iff_not] at t0 t1 t2 t3); (try simp only [List.length_take, List.length_drop]); omega)) (by first | decide | ((try simp only [decide_eq_true_eq, decide_eq_false_iff_not] at t0 t1 t2 t3); (try simp only [List.length_take, List.length_drop]); omega)) t1 t2 (by rw [t3]; rfl) (by first | decide | ((try simp only [decide_eq_true_eq, decide_eq_false_iff_not] at t0 t1 t2 t3); (try simp only [List.length_take, List.length_drop]); omega)) (x0 t0)) hB).mono fun e fr' H' h => by simp only [t0, t1, t2, t3, cond_true, cond_false]; exact h
    | false =>
     exact (Sx.GoesB.runN call0_ok (call0_reg _) (Sx.LoopsIn.none _ _ _) (byB_r10 l i t0 (by first | decide | ((try simp only [decide_eq_true_eq, decide_eq_false_iff_not] at t0 t1 t2 t3); (try simp only [List.length_take, List.length_drop]); omega)) (by first | decide | ((try simp only [decide_eq_true_eq, decide_eq_false_iff_not] at t0 t1 t2 t3); (try simp only [List.length_take, List.length_drop]); omega)) t1 t2 (by rw [t3]; rfl)) hB).mono fun e fr' H' h => by simp only [t0, t1, t2, t3, cond_true, cond_false]; exact h
 | false =>
  exact (Sx.GoesB.runN call0_ok (call0_reg _) (Sx.LoopsIn.none _ _ _) (byB_r11 l i t0) hB).mono fun e fr' H' h => by simp only [t0, cond_true, cond_false]; exact h
theorem byZ_r0  : Sx.PieceN 0 (Sx.Ex.ret) [(2, Sx.AV.bool true)] [] (piececall0 Try.f62 (Sx.nav [1,1] (Sx.bodyOf Try.f62)) (Sx.frL []) (Sx.hpL []) 0 []) := by
 have e : Sx.pieceN 0 (Sx.Ex.ret) [(2, Sx.AV.bool true)] [] (piececall0 Try.f62 (Sx.nav [1,1] (Sx.bodyOf Try.f62)) (Sx.frL []) (Sx.hpL []) 0 []) = ((Sx.Ex.ret) = (Sx.Ex.ret) ∧ (some (Sx.AV.bool true) = some (Sx.AV.bool true) ∧ True) ∧ True ∧ true = true ∧ True) := by kernel_rfl
 exact ⟨by rw [e]; exact ⟨rfl, ⟨rfl, trivial⟩, trivial, rfl, trivial⟩⟩
theorem byZ (B : Nat) (hB : B ≤ 0)  : Sx.GoesB Try.prog (Sx.nav [1,1] (Sx.bodyOf Try.f62)) Try.f62.ntmps B 0 0 (Sx.frL []) (Sx.hpL []) fun e fr' H' => (e = Sx.Ex.ret ∧ fr' = Sx.frL [(2, Sx.AV.bool true)] ∧ H' = Sx.hpL []) := by
 exact (Sx.GoesB.runN call0_ok (call0_reg _) (Sx.LoopsIn.none _ _ _) (byZ_r0 ) hB).mono fun e fr' H' h => h
def okB (b : UInt8) : Bool := (decide (97 ≤ b.toNat) && decide (b.toNat ≤ 122)) || (decide (48 ≤ b.toNat) && decide (b.toNat ≤ 57)) || decide (b.toNat = 95)
theorem rune_at (l : List UInt8) (pos : Nat) (h : pos < l.length) : (l[pos].toNat < 128 ∧ Utf8.decode ⟨l.toArray⟩ pos = (l[pos].toNat, 1)) ∨ (128 ≤ l[pos].toNat ∧ 128 ≤ (Utf8.decode ⟨l.toArray⟩ pos).1) := by
 have hs : pos < (⟨l.toArray⟩ : ByteArray).size := by rw [Sx.ba_size]; exact h
 have e : (⟨l.toArray⟩ : ByteArray)[pos]'hs = l[pos] := rfl
 by_cases hb : l[pos].toNat < 128
 ·exact .inl ⟨hb, decode_ascii _ pos hs hb⟩
 ·exact .inr ⟨by omega, (decode_high _ pos hs (by rw [e]; omega)).1⟩
theorem take_all (l : List UInt8) (pos : Nat) (h : pos < l.length) (hp : (l.take pos).all okB = true) (hk : okB l[pos] = true) : (l.take (pos + 1)).all okB = true := by
 rw [List.take_succ_eq_append_getElem h, List.all_append, hp]; simp [hk]
theorem all_false (l : List UInt8) (pos : Nat) (h : pos < l.length) (hk : okB l[pos] = false) : l.all okB = false := by
 rw [List.all_eq_false]; exact ⟨l[pos], List.getElem_mem h, by simp [hk]⟩
theorem okB_iff (b : UInt8) : okB b = true ↔ ((97 ≤ b.toNat ∧ b.toNat ≤ 122) ∨ (48 ≤ b.toNat ∧ b.toNat ≤ 57) ∨ b.toNat = 95) := by
 unfold okB; simp only [Bool.or_eq_true, Bool.and_eq_true, decide_eq_true_eq]; omega
theorem okB_not (b : UInt8) : okB b = false ↔ ¬ ((97 ≤ b.toNat ∧ b.toNat ≤ 122) ∨ (48 ≤ b.toNat ∧ b.toNat ≤ 57) ∨ b.toNat = 95) := by
 rw [← okB_iff]; simp
def smI (l : List UInt8) (k : Nat) (fr : Sx.Fr) (H : Sx.T Sx.ABk) : Prop :=
 ∃ pos, k = l.length - pos ∧ (l.take pos).all okB = true ∧ fr = Sx.frL [(6, .ptr ⟨false, 0, 0, 0⟩)] ∧ H = Sx.hpL [(0, .sit true l pos)]
def smPost (l : List UInt8) : Sx.Po := fun e fr H => (e = .exit 0 ∧ l.all okB = true) ∨ (e = .ret ∧ l.all okB = false ∧ fr.get 2 = some (.bool false))
theorem sm_body (l : List UInt8) (k : Nat) (fr : Sx.Fr) (H : Sx.T Sx.ABk) (hI : smI l k fr H) : Sx.GoesB Try.prog (Sx.nav [1,0,1,0,0] (Sx.bodyOf Try.f50)) Try.f50.ntmps 0 1 1 fr H fun e fr' H' => match e with
   | .normal => ∃ k', k' < k ∧ smI l k' fr' H'
   | e => smPost l e fr' H' := by
 obtain ⟨pos, rfl, hp, rfl, rfl⟩ := hI
 refine (smB 0 (by omega) l pos).mono fun e fr' H' h => ?_
 refine Sx.cond_elim h (fun t0 h => ?_) (fun t0 h => ?_)
 ·have hlt := of_decide_eq_true t0
  have ru := rune_at l pos hlt
  have hok := okB_iff l[pos]
  have hno := okB_not l[pos]
  have go : okB l[pos] = true → (Utf8.decode ⟨l.toArray⟩ pos).2 = 1 → ∃ k', k' < l.length - pos ∧ smI l k' (Sx.frL [(6, .ptr ⟨false, 0, 0, 0⟩)]) (Sx.hpL [(0, .sit true l (pos + (Utf8.decode ⟨l.toArray⟩ pos).2))]) := fun hk hw => by
   rw [hw]
   exact ⟨l.length - (pos + 1), by omega, pos + 1, rfl, take_all l pos hlt hp hk, rfl, rfl⟩
  obtain ⟨r, hr⟩ : ∃ r : Nat × Nat, Utf8.decode ⟨l.toArray⟩ pos = r := ⟨_, rfl⟩
  rw [hr] at ru h go
  have ru' : (l[pos].toNat < 128 ∧ r.1 = l[pos].toNat ∧ r.2 = 1) ∨ (128 ≤ l[pos].toNat ∧ 128 ≤ r.1) := by
   rcases ru with ⟨h1, h2⟩ | h
   ·exact .inl ⟨h1, by rw [h2], by rw [h2]⟩
   ·exact .inr h
  repeat' (refine Sx.cond_elim h (fun t1 h => ?_) (fun t1 h => ?_) <;> first | replace t1 := of_decide_eq_true t1 | replace t1 := of_decide_eq_false t1)
  all_goals (obtain ⟨rfl, rfl, rfl⟩ := h)
  all_goals (first | (exact go (hok.2 (by omega)) (by omega)) | (exact .inr ⟨rfl, all_false l pos hlt (hno.2 (by omega)), rfl⟩))
 ·obtain ⟨rfl, rfl, rfl⟩ := h
  refine .inl ⟨rfl, ?_⟩
  rw [List.take_of_length_le (by have := of_decide_eq_false t0; omega)] at hp
  exact hp
theorem sm_is : Sx.bodyOf Try.f50 = .seq (Sx.nav [0] (Sx.bodyOf Try.f50)) (.seq (.seq (Sx.nav [1,0,0] (Sx.bodyOf Try.f50)) (.block 0 (.loop (Sx.nav [1,0,1,0,0] (Sx.bodyOf Try.f50))))) (Sx.nav [1,1] (Sx.bodyOf Try.f50))) := by kernel_rfl
theorem sm_goes (l : List UInt8) : Sx.GoesB Try.prog (Sx.bodyOf Try.f50) Try.f50.ntmps 0 0 1 (Sx.frameOf [.str true l] 0 .e) (Sx.hpL []) fun e fr' H' => (e = .ret ∨ e = .normal) ∧ fr'.get 2 = some (.bool (l.all okB)) := by
 rw [sm_is]
 refine Sx.GoesB.seq (K1 := 0) (by omega) ((smA 0 (by omega) l).mono fun e fr' H' ⟨e1, e2, e3⟩ => ?_)
 subst e1 e2 e3
 refine Sx.GoesB.seq (K1 := 1) (by omega) (Sx.GoesB.seq (K1 := 1) (by omega) ((smR 0 (by omega) l).mono fun e fr' H' ⟨e1, e2, e3⟩ => ?_))
 subst e1 e2 e3
 refine Sx.GoesB.block ((Sx.GoesB.loop (smI l) (Post := smPost l) (sm_body l) _ _ _ ⟨0, rfl, by simp, rfl, rfl⟩).mono fun e fr' H' hp => ?_)
 rcases hp with ⟨rfl, h1⟩ | ⟨rfl, h1, h2⟩
 ·simp only [if_true]
  refine Sx.GoesB.weakL (fl := []) (bl := []) trivial trivial ((smZ 0 (by omega)).mono fun e fr' H' ⟨e1, e2, e3⟩ => ?_)
  subst e1 e2 e3
  exact ⟨.inl rfl, by rw [h1]; rfl⟩
 ·exact ⟨.inl rfl, by rw [h1]; exact h2⟩
noncomputable def smallS : List Sx.AV → Sx.M Sx.AV
 | [.str s l] => Sx.M.ret (Sx.cmpB s (l.all okB))
 | args => call0 50 args
theorem smallS_ok : ∀ args v g g', smallS args g = .done v g' → Sx.CallIs Try.prog 50 args v g g' := by
 intro args v g g' h
 unfold smallS at h
 split at h
 ·rename_i s l
  obtain ⟨rfl, rfl⟩ := Sx.ret_done h
  refine Sx.reads (c := Sx.bodyOf Try.f50) Try.func50 (by kernel_rfl) (by kernel_rfl) (g1 := g) (p := True) (Sx.Keep.refl g) [] (fun _ v hv => by cases hv) (argsC := [.str true l]) (fun _ N μ cs h => by simpa only [Sx.Reps, Sx.Rep] using h) (nms := []) (bs := []) (K' := 1) (fun _ => (sm_goes l).mono fun e fr' H' ⟨h1, h2⟩ => ⟨h1, [.bool (l.all okB)], ⟨H', 1, [], [], True⟩, ?_, trivial, ?_, ⟨rfl, fun i b h => by simp at h, List.nodup_nil⟩⟩) (by cases s <;> rfl) (by cases s <;> trivial) rfl rfl id
  ·have e : Try.f50.results.toList = [.tmp 2] := by kernel_rfl
   rw [e]
   simp only [Sx.resultsA, Sx.resultA, h2, Option.getD_some]
   rfl
  ·cases s
   ·exact Sx.AV.ge.refl _
   ·exact Sx.AV.ge.bool _
 ·exact call0_ok _ _ _ _ _ h
theorem smallS_tch : ∀ args, Sx.Tch (smallS args) := by
 intro args
 unfold smallS
 split
 ·exact Sx.Tch.ret _
 ·exact call0_tch _ _
def byI (l : List UInt8) (k : Nat) (fr : Sx.Fr) (H : Sx.T Sx.ABk) : Prop :=
 ∃ i : Nat, k = l.length - i ∧ i ≤ l.length ∧ (l.take i).all okB = true ∧ fr = Sx.frL [(0, .str true l), (3, .int true .i64 i)] ∧ H = Sx.hpL []
def byPost (l : List UInt8) : Sx.Po := fun e fr H => (e = .exit 0 ∧ l.all okB = true) ∨ (e = .ret ∧ l.all okB = false ∧ fr.get 2 = some (.bool false))
theorem by_body (l : List UInt8) (hl : l.length ≤ 9223372036854775807) (k : Nat) (fr : Sx.Fr) (H : Sx.T Sx.ABk) (hI : byI l k fr H) : Sx.GoesB Try.prog (Sx.nav [1,0,1,0,0] (Sx.bodyOf Try.f62)) Try.f62.ntmps 0 0 0 fr H fun e fr' H' => match e with
   | .normal => ∃ k', k' < k ∧ byI l k' fr' H'
   | e => byPost l e fr' H' := by
 obtain ⟨i, rfl, hi, hp, rfl, rfl⟩ := hI
 refine (byB 0 (by omega) l i (fun t => by have := of_decide_eq_true t; omega)).mono fun e fr' H' h => ?_
 refine Sx.cond_elim h (fun t0 h => ?_) (fun t0 h => ?_)
 ·have hlt : i < l.length := by have := of_decide_eq_true t0; omega
  have hok := okB_iff l[i]
  have hno := okB_not l[i]
  have e : l.getD (Int.toNat (i : Int)) 0 = l[i] := by simp [hlt]
  have go : okB l[i] = true → ∃ k', k' < l.length - i ∧ byI l k' (Sx.frL [(0, .str true l), (3, .int true .i64 ((i : Int) + 1))]) (Sx.hpL []) := fun hk =>
   ⟨l.length - (i + 1), by omega, i + 1, rfl, by omega, take_all l i hlt hp hk, by simp, rfl⟩
  rw [e] at h
  repeat' (refine Sx.cond_elim h (fun t1 h => ?_) (fun t1 h => ?_) <;> first | replace t1 := of_decide_eq_true t1 | replace t1 := of_decide_eq_false t1)
  all_goals (obtain ⟨rfl, rfl, rfl⟩ := h)
  all_goals (first | (exact go (hok.2 (by omega))) | (exact .inr ⟨rfl, all_false l i hlt (hno.2 (by omega)), rfl⟩))
 ·obtain ⟨rfl, rfl, rfl⟩ := h
  refine .inl ⟨rfl, ?_⟩
  rw [List.take_of_length_le (by have := of_decide_eq_false t0; omega)] at hp
  exact hp
theorem by_is : Sx.bodyOf Try.f62 = .seq (Sx.nav [0] (Sx.bodyOf Try.f62)) (.seq (.seq (Sx.nav [1,0,0] (Sx.bodyOf Try.f62)) (.block 0 (.loop (Sx.nav [1,0,1,0,0] (Sx.bodyOf Try.f62))))) (Sx.nav [1,1] (Sx.bodyOf Try.f62))) := by kernel_rfl
theorem by_goes (l : List UInt8) (hl : l.length ≤ 9223372036854775807) : Sx.GoesB Try.prog (Sx.bodyOf Try.f62) Try.f62.ntmps 0 0 0 (Sx.frameOf [.str true l] 0 .e) (Sx.hpL []) fun e fr' H' => (e = .ret ∨ e = .normal) ∧ fr'.get 2 = some (.bool (l.all okB)) := by
 rw [by_is]
 refine Sx.GoesB.seq (K1 := 0) (by omega) ((byA 0 (by omega) l).mono fun e fr' H' ⟨e1, e2, e3⟩ => ?_)
 subst e1 e2 e3
 refine Sx.GoesB.seq (K1 := 0) (by omega) (Sx.GoesB.seq (K1 := 0) (by omega) ((byR 0 (by omega) l).mono fun e fr' H' ⟨e1, e2, e3⟩ => ?_))
 subst e1 e2 e3
 refine Sx.GoesB.weakL (fl := [(0, .str true l), (3, .int true .i64 (0 : Nat))]) (bl := []) ⟨⟨_, rfl, Sx.AV.ge.refl _⟩, ⟨_, rfl, Sx.AV.ge.int _ _ _ _⟩, trivial⟩ trivial ?_
 refine Sx.GoesB.block ((Sx.GoesB.loop (byI l) (Post := byPost l) (by_body l hl) _ _ _ ⟨0, rfl, by omega, by simp, rfl, rfl⟩).mono fun e fr' H' hp => ?_)
 rcases hp with ⟨rfl, h1⟩ | ⟨rfl, h1, h2⟩
 ·simp only [if_true]
  refine Sx.GoesB.weakL (fl := []) (bl := []) trivial trivial ((byZ 0 (by omega)).mono fun e fr' H' ⟨e1, e2, e3⟩ => ?_)
  subst e1 e2 e3
  exact ⟨.inl rfl, by rw [h1]; rfl⟩
 ·exact ⟨.inl rfl, by rw [h1]; exact h2⟩
noncomputable def bytesS : List Sx.AV → Sx.M Sx.AV
 | [.str s l] => (Sx.ck' s (l.length ≤ 9223372036854775807)).andThen fun _ => (Sx.M.okIf (s || Nat.ble l.length 9223372036854775807)).andThen fun _ => Sx.M.ret (Sx.cmpB s (l.all okB))
 | args => call0 62 args
theorem bytesS_ok : ∀ args v g g', bytesS args g = .done v g' → Sx.CallIs Try.prog 62 args v g g' := by
 intro args v g g' h
 unfold bytesS at h
 split at h
 ·rename_i s l
  obtain ⟨_, g1, a1, h1⟩ := Sx.done_of h
  obtain ⟨_, g2, a2, h2⟩ := Sx.done_of h1
  obtain ⟨rfl, rfl⟩ := Sx.ret_done h2
  obtain ⟨hq, rfl⟩ := Sx.okIf_done a2
  have k : ∃ p, Sx.Keep g g1 p ∧ (p → l.length ≤ 9223372036854775807) := by
   cases s with
   | true => exact ⟨_, Sx.req_done a1, id⟩
   | false =>
    obtain ⟨_, rfl⟩ := Sx.ret_done a1
    exact ⟨True, Sx.Keep.refl _, fun _ => Nat.le_of_ble_eq_true (by simpa using hq)⟩
  obtain ⟨p, k, hp⟩ := k
  refine Sx.reads (c := Sx.bodyOf Try.f62) Try.func62 (by kernel_rfl) (by kernel_rfl) k [] (fun _ v hv => by cases hv) (argsC := [.str true l]) (fun _ N μ cs h => by simpa only [Sx.Reps, Sx.Rep] using h) (nms := []) (bs := []) (K' := 0) (fun hp' => (by_goes l (hp hp')).mono fun e fr' H' ⟨h1, h2⟩ => ⟨h1, [.bool (l.all okB)], ⟨H', 0, [], [], True⟩, ?_, trivial, ?_, ⟨rfl, fun i b h => by simp at h, List.nodup_nil⟩⟩) (by cases s <;> rfl) (by cases s <;> trivial) (by rw [k.1]; rfl) (by rw [k.2.1]; rfl) id
  ·have e : Try.f62.results.toList = [.tmp 2] := by kernel_rfl
   rw [e]
   simp only [Sx.resultsA, Sx.resultA, h2, Option.getD_some]
   rfl
  ·cases s
   ·exact Sx.AV.ge.refl _
   ·exact Sx.AV.ge.bool _
 ·exact call0_ok _ _ _ _ _ h
theorem bytesS_tch : ∀ args, Sx.Tch (bytesS args) := by
 intro args
 unfold bytesS
 split
 ·exact (Sx.Tch.ck' _ _).andThen fun _ => (Sx.Tch.okIf _).andThen fun _ => Sx.Tch.ret _
 ·exact call0_tch _ _
theorem kind_0 (n : Nat) (hE : decide (Sx.kE n = 0) = true) (hR : decide (Sx.kR n = 0) = true) : Sx.PureP (Sx.AV.int false .i64 0) (call0 42 [.raw true n] (Sx.G.on [true, true])) := by
 have e : Sx.pureP (Sx.AV.int false .i64 0) (call0 42 [.raw true n] (Sx.G.on [true, true])) = (Sx.AV.int false .i64 0 = Sx.AV.int false .i64 0 ∧ ((((True ∧ (0 : Int) ≤ 52) ∧ (0 : Int) ≤ 12) ∧ decide (Sx.kE n = 0) = true) ∧ decide (Sx.kR n = 0) = true)) := by kernel_rfl
 exact ⟨by rw [e]; exact ⟨rfl, ⟨⟨⟨⟨trivial, by decide⟩, by decide⟩, hE⟩, hR⟩⟩⟩
theorem kind_1 (n : Nat) (hE : decide (Sx.kE n = 0) = true) (hR : decide (Sx.kR n = 0) = false) : Sx.PureP (Sx.AV.int false .i64 1) (call0 42 [.raw true n] (Sx.G.on [true, false, true])) := by
 have e : Sx.pureP (Sx.AV.int false .i64 1) (call0 42 [.raw true n] (Sx.G.on [true, false, true])) = (Sx.AV.int false .i64 1 = Sx.AV.int false .i64 1 ∧ (((((True ∧ (0 : Int) ≤ 52) ∧ (0 : Int) ≤ 12) ∧ decide (Sx.kE n = 0) = true) ∧ decide (Sx.kR n = 0) = false) ∧ decide (Sx.kE n = 0) = true)) := by kernel_rfl
 exact ⟨by rw [e]; exact ⟨rfl, ⟨⟨⟨⟨⟨trivial, by decide⟩, by decide⟩, hE⟩, hR⟩, hE⟩⟩⟩
theorem kind_2 (n : Nat) (hE : decide (Sx.kE n = 0) = false) (hL : decide (Sx.kE n < 2047) = true) : Sx.PureP (Sx.AV.int false .i64 2) (call0 42 [.raw true n] (Sx.G.on [false, false, true])) := by
 have e : Sx.pureP (Sx.AV.int false .i64 2) (call0 42 [.raw true n] (Sx.G.on [false, false, true])) = (Sx.AV.int false .i64 2 = Sx.AV.int false .i64 2 ∧ (((((True ∧ (0 : Int) ≤ 52) ∧ (0 : Int) ≤ 12) ∧ decide (Sx.kE n = 0) = false) ∧ decide (Sx.kE n = 0) = false) ∧ decide (Sx.kE n < 2047) = true)) := by kernel_rfl
 exact ⟨by rw [e]; exact ⟨rfl, ⟨⟨⟨⟨⟨trivial, by decide⟩, by decide⟩, hE⟩, hE⟩, hL⟩⟩⟩
theorem kind_3 (n : Nat) (hE : decide (Sx.kE n = 0) = false) (hL : decide (Sx.kE n < 2047) = false) (hR : decide (Sx.kR n = 0) = true) : Sx.PureP (Sx.AV.int false .i64 3) (call0 42 [.raw true n] (Sx.G.on [false, false, false, true])) := by
 have e : Sx.pureP (Sx.AV.int false .i64 3) (call0 42 [.raw true n] (Sx.G.on [false, false, false, true])) = (Sx.AV.int false .i64 3 = Sx.AV.int false .i64 3 ∧ ((((((True ∧ (0 : Int) ≤ 52) ∧ (0 : Int) ≤ 12) ∧ decide (Sx.kE n = 0) = false) ∧ decide (Sx.kE n = 0) = false) ∧ decide (Sx.kE n < 2047) = false) ∧ decide (Sx.kR n = 0) = true)) := by kernel_rfl
 exact ⟨by rw [e]; exact ⟨rfl, ⟨⟨⟨⟨⟨⟨trivial, by decide⟩, by decide⟩, hE⟩, hE⟩, hL⟩, hR⟩⟩⟩
theorem kind_4 (n : Nat) (hE : decide (Sx.kE n = 0) = false) (hL : decide (Sx.kE n < 2047) = false) (hR : decide (Sx.kR n = 0) = false) : Sx.PureP (Sx.AV.int false .i64 4) (call0 42 [.raw true n] (Sx.G.on [false, false, false, false])) := by
 have e : Sx.pureP (Sx.AV.int false .i64 4) (call0 42 [.raw true n] (Sx.G.on [false, false, false, false])) = (Sx.AV.int false .i64 4 = Sx.AV.int false .i64 4 ∧ ((((((True ∧ (0 : Int) ≤ 52) ∧ (0 : Int) ≤ 12) ∧ decide (Sx.kE n = 0) = false) ∧ decide (Sx.kE n = 0) = false) ∧ decide (Sx.kE n < 2047) = false) ∧ decide (Sx.kR n = 0) = false)) := by kernel_rfl
 exact ⟨by rw [e]; exact ⟨rfl, ⟨⟨⟨⟨⟨⟨trivial, by decide⟩, by decide⟩, hE⟩, hE⟩, hL⟩, hR⟩⟩⟩
noncomputable def kindS : List Sx.AV → Sx.M Sx.AV
 | [.flt s n] => Sx.M.ret (.int s .i64 (Sx.kindDef n))
 | [.raw s n] => Sx.M.ret (.int s .i64 (Sx.kindDef n))
 | _ => Sx.M.no
theorem kind_road (n : Nat) : ∃ path lv, Sx.PureP lv (call0 42 [.raw true n] (Sx.G.on path)) ∧ lv = Sx.AV.int false .i64 (Sx.kindDef n) := by
 cases hE : decide (Sx.kE n = 0) with
 | true =>
  cases hR : decide (Sx.kR n = 0) with
  | true => exact ⟨_, _, kind_0 n hE hR, by simp only [Sx.kindDef, hE, hR, cond_true]⟩
  | false => exact ⟨_, _, kind_1 n hE hR, by simp only [Sx.kindDef, hE, hR, cond_true, cond_false]⟩
 | false =>
  cases hL : decide (Sx.kE n < 2047) with
  | true => exact ⟨_, _, kind_2 n hE hL, by simp only [Sx.kindDef, hE, hL, cond_true, cond_false]⟩
  | false =>
   cases hR : decide (Sx.kR n = 0) with
   | true => exact ⟨_, _, kind_3 n hE hL hR, by simp only [Sx.kindDef, hE, hL, hR, cond_true, cond_false]⟩
   | false => exact ⟨_, _, kind_4 n hE hL hR, by simp only [Sx.kindDef, hE, hL, hR, cond_true, cond_false]⟩
theorem kindS_ok : ∀ args v g g', kindS args g = .done v g' → Sx.CallIs Try.prog 42 args v g g' := by
 intro args v g g' h
 unfold kindS at h
 split at h
 ·rename_i s n
  obtain ⟨rfl, rfl⟩ := Sx.ret_done h
  refine Sx.scal call0_ok fun μ cargs ha => ?_
  obtain ⟨c, rfl, hx⟩ := ha.one
  simp only [Sx.Rep] at hx
  obtain ⟨b, rfl, hb⟩ := hx
  obtain ⟨path, lv, h1, rfl⟩ := kind_road b
  refine ⟨[.raw true b], path, _, ?_, h1, rfl, fun c hc => ?_⟩
  ·simp only [Sx.Reps, Sx.Rep]; exact ⟨_, _, rfl, ⟨rfl, hb.2⟩, rfl⟩
  ·have := hc 0 Sx.MM.none
   simp only [Sx.Rep] at this ⊢
   rw [this, ← hb.1, Sx.kind_cn hb.2]
 ·rename_i s n
  obtain ⟨rfl, rfl⟩ := Sx.ret_done h
  refine Sx.scal call0_ok fun μ cargs ha => ?_
  obtain ⟨c, rfl, hx⟩ := ha.one
  simp only [Sx.Rep] at hx
  obtain ⟨rfl, hb⟩ := hx
  obtain ⟨path, lv, h1, rfl⟩ := kind_road n
  refine ⟨[.raw true n], path, _, ?_, h1, rfl, fun c hc => ?_⟩
  ·simp only [Sx.Reps, Sx.Rep]; exact ⟨_, _, rfl, ⟨rfl, hb⟩, rfl⟩
  ·have := hc 0 Sx.MM.none
   simpa only [Sx.Rep] using this
 ·exact (Sx.no_done h).elim
theorem kindS_tch : ∀ args, Sx.Tch (kindS args) := by
 intro args
 unfold kindS
 split
 ·exact Sx.Tch.ret _
 ·exact Sx.Tch.ret _
 ·exact Sx.Tch.no
theorem rkind_r0 (n : Nat) (c0 : (9223372036854775808 : Int) ≠ (0 : Int)) (c1 : decide (Int.tmod (↑n : Int) (9223372036854775808 : Int) = (0 : Int)) = true) : Sx.PureP (Sx.AV.int false IntKind.i64 (0 : Int)) (call0 59 [.raw true n] (Sx.G.on [true])) := by
 have e : Sx.pureP (Sx.AV.int false IntKind.i64 (0 : Int)) (call0 59 [.raw true n] (Sx.G.on [true])) = ((Sx.AV.int false IntKind.i64 (0 : Int)) = (Sx.AV.int false IntKind.i64 (0 : Int)) ∧ ((True ∧ ((9223372036854775808 : Int) ≠ (0 : Int))) ∧ (decide (Int.tmod (↑n : Int) (9223372036854775808 : Int) = (0 : Int)) = true))) := by kernel_rfl
 exact ⟨by rw [e]; exact ⟨rfl, ⟨⟨trivial, c0⟩, c1⟩⟩⟩
theorem rkind_r1 (n : Nat) (c0 : (9223372036854775808 : Int) ≠ (0 : Int)) (c1 : decide (Int.tmod (↑n : Int) (9223372036854775808 : Int) = (0 : Int)) = false) (c2 : decide (Int.tmod (↑n : Int) (9223372036854775808 : Int) < (4503599627370496 : Int)) = true) : Sx.PureP (Sx.AV.int false IntKind.i64 (1 : Int)) (call0 59 [.raw true n] (Sx.G.on [false, true])) := by
 have e : Sx.pureP (Sx.AV.int false IntKind.i64 (1 : Int)) (call0 59 [.raw true n] (Sx.G.on [false, true])) = ((Sx.AV.int false IntKind.i64 (1 : Int)) = (Sx.AV.int false IntKind.i64 (1 : Int)) ∧ (((True ∧ ((9223372036854775808 : Int) ≠ (0 : Int))) ∧ (decide (Int.tmod (↑n : Int) (9223372036854775808 : Int) = (0 : Int)) = false)) ∧ (decide (Int.tmod (↑n : Int) (9223372036854775808 : Int) < (4503599627370496 : Int)) = true))) := by kernel_rfl
 exact ⟨by rw [e]; exact ⟨rfl, ⟨⟨⟨trivial, c0⟩, c1⟩, c2⟩⟩⟩
theorem rkind_r2 (n : Nat) (c0 : (9223372036854775808 : Int) ≠ (0 : Int)) (c1 : decide (Int.tmod (↑n : Int) (9223372036854775808 : Int) = (0 : Int)) = false) (c2 : decide (Int.tmod (↑n : Int) (9223372036854775808 : Int) < (4503599627370496 : Int)) = false) (c3 : decide (Int.tmod (↑n : Int) (9223372036854775808 : Int) < (9218868437227405312 : Int)) = true) : Sx.PureP (Sx.AV.int false IntKind.i64 (2 : Int)) (call0 59 [.raw true n] (Sx.G.on [false, false, true])) := by
 have e : Sx.pureP (Sx.AV.int false IntKind.i64 (2 : Int)) (call0 59 [.raw true n] (Sx.G.on [false, false, true])) = ((Sx.AV.int false IntKind.i64 (2 : Int)) = (Sx.AV.int false IntKind.i64 (2 : Int)) ∧ ((((True ∧ ((9223372036854775808 : Int) ≠ (0 : Int))) ∧ (decide (Int.tmod (↑n : Int) (9223372036854775808 : Int) = (0 : Int)) = false)) ∧ (decide (Int.tmod (↑n : Int) (9223372036854775808 : Int) < (4503599627370496 : Int)) = false)) ∧ (decide (Int.tmod (↑n : Int) (9223372036854775808 : Int) < (9218868437227405312 : Int)) = true))) := by kernel_rfl
 exact ⟨by rw [e]; exact ⟨rfl, ⟨⟨⟨⟨trivial, c0⟩, c1⟩, c2⟩, c3⟩⟩⟩
theorem rkind_r3 (n : Nat) (c0 : (9223372036854775808 : Int) ≠ (0 : Int)) (c1 : decide (Int.tmod (↑n : Int) (9223372036854775808 : Int) = (0 : Int)) = false) (c2 : decide (Int.tmod (↑n : Int) (9223372036854775808 : Int) < (4503599627370496 : Int)) = false) (c3 : decide (Int.tmod (↑n : Int) (9223372036854775808 : Int) < (9218868437227405312 : Int)) = false) (c4 : decide (Int.tmod (↑n : Int) (9223372036854775808 : Int) = (9218868437227405312 : Int)) = true) : Sx.PureP (Sx.AV.int false IntKind.i64 (3 : Int)) (call0 59 [.raw true n] (Sx.G.on [false, false, false, true])) := by
 have e : Sx.pureP (Sx.AV.int false IntKind.i64 (3 : Int)) (call0 59 [.raw true n] (Sx.G.on [false, false, false, true])) = ((Sx.AV.int false IntKind.i64 (3 : Int)) = (Sx.AV.int false IntKind.i64 (3 : Int)) ∧ (((((True ∧ ((9223372036854775808 : Int) ≠ (0 : Int))) ∧ (decide (Int.tmod (↑n : Int) (9223372036854775808 : Int) = (0 : Int)) = false)) ∧ (decide (Int.tmod (↑n : Int) (9223372036854775808 : Int) < (4503599627370496 : Int)) = false)) ∧ (decide (Int.tmod (↑n : Int) (9223372036854775808 : Int) < (9218868437227405312 : Int)) = false)) ∧ (decide (Int.tmod (↑n : Int) (9223372036854775808 : Int) = (9218868437227405312 : Int)) = true))) := by kernel_rfl
 exact ⟨by rw [e]; exact ⟨rfl, ⟨⟨⟨⟨⟨trivial, c0⟩, c1⟩, c2⟩, c3⟩, c4⟩⟩⟩
theorem rkind_r4 (n : Nat) (c0 : (9223372036854775808 : Int) ≠ (0 : Int)) (c1 : decide (Int.tmod (↑n : Int) (9223372036854775808 : Int) = (0 : Int)) = false) (c2 : decide (Int.tmod (↑n : Int) (9223372036854775808 : Int) < (4503599627370496 : Int)) = false) (c3 : decide (Int.tmod (↑n : Int) (9223372036854775808 : Int) < (9218868437227405312 : Int)) = false) (c4 : decide (Int.tmod (↑n : Int) (9223372036854775808 : Int) = (9218868437227405312 : Int)) = false) : Sx.PureP (Sx.AV.int false IntKind.i64 (4 : Int)) (call0 59 [.raw true n] (Sx.G.on [false, false, false, false])) := by
 have e : Sx.pureP (Sx.AV.int false IntKind.i64 (4 : Int)) (call0 59 [.raw true n] (Sx.G.on [false, false, false, false])) = ((Sx.AV.int false IntKind.i64 (4 : Int)) = (Sx.AV.int false IntKind.i64 (4 : Int)) ∧ (((((True ∧ ((9223372036854775808 : Int) ≠ (0 : Int))) ∧ (decide (Int.tmod (↑n : Int) (9223372036854775808 : Int) = (0 : Int)) = false)) ∧ (decide (Int.tmod (↑n : Int) (9223372036854775808 : Int) < (4503599627370496 : Int)) = false)) ∧ (decide (Int.tmod (↑n : Int) (9223372036854775808 : Int) < (9218868437227405312 : Int)) = false)) ∧ (decide (Int.tmod (↑n : Int) (9223372036854775808 : Int) = (9218868437227405312 : Int)) = false))) := by kernel_rfl
 exact ⟨by rw [e]; exact ⟨rfl, ⟨⟨⟨⟨⟨trivial, c0⟩, c1⟩, c2⟩, c3⟩, c4⟩⟩⟩
noncomputable def rkind_0 (n : Nat) : Int := (bif decide (Int.tmod (↑n : Int) (9223372036854775808 : Int) = (0 : Int)) then ((0 : Int)) else (bif decide (Int.tmod (↑n : Int) (9223372036854775808 : Int) < (4503599627370496 : Int)) then ((1 : Int)) else (bif decide (Int.tmod (↑n : Int) (9223372036854775808 : Int) < (9218868437227405312 : Int)) then ((2 : Int)) else (bif decide (Int.tmod (↑n : Int) (9223372036854775808 : Int) = (9218868437227405312 : Int)) then ((3 : Int)) else ((4 : Int))))))
noncomputable def rkindS : List Sx.AV → Sx.M Sx.AV
 | [.raw s0 n] => Sx.M.ret (Sx.AV.int s0 (IntKind.i64) (rkind_0 n))
 | args => call0 59 args
theorem rkindS_ok : ∀ args v g g', rkindS args g = .done v g' → Sx.CallIs Try.prog 59 args v g g' := by
 intro args v g g' h
 unfold rkindS at h
 split at h
 ·rename_i s0 n
  obtain ⟨rfl, rfl⟩ := Sx.ret_done h
  refine Sx.scal call0_ok fun μ cargs ha => ?_
  have ha' : Sx.Reps 0 Sx.MM.none [.raw true n] cargs.toList := by simpa only [Sx.Reps, Sx.Rep] using ha
  cases t0 : decide (Int.tmod (↑n : Int) (9223372036854775808 : Int) = (0 : Int)) with
  | true =>
   exact ⟨_, _, _, ha', rkind_r0 n (by first | ((try simp only [decide_eq_true_eq, decide_eq_false_iff_not] at t0); (try simp only [List.length_take, List.length_drop]); omega) | decide | (have hp' := hp; simp_all; try omega)) t0, rfl, fun c hc => by have := hc g.nx μ; have e0 : rkind_0 n = ((0 : Int)) := (Sx.ct t0).trans (rfl); rw [e0]; simpa only [Sx.Rep, Sx.Reps, Sx.Rep_cmpB] using this⟩
  | false =>
   cases t1 : decide (Int.tmod (↑n : Int) (9223372036854775808 : Int) < (4503599627370496 : Int)) with
   | true =>
    exact ⟨_, _, _, ha', rkind_r1 n (by first | ((try simp only [decide_eq_true_eq, decide_eq_false_iff_not] at t0 t1); (try simp only [List.length_take, List.length_drop]); omega) | decide | (have hp' := hp; simp_all; try omega)) t0 t1, rfl, fun c hc => by have := hc g.nx μ; have e0 : rkind_0 n = ((1 : Int)) := (Sx.cf t0).trans ((Sx.ct t1).trans (rfl)); rw [e0]; simpa only [Sx.Rep, Sx.Reps, Sx.Rep_cmpB] using this⟩
   | false =>
    cases t2 : decide (Int.tmod (↑n : Int) (9223372036854775808 : Int) < (9218868437227405312 : Int)) with
    | true =>
     exact ⟨_, _, _, ha', rkind_r2 n (by first | ((try simp only [decide_eq_true_eq, decide_eq_false_iff_not] at t0 t1 t2); (try simp only [List.length_take, List.length_drop]); omega) | decide | (have hp' := hp; simp_all; try omega)) t0 t1 t2, rfl, fun c hc => by have := hc g.nx μ; have e0 : rkind_0 n = ((2 : Int)) := (Sx.cf t0).trans ((Sx.cf t1).trans ((Sx.ct t2).trans (rfl))); rw [e0]; simpa only [Sx.Rep, Sx.Reps, Sx.Rep_cmpB] using this⟩
    | false =>
     cases t3 : decide (Int.tmod (↑n : Int) (9223372036854775808 : Int) = (9218868437227405312 : Int)) with
     | true =>
      exact ⟨_, _, _, ha', rkind_r3 n (by first | ((try simp only [decide_eq_true_eq, decide_eq_false_iff_not] at t0 t1 t2 t3); (try simp only [List.length_take, List.length_drop]); omega) | decide | (have hp' := hp; simp_all; try omega)) t0 t1 t2 t3, rfl, fun c hc => by have := hc g.nx μ; have e0 : rkind_0 n = ((3 : Int)) := (Sx.cf t0).trans ((Sx.cf t1).trans ((Sx.cf t2).trans ((Sx.ct t3).trans (rfl)))); rw [e0]; simpa only [Sx.Rep, Sx.Reps, Sx.Rep_cmpB] using this⟩
     | false =>
      exact ⟨_, _, _, ha', rkind_r4 n (by first | ((try simp only [decide_eq_true_eq, decide_eq_false_iff_not] at t0 t1 t2 t3); (try simp only [List.length_take, List.length_drop]); omega) | decide | (have hp' := hp; simp_all; try omega)) t0 t1 t2 t3, rfl, fun c hc => by have := hc g.nx μ; have e0 : rkind_0 n = ((4 : Int)) := (Sx.cf t0).trans ((Sx.cf t1).trans ((Sx.cf t2).trans ((Sx.cf t3).trans (rfl)))); rw [e0]; simpa only [Sx.Rep, Sx.Reps, Sx.Rep_cmpB] using this⟩
 ·exact call0_ok _ _ _ _ _ h
theorem rkindS_tch : ∀ args, Sx.Tch (rkindS args) := by
 intro args
 unfold rkindS
 split
 ·exact Sx.Tch.ret _
 ·exact call0_tch _ _
noncomputable def gam1 : Sx.Known := fun f => bif Nat.beq f 8 then some Sx.ofBits else (bif Nat.beq f 14 then some Sx.toBits else (bif Nat.beq f 50 then some smallS else (bif Nat.beq f 62 then some bytesS else (bif Nat.beq f 42 then some kindS else (bif Nat.beq f 59 then some rkindS else (none))))))
theorem gam1_ok : Sx.KnownOk Try.prog gam1 := by
 intro f s h
 unfold gam1 at h
 cases h1 : Nat.beq f 8 with
 | true =>
  rw [h1] at h
  cases h
  cases Nat.eq_of_beq_eq_true h1
  exact (Sx.ofBits_is Try.prog).callIs Try.func8 (by kernel_rfl) (by kernel_rfl) (by kernel_rfl) (by kernel_rfl)
 | false =>
  rw [h1, cond_false] at h
  clear h1
  cases h1 : Nat.beq f 14 with
  | true =>
   rw [h1] at h
   cases h
   cases Nat.eq_of_beq_eq_true h1
   exact (Sx.toBits_is Try.prog).callIs Try.func14 (by kernel_rfl) (by kernel_rfl) (by kernel_rfl) (by kernel_rfl)
  | false =>
   rw [h1, cond_false] at h
   clear h1
   cases h1 : Nat.beq f 50 with
   | true =>
    rw [h1] at h
    cases h
    cases Nat.eq_of_beq_eq_true h1
    exact smallS_ok
   | false =>
    rw [h1, cond_false] at h
    clear h1
    cases h1 : Nat.beq f 62 with
    | true =>
     rw [h1] at h
     cases h
     cases Nat.eq_of_beq_eq_true h1
     exact bytesS_ok
    | false =>
     rw [h1, cond_false] at h
     clear h1
     cases h1 : Nat.beq f 42 with
     | true =>
      rw [h1] at h
      cases h
      cases Nat.eq_of_beq_eq_true h1
      exact kindS_ok
     | false =>
      rw [h1, cond_false] at h
      clear h1
      cases h1 : Nat.beq f 59 with
      | true =>
       rw [h1] at h
       cases h
       cases Nat.eq_of_beq_eq_true h1
       exact rkindS_ok
      | false =>
       rw [h1, cond_false] at h
       clear h1
       cases h
theorem gam1_tch : Sx.KnownT gam1 := by
 intro f s h
 unfold gam1 at h
 cases h1 : Nat.beq f 8 with
 | true => rw [h1] at h; cases h; exact Sx.Tch.ofBits
 | false =>
  rw [h1, cond_false] at h
  clear h1
  cases h1 : Nat.beq f 14 with
  | true => rw [h1] at h; cases h; exact Sx.Tch.toBits
  | false =>
   rw [h1, cond_false] at h
   clear h1
   cases h1 : Nat.beq f 50 with
   | true => rw [h1] at h; cases h; exact smallS_tch
   | false =>
    rw [h1, cond_false] at h
    clear h1
    cases h1 : Nat.beq f 62 with
    | true => rw [h1] at h; cases h; exact bytesS_tch
    | false =>
     rw [h1, cond_false] at h
     clear h1
     cases h1 : Nat.beq f 42 with
     | true => rw [h1] at h; cases h; exact kindS_tch
     | false =>
      rw [h1, cond_false] at h
      clear h1
      cases h1 : Nat.beq f 59 with
      | true => rw [h1] at h; cases h; exact rkindS_tch
      | false =>
       rw [h1, cond_false] at h
       clear h1
       cases h
noncomputable def call1 : Sx.Calls' := Sx.runN Try.prog gam1 (Sx.regionC Try.prog) 1000 50
theorem call1_ok : Sx.CallOk Try.prog call1 := Sx.engineC gam1_ok gam1_tch (by kernel_rfl) (by kernel_rfl) 1000 50
theorem call1_tch : Sx.CallT call1 := Sx.runA_tch gam1_tch (fun _ _ _ h => by cases h) (fun call hc n l fr => Sx.regionC_tch hc n l fr) 50
theorem call1_reg (n : Nat) : Sx.RegionOk Try.prog (Sx.regionC Try.prog call1 n) n := Sx.runN_regionC gam1_ok gam1_tch (by kernel_rfl) (by kernel_rfl) 1000 50 n
theorem rowOf_r0 (k : Int) (c0 : decide (k = (1 : Int)) = true) : Sx.PureP (Sx.AV.tup [Sx.AV.agg [Sx.AV.int false IntKind.u8 (82 : Int), Sx.AV.str false [(111 : UInt8), (104 : UInt8), (109 : UInt8)], Sx.AV.bool true, Sx.AV.bool false, Sx.AV.bool false], Sx.AV.bool true]) (call1 39 [.int true .u8 k] (Sx.G.on [true])) := by
 have e : Sx.pureP (Sx.AV.tup [Sx.AV.agg [Sx.AV.int false IntKind.u8 (82 : Int), Sx.AV.str false [(111 : UInt8), (104 : UInt8), (109 : UInt8)], Sx.AV.bool true, Sx.AV.bool false, Sx.AV.bool false], Sx.AV.bool true]) (call1 39 [.int true .u8 k] (Sx.G.on [true])) = ((Sx.AV.tup [Sx.AV.agg [Sx.AV.int false IntKind.u8 (82 : Int), Sx.AV.str false [(111 : UInt8), (104 : UInt8), (109 : UInt8)], Sx.AV.bool true, Sx.AV.bool false, Sx.AV.bool false], Sx.AV.bool true]) = (Sx.AV.tup [Sx.AV.agg [Sx.AV.int false IntKind.u8 (82 : Int), Sx.AV.str false [(111 : UInt8), (104 : UInt8), (109 : UInt8)], Sx.AV.bool true, Sx.AV.bool false, Sx.AV.bool false], Sx.AV.bool true]) ∧ (True ∧ (decide (k = (1 : Int)) = true))) := by kernel_rfl
 exact ⟨by rw [e]; exact ⟨rfl, ⟨trivial, c0⟩⟩⟩
theorem rowOf_r1 (k : Int) (c0 : decide (k = (1 : Int)) = false) (c1 : decide (k = (2 : Int)) = true) : Sx.PureP (Sx.AV.tup [Sx.AV.agg [Sx.AV.int false IntKind.u8 (76 : Int), Sx.AV.str false [(104 : UInt8), (101 : UInt8), (110 : UInt8), (114 : UInt8), (121 : UInt8)], Sx.AV.bool true, Sx.AV.bool false, Sx.AV.bool false], Sx.AV.bool true]) (call1 39 [.int true .u8 k] (Sx.G.on [false, true])) := by
 have e : Sx.pureP (Sx.AV.tup [Sx.AV.agg [Sx.AV.int false IntKind.u8 (76 : Int), Sx.AV.str false [(104 : UInt8), (101 : UInt8), (110 : UInt8), (114 : UInt8), (121 : UInt8)], Sx.AV.bool true, Sx.AV.bool false, Sx.AV.bool false], Sx.AV.bool true]) (call1 39 [.int true .u8 k] (Sx.G.on [false, true])) = ((Sx.AV.tup [Sx.AV.agg [Sx.AV.int false IntKind.u8 (76 : Int), Sx.AV.str false [(104 : UInt8), (101 : UInt8), (110 : UInt8), (114 : UInt8), (121 : UInt8)], Sx.AV.bool true, Sx.AV.bool false, Sx.AV.bool false], Sx.AV.bool true]) = (Sx.AV.tup [Sx.AV.agg [Sx.AV.int false IntKind.u8 (76 : Int), Sx.AV.str false [(104 : UInt8), (101 : UInt8), (110 : UInt8), (114 : UInt8), (121 : UInt8)], Sx.AV.bool true, Sx.AV.bool false, Sx.AV.bool false], Sx.AV.bool true]) ∧ ((True ∧ (decide (k = (1 : Int)) = false)) ∧ (decide (k = (2 : Int)) = true))) := by kernel_rfl
 exact ⟨by rw [e]; exact ⟨rfl, ⟨⟨trivial, c0⟩, c1⟩⟩⟩
theorem rowOf_r2 (k : Int) (c0 : decide (k = (1 : Int)) = false) (c1 : decide (k = (2 : Int)) = false) (c2 : decide (k = (3 : Int)) = true) : Sx.PureP (Sx.AV.tup [Sx.AV.agg [Sx.AV.int false IntKind.u8 (67 : Int), Sx.AV.str false [(102 : UInt8), (97 : UInt8), (114 : UInt8), (97 : UInt8), (100 : UInt8)], Sx.AV.bool true, Sx.AV.bool false, Sx.AV.bool false], Sx.AV.bool true]) (call1 39 [.int true .u8 k] (Sx.G.on [false, false, true])) := by
 have e : Sx.pureP (Sx.AV.tup [Sx.AV.agg [Sx.AV.int false IntKind.u8 (67 : Int), Sx.AV.str false [(102 : UInt8), (97 : UInt8), (114 : UInt8), (97 : UInt8), (100 : UInt8)], Sx.AV.bool true, Sx.AV.bool false, Sx.AV.bool false], Sx.AV.bool true]) (call1 39 [.int true .u8 k] (Sx.G.on [false, false, true])) = ((Sx.AV.tup [Sx.AV.agg [Sx.AV.int false IntKind.u8 (67 : Int), Sx.AV.str false [(102 : UInt8), (97 : UInt8), (114 : UInt8), (97 : UInt8), (100 : UInt8)], Sx.AV.bool true, Sx.AV.bool false, Sx.AV.bool false], Sx.AV.bool true]) = (Sx.AV.tup [Sx.AV.agg [Sx.AV.int false IntKind.u8 (67 : Int), Sx.AV.str false [(102 : UInt8), (97 : UInt8), (114 : UInt8), (97 : UInt8), (100 : UInt8)], Sx.AV.bool true, Sx.AV.bool false, Sx.AV.bool false], Sx.AV.bool true]) ∧ (((True ∧ (decide (k = (1 : Int)) = false)) ∧ (decide (k = (2 : Int)) = false)) ∧ (decide (k = (3 : Int)) = true))) := by kernel_rfl
 exact ⟨by rw [e]; exact ⟨rfl, ⟨⟨⟨trivial, c0⟩, c1⟩, c2⟩⟩⟩
theorem rowOf_r3 (k : Int) (c0 : decide (k = (1 : Int)) = false) (c1 : decide (k = (2 : Int)) = false) (c2 : decide (k = (3 : Int)) = false) (c3 : decide (k = (4 : Int)) = true) : Sx.PureP (Sx.AV.tup [Sx.AV.agg [Sx.AV.int false IntKind.u8 (73 : Int), Sx.AV.str false [(97 : UInt8), (109 : UInt8), (112 : UInt8), (101 : UInt8), (114 : UInt8), (101 : UInt8)], Sx.AV.bool false, Sx.AV.bool false, Sx.AV.bool true], Sx.AV.bool true]) (call1 39 [.int true .u8 k] (Sx.G.on [false, false, false, true])) := by
 have e : Sx.pureP (Sx.AV.tup [Sx.AV.agg [Sx.AV.int false IntKind.u8 (73 : Int), Sx.AV.str false [(97 : UInt8), (109 : UInt8), (112 : UInt8), (101 : UInt8), (114 : UInt8), (101 : UInt8)], Sx.AV.bool false, Sx.AV.bool false, Sx.AV.bool true], Sx.AV.bool true]) (call1 39 [.int true .u8 k] (Sx.G.on [false, false, false, true])) = ((Sx.AV.tup [Sx.AV.agg [Sx.AV.int false IntKind.u8 (73 : Int), Sx.AV.str false [(97 : UInt8), (109 : UInt8), (112 : UInt8), (101 : UInt8), (114 : UInt8), (101 : UInt8)], Sx.AV.bool false, Sx.AV.bool false, Sx.AV.bool true], Sx.AV.bool true]) = (Sx.AV.tup [Sx.AV.agg [Sx.AV.int false IntKind.u8 (73 : Int), Sx.AV.str false [(97 : UInt8), (109 : UInt8), (112 : UInt8), (101 : UInt8), (114 : UInt8), (101 : UInt8)], Sx.AV.bool false, Sx.AV.bool false, Sx.AV.bool true], Sx.AV.bool true]) ∧ ((((True ∧ (decide (k = (1 : Int)) = false)) ∧ (decide (k = (2 : Int)) = false)) ∧ (decide (k = (3 : Int)) = false)) ∧ (decide (k = (4 : Int)) = true))) := by kernel_rfl
 exact ⟨by rw [e]; exact ⟨rfl, ⟨⟨⟨⟨trivial, c0⟩, c1⟩, c2⟩, c3⟩⟩⟩
theorem rowOf_r4 (k : Int) (c0 : decide (k = (1 : Int)) = false) (c1 : decide (k = (2 : Int)) = false) (c2 : decide (k = (3 : Int)) = false) (c3 : decide (k = (4 : Int)) = false) (c4 : decide (k = (5 : Int)) = true) : Sx.PureP (Sx.AV.tup [Sx.AV.agg [Sx.AV.int false IntKind.u8 (86 : Int), Sx.AV.str false [(118 : UInt8), (111 : UInt8), (108 : UInt8), (116 : UInt8)], Sx.AV.bool false, Sx.AV.bool false, Sx.AV.bool true], Sx.AV.bool true]) (call1 39 [.int true .u8 k] (Sx.G.on [false, false, false, false, true])) := by
 have e : Sx.pureP (Sx.AV.tup [Sx.AV.agg [Sx.AV.int false IntKind.u8 (86 : Int), Sx.AV.str false [(118 : UInt8), (111 : UInt8), (108 : UInt8), (116 : UInt8)], Sx.AV.bool false, Sx.AV.bool false, Sx.AV.bool true], Sx.AV.bool true]) (call1 39 [.int true .u8 k] (Sx.G.on [false, false, false, false, true])) = ((Sx.AV.tup [Sx.AV.agg [Sx.AV.int false IntKind.u8 (86 : Int), Sx.AV.str false [(118 : UInt8), (111 : UInt8), (108 : UInt8), (116 : UInt8)], Sx.AV.bool false, Sx.AV.bool false, Sx.AV.bool true], Sx.AV.bool true]) = (Sx.AV.tup [Sx.AV.agg [Sx.AV.int false IntKind.u8 (86 : Int), Sx.AV.str false [(118 : UInt8), (111 : UInt8), (108 : UInt8), (116 : UInt8)], Sx.AV.bool false, Sx.AV.bool false, Sx.AV.bool true], Sx.AV.bool true]) ∧ (((((True ∧ (decide (k = (1 : Int)) = false)) ∧ (decide (k = (2 : Int)) = false)) ∧ (decide (k = (3 : Int)) = false)) ∧ (decide (k = (4 : Int)) = false)) ∧ (decide (k = (5 : Int)) = true))) := by kernel_rfl
 exact ⟨by rw [e]; exact ⟨rfl, ⟨⟨⟨⟨⟨trivial, c0⟩, c1⟩, c2⟩, c3⟩, c4⟩⟩⟩
theorem rowOf_r5 (k : Int) (c0 : decide (k = (1 : Int)) = false) (c1 : decide (k = (2 : Int)) = false) (c2 : decide (k = (3 : Int)) = false) (c3 : decide (k = (4 : Int)) = false) (c4 : decide (k = (5 : Int)) = false) (c5 : decide (k = (6 : Int)) = true) : Sx.PureP (Sx.AV.tup [Sx.AV.agg [Sx.AV.int false IntKind.u8 (71 : Int), Sx.AV.str false [(115 : UInt8), (105 : UInt8), (101 : UInt8), (109 : UInt8), (101 : UInt8), (110 : UInt8), (115 : UInt8)], Sx.AV.bool false, Sx.AV.bool true, Sx.AV.bool false], Sx.AV.bool true]) (call1 39 [.int true .u8 k] (Sx.G.on [false, false, false, false, false, true])) := by
 have e : Sx.pureP (Sx.AV.tup [Sx.AV.agg [Sx.AV.int false IntKind.u8 (71 : Int), Sx.AV.str false [(115 : UInt8), (105 : UInt8), (101 : UInt8), (109 : UInt8), (101 : UInt8), (110 : UInt8), (115 : UInt8)], Sx.AV.bool false, Sx.AV.bool true, Sx.AV.bool false], Sx.AV.bool true]) (call1 39 [.int true .u8 k] (Sx.G.on [false, false, false, false, false, true])) = ((Sx.AV.tup [Sx.AV.agg [Sx.AV.int false IntKind.u8 (71 : Int), Sx.AV.str false [(115 : UInt8), (105 : UInt8), (101 : UInt8), (109 : UInt8), (101 : UInt8), (110 : UInt8), (115 : UInt8)], Sx.AV.bool false, Sx.AV.bool true, Sx.AV.bool false], Sx.AV.bool true]) = (Sx.AV.tup [Sx.AV.agg [Sx.AV.int false IntKind.u8 (71 : Int), Sx.AV.str false [(115 : UInt8), (105 : UInt8), (101 : UInt8), (109 : UInt8), (101 : UInt8), (110 : UInt8), (115 : UInt8)], Sx.AV.bool false, Sx.AV.bool true, Sx.AV.bool false], Sx.AV.bool true]) ∧ ((((((True ∧ (decide (k = (1 : Int)) = false)) ∧ (decide (k = (2 : Int)) = false)) ∧ (decide (k = (3 : Int)) = false)) ∧ (decide (k = (4 : Int)) = false)) ∧ (decide (k = (5 : Int)) = false)) ∧ (decide (k = (6 : Int)) = true))) := by kernel_rfl
 exact ⟨by rw [e]; exact ⟨rfl, ⟨⟨⟨⟨⟨⟨trivial, c0⟩, c1⟩, c2⟩, c3⟩, c4⟩, c5⟩⟩⟩
theorem rowOf_r6 (k : Int) (c0 : decide (k = (1 : Int)) = false) (c1 : decide (k = (2 : Int)) = false) (c2 : decide (k = (3 : Int)) = false) (c3 : decide (k = (4 : Int)) = false) (c4 : decide (k = (5 : Int)) = false) (c5 : decide (k = (6 : Int)) = false) (c6 : decide (k = (7 : Int)) = true) : Sx.PureP (Sx.AV.tup [Sx.AV.agg [Sx.AV.int false IntKind.u8 (69 : Int), Sx.AV.str false [], Sx.AV.bool false, Sx.AV.bool true, Sx.AV.bool false], Sx.AV.bool true]) (call1 39 [.int true .u8 k] (Sx.G.on [false, false, false, false, false, false, true])) := by
 have e : Sx.pureP (Sx.AV.tup [Sx.AV.agg [Sx.AV.int false IntKind.u8 (69 : Int), Sx.AV.str false [], Sx.AV.bool false, Sx.AV.bool true, Sx.AV.bool false], Sx.AV.bool true]) (call1 39 [.int true .u8 k] (Sx.G.on [false, false, false, false, false, false, true])) = ((Sx.AV.tup [Sx.AV.agg [Sx.AV.int false IntKind.u8 (69 : Int), Sx.AV.str false [], Sx.AV.bool false, Sx.AV.bool true, Sx.AV.bool false], Sx.AV.bool true]) = (Sx.AV.tup [Sx.AV.agg [Sx.AV.int false IntKind.u8 (69 : Int), Sx.AV.str false [], Sx.AV.bool false, Sx.AV.bool true, Sx.AV.bool false], Sx.AV.bool true]) ∧ (((((((True ∧ (decide (k = (1 : Int)) = false)) ∧ (decide (k = (2 : Int)) = false)) ∧ (decide (k = (3 : Int)) = false)) ∧ (decide (k = (4 : Int)) = false)) ∧ (decide (k = (5 : Int)) = false)) ∧ (decide (k = (6 : Int)) = false)) ∧ (decide (k = (7 : Int)) = true))) := by kernel_rfl
 exact ⟨by rw [e]; exact ⟨rfl, ⟨⟨⟨⟨⟨⟨⟨trivial, c0⟩, c1⟩, c2⟩, c3⟩, c4⟩, c5⟩, c6⟩⟩⟩
theorem rowOf_r7 (k : Int) (c0 : decide (k = (1 : Int)) = false) (c1 : decide (k = (2 : Int)) = false) (c2 : decide (k = (3 : Int)) = false) (c3 : decide (k = (4 : Int)) = false) (c4 : decide (k = (5 : Int)) = false) (c5 : decide (k = (6 : Int)) = false) (c6 : decide (k = (7 : Int)) = false) (c7 : decide (k = (8 : Int)) = true) : Sx.PureP (Sx.AV.tup [Sx.AV.agg [Sx.AV.int false IntKind.u8 (80 : Int), Sx.AV.str false [(111 : UInt8), (104 : UInt8), (109 : UInt8)], Sx.AV.bool true, Sx.AV.bool false, Sx.AV.bool false], Sx.AV.bool true]) (call1 39 [.int true .u8 k] (Sx.G.on [false, false, false, false, false, false, false, true])) := by
 have e : Sx.pureP (Sx.AV.tup [Sx.AV.agg [Sx.AV.int false IntKind.u8 (80 : Int), Sx.AV.str false [(111 : UInt8), (104 : UInt8), (109 : UInt8)], Sx.AV.bool true, Sx.AV.bool false, Sx.AV.bool false], Sx.AV.bool true]) (call1 39 [.int true .u8 k] (Sx.G.on [false, false, false, false, false, false, false, true])) = ((Sx.AV.tup [Sx.AV.agg [Sx.AV.int false IntKind.u8 (80 : Int), Sx.AV.str false [(111 : UInt8), (104 : UInt8), (109 : UInt8)], Sx.AV.bool true, Sx.AV.bool false, Sx.AV.bool false], Sx.AV.bool true]) = (Sx.AV.tup [Sx.AV.agg [Sx.AV.int false IntKind.u8 (80 : Int), Sx.AV.str false [(111 : UInt8), (104 : UInt8), (109 : UInt8)], Sx.AV.bool true, Sx.AV.bool false, Sx.AV.bool false], Sx.AV.bool true]) ∧ ((((((((True ∧ (decide (k = (1 : Int)) = false)) ∧ (decide (k = (2 : Int)) = false)) ∧ (decide (k = (3 : Int)) = false)) ∧ (decide (k = (4 : Int)) = false)) ∧ (decide (k = (5 : Int)) = false)) ∧ (decide (k = (6 : Int)) = false)) ∧ (decide (k = (7 : Int)) = false)) ∧ (decide (k = (8 : Int)) = true))) := by kernel_rfl
 exact ⟨by rw [e]; exact ⟨rfl, ⟨⟨⟨⟨⟨⟨⟨⟨trivial, c0⟩, c1⟩, c2⟩, c3⟩, c4⟩, c5⟩, c6⟩, c7⟩⟩⟩
theorem rowOf_r8 (k : Int) (c0 : decide (k = (1 : Int)) = false) (c1 : decide (k = (2 : Int)) = false) (c2 : decide (k = (3 : Int)) = false) (c3 : decide (k = (4 : Int)) = false) (c4 : decide (k = (5 : Int)) = false) (c5 : decide (k = (6 : Int)) = false) (c6 : decide (k = (7 : Int)) = false) (c7 : decide (k = (8 : Int)) = false) : Sx.PureP (Sx.AV.tup [Sx.AV.agg [Sx.AV.int false IntKind.u8 (0 : Int), Sx.AV.str false [], Sx.AV.bool false, Sx.AV.bool false, Sx.AV.bool false], Sx.AV.bool false]) (call1 39 [.int true .u8 k] (Sx.G.on [false, false, false, false, false, false, false, false])) := by
 have e : Sx.pureP (Sx.AV.tup [Sx.AV.agg [Sx.AV.int false IntKind.u8 (0 : Int), Sx.AV.str false [], Sx.AV.bool false, Sx.AV.bool false, Sx.AV.bool false], Sx.AV.bool false]) (call1 39 [.int true .u8 k] (Sx.G.on [false, false, false, false, false, false, false, false])) = ((Sx.AV.tup [Sx.AV.agg [Sx.AV.int false IntKind.u8 (0 : Int), Sx.AV.str false [], Sx.AV.bool false, Sx.AV.bool false, Sx.AV.bool false], Sx.AV.bool false]) = (Sx.AV.tup [Sx.AV.agg [Sx.AV.int false IntKind.u8 (0 : Int), Sx.AV.str false [], Sx.AV.bool false, Sx.AV.bool false, Sx.AV.bool false], Sx.AV.bool false]) ∧ ((((((((True ∧ (decide (k = (1 : Int)) = false)) ∧ (decide (k = (2 : Int)) = false)) ∧ (decide (k = (3 : Int)) = false)) ∧ (decide (k = (4 : Int)) = false)) ∧ (decide (k = (5 : Int)) = false)) ∧ (decide (k = (6 : Int)) = false)) ∧ (decide (k = (7 : Int)) = false)) ∧ (decide (k = (8 : Int)) = false))) := by kernel_rfl
 exact ⟨by rw [e]; exact ⟨rfl, ⟨⟨⟨⟨⟨⟨⟨⟨trivial, c0⟩, c1⟩, c2⟩, c3⟩, c4⟩, c5⟩, c6⟩, c7⟩⟩⟩
noncomputable def rowOf_0 (k : Int) : Int := (bif decide (k = (1 : Int)) then ((82 : Int)) else (bif decide (k = (2 : Int)) then ((76 : Int)) else (bif decide (k = (3 : Int)) then ((67 : Int)) else (bif decide (k = (4 : Int)) then ((73 : Int)) else (bif decide (k = (5 : Int)) then ((86 : Int)) else (bif decide (k = (6 : Int)) then ((71 : Int)) else (bif decide (k = (7 : Int)) then ((69 : Int)) else (bif decide (k = (8 : Int)) then ((80 : Int)) else ((0 : Int))))))))))
noncomputable def rowOf_1 (k : Int) : List UInt8 := (bif decide (k = (1 : Int)) then ([(111 : UInt8), (104 : UInt8), (109 : UInt8)]) else (bif decide (k = (2 : Int)) then ([(104 : UInt8), (101 : UInt8), (110 : UInt8), (114 : UInt8), (121 : UInt8)]) else (bif decide (k = (3 : Int)) then ([(102 : UInt8), (97 : UInt8), (114 : UInt8), (97 : UInt8), (100 : UInt8)]) else (bif decide (k = (4 : Int)) then ([(97 : UInt8), (109 : UInt8), (112 : UInt8), (101 : UInt8), (114 : UInt8), (101 : UInt8)]) else (bif decide (k = (5 : Int)) then ([(118 : UInt8), (111 : UInt8), (108 : UInt8), (116 : UInt8)]) else (bif decide (k = (6 : Int)) then ([(115 : UInt8), (105 : UInt8), (101 : UInt8), (109 : UInt8), (101 : UInt8), (110 : UInt8), (115 : UInt8)]) else (bif decide (k = (7 : Int)) then ([]) else (bif decide (k = (8 : Int)) then ([(111 : UInt8), (104 : UInt8), (109 : UInt8)]) else ([])))))))))
noncomputable def rowOf_2 (k : Int) : Bool := (bif decide (k = (1 : Int)) then (true) else (bif decide (k = (2 : Int)) then (true) else (bif decide (k = (3 : Int)) then (true) else (bif decide (k = (4 : Int)) then (false) else (bif decide (k = (5 : Int)) then (false) else (bif decide (k = (6 : Int)) then (false) else (bif decide (k = (7 : Int)) then (false) else (bif decide (k = (8 : Int)) then (true) else (false)))))))))
noncomputable def rowOf_3 (k : Int) : Bool := (bif decide (k = (1 : Int)) then (false) else (bif decide (k = (2 : Int)) then (false) else (bif decide (k = (3 : Int)) then (false) else (bif decide (k = (4 : Int)) then (false) else (bif decide (k = (5 : Int)) then (false) else (bif decide (k = (6 : Int)) then (true) else (bif decide (k = (7 : Int)) then (true) else (bif decide (k = (8 : Int)) then (false) else (false)))))))))
noncomputable def rowOf_4 (k : Int) : Bool := (bif decide (k = (1 : Int)) then (false) else (bif decide (k = (2 : Int)) then (false) else (bif decide (k = (3 : Int)) then (false) else (bif decide (k = (4 : Int)) then (true) else (bif decide (k = (5 : Int)) then (true) else (bif decide (k = (6 : Int)) then (false) else (bif decide (k = (7 : Int)) then (false) else (bif decide (k = (8 : Int)) then (false) else (false)))))))))
noncomputable def rowOf_5 (k : Int) : Bool := (bif decide (k = (1 : Int)) then (true) else (bif decide (k = (2 : Int)) then (true) else (bif decide (k = (3 : Int)) then (true) else (bif decide (k = (4 : Int)) then (true) else (bif decide (k = (5 : Int)) then (true) else (bif decide (k = (6 : Int)) then (true) else (bif decide (k = (7 : Int)) then (true) else (bif decide (k = (8 : Int)) then (true) else (false)))))))))
noncomputable def rowOfS : List Sx.AV → Sx.M Sx.AV
 | [.int s0 .u8 k] => Sx.M.ret (Sx.AV.tup [Sx.AV.agg [Sx.AV.int s0 (IntKind.u8) (rowOf_0 k), Sx.AV.str s0 (rowOf_1 k), Sx.cmpB s0 (rowOf_2 k), Sx.cmpB s0 (rowOf_3 k), Sx.cmpB s0 (rowOf_4 k)], Sx.cmpB s0 (rowOf_5 k)])
 | args => call1 39 args
theorem rowOfS_ok : ∀ args v g g', rowOfS args g = .done v g' → Sx.CallIs Try.prog 39 args v g g' := by
 intro args v g g' h
 unfold rowOfS at h
 split at h
 ·rename_i s0 k
  obtain ⟨rfl, rfl⟩ := Sx.ret_done h
  refine Sx.scal call1_ok fun μ cargs ha => ?_
  have ha' : Sx.Reps 0 Sx.MM.none [.int true .u8 k] cargs.toList := by simpa only [Sx.Reps, Sx.Rep] using ha
  cases t0 : decide (k = (1 : Int)) with
  | true =>
   exact ⟨_, _, _, ha', rowOf_r0 k t0, rfl, fun c hc => by have := hc g.nx μ; have e0 : rowOf_0 k = ((82 : Int)) := (Sx.ct t0).trans (rfl); have e1 : rowOf_1 k = ([(111 : UInt8), (104 : UInt8), (109 : UInt8)]) := (Sx.ct t0).trans (rfl); have e2 : rowOf_2 k = (true) := (Sx.ct t0).trans (rfl); have e3 : rowOf_3 k = (false) := (Sx.ct t0).trans (rfl); have e4 : rowOf_4 k = (false) := (Sx.ct t0).trans (rfl); have e5 : rowOf_5 k = (true) := (Sx.ct t0).trans (rfl); rw [e0, e1, e2, e3, e4, e5]; simpa only [Sx.Rep, Sx.Reps, Sx.Rep_cmpB] using this⟩
  | false =>
   cases t1 : decide (k = (2 : Int)) with
   | true =>
    exact ⟨_, _, _, ha', rowOf_r1 k t0 t1, rfl, fun c hc => by have := hc g.nx μ; have e0 : rowOf_0 k = ((76 : Int)) := (Sx.cf t0).trans ((Sx.ct t1).trans (rfl)); have e1 : rowOf_1 k = ([(104 : UInt8), (101 : UInt8), (110 : UInt8), (114 : UInt8), (121 : UInt8)]) := (Sx.cf t0).trans ((Sx.ct t1).trans (rfl)); have e2 : rowOf_2 k = (true) := (Sx.cf t0).trans ((Sx.ct t1).trans (rfl)); have e3 : rowOf_3 k = (false) := (Sx.cf t0).trans ((Sx.ct t1).trans (rfl)); have e4 : rowOf_4 k = (false) := (Sx.cf t0).trans ((Sx.ct t1).trans (rfl)); have e5 : rowOf_5 k = (true) := (Sx.cf t0).trans ((Sx.ct t1).trans (rfl)); rw [e0, e1, e2, e3, e4, e5]; simpa only [Sx.Rep, Sx.Reps, Sx.Rep_cmpB] using this⟩
   | false =>
    cases t2 : decide (k = (3 : Int)) with
    | true =>
     exact ⟨_, _, _, ha', rowOf_r2 k t0 t1 t2, rfl, fun c hc => by have := hc g.nx μ; have e0 : rowOf_0 k = ((67 : Int)) := (Sx.cf t0).trans ((Sx.cf t1).trans ((Sx.ct t2).trans (rfl))); have e1 : rowOf_1 k = ([(102 : UInt8), (97 : UInt8), (114 : UInt8), (97 : UInt8), (100 : UInt8)]) := (Sx.cf t0).trans ((Sx.cf t1).trans ((Sx.ct t2).trans (rfl))); have e2 : rowOf_2 k = (true) := (Sx.cf t0).trans ((Sx.cf t1).trans ((Sx.ct t2).trans (rfl))); have e3 : rowOf_3 k = (false) := (Sx.cf t0).trans ((Sx.cf t1).trans ((Sx.ct t2).trans (rfl))); have e4 : rowOf_4 k = (false) := (Sx.cf t0).trans ((Sx.cf t1).trans ((Sx.ct t2).trans (rfl))); have e5 : rowOf_5 k = (true) := (Sx.cf t0).trans ((Sx.cf t1).trans ((Sx.ct t2).trans (rfl))); rw [e0, e1, e2, e3, e4, e5]; simpa only [Sx.Rep, Sx.Reps, Sx.Rep_cmpB] using this⟩
    | false =>
     cases t3 : decide (k = (4 : Int)) with
     | true =>
      exact ⟨_, _, _, ha', rowOf_r3 k t0 t1 t2 t3, rfl, fun c hc => by have := hc g.nx μ; have e0 : rowOf_0 k = ((73 : Int)) := (Sx.cf t0).trans ((Sx.cf t1).trans ((Sx.cf t2).trans ((Sx.ct t3).trans (rfl)))); have e1 : rowOf_1 k = ([(97 : UInt8), (109 : UInt8), (112 : UInt8), (101 : UInt8), (114 : UInt8), (101 : UInt8)]) := (Sx.cf t0).trans ((Sx.cf t1).trans ((Sx.cf t2).trans ((Sx.ct t3).trans (rfl)))); have e2 : rowOf_2 k = (false) := (Sx.cf t0).trans ((Sx.cf t1).trans ((Sx.cf t2).trans ((Sx.ct t3).trans (rfl)))); have e3 : rowOf_3 k = (false) := (Sx.cf t0).trans ((Sx.cf t1).trans ((Sx.cf t2).trans ((Sx.ct t3).trans (rfl)))); have e4 : rowOf_4 k = (true) := (Sx.cf t0).trans ((Sx.cf t1).trans ((Sx.cf t2).trans ((Sx.ct t3).trans (rfl)))); have e5 : rowOf_5 k = (true) := (Sx.cf t0).trans ((Sx.cf t1).trans ((Sx.cf t2).trans ((Sx.ct t3).trans (rfl)))); rw [e0, e1, e2, e3, e4, e5]; simpa only [Sx.Rep, Sx.Reps, Sx.Rep_cmpB] using this⟩
     | false =>
      cases t4 : decide (k = (5 : Int)) with
      | true =>
       exact ⟨_, _, _, ha', rowOf_r4 k t0 t1 t2 t3 t4, rfl, fun c hc => by have := hc g.nx μ; have e0 : rowOf_0 k = ((86 : Int)) := (Sx.cf t0).trans ((Sx.cf t1).trans ((Sx.cf t2).trans ((Sx.cf t3).trans ((Sx.ct t4).trans (rfl))))); have e1 : rowOf_1 k = ([(118 : UInt8), (111 : UInt8), (108 : UInt8), (116 : UInt8)]) := (Sx.cf t0).trans ((Sx.cf t1).trans ((Sx.cf t2).trans ((Sx.cf t3).trans ((Sx.ct t4).trans (rfl))))); have e2 : rowOf_2 k = (false) := (Sx.cf t0).trans ((Sx.cf t1).trans ((Sx.cf t2).trans ((Sx.cf t3).trans ((Sx.ct t4).trans (rfl))))); have e3 : rowOf_3 k = (false) := (Sx.cf t0).trans ((Sx.cf t1).trans ((Sx.cf t2).trans ((Sx.cf t3).trans ((Sx.ct t4).trans (rfl))))); have e4 : rowOf_4 k = (true) := (Sx.cf t0).trans ((Sx.cf t1).trans ((Sx.cf t2).trans ((Sx.cf t3).trans ((Sx.ct t4).trans (rfl))))); have e5 : rowOf_5 k = (true) := (Sx.cf t0).trans ((Sx.cf t1).trans ((Sx.cf t2).trans ((Sx.cf t3).trans ((Sx.ct t4).trans (rfl))))); rw [e0, e1, e2, e3, e4, e5]; simpa only [Sx.Rep, Sx.Reps, Sx.Rep_cmpB] using this⟩
      | false =>
       cases t5 : decide (k = (6 : Int)) with
       | true =>
        exact ⟨_, _, _, ha', rowOf_r5 k t0 t1 t2 t3 t4 t5, rfl, fun c hc => by have := hc g.nx μ; have e0 : rowOf_0 k = ((71 : Int)) := (Sx.cf t0).trans ((Sx.cf t1).trans ((Sx.cf t2).trans ((Sx.cf t3).trans ((Sx.cf t4).trans ((Sx.ct t5).trans (rfl)))))); have e1 : rowOf_1 k = ([(115 : UInt8), (105 : UInt8), (101 : UInt8), (109 : UInt8), (101 : UInt8), (110 : UInt8), (115 : UInt8)]) := (Sx.cf t0).trans ((Sx.cf t1).trans ((Sx.cf t2).trans ((Sx.cf t3).trans ((Sx.cf t4).trans ((Sx.ct t5).trans (rfl)))))); have e2 : rowOf_2 k = (false) := (Sx.cf t0).trans ((Sx.cf t1).trans ((Sx.cf t2).trans ((Sx.cf t3).trans ((Sx.cf t4).trans ((Sx.ct t5).trans (rfl)))))); have e3 : rowOf_3 k = (true) := (Sx.cf t0).trans ((Sx.cf t1).trans ((Sx.cf t2).trans ((Sx.cf t3).trans ((Sx.cf t4).trans ((Sx.ct t5).trans (rfl)))))); have e4 : rowOf_4 k = (false) := (Sx.cf t0).trans ((Sx.cf t1).trans ((Sx.cf t2).trans ((Sx.cf t3).trans ((Sx.cf t4).trans ((Sx.ct t5).trans (rfl)))))); have e5 : rowOf_5 k = (true) := (Sx.cf t0).trans ((Sx.cf t1).trans ((Sx.cf t2).trans ((Sx.cf t3).trans ((Sx.cf t4).trans ((Sx.ct t5).trans (rfl)))))); rw [e0, e1, e2, e3, e4, e5]; simpa only [Sx.Rep, Sx.Reps, Sx.Rep_cmpB] using this⟩
       | false =>
        cases t6 : decide (k = (7 : Int)) with
        | true =>
         exact ⟨_, _, _, ha', rowOf_r6 k t0 t1 t2 t3 t4 t5 t6, rfl, fun c hc => by have := hc g.nx μ; have e0 : rowOf_0 k = ((69 : Int)) := (Sx.cf t0).trans ((Sx.cf t1).trans ((Sx.cf t2).trans ((Sx.cf t3).trans ((Sx.cf t4).trans ((Sx.cf t5).trans ((Sx.ct t6).trans (rfl))))))); have e1 : rowOf_1 k = ([]) := (Sx.cf t0).trans ((Sx.cf t1).trans ((Sx.cf t2).trans ((Sx.cf t3).trans ((Sx.cf t4).trans ((Sx.cf t5).trans ((Sx.ct t6).trans (rfl))))))); have e2 : rowOf_2 k = (false) := (Sx.cf t0).trans ((Sx.cf t1).trans ((Sx.cf t2).trans ((Sx.cf t3).trans ((Sx.cf t4).trans ((Sx.cf t5).trans ((Sx.ct t6).trans (rfl))))))); have e3 : rowOf_3 k = (true) := (Sx.cf t0).trans ((Sx.cf t1).trans ((Sx.cf t2).trans ((Sx.cf t3).trans ((Sx.cf t4).trans ((Sx.cf t5).trans ((Sx.ct t6).trans (rfl))))))); have e4 : rowOf_4 k = (false) := (Sx.cf t0).trans ((Sx.cf t1).trans ((Sx.cf t2).trans ((Sx.cf t3).trans ((Sx.cf t4).trans ((Sx.cf t5).trans ((Sx.ct t6).trans (rfl))))))); have e5 : rowOf_5 k = (true) := (Sx.cf t0).trans ((Sx.cf t1).trans ((Sx.cf t2).trans ((Sx.cf t3).trans ((Sx.cf t4).trans ((Sx.cf t5).trans ((Sx.ct t6).trans (rfl))))))); rw [e0, e1, e2, e3, e4, e5]; simpa only [Sx.Rep, Sx.Reps, Sx.Rep_cmpB] using this⟩
        | false =>
         cases t7 : decide (k = (8 : Int)) with
         | true =>
          exact ⟨_, _, _, ha', rowOf_r7 k t0 t1 t2 t3 t4 t5 t6 t7, rfl, fun c hc => by have := hc g.nx μ; have e0 : rowOf_0 k = ((80 : Int)) := (Sx.cf t0).trans ((Sx.cf t1).trans ((Sx.cf t2).trans ((Sx.cf t3).trans ((Sx.cf t4).trans ((Sx.cf t5).trans ((Sx.cf t6).trans ((Sx.ct t7).trans (rfl)))))))); have e1 : rowOf_1 k = ([(111 : UInt8), (104 : UInt8), (109 : UInt8)]) := (Sx.cf t0).trans ((Sx.cf t1).trans ((Sx.cf t2).trans ((Sx.cf t3).trans ((Sx.cf t4).trans ((Sx.cf t5).trans ((Sx.cf t6).trans ((Sx.ct t7).trans (rfl)))))))); have e2 : rowOf_2 k = (true) := (Sx.cf t0).trans ((Sx.cf t1).trans ((Sx.cf t2).trans ((Sx.cf t3).trans ((Sx.cf t4).trans ((Sx.cf t5).trans ((Sx.cf t6).trans ((Sx.ct t7).trans (rfl)))))))); have e3 : rowOf_3 k = (false) := (Sx.cf t0).trans ((Sx.cf t1).trans ((Sx.cf t2).trans ((Sx.cf t3).trans ((Sx.cf t4).trans ((Sx.cf t5).trans ((Sx.cf t6).trans ((Sx.ct t7).trans (rfl)))))))); have e4 : rowOf_4 k = (false) := (Sx.cf t0).trans ((Sx.cf t1).trans ((Sx.cf t2).trans ((Sx.cf t3).trans ((Sx.cf t4).trans ((Sx.cf t5).trans ((Sx.cf t6).trans ((Sx.ct t7).trans (rfl)))))))); have e5 : rowOf_5 k = (true) := (Sx.cf t0).trans ((Sx.cf t1).trans ((Sx.cf t2).trans ((Sx.cf t3).trans ((Sx.cf t4).trans ((Sx.cf t5).trans ((Sx.cf t6).trans ((Sx.ct t7).trans (rfl)))))))); rw [e0, e1, e2, e3, e4, e5]; simpa only [Sx.Rep, Sx.Reps, Sx.Rep_cmpB] using this⟩
         | false =>
          exact ⟨_, _, _, ha', rowOf_r8 k t0 t1 t2 t3 t4 t5 t6 t7, rfl, fun c hc => by have := hc g.nx μ; have e0 : rowOf_0 k = ((0 : Int)) := (Sx.cf t0).trans ((Sx.cf t1).trans ((Sx.cf t2).trans ((Sx.cf t3).trans ((Sx.cf t4).trans ((Sx.cf t5).trans ((Sx.cf t6).trans ((Sx.cf t7).trans (rfl)))))))); have e1 : rowOf_1 k = ([]) := (Sx.cf t0).trans ((Sx.cf t1).trans ((Sx.cf t2).trans ((Sx.cf t3).trans ((Sx.cf t4).trans ((Sx.cf t5).trans ((Sx.cf t6).trans ((Sx.cf t7).trans (rfl)))))))); have e2 : rowOf_2 k = (false) := (Sx.cf t0).trans ((Sx.cf t1).trans ((Sx.cf t2).trans ((Sx.cf t3).trans ((Sx.cf t4).trans ((Sx.cf t5).trans ((Sx.cf t6).trans ((Sx.cf t7).trans (rfl)))))))); have e3 : rowOf_3 k = (false) := (Sx.cf t0).trans ((Sx.cf t1).trans ((Sx.cf t2).trans ((Sx.cf t3).trans ((Sx.cf t4).trans ((Sx.cf t5).trans ((Sx.cf t6).trans ((Sx.cf t7).trans (rfl)))))))); have e4 : rowOf_4 k = (false) := (Sx.cf t0).trans ((Sx.cf t1).trans ((Sx.cf t2).trans ((Sx.cf t3).trans ((Sx.cf t4).trans ((Sx.cf t5).trans ((Sx.cf t6).trans ((Sx.cf t7).trans (rfl)))))))); have e5 : rowOf_5 k = (false) := (Sx.cf t0).trans ((Sx.cf t1).trans ((Sx.cf t2).trans ((Sx.cf t3).trans ((Sx.cf t4).trans ((Sx.cf t5).trans ((Sx.cf t6).trans ((Sx.cf t7).trans (rfl)))))))); rw [e0, e1, e2, e3, e4, e5]; simpa only [Sx.Rep, Sx.Reps, Sx.Rep_cmpB] using this⟩
 ·exact call1_ok _ _ _ _ _ h
theorem rowOfS_tch : ∀ args, Sx.Tch (rowOfS args) := by
 intro args
 unfold rowOfS
 split
 ·exact Sx.Tch.ret _
 ·exact call1_tch _ _
theorem rrow_r0 (k : Int) (c0 : decide ((1 : Int) = k) = true) : Sx.PureP (Sx.AV.tup [Sx.AV.agg [Sx.AV.int false IntKind.u8 (1 : Int), Sx.AV.int false IntKind.u8 (82 : Int), Sx.AV.str false [(111 : UInt8), (104 : UInt8), (109 : UInt8)], Sx.AV.bool true, Sx.AV.bool false, Sx.AV.bool false], Sx.AV.bool true]) (call1 56 [.int true .u8 k] (Sx.G.on [true])) := by
 have e : Sx.pureP (Sx.AV.tup [Sx.AV.agg [Sx.AV.int false IntKind.u8 (1 : Int), Sx.AV.int false IntKind.u8 (82 : Int), Sx.AV.str false [(111 : UInt8), (104 : UInt8), (109 : UInt8)], Sx.AV.bool true, Sx.AV.bool false, Sx.AV.bool false], Sx.AV.bool true]) (call1 56 [.int true .u8 k] (Sx.G.on [true])) = ((Sx.AV.tup [Sx.AV.agg [Sx.AV.int false IntKind.u8 (1 : Int), Sx.AV.int false IntKind.u8 (82 : Int), Sx.AV.str false [(111 : UInt8), (104 : UInt8), (109 : UInt8)], Sx.AV.bool true, Sx.AV.bool false, Sx.AV.bool false], Sx.AV.bool true]) = (Sx.AV.tup [Sx.AV.agg [Sx.AV.int false IntKind.u8 (1 : Int), Sx.AV.int false IntKind.u8 (82 : Int), Sx.AV.str false [(111 : UInt8), (104 : UInt8), (109 : UInt8)], Sx.AV.bool true, Sx.AV.bool false, Sx.AV.bool false], Sx.AV.bool true]) ∧ (True ∧ (decide ((1 : Int) = k) = true))) := by kernel_rfl
 exact ⟨by rw [e]; exact ⟨rfl, ⟨trivial, c0⟩⟩⟩
theorem rrow_r1 (k : Int) (c0 : decide ((1 : Int) = k) = false) (c1 : decide ((2 : Int) = k) = true) : Sx.PureP (Sx.AV.tup [Sx.AV.agg [Sx.AV.int false IntKind.u8 (2 : Int), Sx.AV.int false IntKind.u8 (76 : Int), Sx.AV.str false [(104 : UInt8), (101 : UInt8), (110 : UInt8), (114 : UInt8), (121 : UInt8)], Sx.AV.bool true, Sx.AV.bool false, Sx.AV.bool false], Sx.AV.bool true]) (call1 56 [.int true .u8 k] (Sx.G.on [false, true])) := by
 have e : Sx.pureP (Sx.AV.tup [Sx.AV.agg [Sx.AV.int false IntKind.u8 (2 : Int), Sx.AV.int false IntKind.u8 (76 : Int), Sx.AV.str false [(104 : UInt8), (101 : UInt8), (110 : UInt8), (114 : UInt8), (121 : UInt8)], Sx.AV.bool true, Sx.AV.bool false, Sx.AV.bool false], Sx.AV.bool true]) (call1 56 [.int true .u8 k] (Sx.G.on [false, true])) = ((Sx.AV.tup [Sx.AV.agg [Sx.AV.int false IntKind.u8 (2 : Int), Sx.AV.int false IntKind.u8 (76 : Int), Sx.AV.str false [(104 : UInt8), (101 : UInt8), (110 : UInt8), (114 : UInt8), (121 : UInt8)], Sx.AV.bool true, Sx.AV.bool false, Sx.AV.bool false], Sx.AV.bool true]) = (Sx.AV.tup [Sx.AV.agg [Sx.AV.int false IntKind.u8 (2 : Int), Sx.AV.int false IntKind.u8 (76 : Int), Sx.AV.str false [(104 : UInt8), (101 : UInt8), (110 : UInt8), (114 : UInt8), (121 : UInt8)], Sx.AV.bool true, Sx.AV.bool false, Sx.AV.bool false], Sx.AV.bool true]) ∧ ((True ∧ (decide ((1 : Int) = k) = false)) ∧ (decide ((2 : Int) = k) = true))) := by kernel_rfl
 exact ⟨by rw [e]; exact ⟨rfl, ⟨⟨trivial, c0⟩, c1⟩⟩⟩
theorem rrow_r2 (k : Int) (c0 : decide ((1 : Int) = k) = false) (c1 : decide ((2 : Int) = k) = false) (c2 : decide ((3 : Int) = k) = true) : Sx.PureP (Sx.AV.tup [Sx.AV.agg [Sx.AV.int false IntKind.u8 (3 : Int), Sx.AV.int false IntKind.u8 (67 : Int), Sx.AV.str false [(102 : UInt8), (97 : UInt8), (114 : UInt8), (97 : UInt8), (100 : UInt8)], Sx.AV.bool true, Sx.AV.bool false, Sx.AV.bool false], Sx.AV.bool true]) (call1 56 [.int true .u8 k] (Sx.G.on [false, false, true])) := by
 have e : Sx.pureP (Sx.AV.tup [Sx.AV.agg [Sx.AV.int false IntKind.u8 (3 : Int), Sx.AV.int false IntKind.u8 (67 : Int), Sx.AV.str false [(102 : UInt8), (97 : UInt8), (114 : UInt8), (97 : UInt8), (100 : UInt8)], Sx.AV.bool true, Sx.AV.bool false, Sx.AV.bool false], Sx.AV.bool true]) (call1 56 [.int true .u8 k] (Sx.G.on [false, false, true])) = ((Sx.AV.tup [Sx.AV.agg [Sx.AV.int false IntKind.u8 (3 : Int), Sx.AV.int false IntKind.u8 (67 : Int), Sx.AV.str false [(102 : UInt8), (97 : UInt8), (114 : UInt8), (97 : UInt8), (100 : UInt8)], Sx.AV.bool true, Sx.AV.bool false, Sx.AV.bool false], Sx.AV.bool true]) = (Sx.AV.tup [Sx.AV.agg [Sx.AV.int false IntKind.u8 (3 : Int), Sx.AV.int false IntKind.u8 (67 : Int), Sx.AV.str false [(102 : UInt8), (97 : UInt8), (114 : UInt8), (97 : UInt8), (100 : UInt8)], Sx.AV.bool true, Sx.AV.bool false, Sx.AV.bool false], Sx.AV.bool true]) ∧ (((True ∧ (decide ((1 : Int) = k) = false)) ∧ (decide ((2 : Int) = k) = false)) ∧ (decide ((3 : Int) = k) = true))) := by kernel_rfl
 exact ⟨by rw [e]; exact ⟨rfl, ⟨⟨⟨trivial, c0⟩, c1⟩, c2⟩⟩⟩
theorem rrow_r3 (k : Int) (c0 : decide ((1 : Int) = k) = false) (c1 : decide ((2 : Int) = k) = false) (c2 : decide ((3 : Int) = k) = false) (c3 : decide ((4 : Int) = k) = true) : Sx.PureP (Sx.AV.tup [Sx.AV.agg [Sx.AV.int false IntKind.u8 (4 : Int), Sx.AV.int false IntKind.u8 (73 : Int), Sx.AV.str false [(97 : UInt8), (109 : UInt8), (112 : UInt8), (101 : UInt8), (114 : UInt8), (101 : UInt8)], Sx.AV.bool false, Sx.AV.bool true, Sx.AV.bool false], Sx.AV.bool true]) (call1 56 [.int true .u8 k] (Sx.G.on [false, false, false, true])) := by
 have e : Sx.pureP (Sx.AV.tup [Sx.AV.agg [Sx.AV.int false IntKind.u8 (4 : Int), Sx.AV.int false IntKind.u8 (73 : Int), Sx.AV.str false [(97 : UInt8), (109 : UInt8), (112 : UInt8), (101 : UInt8), (114 : UInt8), (101 : UInt8)], Sx.AV.bool false, Sx.AV.bool true, Sx.AV.bool false], Sx.AV.bool true]) (call1 56 [.int true .u8 k] (Sx.G.on [false, false, false, true])) = ((Sx.AV.tup [Sx.AV.agg [Sx.AV.int false IntKind.u8 (4 : Int), Sx.AV.int false IntKind.u8 (73 : Int), Sx.AV.str false [(97 : UInt8), (109 : UInt8), (112 : UInt8), (101 : UInt8), (114 : UInt8), (101 : UInt8)], Sx.AV.bool false, Sx.AV.bool true, Sx.AV.bool false], Sx.AV.bool true]) = (Sx.AV.tup [Sx.AV.agg [Sx.AV.int false IntKind.u8 (4 : Int), Sx.AV.int false IntKind.u8 (73 : Int), Sx.AV.str false [(97 : UInt8), (109 : UInt8), (112 : UInt8), (101 : UInt8), (114 : UInt8), (101 : UInt8)], Sx.AV.bool false, Sx.AV.bool true, Sx.AV.bool false], Sx.AV.bool true]) ∧ ((((True ∧ (decide ((1 : Int) = k) = false)) ∧ (decide ((2 : Int) = k) = false)) ∧ (decide ((3 : Int) = k) = false)) ∧ (decide ((4 : Int) = k) = true))) := by kernel_rfl
 exact ⟨by rw [e]; exact ⟨rfl, ⟨⟨⟨⟨trivial, c0⟩, c1⟩, c2⟩, c3⟩⟩⟩
theorem rrow_r4 (k : Int) (c0 : decide ((1 : Int) = k) = false) (c1 : decide ((2 : Int) = k) = false) (c2 : decide ((3 : Int) = k) = false) (c3 : decide ((4 : Int) = k) = false) (c4 : decide ((5 : Int) = k) = true) : Sx.PureP (Sx.AV.tup [Sx.AV.agg [Sx.AV.int false IntKind.u8 (5 : Int), Sx.AV.int false IntKind.u8 (86 : Int), Sx.AV.str false [(118 : UInt8), (111 : UInt8), (108 : UInt8), (116 : UInt8)], Sx.AV.bool false, Sx.AV.bool true, Sx.AV.bool false], Sx.AV.bool true]) (call1 56 [.int true .u8 k] (Sx.G.on [false, false, false, false, true])) := by
 have e : Sx.pureP (Sx.AV.tup [Sx.AV.agg [Sx.AV.int false IntKind.u8 (5 : Int), Sx.AV.int false IntKind.u8 (86 : Int), Sx.AV.str false [(118 : UInt8), (111 : UInt8), (108 : UInt8), (116 : UInt8)], Sx.AV.bool false, Sx.AV.bool true, Sx.AV.bool false], Sx.AV.bool true]) (call1 56 [.int true .u8 k] (Sx.G.on [false, false, false, false, true])) = ((Sx.AV.tup [Sx.AV.agg [Sx.AV.int false IntKind.u8 (5 : Int), Sx.AV.int false IntKind.u8 (86 : Int), Sx.AV.str false [(118 : UInt8), (111 : UInt8), (108 : UInt8), (116 : UInt8)], Sx.AV.bool false, Sx.AV.bool true, Sx.AV.bool false], Sx.AV.bool true]) = (Sx.AV.tup [Sx.AV.agg [Sx.AV.int false IntKind.u8 (5 : Int), Sx.AV.int false IntKind.u8 (86 : Int), Sx.AV.str false [(118 : UInt8), (111 : UInt8), (108 : UInt8), (116 : UInt8)], Sx.AV.bool false, Sx.AV.bool true, Sx.AV.bool false], Sx.AV.bool true]) ∧ (((((True ∧ (decide ((1 : Int) = k) = false)) ∧ (decide ((2 : Int) = k) = false)) ∧ (decide ((3 : Int) = k) = false)) ∧ (decide ((4 : Int) = k) = false)) ∧ (decide ((5 : Int) = k) = true))) := by kernel_rfl
 exact ⟨by rw [e]; exact ⟨rfl, ⟨⟨⟨⟨⟨trivial, c0⟩, c1⟩, c2⟩, c3⟩, c4⟩⟩⟩
theorem rrow_r5 (k : Int) (c0 : decide ((1 : Int) = k) = false) (c1 : decide ((2 : Int) = k) = false) (c2 : decide ((3 : Int) = k) = false) (c3 : decide ((4 : Int) = k) = false) (c4 : decide ((5 : Int) = k) = false) (c5 : decide ((6 : Int) = k) = true) : Sx.PureP (Sx.AV.tup [Sx.AV.agg [Sx.AV.int false IntKind.u8 (6 : Int), Sx.AV.int false IntKind.u8 (71 : Int), Sx.AV.str false [(115 : UInt8), (105 : UInt8), (101 : UInt8), (109 : UInt8), (101 : UInt8), (110 : UInt8), (115 : UInt8)], Sx.AV.bool false, Sx.AV.bool false, Sx.AV.bool true], Sx.AV.bool true]) (call1 56 [.int true .u8 k] (Sx.G.on [false, false, false, false, false, true])) := by
 have e : Sx.pureP (Sx.AV.tup [Sx.AV.agg [Sx.AV.int false IntKind.u8 (6 : Int), Sx.AV.int false IntKind.u8 (71 : Int), Sx.AV.str false [(115 : UInt8), (105 : UInt8), (101 : UInt8), (109 : UInt8), (101 : UInt8), (110 : UInt8), (115 : UInt8)], Sx.AV.bool false, Sx.AV.bool false, Sx.AV.bool true], Sx.AV.bool true]) (call1 56 [.int true .u8 k] (Sx.G.on [false, false, false, false, false, true])) = ((Sx.AV.tup [Sx.AV.agg [Sx.AV.int false IntKind.u8 (6 : Int), Sx.AV.int false IntKind.u8 (71 : Int), Sx.AV.str false [(115 : UInt8), (105 : UInt8), (101 : UInt8), (109 : UInt8), (101 : UInt8), (110 : UInt8), (115 : UInt8)], Sx.AV.bool false, Sx.AV.bool false, Sx.AV.bool true], Sx.AV.bool true]) = (Sx.AV.tup [Sx.AV.agg [Sx.AV.int false IntKind.u8 (6 : Int), Sx.AV.int false IntKind.u8 (71 : Int), Sx.AV.str false [(115 : UInt8), (105 : UInt8), (101 : UInt8), (109 : UInt8), (101 : UInt8), (110 : UInt8), (115 : UInt8)], Sx.AV.bool false, Sx.AV.bool false, Sx.AV.bool true], Sx.AV.bool true]) ∧ ((((((True ∧ (decide ((1 : Int) = k) = false)) ∧ (decide ((2 : Int) = k) = false)) ∧ (decide ((3 : Int) = k) = false)) ∧ (decide ((4 : Int) = k) = false)) ∧ (decide ((5 : Int) = k) = false)) ∧ (decide ((6 : Int) = k) = true))) := by kernel_rfl
 exact ⟨by rw [e]; exact ⟨rfl, ⟨⟨⟨⟨⟨⟨trivial, c0⟩, c1⟩, c2⟩, c3⟩, c4⟩, c5⟩⟩⟩
theorem rrow_r6 (k : Int) (c0 : decide ((1 : Int) = k) = false) (c1 : decide ((2 : Int) = k) = false) (c2 : decide ((3 : Int) = k) = false) (c3 : decide ((4 : Int) = k) = false) (c4 : decide ((5 : Int) = k) = false) (c5 : decide ((6 : Int) = k) = false) (c6 : decide ((7 : Int) = k) = true) : Sx.PureP (Sx.AV.tup [Sx.AV.agg [Sx.AV.int false IntKind.u8 (7 : Int), Sx.AV.int false IntKind.u8 (69 : Int), Sx.AV.str false [], Sx.AV.bool false, Sx.AV.bool false, Sx.AV.bool true], Sx.AV.bool true]) (call1 56 [.int true .u8 k] (Sx.G.on [false, false, false, false, false, false, true])) := by
 have e : Sx.pureP (Sx.AV.tup [Sx.AV.agg [Sx.AV.int false IntKind.u8 (7 : Int), Sx.AV.int false IntKind.u8 (69 : Int), Sx.AV.str false [], Sx.AV.bool false, Sx.AV.bool false, Sx.AV.bool true], Sx.AV.bool true]) (call1 56 [.int true .u8 k] (Sx.G.on [false, false, false, false, false, false, true])) = ((Sx.AV.tup [Sx.AV.agg [Sx.AV.int false IntKind.u8 (7 : Int), Sx.AV.int false IntKind.u8 (69 : Int), Sx.AV.str false [], Sx.AV.bool false, Sx.AV.bool false, Sx.AV.bool true], Sx.AV.bool true]) = (Sx.AV.tup [Sx.AV.agg [Sx.AV.int false IntKind.u8 (7 : Int), Sx.AV.int false IntKind.u8 (69 : Int), Sx.AV.str false [], Sx.AV.bool false, Sx.AV.bool false, Sx.AV.bool true], Sx.AV.bool true]) ∧ (((((((True ∧ (decide ((1 : Int) = k) = false)) ∧ (decide ((2 : Int) = k) = false)) ∧ (decide ((3 : Int) = k) = false)) ∧ (decide ((4 : Int) = k) = false)) ∧ (decide ((5 : Int) = k) = false)) ∧ (decide ((6 : Int) = k) = false)) ∧ (decide ((7 : Int) = k) = true))) := by kernel_rfl
 exact ⟨by rw [e]; exact ⟨rfl, ⟨⟨⟨⟨⟨⟨⟨trivial, c0⟩, c1⟩, c2⟩, c3⟩, c4⟩, c5⟩, c6⟩⟩⟩
theorem rrow_r7 (k : Int) (c0 : decide ((1 : Int) = k) = false) (c1 : decide ((2 : Int) = k) = false) (c2 : decide ((3 : Int) = k) = false) (c3 : decide ((4 : Int) = k) = false) (c4 : decide ((5 : Int) = k) = false) (c5 : decide ((6 : Int) = k) = false) (c6 : decide ((7 : Int) = k) = false) (c7 : decide ((8 : Int) = k) = true) : Sx.PureP (Sx.AV.tup [Sx.AV.agg [Sx.AV.int false IntKind.u8 (8 : Int), Sx.AV.int false IntKind.u8 (80 : Int), Sx.AV.str false [(111 : UInt8), (104 : UInt8), (109 : UInt8)], Sx.AV.bool true, Sx.AV.bool false, Sx.AV.bool false], Sx.AV.bool true]) (call1 56 [.int true .u8 k] (Sx.G.on [false, false, false, false, false, false, false, true])) := by
 have e : Sx.pureP (Sx.AV.tup [Sx.AV.agg [Sx.AV.int false IntKind.u8 (8 : Int), Sx.AV.int false IntKind.u8 (80 : Int), Sx.AV.str false [(111 : UInt8), (104 : UInt8), (109 : UInt8)], Sx.AV.bool true, Sx.AV.bool false, Sx.AV.bool false], Sx.AV.bool true]) (call1 56 [.int true .u8 k] (Sx.G.on [false, false, false, false, false, false, false, true])) = ((Sx.AV.tup [Sx.AV.agg [Sx.AV.int false IntKind.u8 (8 : Int), Sx.AV.int false IntKind.u8 (80 : Int), Sx.AV.str false [(111 : UInt8), (104 : UInt8), (109 : UInt8)], Sx.AV.bool true, Sx.AV.bool false, Sx.AV.bool false], Sx.AV.bool true]) = (Sx.AV.tup [Sx.AV.agg [Sx.AV.int false IntKind.u8 (8 : Int), Sx.AV.int false IntKind.u8 (80 : Int), Sx.AV.str false [(111 : UInt8), (104 : UInt8), (109 : UInt8)], Sx.AV.bool true, Sx.AV.bool false, Sx.AV.bool false], Sx.AV.bool true]) ∧ ((((((((True ∧ (decide ((1 : Int) = k) = false)) ∧ (decide ((2 : Int) = k) = false)) ∧ (decide ((3 : Int) = k) = false)) ∧ (decide ((4 : Int) = k) = false)) ∧ (decide ((5 : Int) = k) = false)) ∧ (decide ((6 : Int) = k) = false)) ∧ (decide ((7 : Int) = k) = false)) ∧ (decide ((8 : Int) = k) = true))) := by kernel_rfl
 exact ⟨by rw [e]; exact ⟨rfl, ⟨⟨⟨⟨⟨⟨⟨⟨trivial, c0⟩, c1⟩, c2⟩, c3⟩, c4⟩, c5⟩, c6⟩, c7⟩⟩⟩
theorem rrow_r8 (k : Int) (c0 : decide ((1 : Int) = k) = false) (c1 : decide ((2 : Int) = k) = false) (c2 : decide ((3 : Int) = k) = false) (c3 : decide ((4 : Int) = k) = false) (c4 : decide ((5 : Int) = k) = false) (c5 : decide ((6 : Int) = k) = false) (c6 : decide ((7 : Int) = k) = false) (c7 : decide ((8 : Int) = k) = false) : Sx.PureP (Sx.AV.tup [Sx.AV.agg [Sx.AV.int false IntKind.u8 (0 : Int), Sx.AV.int false IntKind.u8 (0 : Int), Sx.AV.str false [], Sx.AV.bool false, Sx.AV.bool false, Sx.AV.bool false], Sx.AV.bool false]) (call1 56 [.int true .u8 k] (Sx.G.on [false, false, false, false, false, false, false, false])) := by
 have e : Sx.pureP (Sx.AV.tup [Sx.AV.agg [Sx.AV.int false IntKind.u8 (0 : Int), Sx.AV.int false IntKind.u8 (0 : Int), Sx.AV.str false [], Sx.AV.bool false, Sx.AV.bool false, Sx.AV.bool false], Sx.AV.bool false]) (call1 56 [.int true .u8 k] (Sx.G.on [false, false, false, false, false, false, false, false])) = ((Sx.AV.tup [Sx.AV.agg [Sx.AV.int false IntKind.u8 (0 : Int), Sx.AV.int false IntKind.u8 (0 : Int), Sx.AV.str false [], Sx.AV.bool false, Sx.AV.bool false, Sx.AV.bool false], Sx.AV.bool false]) = (Sx.AV.tup [Sx.AV.agg [Sx.AV.int false IntKind.u8 (0 : Int), Sx.AV.int false IntKind.u8 (0 : Int), Sx.AV.str false [], Sx.AV.bool false, Sx.AV.bool false, Sx.AV.bool false], Sx.AV.bool false]) ∧ ((((((((True ∧ (decide ((1 : Int) = k) = false)) ∧ (decide ((2 : Int) = k) = false)) ∧ (decide ((3 : Int) = k) = false)) ∧ (decide ((4 : Int) = k) = false)) ∧ (decide ((5 : Int) = k) = false)) ∧ (decide ((6 : Int) = k) = false)) ∧ (decide ((7 : Int) = k) = false)) ∧ (decide ((8 : Int) = k) = false))) := by kernel_rfl
 exact ⟨by rw [e]; exact ⟨rfl, ⟨⟨⟨⟨⟨⟨⟨⟨trivial, c0⟩, c1⟩, c2⟩, c3⟩, c4⟩, c5⟩, c6⟩, c7⟩⟩⟩
noncomputable def rrow_0 (k : Int) : Int := (bif decide ((1 : Int) = k) then ((1 : Int)) else (bif decide ((2 : Int) = k) then ((2 : Int)) else (bif decide ((3 : Int) = k) then ((3 : Int)) else (bif decide ((4 : Int) = k) then ((4 : Int)) else (bif decide ((5 : Int) = k) then ((5 : Int)) else (bif decide ((6 : Int) = k) then ((6 : Int)) else (bif decide ((7 : Int) = k) then ((7 : Int)) else (bif decide ((8 : Int) = k) then ((8 : Int)) else ((0 : Int))))))))))
noncomputable def rrow_1 (k : Int) : Int := (bif decide ((1 : Int) = k) then ((82 : Int)) else (bif decide ((2 : Int) = k) then ((76 : Int)) else (bif decide ((3 : Int) = k) then ((67 : Int)) else (bif decide ((4 : Int) = k) then ((73 : Int)) else (bif decide ((5 : Int) = k) then ((86 : Int)) else (bif decide ((6 : Int) = k) then ((71 : Int)) else (bif decide ((7 : Int) = k) then ((69 : Int)) else (bif decide ((8 : Int) = k) then ((80 : Int)) else ((0 : Int))))))))))
noncomputable def rrow_2 (k : Int) : List UInt8 := (bif decide ((1 : Int) = k) then ([(111 : UInt8), (104 : UInt8), (109 : UInt8)]) else (bif decide ((2 : Int) = k) then ([(104 : UInt8), (101 : UInt8), (110 : UInt8), (114 : UInt8), (121 : UInt8)]) else (bif decide ((3 : Int) = k) then ([(102 : UInt8), (97 : UInt8), (114 : UInt8), (97 : UInt8), (100 : UInt8)]) else (bif decide ((4 : Int) = k) then ([(97 : UInt8), (109 : UInt8), (112 : UInt8), (101 : UInt8), (114 : UInt8), (101 : UInt8)]) else (bif decide ((5 : Int) = k) then ([(118 : UInt8), (111 : UInt8), (108 : UInt8), (116 : UInt8)]) else (bif decide ((6 : Int) = k) then ([(115 : UInt8), (105 : UInt8), (101 : UInt8), (109 : UInt8), (101 : UInt8), (110 : UInt8), (115 : UInt8)]) else (bif decide ((7 : Int) = k) then ([]) else (bif decide ((8 : Int) = k) then ([(111 : UInt8), (104 : UInt8), (109 : UInt8)]) else ([])))))))))
noncomputable def rrow_3 (k : Int) : Bool := (bif decide ((1 : Int) = k) then (true) else (bif decide ((2 : Int) = k) then (true) else (bif decide ((3 : Int) = k) then (true) else (bif decide ((4 : Int) = k) then (false) else (bif decide ((5 : Int) = k) then (false) else (bif decide ((6 : Int) = k) then (false) else (bif decide ((7 : Int) = k) then (false) else (bif decide ((8 : Int) = k) then (true) else (false)))))))))
noncomputable def rrow_4 (k : Int) : Bool := (bif decide ((1 : Int) = k) then (false) else (bif decide ((2 : Int) = k) then (false) else (bif decide ((3 : Int) = k) then (false) else (bif decide ((4 : Int) = k) then (true) else (bif decide ((5 : Int) = k) then (true) else (bif decide ((6 : Int) = k) then (false) else (bif decide ((7 : Int) = k) then (false) else (bif decide ((8 : Int) = k) then (false) else (false)))))))))
noncomputable def rrow_5 (k : Int) : Bool := (bif decide ((1 : Int) = k) then (false) else (bif decide ((2 : Int) = k) then (false) else (bif decide ((3 : Int) = k) then (false) else (bif decide ((4 : Int) = k) then (false) else (bif decide ((5 : Int) = k) then (false) else (bif decide ((6 : Int) = k) then (true) else (bif decide ((7 : Int) = k) then (true) else (bif decide ((8 : Int) = k) then (false) else (false)))))))))
noncomputable def rrow_6 (k : Int) : Bool := (bif decide ((1 : Int) = k) then (true) else (bif decide ((2 : Int) = k) then (true) else (bif decide ((3 : Int) = k) then (true) else (bif decide ((4 : Int) = k) then (true) else (bif decide ((5 : Int) = k) then (true) else (bif decide ((6 : Int) = k) then (true) else (bif decide ((7 : Int) = k) then (true) else (bif decide ((8 : Int) = k) then (true) else (false)))))))))
noncomputable def rrowS : List Sx.AV → Sx.M Sx.AV
 | [.int s0 .u8 k] => Sx.M.ret (Sx.AV.tup [Sx.AV.agg [Sx.AV.int s0 (IntKind.u8) (rrow_0 k), Sx.AV.int s0 (IntKind.u8) (rrow_1 k), Sx.AV.str s0 (rrow_2 k), Sx.cmpB s0 (rrow_3 k), Sx.cmpB s0 (rrow_4 k), Sx.cmpB s0 (rrow_5 k)], Sx.cmpB s0 (rrow_6 k)])
 | args => call1 56 args
theorem rrowS_ok : ∀ args v g g', rrowS args g = .done v g' → Sx.CallIs Try.prog 56 args v g g' := by
 intro args v g g' h
 unfold rrowS at h
 split at h
 ·rename_i s0 k
  obtain ⟨rfl, rfl⟩ := Sx.ret_done h
  refine Sx.scal call1_ok fun μ cargs ha => ?_
  have ha' : Sx.Reps 0 Sx.MM.none [.int true .u8 k] cargs.toList := by simpa only [Sx.Reps, Sx.Rep] using ha
  cases t0 : decide ((1 : Int) = k) with
  | true =>
   exact ⟨_, _, _, ha', rrow_r0 k t0, rfl, fun c hc => by have := hc g.nx μ; have e0 : rrow_0 k = ((1 : Int)) := (Sx.ct t0).trans (rfl); have e1 : rrow_1 k = ((82 : Int)) := (Sx.ct t0).trans (rfl); have e2 : rrow_2 k = ([(111 : UInt8), (104 : UInt8), (109 : UInt8)]) := (Sx.ct t0).trans (rfl); have e3 : rrow_3 k = (true) := (Sx.ct t0).trans (rfl); have e4 : rrow_4 k = (false) := (Sx.ct t0).trans (rfl); have e5 : rrow_5 k = (false) := (Sx.ct t0).trans (rfl); have e6 : rrow_6 k = (true) := (Sx.ct t0).trans (rfl); rw [e0, e1, e2, e3, e4, e5, e6]; simpa only [Sx.Rep, Sx.Reps, Sx.Rep_cmpB] using this⟩
  | false =>
   cases t1 : decide ((2 : Int) = k) with
   | true =>
    exact ⟨_, _, _, ha', rrow_r1 k t0 t1, rfl, fun c hc => by have := hc g.nx μ; have e0 : rrow_0 k = ((2 : Int)) := (Sx.cf t0).trans ((Sx.ct t1).trans (rfl)); have e1 : rrow_1 k = ((76 : Int)) := (Sx.cf t0).trans ((Sx.ct t1).trans (rfl)); have e2 : rrow_2 k = ([(104 : UInt8), (101 : UInt8), (110 : UInt8), (114 : UInt8), (121 : UInt8)]) := (Sx.cf t0).trans ((Sx.ct t1).trans (rfl)); have e3 : rrow_3 k = (true) := (Sx.cf t0).trans ((Sx.ct t1).trans (rfl)); have e4 : rrow_4 k = (false) := (Sx.cf t0).trans ((Sx.ct t1).trans (rfl)); have e5 : rrow_5 k = (false) := (Sx.cf t0).trans ((Sx.ct t1).trans (rfl)); have e6 : rrow_6 k = (true) := (Sx.cf t0).trans ((Sx.ct t1).trans (rfl)); rw [e0, e1, e2, e3, e4, e5, e6]; simpa only [Sx.Rep, Sx.Reps, Sx.Rep_cmpB] using this⟩
   | false =>
    cases t2 : decide ((3 : Int) = k) with
    | true =>
     exact ⟨_, _, _, ha', rrow_r2 k t0 t1 t2, rfl, fun c hc => by have := hc g.nx μ; have e0 : rrow_0 k = ((3 : Int)) := (Sx.cf t0).trans ((Sx.cf t1).trans ((Sx.ct t2).trans (rfl))); have e1 : rrow_1 k = ((67 : Int)) := (Sx.cf t0).trans ((Sx.cf t1).trans ((Sx.ct t2).trans (rfl))); have e2 : rrow_2 k = ([(102 : UInt8), (97 : UInt8), (114 : UInt8), (97 : UInt8), (100 : UInt8)]) := (Sx.cf t0).trans ((Sx.cf t1).trans ((Sx.ct t2).trans (rfl))); have e3 : rrow_3 k = (true) := (Sx.cf t0).trans ((Sx.cf t1).trans ((Sx.ct t2).trans (rfl))); have e4 : rrow_4 k = (false) := (Sx.cf t0).trans ((Sx.cf t1).trans ((Sx.ct t2).trans (rfl))); have e5 : rrow_5 k = (false) := (Sx.cf t0).trans ((Sx.cf t1).trans ((Sx.ct t2).trans (rfl))); have e6 : rrow_6 k = (true) := (Sx.cf t0).trans ((Sx.cf t1).trans ((Sx.ct t2).trans (rfl))); rw [e0, e1, e2, e3, e4, e5, e6]; simpa only [Sx.Rep, Sx.Reps, Sx.Rep_cmpB] using this⟩
    | false =>
     cases t3 : decide ((4 : Int) = k) with
     | true =>
      exact ⟨_, _, _, ha', rrow_r3 k t0 t1 t2 t3, rfl, fun c hc => by have := hc g.nx μ; have e0 : rrow_0 k = ((4 : Int)) := (Sx.cf t0).trans ((Sx.cf t1).trans ((Sx.cf t2).trans ((Sx.ct t3).trans (rfl)))); have e1 : rrow_1 k = ((73 : Int)) := (Sx.cf t0).trans ((Sx.cf t1).trans ((Sx.cf t2).trans ((Sx.ct t3).trans (rfl)))); have e2 : rrow_2 k = ([(97 : UInt8), (109 : UInt8), (112 : UInt8), (101 : UInt8), (114 : UInt8), (101 : UInt8)]) := (Sx.cf t0).trans ((Sx.cf t1).trans ((Sx.cf t2).trans ((Sx.ct t3).trans (rfl)))); have e3 : rrow_3 k = (false) := (Sx.cf t0).trans ((Sx.cf t1).trans ((Sx.cf t2).trans ((Sx.ct t3).trans (rfl)))); have e4 : rrow_4 k = (true) := (Sx.cf t0).trans ((Sx.cf t1).trans ((Sx.cf t2).trans ((Sx.ct t3).trans (rfl)))); have e5 : rrow_5 k = (false) := (Sx.cf t0).trans ((Sx.cf t1).trans ((Sx.cf t2).trans ((Sx.ct t3).trans (rfl)))); have e6 : rrow_6 k = (true) := (Sx.cf t0).trans ((Sx.cf t1).trans ((Sx.cf t2).trans ((Sx.ct t3).trans (rfl)))); rw [e0, e1, e2, e3, e4, e5, e6]; simpa only [Sx.Rep, Sx.Reps, Sx.Rep_cmpB] using this⟩
     | false =>
      cases t4 : decide ((5 : Int) = k) with
      | true =>
       exact ⟨_, _, _, ha', rrow_r4 k t0 t1 t2 t3 t4, rfl, fun c hc => by have := hc g.nx μ; have e0 : rrow_0 k = ((5 : Int)) := (Sx.cf t0).trans ((Sx.cf t1).trans ((Sx.cf t2).trans ((Sx.cf t3).trans ((Sx.ct t4).trans (rfl))))); have e1 : rrow_1 k = ((86 : Int)) := (Sx.cf t0).trans ((Sx.cf t1).trans ((Sx.cf t2).trans ((Sx.cf t3).trans ((Sx.ct t4).trans (rfl))))); have e2 : rrow_2 k = ([(118 : UInt8), (111 : UInt8), (108 : UInt8), (116 : UInt8)]) := (Sx.cf t0).trans ((Sx.cf t1).trans ((Sx.cf t2).trans ((Sx.cf t3).trans ((Sx.ct t4).trans (rfl))))); have e3 : rrow_3 k = (false) := (Sx.cf t0).trans ((Sx.cf t1).trans ((Sx.cf t2).trans ((Sx.cf t3).trans ((Sx.ct t4).trans (rfl))))); have e4 : rrow_4 k = (true) := (Sx.cf t0).trans ((Sx.cf t1).trans ((Sx.cf t2).trans ((Sx.cf t3).trans ((Sx.ct t4).trans (rfl))))); have e5 : rrow_5 k = (false) := (Sx.cf t0).trans ((Sx.cf t1).trans ((Sx.cf t2).trans ((Sx.cf t3).trans ((Sx.ct t4).trans (rfl))))); have e6 : rrow_6 k = (true) := (Sx.cf t0).trans ((Sx.cf t1).trans ((Sx.cf t2).trans ((Sx.cf t3).trans ((Sx.ct t4).trans (rfl))))); rw [e0, e1, e2, e3, e4, e5, e6]; simpa only [Sx.Rep, Sx.Reps, Sx.Rep_cmpB] using this⟩
      | false =>
       cases t5 : decide ((6 : Int) = k) with
       | true =>
        exact ⟨_, _, _, ha', rrow_r5 k t0 t1 t2 t3 t4 t5, rfl, fun c hc => by have := hc g.nx μ; have e0 : rrow_0 k = ((6 : Int)) := (Sx.cf t0).trans ((Sx.cf t1).trans ((Sx.cf t2).trans ((Sx.cf t3).trans ((Sx.cf t4).trans ((Sx.ct t5).trans (rfl)))))); have e1 : rrow_1 k = ((71 : Int)) := (Sx.cf t0).trans ((Sx.cf t1).trans ((Sx.cf t2).trans ((Sx.cf t3).trans ((Sx.cf t4).trans ((Sx.ct t5).trans (rfl)))))); have e2 : rrow_2 k = ([(115 : UInt8), (105 : UInt8), (101 : UInt8), (109 : UInt8), (101 : UInt8), (110 : UInt8), (115 : UInt8)]) := (Sx.cf t0).trans ((Sx.cf t1).trans ((Sx.cf t2).trans ((Sx.cf t3).trans ((Sx.cf t4).trans ((Sx.ct t5).trans (rfl)))))); have e3 : rrow_3 k = (false) := (Sx.cf t0).trans ((Sx.cf t1).trans ((Sx.cf t2).trans ((Sx.cf t3).trans ((Sx.cf t4).trans ((Sx.ct t5).trans (rfl)))))); have e4 : rrow_4 k = (false) := (Sx.cf t0).trans ((Sx.cf t1).trans ((Sx.cf t2).trans ((Sx.cf t3).trans ((Sx.cf t4).trans ((Sx.ct t5).trans (rfl)))))); have e5 : rrow_5 k = (true) := (Sx.cf t0).trans ((Sx.cf t1).trans ((Sx.cf t2).trans ((Sx.cf t3).trans ((Sx.cf t4).trans ((Sx.ct t5).trans (rfl)))))); have e6 : rrow_6 k = (true) := (Sx.cf t0).trans ((Sx.cf t1).trans ((Sx.cf t2).trans ((Sx.cf t3).trans ((Sx.cf t4).trans ((Sx.ct t5).trans (rfl)))))); rw [e0, e1, e2, e3, e4, e5, e6]; simpa only [Sx.Rep, Sx.Reps, Sx.Rep_cmpB] using this⟩
       | false =>
        cases t6 : decide ((7 : Int) = k) with
        | true =>
         exact ⟨_, _, _, ha', rrow_r6 k t0 t1 t2 t3 t4 t5 t6, rfl, fun c hc => by have := hc g.nx μ; have e0 : rrow_0 k = ((7 : Int)) := (Sx.cf t0).trans ((Sx.cf t1).trans ((Sx.cf t2).trans ((Sx.cf t3).trans ((Sx.cf t4).trans ((Sx.cf t5).trans ((Sx.ct t6).trans (rfl))))))); have e1 : rrow_1 k = ((69 : Int)) := (Sx.cf t0).trans ((Sx.cf t1).trans ((Sx.cf t2).trans ((Sx.cf t3).trans ((Sx.cf t4).trans ((Sx.cf t5).trans ((Sx.ct t6).trans (rfl))))))); have e2 : rrow_2 k = ([]) := (Sx.cf t0).trans ((Sx.cf t1).trans ((Sx.cf t2).trans ((Sx.cf t3).trans ((Sx.cf t4).trans ((Sx.cf t5).trans ((Sx.ct t6).trans (rfl))))))); have e3 : rrow_3 k = (false) := (Sx.cf t0).trans ((Sx.cf t1).trans ((Sx.cf t2).trans ((Sx.cf t3).trans ((Sx.cf t4).trans ((Sx.cf t5).trans ((Sx.ct t6).trans (rfl))))))); have e4 : rrow_4 k = (false) := (Sx.cf t0).trans ((Sx.cf t1).trans ((Sx.cf t2).trans ((Sx.cf t3).trans ((Sx.cf t4).trans ((Sx.cf t5).trans ((Sx.ct t6).trans (rfl))))))); have e5 : rrow_5 k = (true) := (Sx.cf t0).trans ((Sx.cf t1).trans ((Sx.cf t2).trans ((Sx.cf t3).trans ((Sx.cf t4).trans ((Sx.cf t5).trans ((Sx.ct t6).trans (rfl))))))); have e6 : rrow_6 k = (true) := (Sx.cf t0).trans ((Sx.cf t1).trans ((Sx.cf t2).trans ((Sx.cf t3).trans ((Sx.cf t4).trans ((Sx.cf t5).trans ((Sx.ct t6).trans (rfl))))))); rw [e0, e1, e2, e3, e4, e5, e6]; simpa only [Sx.Rep, Sx.Reps, Sx.Rep_cmpB] using this⟩
        | false =>
         cases t7 : decide ((8 : Int) = k) with
         | true =>
          exact ⟨_, _, _, ha', rrow_r7 k t0 t1 t2 t3 t4 t5 t6 t7, rfl, fun c hc => by have := hc g.nx μ; have e0 : rrow_0 k = ((8 : Int)) := (Sx.cf t0).trans ((Sx.cf t1).trans ((Sx.cf t2).trans ((Sx.cf t3).trans ((Sx.cf t4).trans ((Sx.cf t5).trans ((Sx.cf t6).trans ((Sx.ct t7).trans (rfl)))))))); have e1 : rrow_1 k = ((80 : Int)) := (Sx.cf t0).trans ((Sx.cf t1).trans ((Sx.cf t2).trans ((Sx.cf t3).trans ((Sx.cf t4).trans ((Sx.cf t5).trans ((Sx.cf t6).trans ((Sx.ct t7).trans (rfl)))))))); have e2 : rrow_2 k = ([(111 : UInt8), (104 : UInt8), (109 : UInt8)]) := (Sx.cf t0).trans ((Sx.cf t1).trans ((Sx.cf t2).trans ((Sx.cf t3).trans ((Sx.cf t4).trans ((Sx.cf t5).trans ((Sx.cf t6).trans ((Sx.ct t7).trans (rfl)))))))); have e3 : rrow_3 k = (true) := (Sx.cf t0).trans ((Sx.cf t1).trans ((Sx.cf t2).trans ((Sx.cf t3).trans ((Sx.cf t4).trans ((Sx.cf t5).trans ((Sx.cf t6).trans ((Sx.ct t7).trans (rfl)))))))); have e4 : rrow_4 k = (false) := (Sx.cf t0).trans ((Sx.cf t1).trans ((Sx.cf t2).trans ((Sx.cf t3).trans ((Sx.cf t4).trans ((Sx.cf t5).trans ((Sx.cf t6).trans ((Sx.ct t7).trans (rfl)))))))); have e5 : rrow_5 k = (false) := (Sx.cf t0).trans ((Sx.cf t1).trans ((Sx.cf t2).trans ((Sx.cf t3).trans ((Sx.cf t4).trans ((Sx.cf t5).trans ((Sx.cf t6).trans ((Sx.ct t7).trans (rfl)))))))); have e6 : rrow_6 k = (true) := (Sx.cf t0).trans ((Sx.cf t1).trans ((Sx.cf t2).trans ((Sx.cf t3).trans ((Sx.cf t4).trans ((Sx.cf t5).trans ((Sx.cf t6).trans ((Sx.ct t7).trans (rfl)))))))); rw [e0, e1, e2, e3, e4, e5, e6]; simpa only [Sx.Rep, Sx.Reps, Sx.Rep_cmpB] using this⟩
         | false =>
          exact ⟨_, _, _, ha', rrow_r8 k t0 t1 t2 t3 t4 t5 t6 t7, rfl, fun c hc => by have := hc g.nx μ; have e0 : rrow_0 k = ((0 : Int)) := (Sx.cf t0).trans ((Sx.cf t1).trans ((Sx.cf t2).trans ((Sx.cf t3).trans ((Sx.cf t4).trans ((Sx.cf t5).trans ((Sx.cf t6).trans ((Sx.cf t7).trans (rfl)))))))); have e1 : rrow_1 k = ((0 : Int)) := (Sx.cf t0).trans ((Sx.cf t1).trans ((Sx.cf t2).trans ((Sx.cf t3).trans ((Sx.cf t4).trans ((Sx.cf t5).trans ((Sx.cf t6).trans ((Sx.cf t7).trans (rfl)))))))); have e2 : rrow_2 k = ([]) := (Sx.cf t0).trans ((Sx.cf t1).trans ((Sx.cf t2).trans ((Sx.cf t3).trans ((Sx.cf t4).trans ((Sx.cf t5).trans ((Sx.cf t6).trans ((Sx.cf t7).trans (rfl)))))))); have e3 : rrow_3 k = (false) := (Sx.cf t0).trans ((Sx.cf t1).trans ((Sx.cf t2).trans ((Sx.cf t3).trans ((Sx.cf t4).trans ((Sx.cf t5).trans ((Sx.cf t6).trans ((Sx.cf t7).trans (rfl)))))))); have e4 : rrow_4 k = (false) := (Sx.cf t0).trans ((Sx.cf t1).trans ((Sx.cf t2).trans ((Sx.cf t3).trans ((Sx.cf t4).trans ((Sx.cf t5).trans ((Sx.cf t6).trans ((Sx.cf t7).trans (rfl)))))))); have e5 : rrow_5 k = (false) := (Sx.cf t0).trans ((Sx.cf t1).trans ((Sx.cf t2).trans ((Sx.cf t3).trans ((Sx.cf t4).trans ((Sx.cf t5).trans ((Sx.cf t6).trans ((Sx.cf t7).trans (rfl)))))))); have e6 : rrow_6 k = (false) := (Sx.cf t0).trans ((Sx.cf t1).trans ((Sx.cf t2).trans ((Sx.cf t3).trans ((Sx.cf t4).trans ((Sx.cf t5).trans ((Sx.cf t6).trans ((Sx.cf t7).trans (rfl)))))))); rw [e0, e1, e2, e3, e4, e5, e6]; simpa only [Sx.Rep, Sx.Reps, Sx.Rep_cmpB] using this⟩
 ·exact call1_ok _ _ _ _ _ h
theorem rrowS_tch : ∀ args, Sx.Tch (rrowS args) := by
 intro args
 unfold rrowS
 split
 ·exact Sx.Tch.ret _
 ·exact call1_tch _ _
theorem of_r0 (k : Int) (c0 : decide ((82 : Int) = k) = true) : Sx.PureP (Sx.AV.tup [Sx.AV.int false IntKind.u8 (1 : Int), Sx.AV.bool true]) (call1 51 [.int true .u8 k] (Sx.G.on [true])) := by
 have e : Sx.pureP (Sx.AV.tup [Sx.AV.int false IntKind.u8 (1 : Int), Sx.AV.bool true]) (call1 51 [.int true .u8 k] (Sx.G.on [true])) = ((Sx.AV.tup [Sx.AV.int false IntKind.u8 (1 : Int), Sx.AV.bool true]) = (Sx.AV.tup [Sx.AV.int false IntKind.u8 (1 : Int), Sx.AV.bool true]) ∧ (True ∧ (decide ((82 : Int) = k) = true))) := by kernel_rfl
 exact ⟨by rw [e]; exact ⟨rfl, ⟨trivial, c0⟩⟩⟩
theorem of_r1 (k : Int) (c0 : decide ((82 : Int) = k) = false) (c1 : decide ((76 : Int) = k) = true) : Sx.PureP (Sx.AV.tup [Sx.AV.int false IntKind.u8 (IntKind.wrap IntKind.u8 ((1 : Int) + (1 : Int))), Sx.AV.bool true]) (call1 51 [.int true .u8 k] (Sx.G.on [false, true])) := by
 have e : Sx.pureP (Sx.AV.tup [Sx.AV.int false IntKind.u8 (IntKind.wrap IntKind.u8 ((1 : Int) + (1 : Int))), Sx.AV.bool true]) (call1 51 [.int true .u8 k] (Sx.G.on [false, true])) = ((Sx.AV.tup [Sx.AV.int false IntKind.u8 (IntKind.wrap IntKind.u8 ((1 : Int) + (1 : Int))), Sx.AV.bool true]) = (Sx.AV.tup [Sx.AV.int false IntKind.u8 (IntKind.wrap IntKind.u8 ((1 : Int) + (1 : Int))), Sx.AV.bool true]) ∧ ((True ∧ (decide ((82 : Int) = k) = false)) ∧ (decide ((76 : Int) = k) = true))) := by kernel_rfl
 exact ⟨by rw [e]; exact ⟨rfl, ⟨⟨trivial, c0⟩, c1⟩⟩⟩
theorem of_r2 (k : Int) (c0 : decide ((82 : Int) = k) = false) (c1 : decide ((76 : Int) = k) = false) (c2 : decide ((67 : Int) = k) = true) : Sx.PureP (Sx.AV.tup [Sx.AV.int false IntKind.u8 (IntKind.wrap IntKind.u8 (IntKind.wrap IntKind.u8 ((1 : Int) + (1 : Int)) + (1 : Int))), Sx.AV.bool true]) (call1 51 [.int true .u8 k] (Sx.G.on [false, false, true])) := by
 have e : Sx.pureP (Sx.AV.tup [Sx.AV.int false IntKind.u8 (IntKind.wrap IntKind.u8 (IntKind.wrap IntKind.u8 ((1 : Int) + (1 : Int)) + (1 : Int))), Sx.AV.bool true]) (call1 51 [.int true .u8 k] (Sx.G.on [false, false, true])) = ((Sx.AV.tup [Sx.AV.int false IntKind.u8 (IntKind.wrap IntKind.u8 (IntKind.wrap IntKind.u8 ((1 : Int) + (1 : Int)) + (1 : Int))), Sx.AV.bool true]) = (Sx.AV.tup [Sx.AV.int false IntKind.u8 (IntKind.wrap IntKind.u8 (IntKind.wrap IntKind.u8 ((1 : Int) + (1 : Int)) + (1 : Int))), Sx.AV.bool true]) ∧ (((True ∧ (decide ((82 : Int) = k) = false)) ∧ (decide ((76 : Int) = k) = false)) ∧ (decide ((67 : Int) = k) = true))) := by kernel_rfl
 exact ⟨by rw [e]; exact ⟨rfl, ⟨⟨⟨trivial, c0⟩, c1⟩, c2⟩⟩⟩
theorem of_r3 (k : Int) (c0 : decide ((82 : Int) = k) = false) (c1 : decide ((76 : Int) = k) = false) (c2 : decide ((67 : Int) = k) = false) (c3 : decide ((73 : Int) = k) = true) : Sx.PureP (Sx.AV.tup [Sx.AV.int false IntKind.u8 (IntKind.wrap IntKind.u8 (IntKind.wrap IntKind.u8 (IntKind.wrap IntKind.u8 ((1 : Int) + (1 : Int)) + (1 : Int)) + (1 : Int))), Sx.AV.bool true]) (call1 51 [.int true .u8 k] (Sx.G.on [false, false, false, true])) := by
 have e : Sx.pureP (Sx.AV.tup [Sx.AV.int false IntKind.u8 (IntKind.wrap IntKind.u8 (IntKind.wrap IntKind.u8 (IntKind.wrap IntKind.u8 ((1 : Int) + (1 : Int)) + (1 : Int)) + (1 : Int))), Sx.AV.bool true]) (call1 51 [.int true .u8 k] (Sx.G.on [false, false, false, true])) = ((Sx.AV.tup [Sx.AV.int false IntKind.u8 (IntKind.wrap IntKind.u8 (IntKind.wrap IntKind.u8 (IntKind.wrap IntKind.u8 ((1 : Int) + (1 : Int)) + (1 : Int)) + (1 : Int))), Sx.AV.bool true]) = (Sx.AV.tup [Sx.AV.int false IntKind.u8 (IntKind.wrap IntKind.u8 (IntKind.wrap IntKind.u8 (IntKind.wrap IntKind.u8 ((1 : Int) + (1 : Int)) + (1 : Int)) + (1 : Int))), Sx.AV.bool true]) ∧ ((((True ∧ (decide ((82 : Int) = k) = false)) ∧ (decide ((76 : Int) = k) = false)) ∧ (decide ((67 : Int) = k) = false)) ∧ (decide ((73 : Int) = k) = true))) := by kernel_rfl
 exact ⟨by rw [e]; exact ⟨rfl, ⟨⟨⟨⟨trivial, c0⟩, c1⟩, c2⟩, c3⟩⟩⟩
theorem of_r4 (k : Int) (c0 : decide ((82 : Int) = k) = false) (c1 : decide ((76 : Int) = k) = false) (c2 : decide ((67 : Int) = k) = false) (c3 : decide ((73 : Int) = k) = false) (c4 : decide ((86 : Int) = k) = true) : Sx.PureP (Sx.AV.tup [Sx.AV.int false IntKind.u8 (IntKind.wrap IntKind.u8 (IntKind.wrap IntKind.u8 (IntKind.wrap IntKind.u8 (IntKind.wrap IntKind.u8 ((1 : Int) + (1 : Int)) + (1 : Int)) + (1 : Int)) + (1 : Int))), Sx.AV.bool true]) (call1 51 [.int true .u8 k] (Sx.G.on [false, false, false, false, true])) := by
 have e : Sx.pureP (Sx.AV.tup [Sx.AV.int false IntKind.u8 (IntKind.wrap IntKind.u8 (IntKind.wrap IntKind.u8 (IntKind.wrap IntKind.u8 (IntKind.wrap IntKind.u8 ((1 : Int) + (1 : Int)) + (1 : Int)) + (1 : Int)) + (1 : Int))), Sx.AV.bool true]) (call1 51 [.int true .u8 k] (Sx.G.on [false, false, false, false, true])) = ((Sx.AV.tup [Sx.AV.int false IntKind.u8 (IntKind.wrap IntKind.u8 (IntKind.wrap IntKind.u8 (IntKind.wrap IntKind.u8 (IntKind.wrap IntKind.u8 ((1 : Int) + (1 : Int)) + (1 : Int)) + (1 : Int)) + (1 : Int))), Sx.AV.bool true]) = (Sx.AV.tup [Sx.AV.int false IntKind.u8 (IntKind.wrap IntKind.u8 (IntKind.wrap IntKind.u8 (IntKind.wrap IntKind.u8 (IntKind.wrap IntKind.u8 ((1 : Int) + (1 : Int)) + (1 : Int)) + (1 : Int)) + (1 : Int))), Sx.AV.bool true]) ∧ (((((True ∧ (decide ((82 : Int) = k) = false)) ∧ (decide ((76 : Int) = k) = false)) ∧ (decide ((67 : Int) = k) = false)) ∧ (decide ((73 : Int) = k) = false)) ∧ (decide ((86 : Int) = k) = true))) := by kernel_rfl
 exact ⟨by rw [e]; exact ⟨rfl, ⟨⟨⟨⟨⟨trivial, c0⟩, c1⟩, c2⟩, c3⟩, c4⟩⟩⟩
theorem of_r5 (k : Int) (c0 : decide ((82 : Int) = k) = false) (c1 : decide ((76 : Int) = k) = false) (c2 : decide ((67 : Int) = k) = false) (c3 : decide ((73 : Int) = k) = false) (c4 : decide ((86 : Int) = k) = false) (c5 : decide ((71 : Int) = k) = true) : Sx.PureP (Sx.AV.tup [Sx.AV.int false IntKind.u8 (IntKind.wrap IntKind.u8 (IntKind.wrap IntKind.u8 (IntKind.wrap IntKind.u8 (IntKind.wrap IntKind.u8 (IntKind.wrap IntKind.u8 ((1 : Int) + (1 : Int)) + (1 : Int)) + (1 : Int)) + (1 : Int)) + (1 : Int))), Sx.AV.bool true]) (call1 51 [.int true .u8 k] (Sx.G.on [false, false, false, false, false, true])) := by
 have e : Sx.pureP (Sx.AV.tup [Sx.AV.int false IntKind.u8 (IntKind.wrap IntKind.u8 (IntKind.wrap IntKind.u8 (IntKind.wrap IntKind.u8 (IntKind.wrap IntKind.u8 (IntKind.wrap IntKind.u8 ((1 : Int) + (1 : Int)) + (1 : Int)) + (1 : Int)) + (1 : Int)) + (1 : Int))), Sx.AV.bool true]) (call1 51 [.int true .u8 k] (Sx.G.on [false, false, false, false, false, true])) = ((Sx.AV.tup [Sx.AV.int false IntKind.u8 (IntKind.wrap IntKind.u8 (IntKind.wrap IntKind.u8 (IntKind.wrap IntKind.u8 (IntKind.wrap IntKind.u8 (IntKind.wrap IntKind.u8 ((1 : Int) + (1 : Int)) + (1 : Int)) + (1 : Int)) + (1 : Int)) + (1 : Int))), Sx.AV.bool true]) = (Sx.AV.tup [Sx.AV.int false IntKind.u8 (IntKind.wrap IntKind.u8 (IntKind.wrap IntKind.u8 (IntKind.wrap IntKind.u8 (IntKind.wrap IntKind.u8 (IntKind.wrap IntKind.u8 ((1 : Int) + (1 : Int)) + (1 : Int)) + (1 : Int)) + (1 : Int)) + (1 : Int))), Sx.AV.bool true]) ∧ ((((((True ∧ (decide ((82 : Int) = k) = false)) ∧ (decide ((76 : Int) = k) = false)) ∧ (decide ((67 : Int) = k) = false)) ∧ (decide ((73 : Int) = k) = false)) ∧ (decide ((86 : Int) = k) = false)) ∧ (decide ((71 : Int) = k) = true))) := by kernel_rfl
 exact ⟨by rw [e]; exact ⟨rfl, ⟨⟨⟨⟨⟨⟨trivial, c0⟩, c1⟩, c2⟩, c3⟩, c4⟩, c5⟩⟩⟩
theorem of_r6 (k : Int) (c0 : decide ((82 : Int) = k) = false) (c1 : decide ((76 : Int) = k) = false) (c2 : decide ((67 : Int) = k) = false) (c3 : decide ((73 : Int) = k) = false) (c4 : decide ((86 : Int) = k) = false) (c5 : decide ((71 : Int) = k) = false) (c6 : decide ((69 : Int) = k) = true) : Sx.PureP (Sx.AV.tup [Sx.AV.int false IntKind.u8 (IntKind.wrap IntKind.u8 (IntKind.wrap IntKind.u8 (IntKind.wrap IntKind.u8 (IntKind.wrap IntKind.u8 (IntKind.wrap IntKind.u8 (IntKind.wrap IntKind.u8 ((1 : Int) + (1 : Int)) + (1 : Int)) + (1 : Int)) + (1 : Int)) + (1 : Int)) + (1 : Int))), Sx.AV.bool true]) (call1 51 [.int true .u8 k] (Sx.G.on [false, false, false, false, false, false, true])) := by
 have e : Sx.pureP (Sx.AV.tup [Sx.AV.int false IntKind.u8 (IntKind.wrap IntKind.u8 (IntKind.wrap IntKind.u8 (IntKind.wrap IntKind.u8 (IntKind.wrap IntKind.u8 (IntKind.wrap IntKind.u8 (IntKind.wrap IntKind.u8 ((1 : Int) + (1 : Int)) + (1 : Int)) + (1 : Int)) + (1 : Int)) + (1 : Int)) + (1 : Int))), Sx.AV.bool true]) (call1 51 [.int true .u8 k] (Sx.G.on [false, false, false, false, false, false, true])) = ((Sx.AV.tup [Sx.AV.int false IntKind.u8 (IntKind.wrap IntKind.u8 (IntKind.wrap IntKind.u8 (IntKind.wrap IntKind.u8 (IntKind.wrap IntKind.u8 (IntKind.wrap IntKind.u8 (IntKind.wrap IntKind.u8 ((1 : Int) + (1 : Int)) + (1 : Int)) + (1 : Int)) + (1 : Int)) + (1 : Int)) + (1 : Int))), Sx.AV.bool true]) = (Sx.AV.tup [Sx.AV.int false IntKind.u8 (IntKind.wrap IntKind.u8 (IntKind.wrap IntKind.u8 (IntKind.wrap IntKind.u8 (IntKind.wrap IntKind.u8 (IntKind.wrap IntKind.u8 (IntKind.wrap IntKind.u8 ((1 : Int) + (1 : Int)) + (1 : Int)) + (1 : Int)) + (1 : Int)) + (1 : Int)) + (1 : Int))), Sx.AV.bool true]) ∧ (((((((True ∧ (decide ((82 : Int) = k) = false)) ∧ (decide ((76 : Int) = k) = false)) ∧ (decide ((67 : Int) = k) = false)) ∧ (decide ((73 : Int) = k) = false)) ∧ (decide ((86 : Int) = k) = false)) ∧ (decide ((71 : Int) = k) = false)) ∧ (decide ((69 : Int) = k) = true))) := by kernel_rfl
 exact ⟨by rw [e]; exact ⟨rfl, ⟨⟨⟨⟨⟨⟨⟨trivial, c0⟩, c1⟩, c2⟩, c3⟩, c4⟩, c5⟩, c6⟩⟩⟩
theorem of_r7 (k : Int) (c0 : decide ((82 : Int) = k) = false) (c1 : decide ((76 : Int) = k) = false) (c2 : decide ((67 : Int) = k) = false) (c3 : decide ((73 : Int) = k) = false) (c4 : decide ((86 : Int) = k) = false) (c5 : decide ((71 : Int) = k) = false) (c6 : decide ((69 : Int) = k) = false) (c7 : decide ((80 : Int) = k) = true) : Sx.PureP (Sx.AV.tup [Sx.AV.int false IntKind.u8 (IntKind.wrap IntKind.u8 (IntKind.wrap IntKind.u8 (IntKind.wrap IntKind.u8 (IntKind.wrap IntKind.u8 (IntKind.wrap IntKind.u8 (IntKind.wrap IntKind.u8 (IntKind.wrap IntKind.u8 ((1 : Int) + (1 : Int)) + (1 : Int)) + (1 : Int)) + (1 : Int)) + (1 : Int)) + (1 : Int)) + (1 : Int))), Sx.AV.bool true]) (call1 51 [.int true .u8 k] (Sx.G.on [false, false, false, false, false, false, false, true])) := by
 have e : Sx.pureP (Sx.AV.tup [Sx.AV.int false IntKind.u8 (IntKind.wrap IntKind.u8 (IntKind.wrap IntKind.u8 (IntKind.wrap IntKind.u8 (IntKind.wrap IntKind.u8 (IntKind.wrap IntKind.u8 (IntKind.wrap IntKind.u8 (IntKind.wrap IntKind.u8 ((1 : Int) + (1 : Int)) + (1 : Int)) + (1 : Int)) + (1 : Int)) + (1 : Int)) + (1 : Int)) + (1 : Int))), Sx.AV.bool true]) (call1 51 [.int true .u8 k] (Sx.G.on [false, false, false, false, false, false, false, true])) = ((Sx.AV.tup [Sx.AV.int false IntKind.u8 (IntKind.wrap IntKind.u8 (IntKind.wrap IntKind.u8 (IntKind.wrap IntKind.u8 (IntKind.wrap IntKind.u8 (IntKind.wrap IntKind.u8 (IntKind.wrap IntKind.u8 (IntKind.wrap IntKind.u8 ((1 : Int) + (1 : Int)) + (1 : Int)) + (1 : Int)) + (1 : Int)) + (1 : Int)) + (1 : Int)) + (1 : Int))), Sx.AV.bool true]) = (Sx.AV.tup [Sx.AV.int false IntKind.u8 (IntKind.wrap IntKind.u8 (IntKind.wrap IntKind.u8 (IntKind.wrap IntKind.u8 (IntKind.wrap IntKind.u8 (IntKind.wrap IntKind.u8 (IntKind.wrap IntKind.u8 (IntKind.wrap IntKind.u8 ((1 : Int) + (1 : Int)) + (1 : Int)) + (1 : Int)) + (1 : Int)) + (1 : Int)) + (1 : Int)) + (1 : Int))), Sx.AV.bool true]) ∧ ((((((((True ∧ (decide ((82 : Int) = k) = false)) ∧ (decide ((76 : Int) = k) = false)) ∧ (decide ((67 : Int) = k) = false)) ∧ (decide ((73 : Int) = k) = false)) ∧ (decide ((86 : Int) = k) = false)) ∧ (decide ((71 : Int) = k) = false)) ∧ (decide ((69 : Int) = k) = false)) ∧ (decide ((80 : Int) = k) = true))) := by kernel_rfl
 exact ⟨by rw [e]; exact ⟨rfl, ⟨⟨⟨⟨⟨⟨⟨⟨trivial, c0⟩, c1⟩, c2⟩, c3⟩, c4⟩, c5⟩, c6⟩, c7⟩⟩⟩
theorem of_r8 (k : Int) (c0 : decide ((82 : Int) = k) = false) (c1 : decide ((76 : Int) = k) = false) (c2 : decide ((67 : Int) = k) = false) (c3 : decide ((73 : Int) = k) = false) (c4 : decide ((86 : Int) = k) = false) (c5 : decide ((71 : Int) = k) = false) (c6 : decide ((69 : Int) = k) = false) (c7 : decide ((80 : Int) = k) = false) : Sx.PureP (Sx.AV.tup [Sx.AV.int false IntKind.u8 (0 : Int), Sx.AV.bool false]) (call1 51 [.int true .u8 k] (Sx.G.on [false, false, false, false, false, false, false, false])) := by
 have e : Sx.pureP (Sx.AV.tup [Sx.AV.int false IntKind.u8 (0 : Int), Sx.AV.bool false]) (call1 51 [.int true .u8 k] (Sx.G.on [false, false, false, false, false, false, false, false])) = ((Sx.AV.tup [Sx.AV.int false IntKind.u8 (0 : Int), Sx.AV.bool false]) = (Sx.AV.tup [Sx.AV.int false IntKind.u8 (0 : Int), Sx.AV.bool false]) ∧ ((((((((True ∧ (decide ((82 : Int) = k) = false)) ∧ (decide ((76 : Int) = k) = false)) ∧ (decide ((67 : Int) = k) = false)) ∧ (decide ((73 : Int) = k) = false)) ∧ (decide ((86 : Int) = k) = false)) ∧ (decide ((71 : Int) = k) = false)) ∧ (decide ((69 : Int) = k) = false)) ∧ (decide ((80 : Int) = k) = false))) := by kernel_rfl
 exact ⟨by rw [e]; exact ⟨rfl, ⟨⟨⟨⟨⟨⟨⟨⟨trivial, c0⟩, c1⟩, c2⟩, c3⟩, c4⟩, c5⟩, c6⟩, c7⟩⟩⟩
noncomputable def of_0 (k : Int) : Int := (bif decide ((82 : Int) = k) then ((1 : Int)) else (bif decide ((76 : Int) = k) then (IntKind.wrap IntKind.u8 ((1 : Int) + (1 : Int))) else (bif decide ((67 : Int) = k) then (IntKind.wrap IntKind.u8 (IntKind.wrap IntKind.u8 ((1 : Int) + (1 : Int)) + (1 : Int))) else (bif decide ((73 : Int) = k) then (IntKind.wrap IntKind.u8 (IntKind.wrap IntKind.u8 (IntKind.wrap IntKind.u8 ((1 : Int) + (1 : Int)) + (1 : Int)) + (1 : Int))) else (bif decide ((86 : Int) = k) then (IntKind.wrap IntKind.u8 (IntKind.wrap IntKind.u8 (IntKind.wrap IntKind.u8 (IntKind.wrap IntKind.u8 ((1 : Int) + (1 : Int)) + (1 : Int)) + (1 : Int)) + (1 : Int))) else (bif decide ((71 : Int) = k) then (IntKind.wrap IntKind.u8 (IntKind.wrap IntKind.u8 (IntKind.wrap IntKind.u8 (IntKind.wrap IntKind.u8 (IntKind.wrap IntKind.u8 ((1 : Int) + (1 : Int)) + (1 : Int)) + (1 : Int)) + (1 : Int)) + (1 : Int))) else (bif decide ((69 : Int) = k) then (IntKind.wrap IntKind.u8 (IntKind.wrap IntKind.u8 (IntKind.wrap IntKind.u8 (IntKind.wrap IntKind.u8 (IntKind.wrap IntKind.u8 (IntKind.wrap IntKind.u8 ((1 : Int) + (1 : Int)) + (1 : Int)) + (1 : Int)) + (1 : Int)) + (1 : Int)) + (1 : Int))) else (bif decide ((80 : Int) = k) then (IntKind.wrap IntKind.u8 (IntKind.wrap IntKind.u8 (IntKind.wrap IntKind.u8 (IntKind.wrap IntKind.u8 (IntKind.wrap IntKind.u8 (IntKind.wrap IntKind.u8 (IntKind.wrap IntKind.u8 ((1 : Int) + (1 : Int)) + (1 : Int)) + (1 : Int)) + (1 : Int)) + (1 : Int)) + (1 : Int)) + (1 : Int))) else ((0 : Int))))))))))
noncomputable def of_1 (k : Int) : Bool := (bif decide ((82 : Int) = k) then (true) else (bif decide ((76 : Int) = k) then (true) else (bif decide ((67 : Int) = k) then (true) else (bif decide ((73 : Int) = k) then (true) else (bif decide ((86 : Int) = k) then (true) else (bif decide ((71 : Int) = k) then (true) else (bif decide ((69 : Int) = k) then (true) else (bif decide ((80 : Int) = k) then (true) else (false)))))))))
noncomputable def ofS : List Sx.AV → Sx.M Sx.AV
 | [.int s0 .u8 k] => Sx.M.ret (Sx.AV.tup [Sx.AV.int s0 (IntKind.u8) (of_0 k), Sx.cmpB s0 (of_1 k)])
 | args => call1 51 args
theorem ofS_ok : ∀ args v g g', ofS args g = .done v g' → Sx.CallIs Try.prog 51 args v g g' := by
 intro args v g g' h
 unfold ofS at h
 split at h
 ·rename_i s0 k
  obtain ⟨rfl, rfl⟩ := Sx.ret_done h
  refine Sx.scal call1_ok fun μ cargs ha => ?_
  have ha' : Sx.Reps 0 Sx.MM.none [.int true .u8 k] cargs.toList := by simpa only [Sx.Reps, Sx.Rep] using ha
  cases t0 : decide ((82 : Int) = k) with
  | true =>
   exact ⟨_, _, _, ha', of_r0 k t0, rfl, fun c hc => by have := hc g.nx μ; have e0 : of_0 k = ((1 : Int)) := (Sx.ct t0).trans (rfl); have e1 : of_1 k = (true) := (Sx.ct t0).trans (rfl); rw [e0, e1]; simpa only [Sx.Rep, Sx.Reps, Sx.Rep_cmpB] using this⟩
  | false =>
   cases t1 : decide ((76 : Int) = k) with
   | true =>
    exact ⟨_, _, _, ha', of_r1 k t0 t1, rfl, fun c hc => by have := hc g.nx μ; have e0 : of_0 k = (IntKind.wrap IntKind.u8 ((1 : Int) + (1 : Int))) := (Sx.cf t0).trans ((Sx.ct t1).trans (rfl)); have e1 : of_1 k = (true) := (Sx.cf t0).trans ((Sx.ct t1).trans (rfl)); rw [e0, e1]; simpa only [Sx.Rep, Sx.Reps, Sx.Rep_cmpB] using this⟩
   | false =>
    cases t2 : decide ((67 : Int) = k) with
    | true =>
     exact ⟨_, _, _, ha', of_r2 k t0 t1 t2, rfl, fun c hc => by have := hc g.nx μ; have e0 : of_0 k = (IntKind.wrap IntKind.u8 (IntKind.wrap IntKind.u8 ((1 : Int) + (1 : Int)) + (1 : Int))) := (Sx.cf t0).trans ((Sx.cf t1).trans ((Sx.ct t2).trans (rfl))); have e1 : of_1 k = (true) := (Sx.cf t0).trans ((Sx.cf t1).trans ((Sx.ct t2).trans (rfl))); rw [e0, e1]; simpa only [Sx.Rep, Sx.Reps, Sx.Rep_cmpB] using this⟩
    | false =>
     cases t3 : decide ((73 : Int) = k) with
     | true =>
      exact ⟨_, _, _, ha', of_r3 k t0 t1 t2 t3, rfl, fun c hc => by have := hc g.nx μ; have e0 : of_0 k = (IntKind.wrap IntKind.u8 (IntKind.wrap IntKind.u8 (IntKind.wrap IntKind.u8 ((1 : Int) + (1 : Int)) + (1 : Int)) + (1 : Int))) := (Sx.cf t0).trans ((Sx.cf t1).trans ((Sx.cf t2).trans ((Sx.ct t3).trans (rfl)))); have e1 : of_1 k = (true) := (Sx.cf t0).trans ((Sx.cf t1).trans ((Sx.cf t2).trans ((Sx.ct t3).trans (rfl)))); rw [e0, e1]; simpa only [Sx.Rep, Sx.Reps, Sx.Rep_cmpB] using this⟩
     | false =>
      cases t4 : decide ((86 : Int) = k) with
      | true =>
       exact ⟨_, _, _, ha', of_r4 k t0 t1 t2 t3 t4, rfl, fun c hc => by have := hc g.nx μ; have e0 : of_0 k = (IntKind.wrap IntKind.u8 (IntKind.wrap IntKind.u8 (IntKind.wrap IntKind.u8 (IntKind.wrap IntKind.u8 ((1 : Int) + (1 : Int)) + (1 : Int)) + (1 : Int)) + (1 : Int))) := (Sx.cf t0).trans ((Sx.cf t1).trans ((Sx.cf t2).trans ((Sx.cf t3).trans ((Sx.ct t4).trans (rfl))))); have e1 : of_1 k = (true) := (Sx.cf t0).trans ((Sx.cf t1).trans ((Sx.cf t2).trans ((Sx.cf t3).trans ((Sx.ct t4).trans (rfl))))); rw [e0, e1]; simpa only [Sx.Rep, Sx.Reps, Sx.Rep_cmpB] using this⟩
      | false =>
       cases t5 : decide ((71 : Int) = k) with
       | true =>
        exact ⟨_, _, _, ha', of_r5 k t0 t1 t2 t3 t4 t5, rfl, fun c hc => by have := hc g.nx μ; have e0 : of_0 k = (IntKind.wrap IntKind.u8 (IntKind.wrap IntKind.u8 (IntKind.wrap IntKind.u8 (IntKind.wrap IntKind.u8 (IntKind.wrap IntKind.u8 ((1 : Int) + (1 : Int)) + (1 : Int)) + (1 : Int)) + (1 : Int)) + (1 : Int))) := (Sx.cf t0).trans ((Sx.cf t1).trans ((Sx.cf t2).trans ((Sx.cf t3).trans ((Sx.cf t4).trans ((Sx.ct t5).trans (rfl)))))); have e1 : of_1 k = (true) := (Sx.cf t0).trans ((Sx.cf t1).trans ((Sx.cf t2).trans ((Sx.cf t3).trans ((Sx.cf t4).trans ((Sx.ct t5).trans (rfl)))))); rw [e0, e1]; simpa only [Sx.Rep, Sx.Reps, Sx.Rep_cmpB] using this⟩
       | false =>
        cases t6 : decide ((69 : Int) = k) with
        | true =>
         exact ⟨_, _, _, ha', of_r6 k t0 t1 t2 t3 t4 t5 t6, rfl, fun c hc => by have := hc g.nx μ; have e0 : of_0 k = (IntKind.wrap IntKind.u8 (IntKind.wrap IntKind.u8 (IntKind.wrap IntKind.u8 (IntKind.wrap IntKind.u8 (IntKind.wrap IntKind.u8 (IntKind.wrap IntKind.u8 ((1 : Int) + (1 : Int)) + (1 : Int)) + (1 : Int)) + (1 : Int)) + (1 : Int)) + (1 : Int))) := (Sx.cf t0).trans ((Sx.cf t1).trans ((Sx.cf t2).trans ((Sx.cf t3).trans ((Sx.cf t4).trans ((Sx.cf t5).trans ((Sx.ct t6).trans (rfl))))))); have e1 : of_1 k = (true) := (Sx.cf t0).trans ((Sx.cf t1).trans ((Sx.cf t2).trans ((Sx.cf t3).trans ((Sx.cf t4).trans ((Sx.cf t5).trans ((Sx.ct t6).trans (rfl))))))); rw [e0, e1]; simpa only [Sx.Rep, Sx.Reps, Sx.Rep_cmpB] using this⟩
        | false =>
         cases t7 : decide ((80 : Int) = k) with
         | true =>
          exact ⟨_, _, _, ha', of_r7 k t0 t1 t2 t3 t4 t5 t6 t7, rfl, fun c hc => by have := hc g.nx μ; have e0 : of_0 k = (IntKind.wrap IntKind.u8 (IntKind.wrap IntKind.u8 (IntKind.wrap IntKind.u8 (IntKind.wrap IntKind.u8 (IntKind.wrap IntKind.u8 (IntKind.wrap IntKind.u8 (IntKind.wrap IntKind.u8 ((1 : Int) + (1 : Int)) + (1 : Int)) + (1 : Int)) + (1 : Int)) + (1 : Int)) + (1 : Int)) + (1 : Int))) := (Sx.cf t0).trans ((Sx.cf t1).trans ((Sx.cf t2).trans ((Sx.cf t3).trans ((Sx.cf t4).trans ((Sx.cf t5).trans ((Sx.cf t6).trans ((Sx.ct t7).trans (rfl)))))))); have e1 : of_1 k = (true) := (Sx.cf t0).trans ((Sx.cf t1).trans ((Sx.cf t2).trans ((Sx.cf t3).trans ((Sx.cf t4).trans ((Sx.cf t5).trans ((Sx.cf t6).trans ((Sx.ct t7).trans (rfl)))))))); rw [e0, e1]; simpa only [Sx.Rep, Sx.Reps, Sx.Rep_cmpB] using this⟩
         | false =>
          exact ⟨_, _, _, ha', of_r8 k t0 t1 t2 t3 t4 t5 t6 t7, rfl, fun c hc => by have := hc g.nx μ; have e0 : of_0 k = ((0 : Int)) := (Sx.cf t0).trans ((Sx.cf t1).trans ((Sx.cf t2).trans ((Sx.cf t3).trans ((Sx.cf t4).trans ((Sx.cf t5).trans ((Sx.cf t6).trans ((Sx.cf t7).trans (rfl)))))))); have e1 : of_1 k = (false) := (Sx.cf t0).trans ((Sx.cf t1).trans ((Sx.cf t2).trans ((Sx.cf t3).trans ((Sx.cf t4).trans ((Sx.cf t5).trans ((Sx.cf t6).trans ((Sx.cf t7).trans (rfl)))))))); rw [e0, e1]; simpa only [Sx.Rep, Sx.Reps, Sx.Rep_cmpB] using this⟩
 ·exact call1_ok _ _ _ _ _ h
theorem ofS_tch : ∀ args, Sx.Tch (ofS args) := by
 intro args
 unfold ofS
 split
 ·exact Sx.Tch.ret _
 ·exact call1_tch _ _
theorem rof_r0 (k : Int) (c0 : decide ((82 : Int) = k) = true) : Sx.PureP (Sx.AV.tup [Sx.AV.int false IntKind.u8 (1 : Int), Sx.AV.bool true]) (call1 63 [.int true .u8 k] (Sx.G.on [true])) := by
 have e : Sx.pureP (Sx.AV.tup [Sx.AV.int false IntKind.u8 (1 : Int), Sx.AV.bool true]) (call1 63 [.int true .u8 k] (Sx.G.on [true])) = ((Sx.AV.tup [Sx.AV.int false IntKind.u8 (1 : Int), Sx.AV.bool true]) = (Sx.AV.tup [Sx.AV.int false IntKind.u8 (1 : Int), Sx.AV.bool true]) ∧ (True ∧ (decide ((82 : Int) = k) = true))) := by kernel_rfl
 exact ⟨by rw [e]; exact ⟨rfl, ⟨trivial, c0⟩⟩⟩
theorem rof_r1 (k : Int) (c0 : decide ((82 : Int) = k) = false) (c1 : decide ((76 : Int) = k) = true) : Sx.PureP (Sx.AV.tup [Sx.AV.int false IntKind.u8 (2 : Int), Sx.AV.bool true]) (call1 63 [.int true .u8 k] (Sx.G.on [false, true])) := by
 have e : Sx.pureP (Sx.AV.tup [Sx.AV.int false IntKind.u8 (2 : Int), Sx.AV.bool true]) (call1 63 [.int true .u8 k] (Sx.G.on [false, true])) = ((Sx.AV.tup [Sx.AV.int false IntKind.u8 (2 : Int), Sx.AV.bool true]) = (Sx.AV.tup [Sx.AV.int false IntKind.u8 (2 : Int), Sx.AV.bool true]) ∧ ((True ∧ (decide ((82 : Int) = k) = false)) ∧ (decide ((76 : Int) = k) = true))) := by kernel_rfl
 exact ⟨by rw [e]; exact ⟨rfl, ⟨⟨trivial, c0⟩, c1⟩⟩⟩
theorem rof_r2 (k : Int) (c0 : decide ((82 : Int) = k) = false) (c1 : decide ((76 : Int) = k) = false) (c2 : decide ((67 : Int) = k) = true) : Sx.PureP (Sx.AV.tup [Sx.AV.int false IntKind.u8 (3 : Int), Sx.AV.bool true]) (call1 63 [.int true .u8 k] (Sx.G.on [false, false, true])) := by
 have e : Sx.pureP (Sx.AV.tup [Sx.AV.int false IntKind.u8 (3 : Int), Sx.AV.bool true]) (call1 63 [.int true .u8 k] (Sx.G.on [false, false, true])) = ((Sx.AV.tup [Sx.AV.int false IntKind.u8 (3 : Int), Sx.AV.bool true]) = (Sx.AV.tup [Sx.AV.int false IntKind.u8 (3 : Int), Sx.AV.bool true]) ∧ (((True ∧ (decide ((82 : Int) = k) = false)) ∧ (decide ((76 : Int) = k) = false)) ∧ (decide ((67 : Int) = k) = true))) := by kernel_rfl
 exact ⟨by rw [e]; exact ⟨rfl, ⟨⟨⟨trivial, c0⟩, c1⟩, c2⟩⟩⟩
theorem rof_r3 (k : Int) (c0 : decide ((82 : Int) = k) = false) (c1 : decide ((76 : Int) = k) = false) (c2 : decide ((67 : Int) = k) = false) (c3 : decide ((73 : Int) = k) = true) : Sx.PureP (Sx.AV.tup [Sx.AV.int false IntKind.u8 (4 : Int), Sx.AV.bool true]) (call1 63 [.int true .u8 k] (Sx.G.on [false, false, false, true])) := by
 have e : Sx.pureP (Sx.AV.tup [Sx.AV.int false IntKind.u8 (4 : Int), Sx.AV.bool true]) (call1 63 [.int true .u8 k] (Sx.G.on [false, false, false, true])) = ((Sx.AV.tup [Sx.AV.int false IntKind.u8 (4 : Int), Sx.AV.bool true]) = (Sx.AV.tup [Sx.AV.int false IntKind.u8 (4 : Int), Sx.AV.bool true]) ∧ ((((True ∧ (decide ((82 : Int) = k) = false)) ∧ (decide ((76 : Int) = k) = false)) ∧ (decide ((67 : Int) = k) = false)) ∧ (decide ((73 : Int) = k) = true))) := by kernel_rfl
 exact ⟨by rw [e]; exact ⟨rfl, ⟨⟨⟨⟨trivial, c0⟩, c1⟩, c2⟩, c3⟩⟩⟩
theorem rof_r4 (k : Int) (c0 : decide ((82 : Int) = k) = false) (c1 : decide ((76 : Int) = k) = false) (c2 : decide ((67 : Int) = k) = false) (c3 : decide ((73 : Int) = k) = false) (c4 : decide ((86 : Int) = k) = true) : Sx.PureP (Sx.AV.tup [Sx.AV.int false IntKind.u8 (5 : Int), Sx.AV.bool true]) (call1 63 [.int true .u8 k] (Sx.G.on [false, false, false, false, true])) := by
 have e : Sx.pureP (Sx.AV.tup [Sx.AV.int false IntKind.u8 (5 : Int), Sx.AV.bool true]) (call1 63 [.int true .u8 k] (Sx.G.on [false, false, false, false, true])) = ((Sx.AV.tup [Sx.AV.int false IntKind.u8 (5 : Int), Sx.AV.bool true]) = (Sx.AV.tup [Sx.AV.int false IntKind.u8 (5 : Int), Sx.AV.bool true]) ∧ (((((True ∧ (decide ((82 : Int) = k) = false)) ∧ (decide ((76 : Int) = k) = false)) ∧ (decide ((67 : Int) = k) = false)) ∧ (decide ((73 : Int) = k) = false)) ∧ (decide ((86 : Int) = k) = true))) := by kernel_rfl
 exact ⟨by rw [e]; exact ⟨rfl, ⟨⟨⟨⟨⟨trivial, c0⟩, c1⟩, c2⟩, c3⟩, c4⟩⟩⟩
theorem rof_r5 (k : Int) (c0 : decide ((82 : Int) = k) = false) (c1 : decide ((76 : Int) = k) = false) (c2 : decide ((67 : Int) = k) = false) (c3 : decide ((73 : Int) = k) = false) (c4 : decide ((86 : Int) = k) = false) (c5 : decide ((71 : Int) = k) = true) : Sx.PureP (Sx.AV.tup [Sx.AV.int false IntKind.u8 (6 : Int), Sx.AV.bool true]) (call1 63 [.int true .u8 k] (Sx.G.on [false, false, false, false, false, true])) := by
 have e : Sx.pureP (Sx.AV.tup [Sx.AV.int false IntKind.u8 (6 : Int), Sx.AV.bool true]) (call1 63 [.int true .u8 k] (Sx.G.on [false, false, false, false, false, true])) = ((Sx.AV.tup [Sx.AV.int false IntKind.u8 (6 : Int), Sx.AV.bool true]) = (Sx.AV.tup [Sx.AV.int false IntKind.u8 (6 : Int), Sx.AV.bool true]) ∧ ((((((True ∧ (decide ((82 : Int) = k) = false)) ∧ (decide ((76 : Int) = k) = false)) ∧ (decide ((67 : Int) = k) = false)) ∧ (decide ((73 : Int) = k) = false)) ∧ (decide ((86 : Int) = k) = false)) ∧ (decide ((71 : Int) = k) = true))) := by kernel_rfl
 exact ⟨by rw [e]; exact ⟨rfl, ⟨⟨⟨⟨⟨⟨trivial, c0⟩, c1⟩, c2⟩, c3⟩, c4⟩, c5⟩⟩⟩
theorem rof_r6 (k : Int) (c0 : decide ((82 : Int) = k) = false) (c1 : decide ((76 : Int) = k) = false) (c2 : decide ((67 : Int) = k) = false) (c3 : decide ((73 : Int) = k) = false) (c4 : decide ((86 : Int) = k) = false) (c5 : decide ((71 : Int) = k) = false) (c6 : decide ((69 : Int) = k) = true) : Sx.PureP (Sx.AV.tup [Sx.AV.int false IntKind.u8 (7 : Int), Sx.AV.bool true]) (call1 63 [.int true .u8 k] (Sx.G.on [false, false, false, false, false, false, true])) := by
 have e : Sx.pureP (Sx.AV.tup [Sx.AV.int false IntKind.u8 (7 : Int), Sx.AV.bool true]) (call1 63 [.int true .u8 k] (Sx.G.on [false, false, false, false, false, false, true])) = ((Sx.AV.tup [Sx.AV.int false IntKind.u8 (7 : Int), Sx.AV.bool true]) = (Sx.AV.tup [Sx.AV.int false IntKind.u8 (7 : Int), Sx.AV.bool true]) ∧ (((((((True ∧ (decide ((82 : Int) = k) = false)) ∧ (decide ((76 : Int) = k) = false)) ∧ (decide ((67 : Int) = k) = false)) ∧ (decide ((73 : Int) = k) = false)) ∧ (decide ((86 : Int) = k) = false)) ∧ (decide ((71 : Int) = k) = false)) ∧ (decide ((69 : Int) = k) = true))) := by kernel_rfl
 exact ⟨by rw [e]; exact ⟨rfl, ⟨⟨⟨⟨⟨⟨⟨trivial, c0⟩, c1⟩, c2⟩, c3⟩, c4⟩, c5⟩, c6⟩⟩⟩
theorem rof_r7 (k : Int) (c0 : decide ((82 : Int) = k) = false) (c1 : decide ((76 : Int) = k) = false) (c2 : decide ((67 : Int) = k) = false) (c3 : decide ((73 : Int) = k) = false) (c4 : decide ((86 : Int) = k) = false) (c5 : decide ((71 : Int) = k) = false) (c6 : decide ((69 : Int) = k) = false) (c7 : decide ((80 : Int) = k) = true) : Sx.PureP (Sx.AV.tup [Sx.AV.int false IntKind.u8 (8 : Int), Sx.AV.bool true]) (call1 63 [.int true .u8 k] (Sx.G.on [false, false, false, false, false, false, false, true])) := by
 have e : Sx.pureP (Sx.AV.tup [Sx.AV.int false IntKind.u8 (8 : Int), Sx.AV.bool true]) (call1 63 [.int true .u8 k] (Sx.G.on [false, false, false, false, false, false, false, true])) = ((Sx.AV.tup [Sx.AV.int false IntKind.u8 (8 : Int), Sx.AV.bool true]) = (Sx.AV.tup [Sx.AV.int false IntKind.u8 (8 : Int), Sx.AV.bool true]) ∧ ((((((((True ∧ (decide ((82 : Int) = k) = false)) ∧ (decide ((76 : Int) = k) = false)) ∧ (decide ((67 : Int) = k) = false)) ∧ (decide ((73 : Int) = k) = false)) ∧ (decide ((86 : Int) = k) = false)) ∧ (decide ((71 : Int) = k) = false)) ∧ (decide ((69 : Int) = k) = false)) ∧ (decide ((80 : Int) = k) = true))) := by kernel_rfl
 exact ⟨by rw [e]; exact ⟨rfl, ⟨⟨⟨⟨⟨⟨⟨⟨trivial, c0⟩, c1⟩, c2⟩, c3⟩, c4⟩, c5⟩, c6⟩, c7⟩⟩⟩
theorem rof_r8 (k : Int) (c0 : decide ((82 : Int) = k) = false) (c1 : decide ((76 : Int) = k) = false) (c2 : decide ((67 : Int) = k) = false) (c3 : decide ((73 : Int) = k) = false) (c4 : decide ((86 : Int) = k) = false) (c5 : decide ((71 : Int) = k) = false) (c6 : decide ((69 : Int) = k) = false) (c7 : decide ((80 : Int) = k) = false) : Sx.PureP (Sx.AV.tup [Sx.AV.int false IntKind.u8 (0 : Int), Sx.AV.bool false]) (call1 63 [.int true .u8 k] (Sx.G.on [false, false, false, false, false, false, false, false])) := by
 have e : Sx.pureP (Sx.AV.tup [Sx.AV.int false IntKind.u8 (0 : Int), Sx.AV.bool false]) (call1 63 [.int true .u8 k] (Sx.G.on [false, false, false, false, false, false, false, false])) = ((Sx.AV.tup [Sx.AV.int false IntKind.u8 (0 : Int), Sx.AV.bool false]) = (Sx.AV.tup [Sx.AV.int false IntKind.u8 (0 : Int), Sx.AV.bool false]) ∧ ((((((((True ∧ (decide ((82 : Int) = k) = false)) ∧ (decide ((76 : Int) = k) = false)) ∧ (decide ((67 : Int) = k) = false)) ∧ (decide ((73 : Int) = k) = false)) ∧ (decide ((86 : Int) = k) = false)) ∧ (decide ((71 : Int) = k) = false)) ∧ (decide ((69 : Int) = k) = false)) ∧ (decide ((80 : Int) = k) = false))) := by kernel_rfl
 exact ⟨by rw [e]; exact ⟨rfl, ⟨⟨⟨⟨⟨⟨⟨⟨trivial, c0⟩, c1⟩, c2⟩, c3⟩, c4⟩, c5⟩, c6⟩, c7⟩⟩⟩
noncomputable def rof_0 (k : Int) : Int := (bif decide ((82 : Int) = k) then ((1 : Int)) else (bif decide ((76 : Int) = k) then ((2 : Int)) else (bif decide ((67 : Int) = k) then ((3 : Int)) else (bif decide ((73 : Int) = k) then ((4 : Int)) else (bif decide ((86 : Int) = k) then ((5 : Int)) else (bif decide ((71 : Int) = k) then ((6 : Int)) else (bif decide ((69 : Int) = k) then ((7 : Int)) else (bif decide ((80 : Int) = k) then ((8 : Int)) else ((0 : Int))))))))))
noncomputable def rof_1 (k : Int) : Bool := (bif decide ((82 : Int) = k) then (true) else (bif decide ((76 : Int) = k) then (true) else (bif decide ((67 : Int) = k) then (true) else (bif decide ((73 : Int) = k) then (true) else (bif decide ((86 : Int) = k) then (true) else (bif decide ((71 : Int) = k) then (true) else (bif decide ((69 : Int) = k) then (true) else (bif decide ((80 : Int) = k) then (true) else (false)))))))))
noncomputable def rofS : List Sx.AV → Sx.M Sx.AV
 | [.int s0 .u8 k] => Sx.M.ret (Sx.AV.tup [Sx.AV.int s0 (IntKind.u8) (rof_0 k), Sx.cmpB s0 (rof_1 k)])
 | args => call1 63 args
theorem rofS_ok : ∀ args v g g', rofS args g = .done v g' → Sx.CallIs Try.prog 63 args v g g' := by
 intro args v g g' h
 unfold rofS at h
 split at h
 ·rename_i s0 k
  obtain ⟨rfl, rfl⟩ := Sx.ret_done h
  refine Sx.scal call1_ok fun μ cargs ha => ?_
  have ha' : Sx.Reps 0 Sx.MM.none [.int true .u8 k] cargs.toList := by simpa only [Sx.Reps, Sx.Rep] using ha
  cases t0 : decide ((82 : Int) = k) with
  | true =>
   exact ⟨_, _, _, ha', rof_r0 k t0, rfl, fun c hc => by have := hc g.nx μ; have e0 : rof_0 k = ((1 : Int)) := (Sx.ct t0).trans (rfl); have e1 : rof_1 k = (true) := (Sx.ct t0).trans (rfl); rw [e0, e1]; simpa only [Sx.Rep, Sx.Reps, Sx.Rep_cmpB] using this⟩
  | false =>
   cases t1 : decide ((76 : Int) = k) with
   | true =>
    exact ⟨_, _, _, ha', rof_r1 k t0 t1, rfl, fun c hc => by have := hc g.nx μ; have e0 : rof_0 k = ((2 : Int)) := (Sx.cf t0).trans ((Sx.ct t1).trans (rfl)); have e1 : rof_1 k = (true) := (Sx.cf t0).trans ((Sx.ct t1).trans (rfl)); rw [e0, e1]; simpa only [Sx.Rep, Sx.Reps, Sx.Rep_cmpB] using this⟩
   | false =>
    cases t2 : decide ((67 : Int) = k) with
    | true =>
     exact ⟨_, _, _, ha', rof_r2 k t0 t1 t2, rfl, fun c hc => by have := hc g.nx μ; have e0 : rof_0 k = ((3 : Int)) := (Sx.cf t0).trans ((Sx.cf t1).trans ((Sx.ct t2).trans (rfl))); have e1 : rof_1 k = (true) := (Sx.cf t0).trans ((Sx.cf t1).trans ((Sx.ct t2).trans (rfl))); rw [e0, e1]; simpa only [Sx.Rep, Sx.Reps, Sx.Rep_cmpB] using this⟩
    | false =>
     cases t3 : decide ((73 : Int) = k) with
     | true =>
      exact ⟨_, _, _, ha', rof_r3 k t0 t1 t2 t3, rfl, fun c hc => by have := hc g.nx μ; have e0 : rof_0 k = ((4 : Int)) := (Sx.cf t0).trans ((Sx.cf t1).trans ((Sx.cf t2).trans ((Sx.ct t3).trans (rfl)))); have e1 : rof_1 k = (true) := (Sx.cf t0).trans ((Sx.cf t1).trans ((Sx.cf t2).trans ((Sx.ct t3).trans (rfl)))); rw [e0, e1]; simpa only [Sx.Rep, Sx.Reps, Sx.Rep_cmpB] using this⟩
     | false =>
      cases t4 : decide ((86 : Int) = k) with
      | true =>
       exact ⟨_, _, _, ha', rof_r4 k t0 t1 t2 t3 t4, rfl, fun c hc => by have := hc g.nx μ; have e0 : rof_0 k = ((5 : Int)) := (Sx.cf t0).trans ((Sx.cf t1).trans ((Sx.cf t2).trans ((Sx.cf t3).trans ((Sx.ct t4).trans (rfl))))); have e1 : rof_1 k = (true) := (Sx.cf t0).trans ((Sx.cf t1).trans ((Sx.cf t2).trans ((Sx.cf t3).trans ((Sx.ct t4).trans (rfl))))); rw [e0, e1]; simpa only [Sx.Rep, Sx.Reps, Sx.Rep_cmpB] using this⟩
      | false =>
       cases t5 : decide ((71 : Int) = k) with
       | true =>
        exact ⟨_, _, _, ha', rof_r5 k t0 t1 t2 t3 t4 t5, rfl, fun c hc => by have := hc g.nx μ; have e0 : rof_0 k = ((6 : Int)) := (Sx.cf t0).trans ((Sx.cf t1).trans ((Sx.cf t2).trans ((Sx.cf t3).trans ((Sx.cf t4).trans ((Sx.ct t5).trans (rfl)))))); have e1 : rof_1 k = (true) := (Sx.cf t0).trans ((Sx.cf t1).trans ((Sx.cf t2).trans ((Sx.cf t3).trans ((Sx.cf t4).trans ((Sx.ct t5).trans (rfl)))))); rw [e0, e1]; simpa only [Sx.Rep, Sx.Reps, Sx.Rep_cmpB] using this⟩
       | false =>
        cases t6 : decide ((69 : Int) = k) with
        | true =>
         exact ⟨_, _, _, ha', rof_r6 k t0 t1 t2 t3 t4 t5 t6, rfl, fun c hc => by have := hc g.nx μ; have e0 : rof_0 k = ((7 : Int)) := (Sx.cf t0).trans ((Sx.cf t1).trans ((Sx.cf t2).trans ((Sx.cf t3).trans ((Sx.cf t4).trans ((Sx.cf t5).trans ((Sx.ct t6).trans (rfl))))))); have e1 : rof_1 k = (true) := (Sx.cf t0).trans ((Sx.cf t1).trans ((Sx.cf t2).trans ((Sx.cf t3).trans ((Sx.cf t4).trans ((Sx.cf t5).trans ((Sx.ct t6).trans (rfl))))))); rw [e0, e1]; simpa only [Sx.Rep, Sx.Reps, Sx.Rep_cmpB] using this⟩
        | false =>
         cases t7 : decide ((80 : Int) = k) with
         | true =>
          exact ⟨_, _, _, ha', rof_r7 k t0 t1 t2 t3 t4 t5 t6 t7, rfl, fun c hc => by have := hc g.nx μ; have e0 : rof_0 k = ((8 : Int)) := (Sx.cf t0).trans ((Sx.cf t1).trans ((Sx.cf t2).trans ((Sx.cf t3).trans ((Sx.cf t4).trans ((Sx.cf t5).trans ((Sx.cf t6).trans ((Sx.ct t7).trans (rfl)))))))); have e1 : rof_1 k = (true) := (Sx.cf t0).trans ((Sx.cf t1).trans ((Sx.cf t2).trans ((Sx.cf t3).trans ((Sx.cf t4).trans ((Sx.cf t5).trans ((Sx.cf t6).trans ((Sx.ct t7).trans (rfl)))))))); rw [e0, e1]; simpa only [Sx.Rep, Sx.Reps, Sx.Rep_cmpB] using this⟩
         | false =>
          exact ⟨_, _, _, ha', rof_r8 k t0 t1 t2 t3 t4 t5 t6 t7, rfl, fun c hc => by have := hc g.nx μ; have e0 : rof_0 k = ((0 : Int)) := (Sx.cf t0).trans ((Sx.cf t1).trans ((Sx.cf t2).trans ((Sx.cf t3).trans ((Sx.cf t4).trans ((Sx.cf t5).trans ((Sx.cf t6).trans ((Sx.cf t7).trans (rfl)))))))); have e1 : rof_1 k = (false) := (Sx.cf t0).trans ((Sx.cf t1).trans ((Sx.cf t2).trans ((Sx.cf t3).trans ((Sx.cf t4).trans ((Sx.cf t5).trans ((Sx.cf t6).trans ((Sx.cf t7).trans (rfl)))))))); rw [e0, e1]; simpa only [Sx.Rep, Sx.Reps, Sx.Rep_cmpB] using this⟩
 ·exact call1_ok _ _ _ _ _ h
theorem rofS_tch : ∀ args, Sx.Tch (rofS args) := by
 intro args
 unfold rofS
 split
 ·exact Sx.Tch.ret _
 ·exact call1_tch _ _
noncomputable def gam2 : Sx.Known := fun f => bif Nat.beq f 8 then some Sx.ofBits else (bif Nat.beq f 14 then some Sx.toBits else (bif Nat.beq f 50 then some smallS else (bif Nat.beq f 62 then some bytesS else (bif Nat.beq f 42 then some kindS else (bif Nat.beq f 59 then some rkindS else (bif Nat.beq f 39 then some rowOfS else (bif Nat.beq f 56 then some rrowS else (bif Nat.beq f 51 then some ofS else (bif Nat.beq f 63 then some rofS else (none))))))))))
theorem gam2_ok : Sx.KnownOk Try.prog gam2 := by
 intro f s h
 unfold gam2 at h
 cases h1 : Nat.beq f 8 with
 | true =>
  rw [h1] at h
  cases h
  cases Nat.eq_of_beq_eq_true h1
  exact (Sx.ofBits_is Try.prog).callIs Try.func8 (by kernel_rfl) (by kernel_rfl) (by kernel_rfl) (by kernel_rfl)
 | false =>
  rw [h1, cond_false] at h
  clear h1
  cases h1 : Nat.beq f 14 with
  | true =>
   rw [h1] at h
   cases h
   cases Nat.eq_of_beq_eq_true h1
   exact (Sx.toBits_is Try.prog).callIs Try.func14 (by kernel_rfl) (by kernel_rfl) (by kernel_rfl) (by kernel_rfl)
  | false =>
   rw [h1, cond_false] at h
   clear h1
   cases h1 : Nat.beq f 50 with
   | true =>
    rw [h1] at h
    cases h
    cases Nat.eq_of_beq_eq_true h1
    exact smallS_ok
   | false =>
    rw [h1, cond_false] at h
    clear h1
    cases h1 : Nat.beq f 62 with
    | true =>
     rw [h1] at h
     cases h
     cases Nat.eq_of_beq_eq_true h1
     exact bytesS_ok
    | false =>
     rw [h1, cond_false] at h
     clear h1
     cases h1 : Nat.beq f 42 with
     | true =>
      rw [h1] at h
      cases h
      cases Nat.eq_of_beq_eq_true h1
      exact kindS_ok
     | false =>
      rw [h1, cond_false] at h
      clear h1
      cases h1 : Nat.beq f 59 with
      | true =>
       rw [h1] at h
       cases h
       cases Nat.eq_of_beq_eq_true h1
       exact rkindS_ok
      | false =>
       rw [h1, cond_false] at h
       clear h1
       cases h1 : Nat.beq f 39 with
       | true =>
        rw [h1] at h
        cases h
        cases Nat.eq_of_beq_eq_true h1
        exact rowOfS_ok
       | false =>
        rw [h1, cond_false] at h
        clear h1
        cases h1 : Nat.beq f 56 with
        | true =>
         rw [h1] at h
         cases h
         cases Nat.eq_of_beq_eq_true h1
         exact rrowS_ok
        | false =>
         rw [h1, cond_false] at h
         clear h1
         cases h1 : Nat.beq f 51 with
         | true =>
          rw [h1] at h
          cases h
          cases Nat.eq_of_beq_eq_true h1
          exact ofS_ok
         | false =>
          rw [h1, cond_false] at h
          clear h1
          cases h1 : Nat.beq f 63 with
          | true =>
           rw [h1] at h
           cases h
           cases Nat.eq_of_beq_eq_true h1
           exact rofS_ok
          | false =>
           rw [h1, cond_false] at h
           clear h1
           cases h
theorem gam2_tch : Sx.KnownT gam2 := by
 intro f s h
 unfold gam2 at h
 cases h1 : Nat.beq f 8 with
 | true => rw [h1] at h; cases h; exact Sx.Tch.ofBits
 | false =>
  rw [h1, cond_false] at h
  clear h1
  cases h1 : Nat.beq f 14 with
  | true => rw [h1] at h; cases h; exact Sx.Tch.toBits
  | false =>
   rw [h1, cond_false] at h
   clear h1
   cases h1 : Nat.beq f 50 with
   | true => rw [h1] at h; cases h; exact smallS_tch
   | false =>
    rw [h1, cond_false] at h
    clear h1
    cases h1 : Nat.beq f 62 with
    | true => rw [h1] at h; cases h; exact bytesS_tch
    | false =>
     rw [h1, cond_false] at h
     clear h1
     cases h1 : Nat.beq f 42 with
     | true => rw [h1] at h; cases h; exact kindS_tch
     | false =>
      rw [h1, cond_false] at h
      clear h1
      cases h1 : Nat.beq f 59 with
      | true => rw [h1] at h; cases h; exact rkindS_tch
      | false =>
       rw [h1, cond_false] at h
       clear h1
       cases h1 : Nat.beq f 39 with
       | true => rw [h1] at h; cases h; exact rowOfS_tch
       | false =>
        rw [h1, cond_false] at h
        clear h1
        cases h1 : Nat.beq f 56 with
        | true => rw [h1] at h; cases h; exact rrowS_tch
        | false =>
         rw [h1, cond_false] at h
         clear h1
         cases h1 : Nat.beq f 51 with
         | true => rw [h1] at h; cases h; exact ofS_tch
         | false =>
          rw [h1, cond_false] at h
          clear h1
          cases h1 : Nat.beq f 63 with
          | true => rw [h1] at h; cases h; exact rofS_tch
          | false =>
           rw [h1, cond_false] at h
           clear h1
           cases h
noncomputable def call2 : Sx.Calls' := Sx.runN Try.prog gam2 (Sx.regionC Try.prog) 1000 50
theorem call2_ok : Sx.CallOk Try.prog call2 := Sx.engineC gam2_ok gam2_tch (by kernel_rfl) (by kernel_rfl) 1000 50
theorem call2_tch : Sx.CallT call2 := Sx.runA_tch gam2_tch (fun _ _ _ h => by cases h) (fun call hc n l fr => Sx.regionC_tch hc n l fr) 50
theorem call2_reg (n : Nat) : Sx.RegionOk Try.prog (Sx.regionC Try.prog call2 n) n := Sx.runN_regionC gam2_ok gam2_tch (by kernel_rfl) (by kernel_rfl) 1000 50 n
theorem name_r0 (l : List UInt8) (c0 : decide ((↑(List.length l) : Int) < (2 : Int)) = true) : Sx.PureP (Sx.AV.tup [Sx.AV.int false IntKind.u8 (0 : Int), Sx.AV.bool false]) (call2 40 [.str true l] (Sx.G.on [true])) := by
 have e : Sx.pureP (Sx.AV.tup [Sx.AV.int false IntKind.u8 (0 : Int), Sx.AV.bool false]) (call2 40 [.str true l] (Sx.G.on [true])) = ((Sx.AV.tup [Sx.AV.int false IntKind.u8 (0 : Int), Sx.AV.bool false]) = (Sx.AV.tup [Sx.AV.int false IntKind.u8 (0 : Int), Sx.AV.bool false]) ∧ (True ∧ (decide ((↑(List.length l) : Int) < (2 : Int)) = true))) := by kernel_rfl
 exact ⟨by rw [e]; exact ⟨rfl, ⟨trivial, c0⟩⟩⟩
end Go.Proofs.Ytmlcakchmkdggaa
