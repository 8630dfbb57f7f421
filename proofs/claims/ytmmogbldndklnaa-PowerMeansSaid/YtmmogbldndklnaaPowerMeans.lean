/- PowerMeans: returns true for every input; no conditions. By the engine's runs, checked by the kernel. -/
import Derived.Test.YtmmogbldndklnaaRows
import Derived.ProofKit
import Derived.OpenShut
import Derived.KernelRfl
import Derived.SizedLaws
import Derived.Carry
import Derived.ChangeMaps5
import Derived.Test.YtmmogbldndklnaaPowerMeansPC
namespace Go.Proofs.Ytmmogbldndklnaa
open Go.ChangeShapes Go.WideShapes Go.ChangeAt Go.RowKit Go.Sx
set_option linter.unusedVariables false
set_option linter.unusedSimpArgs false
set_option maxRecDepth 100000

theorem own : ownKnob Try.prog.godebug = none := by kernel_rfl
theorem laidOut : laidOutB Try.prog = true := by kernel_rfl
theorem ca_round (om nv na n q r : Nat) (E : Nat → El) (f h : Nat → Nat × Nat) (hn : n ≤ 256) (hq : q = (ND E n).length) (hr : r = (BR E n).length) (hg : ∀ j, j < n → badE chkE E j = 0) (hv : nv = q) (ha : na = r) (i : Nat) (hi : i < n) (hx : thE (ND E n) (BR E n) f h om (E i) = 0) :
  GoesB Try.prog (.block 1 (nav [1,1,1,0,1,0,0,1,1,0,0] (bodyOf Try.f47))) Try.f47.ntmps 11 14 14 (frL (caF n i)) (hpL (caH om nv na n q r E f h i)) (Nm [(0, .ptr ⟨false, 2, 0, 0⟩), (3, .ptr ⟨false, 11, 0, 0⟩), (7, .slc true true ⟨false, 12, 0, 0⟩ (i + 1)), (19, .slc true true ⟨false, 13, 0, 0⟩ n), (20, .int true .i64 (n : Nat)), (21, .int true .i64 (i : Nat))] (caH om nv na n q r E f h (i + 1))) := by
 have e0 : 0 + i = i := Nat.zero_add i
 have hG := (rcY (B := 11) (caG_r0 om nv na n q r i E (zipF 0 (NM E n)) (zipF 0 (ND E n)) (zipF 0 (BR E n)) (lget (ND E n)) (lget (BR E n)) f h (fun j => thV (ND E n) (BR E n) f h om (E j)) [] (by omega) (by omega) (by omega) (by omega) (nqI hn hq hr) (sqI hg) hv ha (by rw [e0]; exact fun k => BR_in hi (by unfold isBr; rcases k with k | k <;> rw [decide_eq_true k] <;> simp)) (by rw [e0]; show (!decide (thE (ND E n) (BR E n) f h om (E i) = 0)) = false; rw [hx]; rfl) (by omega) (by omega) (by omega)) (by omega))
 rw [e0] at hG
 refine GoesB.blockN (GoesB.renG hG fun e fr' H' h => ?_)
 obtain ⟨rfl, rfl, rfl⟩ := h
 refine ⟨sg 12 16, [(0, .ptr ⟨false, 2, 0, 0⟩), (3, .ptr ⟨false, 11, 0, 0⟩), (7, .slc true true ⟨false, 12, 0, 0⟩ (i + 1)), (19, .slc true true ⟨false, 13, 0, 0⟩ n), (20, .int true .i64 (n : Nat)), (21, .int true .i64 (i : Nat))], (caH om nv na n q r E f h (i + 1)), sg_low (by omega), ⟨⟨_, rfl, AV.ge.refl _, rfl⟩, ⟨_, rfl, AV.ge.refl _, rfl⟩, ⟨_, rfl, AV.ge.refl _, rfl⟩, ⟨_, rfl, AV.ge.refl _, rfl⟩, ⟨_, rfl, AV.ge.refl _, rfl⟩, ⟨_, rfl, AV.ge.refl _, rfl⟩, trivial⟩, ⟨rgB rfl rfl rfl (by omega), rgM rfl rfl (by omega), rgM rfl rfl (by omega), rgM rfl rfl (by omega), rgR rfl rfl (fun j _ => rfl) (fun j _ => rfl) (by omega), rgR rfl rfl (fun j _ => rfl) (fun j _ => rfl) (by omega), rgR rfl rfl (fun j _ => rfl) (fun j _ => rfl) (by omega), rgR rfl rfl (fun j _ => rfl) (fun j _ => rfl) (by omega), rgR rfl rfl (fun j _ => rfl) (fun j _ => rfl) (by omega), rgB rfl rfl rfl (by omega), rgR rfl rfl (fun j hj => ?_) (fun j _ => rfl) (by omega), rgR rfl rfl (fun j _ => rfl) (fun j _ => rfl) (by omega), trivial⟩, sg_inj (by omega), rfl, rfl, rfl⟩
 show (bif decide (j < i) then cxR (fun j => thV (ND E n) (BR E n) f h om (E j)) j else [AV.cpx true (thV (ND E n) (BR E n) f h om (E i)).1 (thV (ND E n) (BR E n) f h om (E i)).2]) = cxR (fun j => thV (ND E n) (BR E n) f h om (E j)) j
 by_cases c : j < i
 ·rw [decide_eq_true c]; rfl
 ·obtain rfl : j = i := by omega
  rw [decide_eq_false c]; rfl
theorem ca_stop (om nv na n q r : Nat) (E : Nat → El) (f h : Nat → Nat × Nat) (hn : n ≤ 256) (hq : q = (ND E n).length) (hr : r = (BR E n).length) (hg : ∀ j, j < n → badE chkE E j = 0) (hv : nv = q) (ha : na = r) (i : Nat) (hi : i < n) (hx : thE (ND E n) (BR E n) f h om (E i) ≠ 0) :
  GoesB Try.prog (.block 1 (nav [1,1,1,0,1,0,0,1,1,0,0] (bodyOf Try.f47))) Try.f47.ntmps 11 14 14 (frL (caF n i)) (hpL (caH om nv na n q r E f h i)) (fun e fr H => e = .ret ∧ fr = frL [(4, .nils), (5, .int true .i64 (thE (ND E n) (BR E n) f h om (E i)))] ∧ H = hpL (mps n E)) := by
 have e0 : 0 + i = i := Nat.zero_add i
 have hG := (rcY (B := 11) (caG_r1 om nv na n q r i E (zipF 0 (NM E n)) (zipF 0 (ND E n)) (zipF 0 (BR E n)) (lget (ND E n)) (lget (BR E n)) f h (fun j => thV (ND E n) (BR E n) f h om (E j)) [] (by omega) (by omega) (by omega) (by omega) (nqI hn hq hr) (sqI hg) hv ha (by rw [e0]; exact fun k => BR_in hi (by unfold isBr; rcases k with k | k <;> rw [decide_eq_true k] <;> simp)) (by rw [e0]; show (!decide (thE (ND E n) (BR E n) f h om (E i) = 0)) = true; rw [decide_eq_false hx]; rfl)) (by omega))
 rw [e0] at hG
 refine GoesB.block (GoesB.renG hG fun e fr' H' h => ?_)
 obtain ⟨rfl, rfl, rfl⟩ := h
 exact ⟨id, [(4, .nils), (5, .int true .i64 (thE (ND E n) (BR E n) f h om (E i)))], mps n E, fun g hg => rfl, ⟨⟨_, rfl, AV.ge.refl _, rfl⟩, ⟨_, rfl, AV.ge.refl _, rfl⟩, trivial⟩, ⟨rgM rfl rfl (by omega), rgM rfl rfl (by omega), rgM rfl rfl (by omega), trivial⟩, fun i j _ _ h => h, rfl, rfl, rfl⟩
theorem ca_goes (om nv na n q r : Nat) (E : Nat → El) (f h : Nat → Nat × Nat) (hn : n ≤ 256) (hq : q = (ND E n).length) (hr : r = (BR E n).length) (hg : ∀ j, j < n → badE chkE E j = 0) :
  GoesB Try.prog (bodyOf Try.f47) Try.f47.ntmps 11 11 14 (frameOf [.ptr ⟨false, 2, 0, 0⟩, solV om nv na] 0 .e) (hpL (nbl n q r E ++ solB nv na f h)) (fun e fr H => e = .ret ∧ ((caE nv na n E f h om = 0 ∧ fr = frL [(4, .slc true true ⟨false, 12, 0, 0⟩ n), (5, .int false .i64 0)] ∧ H = hpL (mps n E ++ ([(12, .cells true 1 (n) (.fn (cxR (fun j => thV (ND E n) (BR E n) f h om (E j)))))] : List (Nat × ABk)))) ∨ (caE nv na n E f h om ≠ 0 ∧ fr = frL [(4, .nils), (5, .int true .i64 (caE nv na n E f h om))] ∧ H = hpL (mps n E)))) := by
 rw [show (bodyOf Try.f47) = .seq (nav [0] (bodyOf Try.f47)) (.seq (nav [1,0] (bodyOf Try.f47)) (.seq (nav [1,1,0] (bodyOf Try.f47)) (.seq (.seq (nav [1,1,1,0,0] (bodyOf Try.f47)) (.block 0 (.loop (nav [1,1,1,0,1,0,0] (bodyOf Try.f47))))) (nav [1,1,1,1] (bodyOf Try.f47))))) by kernel_rfl]
 refine GoesB.seqN (K1 := 12) (F1 := [(0, .ptr ⟨false, 2, 0, 0⟩), (3, .ptr ⟨false, 11, 0, 0⟩)]) (H1 := (nvs n q r nv na E (zipF 0 (NM E n)) (zipF 0 (ND E n)) (zipF 0 (BR E n)) (lget (ND E n)) (lget (BR E n)) f h) ++ ([(11, .cells true 3 1 (.fn fun _ => [.raw true om, .slc true true ⟨false, 9, 0, 0⟩ nv, .slc true true ⟨false, 10, 0, 0⟩ na]))] : List (Nat × ABk))) (GoesB.toN (rcY (B := 11) (caA_r0 om nv na n q r E (zipF 0 (NM E n)) (zipF 0 (ND E n)) (zipF 0 (BR E n)) (lget (ND E n)) (lget (BR E n)) f h) (by omega)) ⟨re rfl, re rfl, trivial⟩ ⟨hs rfl, hs rfl, hs rfl, hs rfl, hs rfl, hs rfl, hs rfl, hs rfl, hs rfl, hbl1 rfl, trivial⟩) (by omega) ?_
 by_cases z : (ckE nv na (ND E n).length (BR E n).length f h) = 0
 case neg =>
  have e : caE nv na n E f h om = (ckE nv na (ND E n).length (BR E n).length f h) := by unfold caE; rw [decide_eq_false z]; rfl
  rw [e]
  refine GoesB.seq (K1 := 12) (by omega) (GoesB.renG (rcY (B := 11) (caB_r1 om nv na n q r E (zipF 0 (NM E n)) (zipF 0 (ND E n)) (zipF 0 (BR E n)) (lget (ND E n)) (lget (BR E n)) f h [] (nqI hn hq hr) (sqI hg) (by rw [decide_eq_false z]; rfl)) (by omega)) fun e fr' H' h => ?_)
  obtain ⟨rfl, rfl, rfl⟩ := h
  exact ⟨id, [(4, .nils), (5, .int true .i64 (ckE nv na (ND E n).length (BR E n).length f h))], mps n E, fun g hg => rfl, ⟨⟨_, rfl, AV.ge.refl _, rfl⟩, ⟨_, rfl, AV.ge.refl _, rfl⟩, trivial⟩, ⟨rgM rfl rfl (by omega), rgM rfl rfl (by omega), rgM rfl rfl (by omega), trivial⟩, fun i j _ _ h => h, rfl, .inr ⟨z, rfl, rfl⟩⟩
 obtain ⟨hv, ha⟩ := ckE_zero z
 have hv : nv = q := by omega
 have ha : na = r := by omega
 refine GoesB.seqN (K1 := 12) (F1 := [(0, .ptr ⟨false, 2, 0, 0⟩), (3, .ptr ⟨false, 11, 0, 0⟩)]) (H1 := (nvs n q r nv na E (zipF 0 (NM E n)) (zipF 0 (ND E n)) (zipF 0 (BR E n)) (lget (ND E n)) (lget (BR E n)) f h) ++ ([(11, .cells true 3 1 (.fn fun _ => [.raw true om, .slc true true ⟨false, 9, 0, 0⟩ nv, .slc true true ⟨false, 10, 0, 0⟩ na]))] : List (Nat × ABk))) (GoesB.toN (rcY (B := 11) (caB_r0 om nv na n q r E (zipF 0 (NM E n)) (zipF 0 (ND E n)) (zipF 0 (BR E n)) (lget (ND E n)) (lget (BR E n)) f h [] (nqI hn hq hr) (sqI hg) (by rw [decide_eq_true z]; rfl)) (by omega)) ⟨re rfl, re rfl, trivial⟩ ⟨hs rfl, hs rfl, hs rfl, hs rfl, hs rfl, hs rfl, hs rfl, hs rfl, hs rfl, hs rfl, trivial⟩) (by omega) ?_
 have lowB : LowL 12 ((nvs n q r nv na E (zipF 0 (NM E n)) (zipF 0 (ND E n)) (zipF 0 (BR E n)) (lget (ND E n)) (lget (BR E n)) f h) ++ ([(11, .cells true 3 1 (.fn fun _ => [.raw true om, .slc true true ⟨false, 9, 0, 0⟩ nv, .slc true true ⟨false, 10, 0, 0⟩ na]))] : List (Nat × ABk))) := ⟨⟨by omega, fun j hj v hv => List.all_eq_true.1 (show (netR 6 7 8 n q r).all (fun v => v.low 12) = true from rfl) v hv⟩, ⟨by omega, trivial⟩, ⟨by omega, trivial⟩, ⟨by omega, trivial⟩, ⟨by omega, fun j hj v hv => List.all_eq_true.1 (elR_low 12 _) v hv⟩, ⟨by omega, fun j hj v hv => by rw [List.mem_singleton.1 hv]; rfl⟩, ⟨by omega, fun j hj v hv => by rw [List.mem_singleton.1 hv]; rfl⟩, ⟨by omega, fun j hj v hv => by rw [List.mem_singleton.1 hv]; rfl⟩, ⟨by omega, fun j hj v hv => by rw [List.mem_singleton.1 hv]; rfl⟩, ⟨by omega, fun j hj v hv => List.all_eq_true.1 (show [AV.raw true om, .slc true true ⟨false, 9, 0, 0⟩ nv, .slc true true ⟨false, 10, 0, 0⟩ na].all (fun v => v.low 12) = true from rfl) v hv⟩, trivial⟩
 refine GoesB.seqN (K1 := 12) (F1 := [(0, .ptr ⟨false, 2, 0, 0⟩), (3, .ptr ⟨false, 11, 0, 0⟩), (7, .nils)]) (H1 := (nvs n q r nv na E (zipF 0 (NM E n)) (zipF 0 (ND E n)) (zipF 0 (BR E n)) (lget (ND E n)) (lget (BR E n)) f h) ++ ([(11, .cells true 3 1 (.fn fun _ => [.raw true om, .slc true true ⟨false, 9, 0, 0⟩ nv, .slc true true ⟨false, 10, 0, 0⟩ na]))] : List (Nat × ABk))) (GoesB.lower (B' := 12) (GoesB.idleN (rcY (B := 12) (caC_r0) (by omega)) (by omega) lowB) (by omega)) (by omega) ?_
 refine GoesB.phantom 7 1 (cxR (fun j => thV (ND E n) (BR E n) f h om (E j))) rfl (by omega) (by omega) ?_
 refine GoesB.weakL (fl := [(0, .ptr ⟨false, 2, 0, 0⟩), (3, .ptr ⟨false, 11, 0, 0⟩), (7, .slc true true ⟨false, 12, 0, 0⟩ 0)]) (bl := (nvs n q r nv na E (zipF 0 (NM E n)) (zipF 0 (ND E n)) (zipF 0 (BR E n)) (lget (ND E n)) (lget (BR E n)) f h) ++ ([(11, .cells true 3 1 (.fn fun _ => [.raw true om, .slc true true ⟨false, 9, 0, 0⟩ nv, .slc true true ⟨false, 10, 0, 0⟩ na])), (12, .cells true 1 (0) (.fn (cxR (fun j => thV (ND E n) (BR E n) f h om (E j)))))] : List (Nat × ABk))) ⟨re rfl, re rfl, re rfl, trivial⟩ ⟨hs rfl, hs rfl, hs rfl, hs rfl, hs rfl, hs rfl, hs rfl, hs rfl, hs rfl, hs rfl, hs rfl, trivial⟩ ?_
 refine GoesB.seq (K1 := 14) (by omega) ?_
 ·have low := fun i => ca_low om nv na n q r i E f h
  refine GoesB.seqN (K1 := 14) (F1 := (caF n 0)) (H1 := (caH om nv na n q r E f h 0)) (GoesB.toN (rcY (B := 11) (caD_r0 om nv na n q r E (zipF 0 (NM E n)) (zipF 0 (ND E n)) (zipF 0 (BR E n)) (lget (ND E n)) (lget (BR E n)) f h (fun j => thV (ND E n) (BR E n) f h om (E j)) [] (by omega) (by omega) (by omega)) (by omega)) ⟨re rfl, re rfl, re rfl, re rfl, re rfl, ri rfl, trivial⟩ ⟨hs rfl, hs rfl, hs rfl, hs rfl, hs rfl, hs rfl, hs rfl, hs rfl, hs rfl, hs rfl, hs rfl, gR rfl rfl (fun j _ => by rw [Nat.zero_add]), trivial⟩) (by omega) ?_
  refine (GoesB.count n (fun i => (caF n i)) (fun i => (caH om nv na n q r E f h i)) [(7, .slc true true ⟨false, 12, 0, 0⟩ n)] (mps n E ++ ([(12, .cells true 1 (n) (.fn (cxR (fun j => thV (ND E n) (BR E n) f h om (E j)))))] : List (Nat × ABk))) (fun i => ∀ k, k < i → thE (ND E n) (BR E n) f h om (E k) = 0) (fun fr H => caE nv na n E f h om ≠ 0 ∧ fr = frL [(4, .nils), (5, .int true .i64 (caE nv na n E f h om))] ∧ H = hpL (mps n E)) (fun k hk => absurd hk (by omega)) fun i hi hgi => ?_).mono fun e fr H hh => ?_
  ·rw [show (nav [1,1,1,0,1,0,0] (bodyOf Try.f47)) = .seq (nav [1,1,1,0,1,0,0,0] (bodyOf Try.f47)) (.seq (nav [1,1,1,0,1,0,0,1,0] (bodyOf Try.f47)) (.seq (.block 1 (nav [1,1,1,0,1,0,0,1,1,0,0] (bodyOf Try.f47))) (nav [1,1,1,0,1,0,0,1,1,1] (bodyOf Try.f47)))) by kernel_rfl]
   refine GoesB.seqN (K1 := 14) (F1 := [(0, .ptr ⟨false, 2, 0, 0⟩), (3, .ptr ⟨false, 11, 0, 0⟩), (7, .slc true true ⟨false, 12, 0, 0⟩ i), (19, .slc true true ⟨false, 13, 0, 0⟩ n), (20, .int true .i64 (n : Nat)), (21, .int true .i64 (i : Nat)), (22, .sbool (decide ((i : Int) < (n : Int))))]) (H1 := (caH om nv na n q r E f h i)) (GoesB.lower (B' := 14) (GoesB.idleN (rcY (B := 14) (caE_r0 n i) (by omega)) (by omega) (low i)) (by omega)) (by omega) ?_
   by_cases c : i < n
   ·refine GoesB.seqN (K1 := 14) (F1 := (caF n i)) (H1 := (caH om nv na n q r E f h i)) (GoesB.lower (B' := 14) (GoesB.idleN (rcY (B := 14) (caF_r0 n i (decide ((i : Int) < (n : Int))) (decide_eq_true (by omega))) (by omega)) (by omega) (low i)) (by omega)) (by omega) ?_
    by_cases hx : thE (ND E n) (BR E n) f h om (E i) = 0
    ·refine GoesB.seqN (K1 := 14) (ca_round om nv na n q r E f h hn hq hr hg hv ha i c hx) (by omega) ?_
     refine (GoesB.lower (B' := 14) (GoesB.idleN (rcY (B := 14) (caH_r0 n i (by omega) (by omega)) (by omega)) (by omega) (low (i + 1))) (by omega)).post fun e fr H hh => ?_
     obtain ⟨rfl, rfl, rfl⟩ := hh
     refine ⟨(caF n (i + 1 : Nat)), (caH om nv na n q r E f h (i + 1)), ⟨re rfl, re rfl, re rfl, re rfl, re rfl, ri rfl, trivial⟩, ⟨hs rfl, hs rfl, hs rfl, hs rfl, hs rfl, hs rfl, hs rfl, hs rfl, hs rfl, hs rfl, hs rfl, hs rfl, trivial⟩, .inl ⟨rfl, c, fun k hk => ?_, rfl, rfl⟩⟩
     by_cases d : k < i
     ·exact hgi k d
     ·obtain rfl : k = i := by omega
      exact hx
    ·refine GoesB.seq (K1 := 14) (by omega) ((ca_stop om nv na n q r E f h hn hq hr hg hv ha i c hx).mono fun e fr H hh => ?_)
     obtain ⟨rfl, rfl, rfl⟩ := hh
     have e := caE_bad z c hgi hx
     exact .inr (.inr ⟨rfl, by rw [e]; exact hx, by rw [e], rfl⟩)
   ·obtain rfl : n = i := by omega
    refine GoesB.seq (K1 := 14) (by omega) ((GoesB.lower (B' := 14) (GoesB.idleX (rcY (B := 14) (caF_r1 n n (decide ((n : Int) < (n : Int))) (decide_eq_false (by omega))) (by omega)) (by omega) (low n)) (by omega)).post fun e fr H hh => ?_)
    obtain ⟨rfl, rfl, rfl⟩ := hh
    exact ⟨[(7, .slc true true ⟨false, 12, 0, 0⟩ n)], mps n E ++ ([(12, .cells true 1 (n) (.fn (cxR (fun j => thV (ND E n) (BR E n) f h om (E j)))))] : List (Nat × ABk)), ⟨re rfl, trivial⟩, ⟨hs rfl, hs rfl, hs rfl, hs rfl, trivial⟩, .inr (.inl ⟨rfl, hgi, rfl, rfl⟩)⟩
  ·rcases hh with ⟨rfl, h1, rfl, rfl⟩ | ⟨rfl, h1, h2, h3⟩
   ·refine (GoesB.lower (B' := 14) (GoesB.frameL (bl := []) (xl := mps n E ++ ([(12, .cells true 1 (n) (.fn (cxR (fun j => thV (ND E n) (BR E n) f h om (E j)))))] : List (Nat × ABk))) (rcY (B := 14) (caI_r0 n) (by omega)) (by omega) ⟨⟨by omega, trivial⟩, ⟨by omega, trivial⟩, ⟨by omega, trivial⟩, ⟨by omega, fun j hj v hv => by rw [List.mem_singleton.1 hv]; rfl⟩, trivial⟩ rfl (Post' := fun e fr H => e = .ret ∧ fr = frL [(4, .slc true true ⟨false, 12, 0, 0⟩ n), (5, .int false .i64 0)] ∧ H = hpL (mps n E ++ ([(12, .cells true 1 (n) (.fn (cxR (fun j => thV (ND E n) (BR E n) f h om (E j)))))] : List (Nat × ABk)))) fun e' fr' H' hh => ⟨[], hh.2.2, rfl, trivial, hh.1, hh.2.1, rfl⟩) (by omega)).mono fun e fr H hh => ?_
    exact ⟨hh.1, .inl ⟨caE_good z h1, hh.2.1, hh.2.2⟩⟩
   ·exact ⟨rfl, .inr ⟨h1, h2, h3⟩⟩


noncomputable def caS : List AV → M AV
 | [.ptr aN, .agg [.raw _ om, .slc _ true aV nv, .slc _ true aA na]] => (M.okIf (flat0 aN)).andThen fun _ => (netRd aN.g).andThen fun y => (solRd aN.g y.1 y.2 ⟨nv, na, aV, aA⟩).andThen fun z => (M.dec (decide (caE nv na y.1.n y.2 z.1 z.2 om = 0))).andThen fun d => (M.setB y.1.m1 (.mSI true (zipF 0 (NM y.2 y.1.n)))).andThen fun _ => (M.setB y.1.m2 (.mSI true (zipF 0 (ND y.2 y.1.n)))).andThen fun _ => (M.setB y.1.m3 (.mSI true (zipF 0 (BR y.2 y.1.n)))).andThen fun _ => bif d then (M.newB (.cells true 1 y.1.n (.fn (cxR (fun j => thV (ND y.2 y.1.n) (BR y.2 y.1.n) z.1 z.2 om (y.2 j)))))).andThen fun k => M.ret (.tup [.slc true true ⟨false, k, 0, 0⟩ y.1.n, .int false .i64 0]) else M.ret (.tup [.nils, .int true .i64 (caE nv na y.1.n y.2 z.1 z.2 om)])
 | _ => M.no
theorem caS_tch : ∀ args, Tch (caS args) := by
 intro args
 unfold caS
 split
 ·exact (Tch.okIf _).andThen fun _ => (Tch_netRd _).andThen fun _ => (Tch_solRd _ _ _ _).andThen fun _ => (Tch.dec _).andThen fun _ => (Tch.setB _ _).andThen fun _ => (Tch.setB _ _).andThen fun _ => (Tch.setB _ _).andThen fun _ => Tch.cond ((Tch.newB _).andThen fun _ => Tch.ret _) (Tch.ret _)
 ·exact Tch.no
theorem caS_ok : ∀ args v g g', caS args g = .done v g' → CallIs Try.prog 47 args v g g' := by
 intro args v g g' h
 unfold caS at h
 split at h
 case h_2 => exact (no_done h).elim
 rename_i aN s0 om s1 aV nv s2 aA na
 obtain ⟨_, g1, a1, h⟩ := done_of h
 obtain ⟨q0, rfl⟩ := okIf_done a1
 have q0 := flat0_is q0
 obtain ⟨⟨w, E⟩, g3, a3, h⟩ := done_of h
 obtain ⟨qf, kk0, f0⟩ := netRd_done a3
 obtain ⟨⟨fv, fa⟩, g4, a4, h⟩ := done_of h
 obtain ⟨qs, kk1, f1⟩ := solRd_done a4
 obtain ⟨d, g5, a5, h⟩ := done_of h
 have kk2 := (kk0.trans kk1).trans (dec_done a5)
 dsimp only at h f0 f1
 obtain ⟨_, g6, a6, h⟩ := done_of h
 obtain ⟨_, g7, a7, h⟩ := done_of h
 obtain ⟨_, g8, a8, h⟩ := done_of h
 obtain ⟨b1, b2, b3⟩ := setB_done a6
 obtain ⟨b4, b5, b6⟩ := setB_done a7
 obtain ⟨b7, b8, b9⟩ := setB_done a8
 have ff := f0
 have fs : qs → SolF g aN.g w E ⟨nv, na, aV, aA⟩ fv fa := fun h => (f1 h).at kk0.1
 cases d with
 | true =>
  rw [cond_true] at h
  obtain ⟨k, g9, a9, h⟩ := done_of h
  obtain ⟨rfl, c1, c2, c3⟩ := newB_done a9
  obtain ⟨rfl, rfl⟩ := ret_done h
  have hnx : g8.nx = g.nx := by rw [b8, b5, b2, kk2.2.1]
  rw [hnx] at c1 c2 ⊢
  refine solCall (K' := 14) (c := (bodyOf Try.f47)) Try.func47 (by kernel_rfl) (by kernel_rfl) (s := ⟨nv, na, aV, aA⟩) (rest := []) (restC := []) (p := (qf ∧ qs) ∧ _) (fun hc => by rw [c3, b9, b6, b3] at hc; exact kk2.2.2 hc) q0 (fun hp => ff hp.1.1) (fun hp => fs hp.1.2) (fun M M' μ μ' cs hr => by simpa only [Reps, Rep] using hr) (bs := [.cells true 1 w.n (.fn (cxR (fun j => thV (ND E w.n) (BR E w.n) fv fa om (E j))))]) (nms := [12]) rfl (fun nm h => by rw [List.mem_singleton.1 h]; omega) (by decide) (by rw [c1, b7, b4, b1, kk2.1]; rfl) c2 (fun b hb => by
   rw [List.mem_singleton.1 hb]
   exact ⟨rfl, fun K i hi v hv => by rw [List.mem_singleton.1 hv]; rfl, fun S j hj o v hv => by
    match o, hv with
    | 0, hv => cases hv; trivial⟩) (by simp [AV.low, lows]) (by simp only [AV.inS, insS]; exact ⟨⟨by omega, by show g.nx < g.nx + 1; omega⟩, trivial, trivial⟩) (fun hp hk => ?_)
  obtain ⟨⟨hf, hs⟩, R⟩ := hp
  have F := ff hf
  have S := fs hs
  have hz := of_decide_eq_true R
  have h0 := hk 0 (by decide)
  refine (ca_goes om nv na w.n w.q w.r E fv fa F.n256 F.q_is F.r_is S.good).mono fun e fr' H' h => ?_
  obtain ⟨rfl, ⟨_, rfl, rfl⟩ | ⟨hz', _⟩⟩ := h
  ·refine ⟨.inl rfl, _, _, rfl, trivial, ?_, ⟨rfl, rfl, rfl⟩, fun j b hb => ?_⟩
   ·simp only [AV.ren, rens, AA.ren]
    rw [show kaG w g.nx [12] g.nx = 12 from h0]
    exact AV.ge.refl _
   ·match j, hb with
    | 0, hb => cases hb; exact (Sx.hs rfl)
  ·exact (hz' hz).elim
 | false =>
  rw [cond_false] at h
  obtain ⟨rfl, rfl⟩ := ret_done h
  refine solCall (K' := 14) (c := (bodyOf Try.f47)) Try.func47 (by kernel_rfl) (by kernel_rfl) (s := ⟨nv, na, aV, aA⟩) (rest := []) (restC := []) (p := (qf ∧ qs) ∧ _) (fun hc => by rw [b9, b6, b3] at hc; exact kk2.2.2 hc) q0 (fun hp => ff hp.1.1) (fun hp => fs hp.1.2) (fun M M' μ μ' cs hr => by simpa only [Reps, Rep] using hr) (bs := []) (nms := []) rfl (fun nm h => by cases h) List.nodup_nil (by rw [b7, b4, b1, kk2.1]; rfl) (by rw [b8, b5, b2, kk2.2.1]; rfl) (fun b hb => by cases hb) (by simp [AV.low, lows]) (by simp [AV.inS, insS]) (fun hp _ => ?_)
  obtain ⟨⟨hf, hs⟩, R⟩ := hp
  have F := ff hf
  have S := fs hs
  have hz := of_decide_eq_false R
  refine (ca_goes om nv na w.n w.q w.r E fv fa F.n256 F.q_is F.r_is S.good).mono fun e fr' H' h => ?_
  obtain ⟨rfl, ⟨hz', _⟩ | ⟨_, rfl, rfl⟩⟩ := h
  ·exact (hz hz').elim
  ·exact ⟨.inl rfl, _, _, rfl, trivial, AV.ge.refl _, ⟨rfl, rfl, rfl⟩, fun j b hb => by cases hb⟩
noncomputable def gamZ : Known := kc 37 ofBits (kc 72 toBits (kc 80 smallS (kc 61 kindS (kc 58 rowOfS (kc 81 ofS (kc 59 nameS (kc 60 nodeS (kc 33 chkS (kc 87 constS (kc 86 cosS (kc 84 root2S (kc 66 phS (kc 19 finS (kc 12 pickS (kc 69 aofS (kc 8 netofS (kc 9 elsS (kc 38 numbersS (kc 70 voS (kc 68 vcS (kc 16 vlS (kc 42 thrS (kc 43 pofS (kc 40 ck2S (kc 47 caS (kn))))))))))))))))))))))))))
theorem gamZ_ok : KnownOk Try.prog gamZ := kc_ok ((ofBits_is Try.prog).callIs Try.func37 (by kernel_rfl) (by kernel_rfl) (by kernel_rfl) (by kernel_rfl)) (kc_ok ((toBits_is Try.prog).callIs Try.func72 (by kernel_rfl) (by kernel_rfl) (by kernel_rfl) (by kernel_rfl)) (kc_ok smallS_ok (kc_ok kindS_ok (kc_ok rowOfS_ok (kc_ok ofS_ok (kc_ok nameS_ok (kc_ok nodeS_ok (kc_ok chkS_ok (kc_ok constS_ok (kc_ok cosS_ok (kc_ok root2S_ok (kc_ok phS_ok (kc_ok finS_ok (kc_ok pickS_ok (kc_ok aofS_ok (kc_ok netofS_ok (kc_ok elsS_ok (kc_ok numbersS_ok (kc_ok voS_ok (kc_ok vcS_ok (kc_ok vlS_ok (kc_ok thrS_ok (kc_ok pofS_ok (kc_ok ck2S_ok (kc_ok caS_ok (kn_ok))))))))))))))))))))))))))
theorem gamZ_tch : KnownT gamZ := kc_tch Tch.ofBits (kc_tch Tch.toBits (kc_tch smallS_tch (kc_tch kindS_tch (kc_tch rowOfS_tch (kc_tch ofS_tch (kc_tch nameS_tch (kc_tch nodeS_tch (kc_tch chkS_tch (kc_tch constS_tch (kc_tch cosS_tch (kc_tch root2S_tch (kc_tch phS_tch (kc_tch finS_tch (kc_tch pickS_tch (kc_tch aofS_tch (kc_tch netofS_tch (kc_tch elsS_tch (kc_tch numbersS_tch (kc_tch voS_tch (kc_tch vcS_tch (kc_tch vlS_tch (kc_tch thrS_tch (kc_tch pofS_tch (kc_tch ck2S_tch (kc_tch caS_tch (kn_tch))))))))))))))))))))))))))
noncomputable def callZ : Calls' := Sx.runN Try.prog gamZ (regionC Try.prog) 1000 50
theorem callZ_ok : CallOk Try.prog callZ := engineC gamZ_ok gamZ_tch (by kernel_rfl) (by kernel_rfl) 1000 50
theorem callZ_reg (n : Nat) : RegionOk Try.prog (regionC Try.prog callZ n) n := runN_regionC gamZ_ok gamZ_tch (by kernel_rfl) (by kernel_rfl) 1000 50 n
noncomputable abbrev piececallZ (f : Func) (c : Code) (fr : Fr) (H : T ABk) (K : Nat) (path : List Bool) : Res (Ex × Fr) :=
 codeA Try.prog callZ (regionC Try.prog callZ f.ntmps) noLoops f.ntmps 1000 c fr ⟨H, K, [], path, True⟩


theorem rcZ {fn : Func} {K K' B : Nat} {e : Ex} {F : List (Nat × AV)} {Hl : List (Nat × ABk)} {c : Code} {fr : Fr} {H : T ABk} {path : List Bool} (h : PieceN K' e F Hl (piececallZ fn c fr H K path)) (hB : B ≤ K) : GoesB Try.prog c fn.ntmps B K K' fr H fun e' fr' H' => e' = e ∧ fr' = frL F ∧ H' = hpL Hl := GoesB.runN callZ_ok (callZ_reg _) (LoopsIn.none _ _ _) h hB
theorem paA_r0 (om nv na n q r : Nat) (E : Nat → El) (M1 M2 M3 : List (Tx × Int)) (nd br : Nat → Tx) (f h : Nat → Nat × Nat) : PieceN 12 (Ex.normal) [(0, .ptr ⟨false, 2, 0, 0⟩), (3, .ptr ⟨false, 11, 0, 0⟩)] (nvs n q r nv na E M1 M2 M3 nd br f h ++ [(11, .cells true 3 1 (.lit [] (.n .e (some [.raw true om, .slc true true ⟨false, 9, 0, 0⟩ nv, .slc true true ⟨false, 10, 0, 0⟩ na]) .e)))]) (piececallZ Try.f21 ((nav [0] (bodyOf Try.f21))) (frameOf [.ptr ⟨false, 2, 0, 0⟩, solV om nv na] 0 .e) (hpL (nvs n q r nv na E M1 M2 M3 nd br f h)) 11 []) := eqn (by kernel_rfl) trivial
theorem paB_r0 (om nv na n q r : Nat) (E : Nat → El) (M1 M2 M3 : List (Tx × Int)) (nd br : Nat → Tx) (f h : Nat → Nat × Nat) (x : Tx) (c0 : NetQ n q r n q r M1 M2 M3 (Cont.row (.fn fun j => elR (E j))) (Cont.row (.fn (txR nd))) (Cont.row (.fn (txR br)))) (c1 : SolQ nv na nv na (Cont.row (.fn (cxR f))) (Cont.row (.fn (cxR h))) n E) (c2 : decide (caE nv na n E f h om = (0 : Int)) = true) : PieceN 13 (Ex.normal) [(0, .ptr ⟨false, 2, 0, 0⟩), (3, .ptr ⟨false, 11, 0, 0⟩), (6, .slc true true ⟨false, 12, 0, 0⟩ n), (7, .int false .i64 0)] (nvs n q r nv na E (zipF 0 (NM E n)) (zipF 0 (ND E n)) (zipF 0 (BR E n)) nd br f h ++ [(11, .cells true 3 1 (.fn fun x => [.raw true om, .slc true true ⟨false, 9, 0, 0⟩ nv, .slc true true ⟨false, 10, 0, 0⟩ na])), (12, .cells true 1 n (.fn fun j => [.cpx true (Prod.fst (thV (ND E n) (BR E n) f h om (E j))) (Prod.snd (thV (ND E n) (BR E n) f h om (E j)))]))]) (piececallZ Try.f21 ((nav [1,0] (bodyOf Try.f21))) (frL [(0, .ptr ⟨false, 2, 0, 0⟩), (3, .ptr ⟨false, 11, 0, 0⟩)]) (hpL (nvs n q r nv na E M1 M2 M3 nd br f h ++ [(11, .cells true 3 1 (.fn fun _ => [.raw true om, .slc true true ⟨false, 9, 0, 0⟩ nv, .slc true true ⟨false, 10, 0, 0⟩ na]))])) 12 [true]) := eqn (by kernel_rfl) (ai (ai (ai trivial c0) c1) c2)
theorem paB_r1 (om nv na n q r : Nat) (E : Nat → El) (M1 M2 M3 : List (Tx × Int)) (nd br : Nat → Tx) (f h : Nat → Nat × Nat) (x : Tx) (c0 : NetQ n q r n q r M1 M2 M3 (Cont.row (.fn fun j => elR (E j))) (Cont.row (.fn (txR nd))) (Cont.row (.fn (txR br)))) (c1 : SolQ nv na nv na (Cont.row (.fn (cxR f))) (Cont.row (.fn (cxR h))) n E) (c2 : decide (caE nv na n E f h om = (0 : Int)) = false) : PieceN 13 (Ex.normal) [(0, .ptr ⟨false, 2, 0, 0⟩), (3, .ptr ⟨false, 11, 0, 0⟩), (6, .nils), (7, .int true .i64 (caE nv na n E f h om))] (nvs n q r nv na E (zipF 0 (NM E n)) (zipF 0 (ND E n)) (zipF 0 (BR E n)) nd br f h ++ [(11, .cells true 3 1 (.fn fun x => [.raw true om, .slc true true ⟨false, 9, 0, 0⟩ nv, .slc true true ⟨false, 10, 0, 0⟩ na]))]) (piececallZ Try.f21 ((nav [1,0] (bodyOf Try.f21))) (frL [(0, .ptr ⟨false, 2, 0, 0⟩), (3, .ptr ⟨false, 11, 0, 0⟩)]) (hpL (nvs n q r nv na E M1 M2 M3 nd br f h ++ [(11, .cells true 3 1 (.fn fun _ => [.raw true om, .slc true true ⟨false, 9, 0, 0⟩ nv, .slc true true ⟨false, 10, 0, 0⟩ na]))])) 12 [false]) := eqn (by kernel_rfl) (ai (ai (ai trivial c0) c1) c2)
theorem paC_r0 (n : Nat) (er : Int) (c0 : (!decide (er = (0 : Int))) = false) : PieceN 13 (Ex.normal) [(0, .ptr ⟨false, 2, 0, 0⟩), (3, .ptr ⟨false, 11, 0, 0⟩), (6, .slc true true ⟨false, 12, 0, 0⟩ n)] [] (piececallZ Try.f21 ((nav [1,1,0] (bodyOf Try.f21))) (frL [(0, .ptr ⟨false, 2, 0, 0⟩), (3, .ptr ⟨false, 11, 0, 0⟩), (6, .slc true true ⟨false, 12, 0, 0⟩ n), (7, .int true .i64 er)]) (hpL []) 13 [false]) := eqn (by kernel_rfl) (ai trivial c0)
theorem paX_r1 (er : Int) (c0 : (!decide (er = (0 : Int))) = true) : PieceN 13 (Ex.ret) [(4, .nils), (5, .int true .i64 er)] [] (piececallZ Try.f21 ((nav [1,1,0] (bodyOf Try.f21))) (frL [(7, .int true .i64 er)]) (hpL []) 13 [true]) := eqn (by kernel_rfl) (ai trivial c0)
theorem paD_r0 (n : Nat) : PieceN 13 (Ex.normal) [(0, .ptr ⟨false, 2, 0, 0⟩), (3, .ptr ⟨false, 11, 0, 0⟩), (6, .slc true true ⟨false, 12, 0, 0⟩ n), (8, .nils)] [] (piececallZ Try.f21 ((nav [1,1,1,0] (bodyOf Try.f21))) (frL [(0, .ptr ⟨false, 2, 0, 0⟩), (3, .ptr ⟨false, 11, 0, 0⟩), (6, .slc true true ⟨false, 12, 0, 0⟩ n)]) (hpL []) 13 []) := eqn (by kernel_rfl) trivial
theorem paE_r0 (om nv na n q r : Nat) (E : Nat → El) (M1 M2 M3 : List (Tx × Int)) (nd br : Nat → Tx) (f h o u : Nat → Nat × Nat) (x : Tx) (c0 : (0 : Nat) + n ≤ n) (c1 : n * (104 : Nat) ≤ (140737488355328 : Nat)) (c2 : n ≤ (9223372036854775807 : Nat)) : PieceN 15 (Ex.normal) [(0, .ptr ⟨false, 2, 0, 0⟩), (3, .ptr ⟨false, 11, 0, 0⟩), (6, .slc true true ⟨false, 12, 0, 0⟩ n), (8, .slc true true ⟨false, 13, 0, 0⟩ 0), (23, .slc true true ⟨false, 14, 0, 0⟩ n), (24, .int true .i64 (↑n : Int)), (25, .int false .i64 0)] (nvs n q r nv na E M1 M2 M3 nd br f h ++ [(11, .cells true 3 1 (.fn fun x => [.raw true om, .slc true true ⟨false, 9, 0, 0⟩ nv, .slc true true ⟨false, 10, 0, 0⟩ na])), (12, .cells true 1 n (.fn (cxR u))), (13, .cells true 1 0 (.fn (cxR o))), (14, .cells true 8 n (.fn fun j => (elR (E ((0 : Nat) + j)))))]) (piececallZ Try.f21 ((nav [1,1,1,1,0,0] (bodyOf Try.f21))) (frL [(0, .ptr ⟨false, 2, 0, 0⟩), (3, .ptr ⟨false, 11, 0, 0⟩), (6, .slc true true ⟨false, 12, 0, 0⟩ n), (8, .slc true true ⟨false, 13, 0, 0⟩ 0)]) (hpL (nvs n q r nv na E M1 M2 M3 nd br f h ++ [(11, .cells true 3 1 (.fn fun _ => [.raw true om, .slc true true ⟨false, 9, 0, 0⟩ nv, .slc true true ⟨false, 10, 0, 0⟩ na])), (12, .cells true 1 n (.fn (cxR u))), (13, .cells true 1 0 (.fn (cxR o)))])) 14 []) := eqn (by kernel_rfl) (ai (ai trivial c0) (ai c1 c2))
theorem paF_r0 (n i : Nat) : PieceN 15 (Ex.normal) [(0, .ptr ⟨false, 2, 0, 0⟩), (3, .ptr ⟨false, 11, 0, 0⟩), (6, .slc true true ⟨false, 12, 0, 0⟩ n), (8, .slc true true ⟨false, 13, 0, 0⟩ i), (23, .slc true true ⟨false, 14, 0, 0⟩ n), (24, .int true .i64 (↑n : Int)), (25, .int true .i64 (↑i : Int)), (26, .sbool (decide ((↑i : Int) < (↑n : Int))))] [] (piececallZ Try.f21 ((nav [1,1,1,1,0,1,0,0,0] (bodyOf Try.f21))) (frL [(0, .ptr ⟨false, 2, 0, 0⟩), (3, .ptr ⟨false, 11, 0, 0⟩), (6, .slc true true ⟨false, 12, 0, 0⟩ n), (8, .slc true true ⟨false, 13, 0, 0⟩ i), (23, .slc true true ⟨false, 14, 0, 0⟩ n), (24, .int true .i64 (n : Nat)), (25, .int true .i64 (i : Nat))]) (hpL []) 15 []) := eqn (by kernel_rfl) trivial
theorem paG_r0 (n i : Nat) (t : Bool) (c0 : t = true) : PieceN 15 (Ex.normal) [(0, .ptr ⟨false, 2, 0, 0⟩), (3, .ptr ⟨false, 11, 0, 0⟩), (6, .slc true true ⟨false, 12, 0, 0⟩ n), (8, .slc true true ⟨false, 13, 0, 0⟩ i), (23, .slc true true ⟨false, 14, 0, 0⟩ n), (24, .int true .i64 (↑n : Int)), (25, .int true .i64 (↑i : Int))] [] (piececallZ Try.f21 ((nav [1,1,1,1,0,1,0,0,1,0] (bodyOf Try.f21))) (frL [(0, .ptr ⟨false, 2, 0, 0⟩), (3, .ptr ⟨false, 11, 0, 0⟩), (6, .slc true true ⟨false, 12, 0, 0⟩ n), (8, .slc true true ⟨false, 13, 0, 0⟩ i), (23, .slc true true ⟨false, 14, 0, 0⟩ n), (24, .int true .i64 (n : Nat)), (25, .int true .i64 (i : Nat)), (26, .sbool t)]) (hpL []) 15 [true]) := eqn (by kernel_rfl) (ai trivial c0)
theorem paG_r1 (n i : Nat) (t : Bool) (c0 : t = false) : PieceN 15 (Ex.exit (0 : Nat)) [(0, .ptr ⟨false, 2, 0, 0⟩), (3, .ptr ⟨false, 11, 0, 0⟩), (6, .slc true true ⟨false, 12, 0, 0⟩ n), (8, .slc true true ⟨false, 13, 0, 0⟩ i), (23, .slc true true ⟨false, 14, 0, 0⟩ n), (24, .int true .i64 (↑n : Int)), (25, .int true .i64 (↑i : Int))] [] (piececallZ Try.f21 ((nav [1,1,1,1,0,1,0,0,1,0] (bodyOf Try.f21))) (frL [(0, .ptr ⟨false, 2, 0, 0⟩), (3, .ptr ⟨false, 11, 0, 0⟩), (6, .slc true true ⟨false, 12, 0, 0⟩ n), (8, .slc true true ⟨false, 13, 0, 0⟩ i), (23, .slc true true ⟨false, 14, 0, 0⟩ n), (24, .int true .i64 (n : Nat)), (25, .int true .i64 (i : Nat)), (26, .sbool t)]) (hpL []) 15 [false]) := eqn (by kernel_rfl) (ai trivial c0)
theorem paH_r0 (om nv na n q r i : Nat) (E : Nat → El) (M1 M2 M3 : List (Tx × Int)) (nd br : Nat → Tx) (f h o u : Nat → Nat × Nat) (x : Tx) (c0 : (0 : Int) ≤ (↑i : Int)) (c1 : (↑i : Int) < (↑n : Int)) (c2 : (0 : Nat) + i < n) (c3 : (8 : Nat) ≤ (8 : Nat)) (c4 : (0 : Nat) + i < n) (c5 : NetQ n q r n q r M1 M2 M3 (Cont.row (.fn fun j => elR (E j))) (Cont.row (.fn (txR nd))) (Cont.row (.fn (txR br)))) (c6 : SolQ nv na nv na (Cont.row (.fn (cxR f))) (Cont.row (.fn (cxR h))) n E) (c7 : nv = q) (c8 : na = r) (c9 : (!decide (poE (ND E n) f (El.mk (El.k (E ((0 : Nat) + i))) (El.n (E ((0 : Nat) + i))) (El.a (E ((0 : Nat) + i))) (El.b (E ((0 : Nat) + i))) (El.c (E ((0 : Nat) + i))) (El.d (E ((0 : Nat) + i))) (El.v (E ((0 : Nat) + i))) (El.ph (E ((0 : Nat) + i)))) (Prod.fst (u ((0 : Nat) + i)), Prod.snd (u ((0 : Nat) + i))) = (0 : Int))) = false) (c10 : i ≤ i) (c11 : (i + (1 : Nat)) * (16 : Nat) ≤ (140737488355328 : Nat)) (c12 : i + (1 : Nat) ≤ (9223372036854775807 : Nat)) : PieceN 21 (Ex.normal) [(0, .ptr ⟨false, 2, 0, 0⟩), (3, .ptr ⟨false, 11, 0, 0⟩), (6, .slc true true ⟨false, 12, 0, 0⟩ n), (8, .slc true true ⟨false, 17, 0, 0⟩ (i + (1 : Nat))), (23, .slc true true ⟨false, 14, 0, 0⟩ n), (24, .int true .i64 (↑n : Int)), (25, .int true .i64 (↑i : Int))] (nvs n q r nv na E (zipF 0 (NM E n)) (zipF 0 (ND E n)) (zipF 0 (BR E n)) nd br f h ++ [(11, .cells true 3 1 (.fn fun x => [.raw true om, .slc true true ⟨false, 9, 0, 0⟩ nv, .slc true true ⟨false, 10, 0, 0⟩ na])), (12, .cells true 1 n (.fn (cxR u))), (14, .cells true 8 n (.fn fun j => elR (E j))), (15, .cells true 8 1 (.lit [] (T.n T.e (Option.some (elR (E ((0 : Nat) + i)))) T.e))), (16, .cells true 1 1 (.lit [.cpx false (0 : Nat) (0 : Nat)] (.n .e (some [.cpx true (Prod.fst (poP (ND E n) f (El.mk (El.k (E ((0 : Nat) + i))) (El.n (E ((0 : Nat) + i))) (El.a (E ((0 : Nat) + i))) (El.b (E ((0 : Nat) + i))) (El.c (E ((0 : Nat) + i))) (El.d (E ((0 : Nat) + i))) (El.v (E ((0 : Nat) + i))) (El.ph (E ((0 : Nat) + i)))) (Prod.fst (u ((0 : Nat) + i)), Prod.snd (u ((0 : Nat) + i))))) (Prod.snd (poP (ND E n) f (El.mk (El.k (E ((0 : Nat) + i))) (El.n (E ((0 : Nat) + i))) (El.a (E ((0 : Nat) + i))) (El.b (E ((0 : Nat) + i))) (El.c (E ((0 : Nat) + i))) (El.d (E ((0 : Nat) + i))) (El.v (E ((0 : Nat) + i))) (El.ph (E ((0 : Nat) + i)))) (Prod.fst (u ((0 : Nat) + i)), Prod.snd (u ((0 : Nat) + i)))))]) .e))), (17, .cells true 1 (i + (1 : Nat)) (.fn fun j => bif decide (j < i) then (cxR o j) else [.cpx true (Prod.fst (poP (ND E n) f (El.mk (El.k (E ((0 : Nat) + i))) (El.n (E ((0 : Nat) + i))) (El.a (E ((0 : Nat) + i))) (El.b (E ((0 : Nat) + i))) (El.c (E ((0 : Nat) + i))) (El.d (E ((0 : Nat) + i))) (El.v (E ((0 : Nat) + i))) (El.ph (E ((0 : Nat) + i)))) (Prod.fst (u ((0 : Nat) + i)), Prod.snd (u ((0 : Nat) + i))))) (Prod.snd (poP (ND E n) f (El.mk (El.k (E ((0 : Nat) + i))) (El.n (E ((0 : Nat) + i))) (El.a (E ((0 : Nat) + i))) (El.b (E ((0 : Nat) + i))) (El.c (E ((0 : Nat) + i))) (El.d (E ((0 : Nat) + i))) (El.v (E ((0 : Nat) + i))) (El.ph (E ((0 : Nat) + i)))) (Prod.fst (u ((0 : Nat) + i)), Prod.snd (u ((0 : Nat) + i)))))]))]) (piececallZ Try.f21 ((nav [1,1,1,1,0,1,0,0,1,1,0,0] (bodyOf Try.f21))) (frL [(0, .ptr ⟨false, 2, 0, 0⟩), (3, .ptr ⟨false, 11, 0, 0⟩), (6, .slc true true ⟨false, 12, 0, 0⟩ n), (8, .slc true true ⟨false, 13, 0, 0⟩ i), (23, .slc true true ⟨false, 14, 0, 0⟩ n), (24, .int true .i64 (n : Nat)), (25, .int true .i64 (i : Nat))]) (hpL (nvs n q r nv na E M1 M2 M3 nd br f h ++ [(11, .cells true 3 1 (.fn fun _ => [.raw true om, .slc true true ⟨false, 9, 0, 0⟩ nv, .slc true true ⟨false, 10, 0, 0⟩ na])), (12, .cells true 1 n (.fn (cxR u))), (13, .cells true 1 i (.fn (cxR o))), (14, .cells true 8 n (.fn fun j => elR (E j)))])) 15 [false]) := eqn (by kernel_rfl) (ai (ai (ai (ai (ai (ai (ai (ai (ai (ai trivial (ai c0 c1)) c2) c3) (ai c0 c1)) c4) c5) c6) (ai c7 c8)) c9) (ai c10 (ai c11 c12)))
theorem paH_r1 (om nv na n q r i : Nat) (E : Nat → El) (M1 M2 M3 : List (Tx × Int)) (nd br : Nat → Tx) (f h o u : Nat → Nat × Nat) (x : Tx) (c0 : (0 : Int) ≤ (↑i : Int)) (c1 : (↑i : Int) < (↑n : Int)) (c2 : (0 : Nat) + i < n) (c3 : (8 : Nat) ≤ (8 : Nat)) (c4 : (0 : Nat) + i < n) (c5 : NetQ n q r n q r M1 M2 M3 (Cont.row (.fn fun j => elR (E j))) (Cont.row (.fn (txR nd))) (Cont.row (.fn (txR br)))) (c6 : SolQ nv na nv na (Cont.row (.fn (cxR f))) (Cont.row (.fn (cxR h))) n E) (c7 : nv = q) (c8 : na = r) (c9 : (!decide (poE (ND E n) f (El.mk (El.k (E ((0 : Nat) + i))) (El.n (E ((0 : Nat) + i))) (El.a (E ((0 : Nat) + i))) (El.b (E ((0 : Nat) + i))) (El.c (E ((0 : Nat) + i))) (El.d (E ((0 : Nat) + i))) (El.v (E ((0 : Nat) + i))) (El.ph (E ((0 : Nat) + i)))) (Prod.fst (u ((0 : Nat) + i)), Prod.snd (u ((0 : Nat) + i))) = (0 : Int))) = true) : PieceN 21 (Ex.ret) [(0, .ptr ⟨false, 2, 0, 0⟩), (3, .ptr ⟨false, 11, 0, 0⟩), (4, .nils), (5, .int true .i64 (poE (ND E n) f (El.mk (El.k (E ((0 : Nat) + i))) (El.n (E ((0 : Nat) + i))) (El.a (E ((0 : Nat) + i))) (El.b (E ((0 : Nat) + i))) (El.c (E ((0 : Nat) + i))) (El.d (E ((0 : Nat) + i))) (El.v (E ((0 : Nat) + i))) (El.ph (E ((0 : Nat) + i)))) (Prod.fst (u ((0 : Nat) + i)), Prod.snd (u ((0 : Nat) + i))))), (6, .slc true true ⟨false, 12, 0, 0⟩ n), (8, .slc true true ⟨false, 13, 0, 0⟩ i), (23, .slc true true ⟨false, 14, 0, 0⟩ n), (24, .int true .i64 (↑n : Int)), (25, .int true .i64 (↑i : Int))] (nvs n q r nv na E (zipF 0 (NM E n)) (zipF 0 (ND E n)) (zipF 0 (BR E n)) nd br f h ++ [(11, .cells true 3 1 (.fn fun x => [.raw true om, .slc true true ⟨false, 9, 0, 0⟩ nv, .slc true true ⟨false, 10, 0, 0⟩ na])), (12, .cells true 1 n (.fn (cxR u))), (14, .cells true 8 n (.fn fun j => elR (E j))), (15, .cells true 8 1 (.lit [] (T.n T.e (Option.some (elR (E ((0 : Nat) + i)))) T.e)))]) (piececallZ Try.f21 ((nav [1,1,1,1,0,1,0,0,1,1,0,0] (bodyOf Try.f21))) (frL [(0, .ptr ⟨false, 2, 0, 0⟩), (3, .ptr ⟨false, 11, 0, 0⟩), (6, .slc true true ⟨false, 12, 0, 0⟩ n), (8, .slc true true ⟨false, 13, 0, 0⟩ i), (23, .slc true true ⟨false, 14, 0, 0⟩ n), (24, .int true .i64 (n : Nat)), (25, .int true .i64 (i : Nat))]) (hpL (nvs n q r nv na E M1 M2 M3 nd br f h ++ [(11, .cells true 3 1 (.fn fun _ => [.raw true om, .slc true true ⟨false, 9, 0, 0⟩ nv, .slc true true ⟨false, 10, 0, 0⟩ na])), (12, .cells true 1 n (.fn (cxR u))), (13, .cells true 1 i (.fn (cxR o))), (14, .cells true 8 n (.fn fun j => elR (E j)))])) 15 [true]) := eqn (by kernel_rfl) (ai (ai (ai (ai (ai (ai (ai (ai (ai trivial (ai c0 c1)) c2) c3) (ai c0 c1)) c4) c5) c6) (ai c7 c8)) c9)
theorem paI_r0 (n i : Nat) (c0 : (-9223372036854775808 : Int) ≤ (↑i : Int) + (1 : Int)) (c1 : (↑i : Int) + (1 : Int) ≤ (9223372036854775807 : Int)) : PieceN 15 (Ex.normal) [(0, .ptr ⟨false, 2, 0, 0⟩), (3, .ptr ⟨false, 11, 0, 0⟩), (6, .slc true true ⟨false, 12, 0, 0⟩ n), (8, .slc true true ⟨false, 13, 0, 0⟩ (i + (1 : Nat))), (23, .slc true true ⟨false, 14, 0, 0⟩ n), (24, .int true .i64 (↑n : Int)), (25, .int true .i64 ((↑i : Int) + (1 : Int)))] [] (piececallZ Try.f21 ((nav [1,1,1,1,0,1,0,0,1,1,1] (bodyOf Try.f21))) (frL [(0, .ptr ⟨false, 2, 0, 0⟩), (3, .ptr ⟨false, 11, 0, 0⟩), (6, .slc true true ⟨false, 12, 0, 0⟩ n), (8, .slc true true ⟨false, 13, 0, 0⟩ (i + 1)), (23, .slc true true ⟨false, 14, 0, 0⟩ n), (24, .int true .i64 (n : Nat)), (25, .int true .i64 (i : Nat))]) (hpL []) 15 []) := eqn (by kernel_rfl) (ai trivial (ai c0 c1))
theorem paJ_r0 (n : Nat) : PieceN 15 (Ex.ret) [(4, .slc true true ⟨false, 13, 0, 0⟩ n), (5, .int false .i64 0)] [] (piececallZ Try.f21 ((nav [1,1,1,1,1] (bodyOf Try.f21))) (frL [(8, .slc true true ⟨false, 13, 0, 0⟩ n)]) (hpL []) 15 []) := eqn (by kernel_rfl) trivial


noncomputable def poG (n : Nat) (E : Nat → El) (f h : Nat → Nat × Nat) (om : Nat) (j : Nat) : Bool := decide ((poE (ND E n) f (E j) (thV (ND E n) (BR E n) f h om (E j))) = 0)
/-- power.All's error -/
noncomputable def paE (nv na n : Nat) (E : Nat → El) (f h : Nat → Nat × Nat) (om : Nat) : Int := bif decide (caE nv na n E f h om = 0) then (bif decide (fbk (poG n E f h om) 0 n = n) then 0 else (poE (ND E n) f (E (fbk (poG n E f h om) 0 n)) (thV (ND E n) (BR E n) f h om (E (fbk (poG n E f h om) 0 n))))) else caE nv na n E f h om
theorem caE_ck {nv na n : Nat} {E : Nat → El} {f h : Nat → Nat × Nat} {om : Nat} (z : caE nv na n E f h om = 0) : (ckE nv na (ND E n).length (BR E n).length f h) = 0 := by
 by_cases c : (ckE nv na (ND E n).length (BR E n).length f h) = 0
 ·exact c
 ·unfold caE at z; rw [decide_eq_false c] at z; exact absurd z c
theorem paE_bad {nv na n : Nat} {E : Nat → El} {f h : Nat → Nat × Nat} {om j : Nat} (z : caE nv na n E f h om = 0) (hj : j < n) (hb : ∀ k, k < j → (poE (ND E n) f (E k) (thV (ND E n) (BR E n) f h om (E k))) = 0) (hx : (poE (ND E n) f (E j) (thV (ND E n) (BR E n) f h om (E j))) ≠ 0) : paE nv na n E f h om = (poE (ND E n) f (E j) (thV (ND E n) (BR E n) f h om (E j))) := by
 have e : fbk (poG n E f h om) 0 n = j := fbk_at (decide_eq_false hx) n 0 (by omega) (by omega) fun k _ hk => decide_eq_true (hb k hk)
 unfold paE
 rw [z, e, decide_eq_false (show ¬ j = n by omega)]
 rfl
theorem paE_good {nv na n : Nat} {E : Nat → El} {f h : Nat → Nat × Nat} {om : Nat} (z : caE nv na n E f h om = 0) (hb : ∀ k, k < n → (poE (ND E n) f (E k) (thV (ND E n) (BR E n) f h om (E k))) = 0) : paE nv na n E f h om = 0 := by
 have e : fbk (poG n E f h om) 0 n = 0 + n := fbk_all n 0 fun k _ hk => decide_eq_true (hb k (by omega))
 unfold paE
 rw [z, e, Nat.zero_add, decide_eq_true (rfl : n = n)]
 rfl
def paF (n i : Nat) : List (Nat × AV) := [(0, .ptr ⟨false, 2, 0, 0⟩), (3, .ptr ⟨false, 11, 0, 0⟩), (6, .slc true true ⟨false, 12, 0, 0⟩ n), (8, .slc true true ⟨false, 13, 0, 0⟩ i), (23, .slc true true ⟨false, 14, 0, 0⟩ n), (24, .int true .i64 (n : Nat)), (25, .int true .i64 (i : Nat))]
noncomputable def paH (om nv na n q r : Nat) (E : Nat → El) (f h : Nat → Nat × Nat) (i : Nat) : List (Nat × ABk) := ((nvs n q r nv na E (zipF 0 (NM E n)) (zipF 0 (ND E n)) (zipF 0 (BR E n)) (lget (ND E n)) (lget (BR E n)) f h) ++ ([(11, .cells true 3 1 (.fn fun _ => [.raw true om, .slc true true ⟨false, 9, 0, 0⟩ nv, .slc true true ⟨false, 10, 0, 0⟩ na])), (12, .cells true 1 (n) (.fn (cxR (fun j => thV (ND E n) (BR E n) f h om (E j))))), (13, .cells true 1 (i) (.fn (cxR (fun j => poP (ND E n) f (E j) (thV (ND E n) (BR E n) f h om (E j)))))), (14, .cells true 8 (n) (.fn fun j => elR (E j)))] : List (Nat × ABk)))
theorem pa_low (om nv na n q r i : Nat) (E : Nat → El) (f h : Nat → Nat × Nat) : LowL 15 (paH om nv na n q r E f h i) := ⟨⟨by omega, fun j hj v hv => List.all_eq_true.1 (show (netR 6 7 8 n q r).all (fun v => v.low 15) = true from rfl) v hv⟩, ⟨by omega, trivial⟩, ⟨by omega, trivial⟩, ⟨by omega, trivial⟩, ⟨by omega, fun j hj v hv => List.all_eq_true.1 (elR_low 15 _) v hv⟩, ⟨by omega, fun j hj v hv => by rw [List.mem_singleton.1 hv]; rfl⟩, ⟨by omega, fun j hj v hv => by rw [List.mem_singleton.1 hv]; rfl⟩, ⟨by omega, fun j hj v hv => by rw [List.mem_singleton.1 hv]; rfl⟩, ⟨by omega, fun j hj v hv => by rw [List.mem_singleton.1 hv]; rfl⟩, ⟨by omega, fun j hj v hv => List.all_eq_true.1 (show [AV.raw true om, .slc true true ⟨false, 9, 0, 0⟩ nv, .slc true true ⟨false, 10, 0, 0⟩ na].all (fun v => v.low 15) = true from rfl) v hv⟩, ⟨by omega, fun j hj v hv => by rw [List.mem_singleton.1 hv]; rfl⟩, ⟨by omega, fun j hj v hv => by rw [List.mem_singleton.1 hv]; rfl⟩, ⟨by omega, fun j hj v hv => List.all_eq_true.1 (elR_low 15 _) v hv⟩, trivial⟩
theorem pa_round (om nv na n q r : Nat) (E : Nat → El) (f h : Nat → Nat × Nat) (hn : n ≤ 256) (hq : q = (ND E n).length) (hr : r = (BR E n).length) (hg : ∀ j, j < n → badE chkE E j = 0) (hv : nv = q) (ha : na = r) (i : Nat) (hi : i < n) (hx : (poE (ND E n) f (E i) (thV (ND E n) (BR E n) f h om (E i))) = 0) :
  GoesB Try.prog (.block 1 (nav [1,1,1,1,0,1,0,0,1,1,0,0] (bodyOf Try.f21))) Try.f21.ntmps 11 15 15 (frL (paF n i)) (hpL (paH om nv na n q r E f h i)) (Nm [(0, .ptr ⟨false, 2, 0, 0⟩), (3, .ptr ⟨false, 11, 0, 0⟩), (6, .slc true true ⟨false, 12, 0, 0⟩ n), (8, .slc true true ⟨false, 13, 0, 0⟩ (i + 1)), (23, .slc true true ⟨false, 14, 0, 0⟩ n), (24, .int true .i64 (n : Nat)), (25, .int true .i64 (i : Nat))] (paH om nv na n q r E f h (i + 1))) := by
 have e0 : 0 + i = i := Nat.zero_add i
 have hG := (rcZ (B := 11) (paH_r0 om nv na n q r i E (zipF 0 (NM E n)) (zipF 0 (ND E n)) (zipF 0 (BR E n)) (lget (ND E n)) (lget (BR E n)) f h (fun j => poP (ND E n) f (E j) (thV (ND E n) (BR E n) f h om (E j))) (fun j => thV (ND E n) (BR E n) f h om (E j)) [] (by omega) (by omega) (by omega) (by omega) (by omega) (nqI hn hq hr) (sqI hg) hv ha (by rw [e0]; show (!decide ((poE (ND E n) f (E i) (thV (ND E n) (BR E n) f h om (E i))) = 0)) = false; rw [hx]; rfl) (by omega) (by omega) (by omega)) (by omega))
 rw [e0] at hG
 refine GoesB.blockN (GoesB.renG hG fun e fr' H' h => ?_)
 obtain ⟨rfl, rfl, rfl⟩ := h
 refine ⟨sg 13 17, [(0, .ptr ⟨false, 2, 0, 0⟩), (3, .ptr ⟨false, 11, 0, 0⟩), (6, .slc true true ⟨false, 12, 0, 0⟩ n), (8, .slc true true ⟨false, 13, 0, 0⟩ (i + 1)), (23, .slc true true ⟨false, 14, 0, 0⟩ n), (24, .int true .i64 (n : Nat)), (25, .int true .i64 (i : Nat))], (paH om nv na n q r E f h (i + 1)), sg_low (by omega), ⟨⟨_, rfl, AV.ge.refl _, rfl⟩, ⟨_, rfl, AV.ge.refl _, rfl⟩, ⟨_, rfl, AV.ge.refl _, rfl⟩, ⟨_, rfl, AV.ge.refl _, rfl⟩, ⟨_, rfl, AV.ge.refl _, rfl⟩, ⟨_, rfl, AV.ge.refl _, rfl⟩, ⟨_, rfl, AV.ge.refl _, rfl⟩, trivial⟩, ⟨rgB rfl rfl rfl (by omega), rgM rfl rfl (by omega), rgM rfl rfl (by omega), rgM rfl rfl (by omega), rgR rfl rfl (fun j _ => rfl) (fun j _ => rfl) (by omega), rgR rfl rfl (fun j _ => rfl) (fun j _ => rfl) (by omega), rgR rfl rfl (fun j _ => rfl) (fun j _ => rfl) (by omega), rgR rfl rfl (fun j _ => rfl) (fun j _ => rfl) (by omega), rgR rfl rfl (fun j _ => rfl) (fun j _ => rfl) (by omega), rgB rfl rfl rfl (by omega), rgR rfl rfl (fun j _ => rfl) (fun j _ => rfl) (by omega), rgR rfl rfl (fun j hj => ?_) (fun j _ => rfl) (by omega), rgR rfl rfl (fun j _ => rfl) (fun j _ => rfl) (by omega), trivial⟩, sg_inj (by omega), rfl, rfl, rfl⟩
 show (bif decide (j < i) then cxR (fun j => poP (ND E n) f (E j) (thV (ND E n) (BR E n) f h om (E j))) j else [AV.cpx true ((fun j => poP (ND E n) f (E j) (thV (ND E n) (BR E n) f h om (E j))) i).1 ((fun j => poP (ND E n) f (E j) (thV (ND E n) (BR E n) f h om (E j))) i).2]) = cxR (fun j => poP (ND E n) f (E j) (thV (ND E n) (BR E n) f h om (E j))) j
 by_cases c : j < i
 ·rw [decide_eq_true c]; rfl
 ·obtain rfl : j = i := by omega
  rw [decide_eq_false c]; rfl
theorem pa_stop (om nv na n q r : Nat) (E : Nat → El) (f h : Nat → Nat × Nat) (hn : n ≤ 256) (hq : q = (ND E n).length) (hr : r = (BR E n).length) (hg : ∀ j, j < n → badE chkE E j = 0) (hv : nv = q) (ha : na = r) (i : Nat) (hi : i < n) (hx : (poE (ND E n) f (E i) (thV (ND E n) (BR E n) f h om (E i))) ≠ 0) :
  GoesB Try.prog (.block 1 (nav [1,1,1,1,0,1,0,0,1,1,0,0] (bodyOf Try.f21))) Try.f21.ntmps 11 15 15 (frL (paF n i)) (hpL (paH om nv na n q r E f h i)) (fun e fr H => e = .ret ∧ fr = frL [(4, .nils), (5, .int true .i64 (poE (ND E n) f (E i) (thV (ND E n) (BR E n) f h om (E i))))] ∧ H = hpL (mps n E)) := by
 have e0 : 0 + i = i := Nat.zero_add i
 have hG := (rcZ (B := 11) (paH_r1 om nv na n q r i E (zipF 0 (NM E n)) (zipF 0 (ND E n)) (zipF 0 (BR E n)) (lget (ND E n)) (lget (BR E n)) f h (fun j => poP (ND E n) f (E j) (thV (ND E n) (BR E n) f h om (E j))) (fun j => thV (ND E n) (BR E n) f h om (E j)) [] (by omega) (by omega) (by omega) (by omega) (by omega) (nqI hn hq hr) (sqI hg) hv ha (by rw [e0]; show (!decide ((poE (ND E n) f (E i) (thV (ND E n) (BR E n) f h om (E i))) = 0)) = true; rw [decide_eq_false hx]; rfl)) (by omega))
 rw [e0] at hG
 refine GoesB.block (GoesB.renG hG fun e fr' H' h => ?_)
 obtain ⟨rfl, rfl, rfl⟩ := h
 exact ⟨id, [(4, .nils), (5, .int true .i64 (poE (ND E n) f (E i) (thV (ND E n) (BR E n) f h om (E i))))], mps n E, fun g hg => rfl, ⟨⟨_, rfl, AV.ge.refl _, rfl⟩, ⟨_, rfl, AV.ge.refl _, rfl⟩, trivial⟩, ⟨rgM rfl rfl (by omega), rgM rfl rfl (by omega), rgM rfl rfl (by omega), trivial⟩, fun i j _ _ h => h, rfl, rfl, rfl⟩
theorem pa_goes (om nv na n q r : Nat) (E : Nat → El) (f h : Nat → Nat × Nat) (hn : n ≤ 256) (hq : q = (ND E n).length) (hr : r = (BR E n).length) (hg : ∀ j, j < n → badE chkE E j = 0) :
  GoesB Try.prog (bodyOf Try.f21) Try.f21.ntmps 11 11 15 (frameOf [.ptr ⟨false, 2, 0, 0⟩, solV om nv na] 0 .e) (hpL (nbl n q r E ++ solB nv na f h)) (fun e fr H => e = .ret ∧ (((paE nv na n E f h om) = 0 ∧ fr = frL [(4, .slc true true ⟨false, 13, 0, 0⟩ n), (5, .int false .i64 0)] ∧ H = hpL (mps n E ++ ([(13, .cells true 1 (n) (.fn (cxR (fun j => poP (ND E n) f (E j) (thV (ND E n) (BR E n) f h om (E j))))))] : List (Nat × ABk)))) ∨ ((paE nv na n E f h om) ≠ 0 ∧ fr = frL [(4, .nils), (5, .int true .i64 (paE nv na n E f h om))] ∧ H = hpL (mps n E)))) := by
 rw [show (bodyOf Try.f21) = .seq (nav [0] (bodyOf Try.f21)) (.seq (nav [1,0] (bodyOf Try.f21)) (.seq (nav [1,1,0] (bodyOf Try.f21)) (.seq (nav [1,1,1,0] (bodyOf Try.f21)) (.seq (.seq (nav [1,1,1,1,0,0] (bodyOf Try.f21)) (.block 0 (.loop (nav [1,1,1,1,0,1,0,0] (bodyOf Try.f21))))) (nav [1,1,1,1,1] (bodyOf Try.f21)))))) by kernel_rfl]
 refine GoesB.seqN (K1 := 12) (F1 := [(0, .ptr ⟨false, 2, 0, 0⟩), (3, .ptr ⟨false, 11, 0, 0⟩)]) (H1 := (nvs n q r nv na E (zipF 0 (NM E n)) (zipF 0 (ND E n)) (zipF 0 (BR E n)) (lget (ND E n)) (lget (BR E n)) f h) ++ ([(11, .cells true 3 1 (.fn fun _ => [.raw true om, .slc true true ⟨false, 9, 0, 0⟩ nv, .slc true true ⟨false, 10, 0, 0⟩ na]))] : List (Nat × ABk))) (GoesB.toN (rcZ (B := 11) (paA_r0 om nv na n q r E (zipF 0 (NM E n)) (zipF 0 (ND E n)) (zipF 0 (BR E n)) (lget (ND E n)) (lget (BR E n)) f h) (by omega)) ⟨re rfl, re rfl, trivial⟩ ⟨hs rfl, hs rfl, hs rfl, hs rfl, hs rfl, hs rfl, hs rfl, hs rfl, hs rfl, hbl1 rfl, trivial⟩) (by omega) ?_
 by_cases z : caE nv na n E f h om = 0
 case neg =>
  have e : (paE nv na n E f h om) = caE nv na n E f h om := by unfold paE; rw [decide_eq_false z]; rfl
  rw [e]
  refine GoesB.seqN (K1 := 13) (F1 := [(7, .int true .i64 (caE nv na n E f h om))]) (H1 := mps n E) (GoesB.toN (rcZ (B := 11) (paB_r1 om nv na n q r E (zipF 0 (NM E n)) (zipF 0 (ND E n)) (zipF 0 (BR E n)) (lget (ND E n)) (lget (BR E n)) f h [] (nqI hn hq hr) (sqI hg) (decide_eq_false z)) (by omega)) ⟨re rfl, trivial⟩ ⟨hs rfl, hs rfl, hs rfl, trivial⟩) (by omega) ?_
  refine GoesB.seq (K1 := 13) (by omega) ((GoesB.lower (B' := 13) (GoesB.frameL (bl := []) (xl := mps n E) (rcZ (B := 13) (paX_r1 (caE nv na n E f h om) (by rw [decide_eq_false z]; rfl)) (by omega)) (by omega) ⟨⟨by omega, trivial⟩, ⟨by omega, trivial⟩, ⟨by omega, trivial⟩, trivial⟩ rfl (Post' := fun e fr H => e = .ret ∧ fr = frL [(4, .nils), (5, .int true .i64 (caE nv na n E f h om))] ∧ H = hpL (mps n E)) fun e' fr' H' hh => ⟨[], hh.2.2, rfl, trivial, hh.1, hh.2.1, rfl⟩) (by omega)).mono fun e fr H hh => ?_)
  obtain ⟨rfl, rfl, rfl⟩ := hh
  exact ⟨rfl, .inr ⟨z, rfl, rfl⟩⟩
 obtain ⟨hv, ha⟩ := ckE_zero (caE_ck z)
 have hv : nv = q := by omega
 have ha : na = r := by omega
 have lowB : LowL 13 ((nvs n q r nv na E (zipF 0 (NM E n)) (zipF 0 (ND E n)) (zipF 0 (BR E n)) (lget (ND E n)) (lget (BR E n)) f h) ++ ([(11, .cells true 3 1 (.fn fun _ => [.raw true om, .slc true true ⟨false, 9, 0, 0⟩ nv, .slc true true ⟨false, 10, 0, 0⟩ na])), (12, .cells true 1 (n) (.fn (cxR (fun j => thV (ND E n) (BR E n) f h om (E j)))))] : List (Nat × ABk))) := ⟨⟨by omega, fun j hj v hv => List.all_eq_true.1 (show (netR 6 7 8 n q r).all (fun v => v.low 13) = true from rfl) v hv⟩, ⟨by omega, trivial⟩, ⟨by omega, trivial⟩, ⟨by omega, trivial⟩, ⟨by omega, fun j hj v hv => List.all_eq_true.1 (elR_low 13 _) v hv⟩, ⟨by omega, fun j hj v hv => by rw [List.mem_singleton.1 hv]; rfl⟩, ⟨by omega, fun j hj v hv => by rw [List.mem_singleton.1 hv]; rfl⟩, ⟨by omega, fun j hj v hv => by rw [List.mem_singleton.1 hv]; rfl⟩, ⟨by omega, fun j hj v hv => by rw [List.mem_singleton.1 hv]; rfl⟩, ⟨by omega, fun j hj v hv => List.all_eq_true.1 (show [AV.raw true om, .slc true true ⟨false, 9, 0, 0⟩ nv, .slc true true ⟨false, 10, 0, 0⟩ na].all (fun v => v.low 13) = true from rfl) v hv⟩, ⟨by omega, fun j hj v hv => by rw [List.mem_singleton.1 hv]; rfl⟩, trivial⟩
 refine GoesB.seqN (K1 := 13) (F1 := [(0, .ptr ⟨false, 2, 0, 0⟩), (3, .ptr ⟨false, 11, 0, 0⟩), (6, .slc true true ⟨false, 12, 0, 0⟩ n), (7, .int true .i64 0)]) (H1 := (nvs n q r nv na E (zipF 0 (NM E n)) (zipF 0 (ND E n)) (zipF 0 (BR E n)) (lget (ND E n)) (lget (BR E n)) f h) ++ ([(11, .cells true 3 1 (.fn fun _ => [.raw true om, .slc true true ⟨false, 9, 0, 0⟩ nv, .slc true true ⟨false, 10, 0, 0⟩ na])), (12, .cells true 1 (n) (.fn (cxR (fun j => thV (ND E n) (BR E n) f h om (E j)))))] : List (Nat × ABk))) (GoesB.toN (rcZ (B := 11) (paB_r0 om nv na n q r E (zipF 0 (NM E n)) (zipF 0 (ND E n)) (zipF 0 (BR E n)) (lget (ND E n)) (lget (BR E n)) f h [] (nqI hn hq hr) (sqI hg) (decide_eq_true z)) (by omega)) ⟨re rfl, re rfl, re rfl, ri rfl, trivial⟩ ⟨hs rfl, hs rfl, hs rfl, hs rfl, hs rfl, hs rfl, hs rfl, hs rfl, hs rfl, hs rfl, hs rfl, trivial⟩) (by omega) ?_
 refine GoesB.seqN (K1 := 13) (F1 := [(0, .ptr ⟨false, 2, 0, 0⟩), (3, .ptr ⟨false, 11, 0, 0⟩), (6, .slc true true ⟨false, 12, 0, 0⟩ n)]) (H1 := (nvs n q r nv na E (zipF 0 (NM E n)) (zipF 0 (ND E n)) (zipF 0 (BR E n)) (lget (ND E n)) (lget (BR E n)) f h) ++ ([(11, .cells true 3 1 (.fn fun _ => [.raw true om, .slc true true ⟨false, 9, 0, 0⟩ nv, .slc true true ⟨false, 10, 0, 0⟩ na])), (12, .cells true 1 (n) (.fn (cxR (fun j => thV (ND E n) (BR E n) f h om (E j)))))] : List (Nat × ABk))) (GoesB.lower (B' := 13) (GoesB.idleN (rcZ (B := 13) (paC_r0 n 0 rfl) (by omega)) (by omega) lowB) (by omega)) (by omega) ?_
 refine GoesB.seqN (K1 := 13) (F1 := [(0, .ptr ⟨false, 2, 0, 0⟩), (3, .ptr ⟨false, 11, 0, 0⟩), (6, .slc true true ⟨false, 12, 0, 0⟩ n), (8, .nils)]) (H1 := (nvs n q r nv na E (zipF 0 (NM E n)) (zipF 0 (ND E n)) (zipF 0 (BR E n)) (lget (ND E n)) (lget (BR E n)) f h) ++ ([(11, .cells true 3 1 (.fn fun _ => [.raw true om, .slc true true ⟨false, 9, 0, 0⟩ nv, .slc true true ⟨false, 10, 0, 0⟩ na])), (12, .cells true 1 (n) (.fn (cxR (fun j => thV (ND E n) (BR E n) f h om (E j)))))] : List (Nat × ABk))) (GoesB.lower (B' := 13) (GoesB.idleN (rcZ (B := 13) (paD_r0 n) (by omega)) (by omega) lowB) (by omega)) (by omega) ?_
 refine GoesB.phantom 8 1 (cxR (fun j => poP (ND E n) f (E j) (thV (ND E n) (BR E n) f h om (E j)))) rfl (by omega) (by omega) ?_
 refine GoesB.weakL (fl := [(0, .ptr ⟨false, 2, 0, 0⟩), (3, .ptr ⟨false, 11, 0, 0⟩), (6, .slc true true ⟨false, 12, 0, 0⟩ n), (8, .slc true true ⟨false, 13, 0, 0⟩ 0)]) (bl := (nvs n q r nv na E (zipF 0 (NM E n)) (zipF 0 (ND E n)) (zipF 0 (BR E n)) (lget (ND E n)) (lget (BR E n)) f h) ++ ([(11, .cells true 3 1 (.fn fun _ => [.raw true om, .slc true true ⟨false, 9, 0, 0⟩ nv, .slc true true ⟨false, 10, 0, 0⟩ na])), (12, .cells true 1 (n) (.fn (cxR (fun j => thV (ND E n) (BR E n) f h om (E j))))), (13, .cells true 1 (0) (.fn (cxR (fun j => poP (ND E n) f (E j) (thV (ND E n) (BR E n) f h om (E j))))))] : List (Nat × ABk))) ⟨re rfl, re rfl, re rfl, re rfl, trivial⟩ ⟨hs rfl, hs rfl, hs rfl, hs rfl, hs rfl, hs rfl, hs rfl, hs rfl, hs rfl, hs rfl, hs rfl, hs rfl, trivial⟩ ?_
 refine GoesB.seq (K1 := 15) (by omega) ?_
 have low := fun i => pa_low om nv na n q r i E f h
 refine GoesB.seqN (K1 := 15) (F1 := (paF n 0)) (H1 := (paH om nv na n q r E f h 0)) (GoesB.toN (rcZ (B := 11) (paE_r0 om nv na n q r E (zipF 0 (NM E n)) (zipF 0 (ND E n)) (zipF 0 (BR E n)) (lget (ND E n)) (lget (BR E n)) f h (fun j => poP (ND E n) f (E j) (thV (ND E n) (BR E n) f h om (E j))) (fun j => thV (ND E n) (BR E n) f h om (E j)) [] (by omega) (by omega) (by omega)) (by omega)) ⟨re rfl, re rfl, re rfl, re rfl, re rfl, re rfl, ri rfl, trivial⟩ ⟨hs rfl, hs rfl, hs rfl, hs rfl, hs rfl, hs rfl, hs rfl, hs rfl, hs rfl, hs rfl, hs rfl, hs rfl, gR rfl rfl (fun j _ => by rw [Nat.zero_add]), trivial⟩) (by omega) ?_
 refine (GoesB.count n (fun i => (paF n i)) (fun i => (paH om nv na n q r E f h i)) [(8, .slc true true ⟨false, 13, 0, 0⟩ n)] (mps n E ++ ([(13, .cells true 1 (n) (.fn (cxR (fun j => poP (ND E n) f (E j) (thV (ND E n) (BR E n) f h om (E j))))))] : List (Nat × ABk))) (fun i => ∀ k, k < i → (poE (ND E n) f (E k) (thV (ND E n) (BR E n) f h om (E k))) = 0) (fun fr H => (paE nv na n E f h om) ≠ 0 ∧ fr = frL [(4, .nils), (5, .int true .i64 (paE nv na n E f h om))] ∧ H = hpL (mps n E)) (fun k hk => absurd hk (by omega)) fun i hi hgi => ?_).mono fun e fr H hh => ?_
 ·rw [show (nav [1,1,1,1,0,1,0,0] (bodyOf Try.f21)) = .seq (nav [1,1,1,1,0,1,0,0,0] (bodyOf Try.f21)) (.seq (nav [1,1,1,1,0,1,0,0,1,0] (bodyOf Try.f21)) (.seq (.block 1 (nav [1,1,1,1,0,1,0,0,1,1,0,0] (bodyOf Try.f21))) (nav [1,1,1,1,0,1,0,0,1,1,1] (bodyOf Try.f21)))) by kernel_rfl]
  refine GoesB.seqN (K1 := 15) (F1 := [(0, .ptr ⟨false, 2, 0, 0⟩), (3, .ptr ⟨false, 11, 0, 0⟩), (6, .slc true true ⟨false, 12, 0, 0⟩ n), (8, .slc true true ⟨false, 13, 0, 0⟩ i), (23, .slc true true ⟨false, 14, 0, 0⟩ n), (24, .int true .i64 (n : Nat)), (25, .int true .i64 (i : Nat)), (26, .sbool (decide ((i : Int) < (n : Int))))]) (H1 := (paH om nv na n q r E f h i)) (GoesB.lower (B' := 15) (GoesB.idleN (rcZ (B := 15) (paF_r0 n i) (by omega)) (by omega) (low i)) (by omega)) (by omega) ?_
  by_cases c : i < n
  ·refine GoesB.seqN (K1 := 15) (F1 := (paF n i)) (H1 := (paH om nv na n q r E f h i)) (GoesB.lower (B' := 15) (GoesB.idleN (rcZ (B := 15) (paG_r0 n i (decide ((i : Int) < (n : Int))) (decide_eq_true (by omega))) (by omega)) (by omega) (low i)) (by omega)) (by omega) ?_
   by_cases hx : (poE (ND E n) f (E i) (thV (ND E n) (BR E n) f h om (E i))) = 0
   ·refine GoesB.seqN (K1 := 15) (pa_round om nv na n q r E f h hn hq hr hg hv ha i c hx) (by omega) ?_
    refine (GoesB.lower (B' := 15) (GoesB.idleN (rcZ (B := 15) (paI_r0 n i (by omega) (by omega)) (by omega)) (by omega) (low (i + 1))) (by omega)).post fun e fr H hh => ?_
    obtain ⟨rfl, rfl, rfl⟩ := hh
    refine ⟨(paF n (i + 1 : Nat)), (paH om nv na n q r E f h (i + 1)), ⟨re rfl, re rfl, re rfl, re rfl, re rfl, re rfl, ri rfl, trivial⟩, ⟨hs rfl, hs rfl, hs rfl, hs rfl, hs rfl, hs rfl, hs rfl, hs rfl, hs rfl, hs rfl, hs rfl, hs rfl, hs rfl, trivial⟩, .inl ⟨rfl, c, fun k hk => ?_, rfl, rfl⟩⟩
    by_cases d : k < i
    ·exact hgi k d
    ·obtain rfl : k = i := by omega
     exact hx
   ·refine GoesB.seq (K1 := 15) (by omega) ((pa_stop om nv na n q r E f h hn hq hr hg hv ha i c hx).mono fun e fr H hh => ?_)
    obtain ⟨rfl, rfl, rfl⟩ := hh
    have e := paE_bad z c hgi hx
    exact .inr (.inr ⟨rfl, by rw [e]; exact hx, by rw [e], rfl⟩)
  ·obtain rfl : n = i := by omega
   refine GoesB.seq (K1 := 15) (by omega) ((GoesB.lower (B' := 15) (GoesB.idleX (rcZ (B := 15) (paG_r1 n n (decide ((n : Int) < (n : Int))) (decide_eq_false (by omega))) (by omega)) (by omega) (low n)) (by omega)).post fun e fr H hh => ?_)
   obtain ⟨rfl, rfl, rfl⟩ := hh
   exact ⟨[(8, .slc true true ⟨false, 13, 0, 0⟩ n)], mps n E ++ ([(13, .cells true 1 (n) (.fn (cxR (fun j => poP (ND E n) f (E j) (thV (ND E n) (BR E n) f h om (E j))))))] : List (Nat × ABk)), ⟨re rfl, trivial⟩, ⟨hs rfl, hs rfl, hs rfl, hs rfl, trivial⟩, .inr (.inl ⟨rfl, hgi, rfl, rfl⟩)⟩
 ·rcases hh with ⟨rfl, h1, rfl, rfl⟩ | ⟨rfl, h1, h2, h3⟩
  ·refine (GoesB.lower (B' := 15) (GoesB.frameL (bl := []) (xl := mps n E ++ ([(13, .cells true 1 (n) (.fn (cxR (fun j => poP (ND E n) f (E j) (thV (ND E n) (BR E n) f h om (E j))))))] : List (Nat × ABk))) (rcZ (B := 15) (paJ_r0 n) (by omega)) (by omega) ⟨⟨by omega, trivial⟩, ⟨by omega, trivial⟩, ⟨by omega, trivial⟩, ⟨by omega, fun j hj v hv => by rw [List.mem_singleton.1 hv]; rfl⟩, trivial⟩ rfl (Post' := fun e fr H => e = .ret ∧ fr = frL [(4, .slc true true ⟨false, 13, 0, 0⟩ n), (5, .int false .i64 0)] ∧ H = hpL (mps n E ++ ([(13, .cells true 1 (n) (.fn (cxR (fun j => poP (ND E n) f (E j) (thV (ND E n) (BR E n) f h om (E j))))))] : List (Nat × ABk)))) fun e' fr' H' hh => ⟨[], hh.2.2, rfl, trivial, hh.1, hh.2.1, rfl⟩) (by omega)).mono fun e fr H hh => ?_
   exact ⟨hh.1, .inl ⟨paE_good z h1, hh.2.1, hh.2.2⟩⟩
  ·exact ⟨rfl, .inr ⟨h1, h2, h3⟩⟩
noncomputable def paS : List AV → M AV
 | [.ptr aN, .agg [.raw _ om, .slc _ true aV nv, .slc _ true aA na]] => (M.okIf (flat0 aN)).andThen fun _ => (netRd aN.g).andThen fun y => (solRd aN.g y.1 y.2 ⟨nv, na, aV, aA⟩).andThen fun z => (M.dec (decide (paE nv na y.1.n y.2 z.1 z.2 om = 0))).andThen fun d => (M.setB y.1.m1 (.mSI true (zipF 0 (NM y.2 y.1.n)))).andThen fun _ => (M.setB y.1.m2 (.mSI true (zipF 0 (ND y.2 y.1.n)))).andThen fun _ => (M.setB y.1.m3 (.mSI true (zipF 0 (BR y.2 y.1.n)))).andThen fun _ => bif d then (M.newB (.cells true 1 y.1.n (.fn (cxR (fun j => poP (ND y.2 y.1.n) z.1 (y.2 j) (thV (ND y.2 y.1.n) (BR y.2 y.1.n) z.1 z.2 om (y.2 j))))))).andThen fun k => M.ret (.tup [.slc true true ⟨false, k, 0, 0⟩ y.1.n, .int false .i64 0]) else M.ret (.tup [.nils, .int true .i64 (paE nv na y.1.n y.2 z.1 z.2 om)])
 | _ => M.no
theorem paS_tch : ∀ args, Tch (paS args) := by
 intro args
 unfold paS
 split
 ·exact (Tch.okIf _).andThen fun _ => (Tch_netRd _).andThen fun _ => (Tch_solRd _ _ _ _).andThen fun _ => (Tch.dec _).andThen fun _ => (Tch.setB _ _).andThen fun _ => (Tch.setB _ _).andThen fun _ => (Tch.setB _ _).andThen fun _ => Tch.cond ((Tch.newB _).andThen fun _ => Tch.ret _) (Tch.ret _)
 ·exact Tch.no
theorem paS_ok : ∀ args v g g', paS args g = .done v g' → CallIs Try.prog 21 args v g g' := by
 intro args v g g' h
 unfold paS at h
 split at h
 case h_2 => exact (no_done h).elim
 rename_i aN s0 om s1 aV nv s2 aA na
 obtain ⟨_, g1, a1, h⟩ := done_of h
 obtain ⟨q0, rfl⟩ := okIf_done a1
 have q0 := flat0_is q0
 obtain ⟨⟨w, E⟩, g3, a3, h⟩ := done_of h
 obtain ⟨qf, kk0, f0⟩ := netRd_done a3
 obtain ⟨⟨fv, fa⟩, g4, a4, h⟩ := done_of h
 obtain ⟨qs, kk1, f1⟩ := solRd_done a4
 obtain ⟨d, g5, a5, h⟩ := done_of h
 have kk2 := (kk0.trans kk1).trans (dec_done a5)
 dsimp only at h f0 f1
 obtain ⟨_, g6, a6, h⟩ := done_of h
 obtain ⟨_, g7, a7, h⟩ := done_of h
 obtain ⟨_, g8, a8, h⟩ := done_of h
 obtain ⟨b1, b2, b3⟩ := setB_done a6
 obtain ⟨b4, b5, b6⟩ := setB_done a7
 obtain ⟨b7, b8, b9⟩ := setB_done a8
 have ff := f0
 have fs : qs → SolF g aN.g w E ⟨nv, na, aV, aA⟩ fv fa := fun h => (f1 h).at kk0.1
 cases d with
 | true =>
  rw [cond_true] at h
  obtain ⟨k, g9, a9, h⟩ := done_of h
  obtain ⟨rfl, c1, c2, c3⟩ := newB_done a9
  obtain ⟨rfl, rfl⟩ := ret_done h
  have hnx : g8.nx = g.nx := by rw [b8, b5, b2, kk2.2.1]
  rw [hnx] at c1 c2 ⊢
  refine solCall (K' := 15) (c := (bodyOf Try.f21)) Try.func21 (by kernel_rfl) (by kernel_rfl) (s := ⟨nv, na, aV, aA⟩) (rest := []) (restC := []) (p := (qf ∧ qs) ∧ _) (fun hc => by rw [c3, b9, b6, b3] at hc; exact kk2.2.2 hc) q0 (fun hp => ff hp.1.1) (fun hp => fs hp.1.2) (fun M M' μ μ' cs hr => by simpa only [Reps, Rep] using hr) (bs := [.cells true 1 w.n (.fn (cxR (fun j => poP (ND E w.n) fv (E j) (thV (ND E w.n) (BR E w.n) fv fa om (E j)))))]) (nms := [13]) rfl (fun nm h => by rw [List.mem_singleton.1 h]; omega) (by decide) (by rw [c1, b7, b4, b1, kk2.1]; rfl) c2 (fun b hb => by
   rw [List.mem_singleton.1 hb]
   exact ⟨rfl, fun K i hi v hv => by rw [List.mem_singleton.1 hv]; rfl, fun S j hj o v hv => by
    match o, hv with
    | 0, hv => cases hv; trivial⟩) (by simp [AV.low, lows]) (by simp only [AV.inS, insS]; exact ⟨⟨by omega, by show g.nx < g.nx + 1; omega⟩, trivial, trivial⟩) (fun hp hk => ?_)
  obtain ⟨⟨hf, hs⟩, R⟩ := hp
  have F := ff hf
  have S := fs hs
  have hz := of_decide_eq_true R
  have h0 := hk 0 (by decide)
  refine (pa_goes om nv na w.n w.q w.r E fv fa F.n256 F.q_is F.r_is S.good).mono fun e fr' H' h => ?_
  obtain ⟨rfl, ⟨_, rfl, rfl⟩ | ⟨hz', _⟩⟩ := h
  ·refine ⟨.inl rfl, _, _, rfl, trivial, ?_, ⟨rfl, rfl, rfl⟩, fun j b hb => ?_⟩
   ·simp only [AV.ren, rens, AA.ren]
    rw [show kaG w g.nx [13] g.nx = 13 from h0]
    exact AV.ge.refl _
   ·match j, hb with
    | 0, hb => cases hb; exact (Sx.hs rfl)
  ·exact (hz' hz).elim
 | false =>
  rw [cond_false] at h
  obtain ⟨rfl, rfl⟩ := ret_done h
  refine solCall (K' := 15) (c := (bodyOf Try.f21)) Try.func21 (by kernel_rfl) (by kernel_rfl) (s := ⟨nv, na, aV, aA⟩) (rest := []) (restC := []) (p := (qf ∧ qs) ∧ _) (fun hc => by rw [b9, b6, b3] at hc; exact kk2.2.2 hc) q0 (fun hp => ff hp.1.1) (fun hp => fs hp.1.2) (fun M M' μ μ' cs hr => by simpa only [Reps, Rep] using hr) (bs := []) (nms := []) rfl (fun nm h => by cases h) List.nodup_nil (by rw [b7, b4, b1, kk2.1]; rfl) (by rw [b8, b5, b2, kk2.2.1]; rfl) (fun b hb => by cases hb) (by simp [AV.low, lows]) (by simp [AV.inS, insS]) (fun hp _ => ?_)
  obtain ⟨⟨hf, hs⟩, R⟩ := hp
  have F := ff hf
  have S := fs hs
  have hz := of_decide_eq_false R
  refine (pa_goes om nv na w.n w.q w.r E fv fa F.n256 F.q_is F.r_is S.good).mono fun e fr' H' h => ?_
  obtain ⟨rfl, ⟨hz', _⟩ | ⟨_, rfl, rfl⟩⟩ := h
  ·exact (hz hz').elim
  ·exact ⟨.inl rfl, _, _, rfl, trivial, AV.ge.refl _, ⟨rfl, rfl, rfl⟩, fun j b hb => by cases hb⟩
noncomputable def gamP : Known := kc 37 ofBits (kc 72 toBits (kc 80 smallS (kc 61 kindS (kc 58 rowOfS (kc 81 ofS (kc 59 nameS (kc 60 nodeS (kc 33 chkS (kc 87 constS (kc 86 cosS (kc 84 root2S (kc 66 phS (kc 19 finS (kc 12 pickS (kc 69 aofS (kc 8 netofS (kc 9 elsS (kc 38 numbersS (kc 70 voS (kc 68 vcS (kc 16 vlS (kc 42 thrS (kc 43 pofS (kc 40 ck2S (kc 47 caS (kc 21 paS (kn)))))))))))))))))))))))))))
theorem gamP_ok : KnownOk Try.prog gamP := kc_ok ((ofBits_is Try.prog).callIs Try.func37 (by kernel_rfl) (by kernel_rfl) (by kernel_rfl) (by kernel_rfl)) (kc_ok ((toBits_is Try.prog).callIs Try.func72 (by kernel_rfl) (by kernel_rfl) (by kernel_rfl) (by kernel_rfl)) (kc_ok smallS_ok (kc_ok kindS_ok (kc_ok rowOfS_ok (kc_ok ofS_ok (kc_ok nameS_ok (kc_ok nodeS_ok (kc_ok chkS_ok (kc_ok constS_ok (kc_ok cosS_ok (kc_ok root2S_ok (kc_ok phS_ok (kc_ok finS_ok (kc_ok pickS_ok (kc_ok aofS_ok (kc_ok netofS_ok (kc_ok elsS_ok (kc_ok numbersS_ok (kc_ok voS_ok (kc_ok vcS_ok (kc_ok vlS_ok (kc_ok thrS_ok (kc_ok pofS_ok (kc_ok ck2S_ok (kc_ok caS_ok (kc_ok paS_ok (kn_ok)))))))))))))))))))))))))))
theorem gamP_tch : KnownT gamP := kc_tch Tch.ofBits (kc_tch Tch.toBits (kc_tch smallS_tch (kc_tch kindS_tch (kc_tch rowOfS_tch (kc_tch ofS_tch (kc_tch nameS_tch (kc_tch nodeS_tch (kc_tch chkS_tch (kc_tch constS_tch (kc_tch cosS_tch (kc_tch root2S_tch (kc_tch phS_tch (kc_tch finS_tch (kc_tch pickS_tch (kc_tch aofS_tch (kc_tch netofS_tch (kc_tch elsS_tch (kc_tch numbersS_tch (kc_tch voS_tch (kc_tch vcS_tch (kc_tch vlS_tch (kc_tch thrS_tch (kc_tch pofS_tch (kc_tch ck2S_tch (kc_tch caS_tch (kc_tch paS_tch (kn_tch)))))))))))))))))))))))))))
noncomputable def callP : Calls' := Sx.runN Try.prog gamP (regionC Try.prog) 1000 50
theorem callP_ok : CallOk Try.prog callP := engineC gamP_ok gamP_tch (by kernel_rfl) (by kernel_rfl) 1000 50
theorem callP_reg (n : Nat) : RegionOk Try.prog (regionC Try.prog callP n) n := runN_regionC gamP_ok gamP_tch (by kernel_rfl) (by kernel_rfl) 1000 50 n
noncomputable abbrev piececallP (f : Func) (c : Code) (fr : Fr) (H : T ABk) (K : Nat) (path : List Bool) : Res (Ex × Fr) :=
 codeA Try.prog callP (regionC Try.prog callP f.ntmps) noLoops f.ntmps 1000 c fr ⟨H, K, [], path, True⟩


theorem tn_r0 (om nv na n q r : Nat) (E : Nat → El) (M1 M2 M3 : List (Tx × Int)) (nd br : Nat → Tx) (f h : Nat → Nat × Nat) (x : Tx) (c0 : NetQ n q r n q r M1 M2 M3 (Cont.row (.fn fun j => elR (E j))) (Cont.row (.fn (txR nd))) (Cont.row (.fn (txR br)))) (c1 : SolQ nv na nv na (Cont.row (.fn (cxR f))) (Cont.row (.fn (cxR h))) n E) (c2 : (!decide (ckE nv na (List.length (ND E n)) (List.length (BR E n)) f h = (0 : Int))) = false) (c3 : (!Option.isSome (lfind seq x (zipF (0 : Nat) (NM E n)))) = false) (c4 : (0 : Int) ≤ Option.getD (lfind seq x (zipF (0 : Nat) (NM E n))) (0 : Int)) (c5 : Option.getD (lfind seq x (zipF (0 : Nat) (NM E n))) (0 : Int) < (↑n : Int)) (c6 : (0 : Nat) + Int.toNat (Option.rec (0 : Int) (fun val => val) (lfind seq x (zipF (0 : Nat) (NM E n)))) < n) (c7 : (8 : Nat) ≤ (8 : Nat)) (c8 : NetQ n q r n q r (zipF (0 : Nat) (NM E n)) (zipF (0 : Nat) (ND E n)) (zipF (0 : Nat) (BR E n)) (Cont.row (.fn fun j => elR (E j))) (Cont.row (.fn (txR nd))) (Cont.row (.fn (txR br)))) (c9 : nv = q) (c10 : na = r) (c11 : El.k (E ((0 : Nat) + Int.toNat (Option.getD (lfind seq x (zipF (0 : Nat) (NM E n))) (0 : Int)))) = (5 : Int) ∨ El.k (E ((0 : Nat) + Int.toNat (Option.getD (lfind seq x (zipF (0 : Nat) (NM E n))) (0 : Int)))) = (7 : Int) → El.n (E ((0 : Nat) + Int.toNat (Option.getD (lfind seq x (zipF (0 : Nat) (NM E n))) (0 : Int)))) ∈ BR E n) : PieceN 20 (Ex.ret) [(6, .cpx true (Prod.fst (thV (ND E n) (BR E n) f h om (El.mk (El.k (E ((0 : Nat) + Int.toNat (Option.getD (lfind seq x (zipF (0 : Nat) (NM E n))) (0 : Int))))) (El.n (E ((0 : Nat) + Int.toNat (Option.getD (lfind seq x (zipF (0 : Nat) (NM E n))) (0 : Int))))) (El.a (E ((0 : Nat) + Int.toNat (Option.getD (lfind seq x (zipF (0 : Nat) (NM E n))) (0 : Int))))) (El.b (E ((0 : Nat) + Int.toNat (Option.getD (lfind seq x (zipF (0 : Nat) (NM E n))) (0 : Int))))) (El.c (E ((0 : Nat) + Int.toNat (Option.getD (lfind seq x (zipF (0 : Nat) (NM E n))) (0 : Int))))) (El.d (E ((0 : Nat) + Int.toNat (Option.getD (lfind seq x (zipF (0 : Nat) (NM E n))) (0 : Int))))) (El.v (E ((0 : Nat) + Int.toNat (Option.getD (lfind seq x (zipF (0 : Nat) (NM E n))) (0 : Int))))) (El.ph (E ((0 : Nat) + Int.toNat (Option.getD (lfind seq x (zipF (0 : Nat) (NM E n))) (0 : Int)))))))) (Prod.snd (thV (ND E n) (BR E n) f h om (El.mk (El.k (E ((0 : Nat) + Int.toNat (Option.getD (lfind seq x (zipF (0 : Nat) (NM E n))) (0 : Int))))) (El.n (E ((0 : Nat) + Int.toNat (Option.getD (lfind seq x (zipF (0 : Nat) (NM E n))) (0 : Int))))) (El.a (E ((0 : Nat) + Int.toNat (Option.getD (lfind seq x (zipF (0 : Nat) (NM E n))) (0 : Int))))) (El.b (E ((0 : Nat) + Int.toNat (Option.getD (lfind seq x (zipF (0 : Nat) (NM E n))) (0 : Int))))) (El.c (E ((0 : Nat) + Int.toNat (Option.getD (lfind seq x (zipF (0 : Nat) (NM E n))) (0 : Int))))) (El.d (E ((0 : Nat) + Int.toNat (Option.getD (lfind seq x (zipF (0 : Nat) (NM E n))) (0 : Int))))) (El.v (E ((0 : Nat) + Int.toNat (Option.getD (lfind seq x (zipF (0 : Nat) (NM E n))) (0 : Int))))) (El.ph (E ((0 : Nat) + Int.toNat (Option.getD (lfind seq x (zipF (0 : Nat) (NM E n))) (0 : Int))))))))), (7, .int true .i64 (thE (ND E n) (BR E n) f h om (El.mk (El.k (E ((0 : Nat) + Int.toNat (Option.getD (lfind seq x (zipF (0 : Nat) (NM E n))) (0 : Int))))) (El.n (E ((0 : Nat) + Int.toNat (Option.getD (lfind seq x (zipF (0 : Nat) (NM E n))) (0 : Int))))) (El.a (E ((0 : Nat) + Int.toNat (Option.getD (lfind seq x (zipF (0 : Nat) (NM E n))) (0 : Int))))) (El.b (E ((0 : Nat) + Int.toNat (Option.getD (lfind seq x (zipF (0 : Nat) (NM E n))) (0 : Int))))) (El.c (E ((0 : Nat) + Int.toNat (Option.getD (lfind seq x (zipF (0 : Nat) (NM E n))) (0 : Int))))) (El.d (E ((0 : Nat) + Int.toNat (Option.getD (lfind seq x (zipF (0 : Nat) (NM E n))) (0 : Int))))) (El.v (E ((0 : Nat) + Int.toNat (Option.getD (lfind seq x (zipF (0 : Nat) (NM E n))) (0 : Int))))) (El.ph (E ((0 : Nat) + Int.toNat (Option.getD (lfind seq x (zipF (0 : Nat) (NM E n))) (0 : Int))))))))] [(3, .mSI true (zipF (0 : Nat) (NM E n))), (4, .mSI true (zipF (0 : Nat) (ND E n))), (5, .mSI true (zipF (0 : Nat) (BR E n)))] (piececallP Try.f13 ((bodyOf Try.f13)) (frameOf [.ptr ⟨false, 2, 0, 0⟩, solV om nv na, .str true x] 0 .e) (hpL (nvs n q r nv na E M1 M2 M3 nd br f h)) 11 [false, false]) := eqn (by kernel_rfl) (ai (ai (ai (ai (ai (ai (ai (ai (ai (ai (ai trivial c0) c1) trivial) c2) c3) (ai c4 c5)) c6) c7) c8) c1) (ai c9 (ai c10 c11)))
theorem tn_r1 (om nv na n q r : Nat) (E : Nat → El) (M1 M2 M3 : List (Tx × Int)) (nd br : Nat → Tx) (f h : Nat → Nat × Nat) (x : Tx) (c0 : NetQ n q r n q r M1 M2 M3 (Cont.row (.fn fun j => elR (E j))) (Cont.row (.fn (txR nd))) (Cont.row (.fn (txR br)))) (c1 : SolQ nv na nv na (Cont.row (.fn (cxR f))) (Cont.row (.fn (cxR h))) n E) (c2 : (!decide (ckE nv na (List.length (ND E n)) (List.length (BR E n)) f h = (0 : Int))) = false) (c3 : (!Option.isSome (lfind seq x (zipF (0 : Nat) (NM E n)))) = true) : PieceN 20 (Ex.ret) [(6, .cpx false (0 : Nat) (0 : Nat)), (7, .int false .i64 10)] [(3, .mSI true (zipF (0 : Nat) (NM E n))), (4, .mSI true (zipF (0 : Nat) (ND E n))), (5, .mSI true (zipF (0 : Nat) (BR E n)))] (piececallP Try.f13 ((bodyOf Try.f13)) (frameOf [.ptr ⟨false, 2, 0, 0⟩, solV om nv na, .str true x] 0 .e) (hpL (nvs n q r nv na E M1 M2 M3 nd br f h)) 11 [false, true]) := eqn (by kernel_rfl) (ai (ai (ai (ai (ai trivial c0) c1) trivial) c2) c3)
theorem tn_r2 (om nv na n q r : Nat) (E : Nat → El) (M1 M2 M3 : List (Tx × Int)) (nd br : Nat → Tx) (f h : Nat → Nat × Nat) (x : Tx) (c0 : NetQ n q r n q r M1 M2 M3 (Cont.row (.fn fun j => elR (E j))) (Cont.row (.fn (txR nd))) (Cont.row (.fn (txR br)))) (c1 : SolQ nv na nv na (Cont.row (.fn (cxR f))) (Cont.row (.fn (cxR h))) n E) (c2 : (!decide (ckE nv na (List.length (ND E n)) (List.length (BR E n)) f h = (0 : Int))) = true) : PieceN 20 (Ex.ret) [(6, .cpx false (0 : Nat) (0 : Nat)), (7, .int true .i64 (ckE nv na (List.length (ND E n)) (List.length (BR E n)) f h))] [(3, .mSI true (zipF (0 : Nat) (NM E n))), (4, .mSI true (zipF (0 : Nat) (ND E n))), (5, .mSI true (zipF (0 : Nat) (BR E n)))] (piececallP Try.f13 ((bodyOf Try.f13)) (frameOf [.ptr ⟨false, 2, 0, 0⟩, solV om nv na, .str true x] 0 .e) (hpL (nvs n q r nv na E M1 M2 M3 nd br f h)) 11 [true]) := eqn (by kernel_rfl) (ai (ai (ai (ai trivial c0) c1) trivial) c2)


/-- what flows through the element of a name -/
noncomputable def tnR (nv na n : Nat) (E : Nat → El) (f h : Nat → Nat × Nat) (om : Nat) (x : Tx) : (Nat × Nat) × Int := bif decide ((ckE nv na (ND E n).length (BR E n).length f h) = 0) then (match pos x (NM E n) with
 | none => ((0, 0), 10)
 | some i => (thV (ND E n) (BR E n) f h om (E i), thE (ND E n) (BR E n) f h om (E i))) else ((0, 0), (ckE nv na (ND E n).length (BR E n).length f h))
theorem tn_goes (om nv na n q r : Nat) (E : Nat → El) (f h : Nat → Nat × Nat) (x : Tx) (hn : n ≤ 256) (hq : q = (ND E n).length) (hr : r = (BR E n).length) (hg : ∀ j, j < n → badE chkE E j = 0) :
  GoesB Try.prog (bodyOf Try.f13) Try.f13.ntmps 11 11 20 (frameOf [.ptr ⟨false, 2, 0, 0⟩, solV om nv na, .str true x] 0 .e) (hpL (nbl n q r E ++ solB nv na f h)) (fun e fr' H' => e = .ret ∧ (∃ s s', fr' = frL [(6, .cpx s (tnR nv na n E f h om x).1.1 (tnR nv na n E f h om x).1.2), (7, .int s' .i64 (tnR nv na n E f h om x).2)]) ∧ H' = hpL (mps n E)) := by
 have hz := find_zip x 0 (NM E n)
 unfold tnR
 by_cases z : (ckE nv na (ND E n).length (BR E n).length f h) = 0
 case neg =>
  rw [decide_eq_false z]
  refine (GoesB.runN callP_ok (callP_reg _) (LoopsIn.none _ _ _) (tn_r2 om nv na n q r E (zipF 0 (NM E n)) (zipF 0 (ND E n)) (zipF 0 (BR E n)) (lget (ND E n)) (lget (BR E n)) f h x (nqI hn hq hr) (sqI hg) (by rw [decide_eq_false z]; rfl)) (by omega)).mono fun e fr' H' h => ?_
  obtain ⟨rfl, rfl, rfl⟩ := h
  exact ⟨rfl, ⟨_, _, rfl⟩, rfl⟩
 obtain ⟨hv, ha⟩ := ckE_zero z
 have hv : nv = q := by omega
 have ha : na = r := by omega
 rw [decide_eq_true z]
 cases hp : pos x (NM E n) with
 | none =>
  rw [hp] at hz
  refine (GoesB.runN callP_ok (callP_reg _) (LoopsIn.none _ _ _) (tn_r1 om nv na n q r E (zipF 0 (NM E n)) (zipF 0 (ND E n)) (zipF 0 (BR E n)) (lget (ND E n)) (lget (BR E n)) f h x (nqI hn hq hr) (sqI hg) (by rw [decide_eq_true z]; rfl) (by rw [hz]; rfl)) (by omega)).mono fun e fr' H' h => ?_
  obtain ⟨rfl, rfl, rfl⟩ := h
  exact ⟨rfl, ⟨_, _, rfl⟩, rfl⟩
 | some i =>
  rw [hp] at hz
  have hi := (pos_lt hp).1
  rw [NM_len] at hi
  have hz : lfind seq x (zipF 0 (NM E n)) = some (i : Int) := by rw [hz]; simp
  have e0 : (0 : Nat) + Int.toNat (Option.getD (some (i : Int)) (0 : Int)) = i := by rw [Nat.zero_add]; rfl
  have hG := GoesB.runN (B := 11) callP_ok (callP_reg _) (LoopsIn.none _ _ _) (tn_r0 om nv na n q r E (zipF 0 (NM E n)) (zipF 0 (ND E n)) (zipF 0 (BR E n)) (lget (ND E n)) (lget (BR E n)) f h x (nqI hn hq hr) (sqI hg) (by rw [decide_eq_true z]; rfl) (by rw [hz]; rfl) (by rw [hz]; show (0 : Int) ≤ (i : Int); omega) (by rw [hz]; show (i : Int) < (n : Int); omega) (by rw [hz]; show 0 + Int.toNat (i : Int) < n; omega) (by omega) (nqI hn hq hr) hv ha (by rw [hz, e0]; exact fun k => BR_in hi (by unfold isBr; rcases k with k | k <;> rw [decide_eq_true k] <;> simp))) (by omega)
  rw [hz, e0] at hG
  refine hG.mono fun e fr' H' h => ?_
  obtain ⟨rfl, rfl, rfl⟩ := h
  exact ⟨rfl, ⟨_, _, rfl⟩, rfl⟩
noncomputable def thnS : List AV → M AV
 | [.ptr aN, .agg [.raw _ om, .slc _ true aV nv, .slc _ true aA na], .str _ x] => (M.okIf (flat0 aN)).andThen fun _ => (netRd aN.g).andThen fun y => (solRd aN.g y.1 y.2 ⟨nv, na, aV, aA⟩).andThen fun z => (M.req (True)).andThen fun _ => (M.setB y.1.m1 (.mSI true (zipF 0 (NM y.2 y.1.n)))).andThen fun _ => (M.setB y.1.m2 (.mSI true (zipF 0 (ND y.2 y.1.n)))).andThen fun _ => (M.setB y.1.m3 (.mSI true (zipF 0 (BR y.2 y.1.n)))).andThen fun _ => M.ret (.tup [.cpx true (tnR nv na y.1.n y.2 z.1 z.2 om x).1.1 (tnR nv na y.1.n y.2 z.1 z.2 om x).1.2, .int true .i64 (tnR nv na y.1.n y.2 z.1 z.2 om x).2])
 | _ => M.no
theorem thnS_tch : ∀ args, Tch (thnS args) := by
 intro args
 unfold thnS
 split
 ·exact (Tch.okIf _).andThen fun _ => (Tch_netRd _).andThen fun _ => (Tch_solRd _ _ _ _).andThen fun _ => (Tch.req _).andThen fun _ => (Tch.setB _ _).andThen fun _ => (Tch.setB _ _).andThen fun _ => (Tch.setB _ _).andThen fun _ => Tch.ret _
 ·exact Tch.no
theorem thnS_ok : ∀ args v g g', thnS args g = .done v g' → CallIs Try.prog 13 args v g g' := by
 intro args v g g' h
 unfold thnS at h
 split at h
 case h_2 => exact (no_done h).elim
 rename_i aN s0 om s1 aV nv s2 aA na s3 x
 obtain ⟨_, g1, a1, h⟩ := done_of h
 obtain ⟨q0, rfl⟩ := okIf_done a1
 have q0 := flat0_is q0
 obtain ⟨⟨w, E⟩, g3, a3, h⟩ := done_of h
 obtain ⟨qf, kk0, f0⟩ := netRd_done a3
 obtain ⟨⟨fv, fa⟩, g4, a4, h⟩ := done_of h
 obtain ⟨qs, kk1, f1⟩ := solRd_done a4
 obtain ⟨_, g5, a5, h⟩ := done_of h
 have kk2 := (kk0.trans kk1).trans (req_done a5)
 dsimp only at h f0 f1
 obtain ⟨_, g6, a6, h⟩ := done_of h
 obtain ⟨_, g7, a7, h⟩ := done_of h
 obtain ⟨_, g8, a8, h⟩ := done_of h
 obtain ⟨b1, b2, b3⟩ := setB_done a6
 obtain ⟨b4, b5, b6⟩ := setB_done a7
 obtain ⟨b7, b8, b9⟩ := setB_done a8
 obtain ⟨rfl, rfl⟩ := ret_done h
 have ff := f0
 have fs : qs → SolF g aN.g w E ⟨nv, na, aV, aA⟩ fv fa := fun h => (f1 h).at kk0.1
 refine solCall (K' := 20) (c := (bodyOf Try.f13)) Try.func13 (by kernel_rfl) (by kernel_rfl) (s := ⟨nv, na, aV, aA⟩) (rest := [.str s3 x]) (restC := [.str true x]) (p := (qf ∧ qs) ∧ _) (fun hc => by rw [b9, b6, b3] at hc; exact kk2.2.2 hc) q0 (fun hp => ff hp.1.1) (fun hp => fs hp.1.2) (fun M M' μ μ' cs hr => by simpa only [Reps, Rep] using hr) (bs := []) (nms := []) rfl (fun nm h => by cases h) List.nodup_nil (by rw [b7, b4, b1, kk2.1]; rfl) (by rw [b8, b5, b2, kk2.2.1]; rfl) (fun b hb => by cases hb) (by simp [AV.low, lows]) (by simp [AV.inS, insS]) (fun hp _ => ?_)
 obtain ⟨⟨hf, hs⟩, R⟩ := hp
 have F := ff hf
 have S := fs hs
 refine (tn_goes om nv na w.n w.q w.r E fv fa x F.n256 F.q_is F.r_is S.good).mono fun e fr' H' h => ?_
 obtain ⟨rfl, ⟨s, s', rfl⟩, rfl⟩ := h
 exact ⟨.inl rfl, _, _, rfl, trivial, AV.ge.tup2 (AV.ge.cpx' _ _ rfl rfl) (AV.ge.int _ _ _ _), ⟨rfl, rfl, rfl⟩, fun j b hb => by cases hb⟩
noncomputable def gamT : Known := kc 37 ofBits (kc 72 toBits (kc 80 smallS (kc 61 kindS (kc 58 rowOfS (kc 81 ofS (kc 59 nameS (kc 60 nodeS (kc 33 chkS (kc 87 constS (kc 86 cosS (kc 84 root2S (kc 66 phS (kc 19 finS (kc 12 pickS (kc 69 aofS (kc 8 netofS (kc 9 elsS (kc 38 numbersS (kc 70 voS (kc 68 vcS (kc 16 vlS (kc 42 thrS (kc 43 pofS (kc 40 ck2S (kc 47 caS (kc 21 paS (kc 13 thnS (kn))))))))))))))))))))))))))))
theorem gamT_ok : KnownOk Try.prog gamT := kc_ok ((ofBits_is Try.prog).callIs Try.func37 (by kernel_rfl) (by kernel_rfl) (by kernel_rfl) (by kernel_rfl)) (kc_ok ((toBits_is Try.prog).callIs Try.func72 (by kernel_rfl) (by kernel_rfl) (by kernel_rfl) (by kernel_rfl)) (kc_ok smallS_ok (kc_ok kindS_ok (kc_ok rowOfS_ok (kc_ok ofS_ok (kc_ok nameS_ok (kc_ok nodeS_ok (kc_ok chkS_ok (kc_ok constS_ok (kc_ok cosS_ok (kc_ok root2S_ok (kc_ok phS_ok (kc_ok finS_ok (kc_ok pickS_ok (kc_ok aofS_ok (kc_ok netofS_ok (kc_ok elsS_ok (kc_ok numbersS_ok (kc_ok voS_ok (kc_ok vcS_ok (kc_ok vlS_ok (kc_ok thrS_ok (kc_ok pofS_ok (kc_ok ck2S_ok (kc_ok caS_ok (kc_ok paS_ok (kc_ok thnS_ok (kn_ok))))))))))))))))))))))))))))
theorem gamT_tch : KnownT gamT := kc_tch Tch.ofBits (kc_tch Tch.toBits (kc_tch smallS_tch (kc_tch kindS_tch (kc_tch rowOfS_tch (kc_tch ofS_tch (kc_tch nameS_tch (kc_tch nodeS_tch (kc_tch chkS_tch (kc_tch constS_tch (kc_tch cosS_tch (kc_tch root2S_tch (kc_tch phS_tch (kc_tch finS_tch (kc_tch pickS_tch (kc_tch aofS_tch (kc_tch netofS_tch (kc_tch elsS_tch (kc_tch numbersS_tch (kc_tch voS_tch (kc_tch vcS_tch (kc_tch vlS_tch (kc_tch thrS_tch (kc_tch pofS_tch (kc_tch ck2S_tch (kc_tch caS_tch (kc_tch paS_tch (kc_tch thnS_tch (kn_tch))))))))))))))))))))))))))))
noncomputable def callT : Calls' := Sx.runN Try.prog gamT (regionC Try.prog) 1000 50
theorem callT_ok : CallOk Try.prog callT := engineC gamT_ok gamT_tch (by kernel_rfl) (by kernel_rfl) 1000 50
theorem callT_reg (n : Nat) : RegionOk Try.prog (regionC Try.prog callT n) n := runN_regionC gamT_ok gamT_tch (by kernel_rfl) (by kernel_rfl) 1000 50 n
noncomputable abbrev piececallT (f : Func) (c : Code) (fr : Fr) (H : T ABk) (K : Nat) (path : List Bool) : Res (Ex × Fr) :=
 codeA Try.prog callT (regionC Try.prog callT f.ntmps) noLoops f.ntmps 1000 c fr ⟨H, K, [], path, True⟩


theorem on_r0 (om nv na n q r : Nat) (E : Nat → El) (M1 M2 M3 : List (Tx × Int)) (nd br : Nat → Tx) (f h : Nat → Nat × Nat) (x : Tx) (c0 : NetQ n q r n q r M1 M2 M3 (Cont.row (.fn fun j => elR (E j))) (Cont.row (.fn (txR nd))) (Cont.row (.fn (txR br)))) (c1 : SolQ nv na nv na (Cont.row (.fn (cxR f))) (Cont.row (.fn (cxR h))) n E) (c2 : (!decide (Prod.snd (tnR nv na n E f h om x) = (0 : Int))) = false) (c3 : (!Option.isSome (lfind seq x (zipF (0 : Nat) (NM E n)))) = false) (c4 : (0 : Int) ≤ Option.getD (lfind seq x (zipF (0 : Nat) (NM E n))) (0 : Int)) (c5 : Option.getD (lfind seq x (zipF (0 : Nat) (NM E n))) (0 : Int) < (↑n : Int)) (c6 : (0 : Nat) + Int.toNat (Option.rec (0 : Int) (fun val => val) (lfind seq x (zipF (0 : Nat) (NM E n)))) < n) (c7 : (8 : Nat) ≤ (8 : Nat)) (c8 : NetQ n q r n q r (zipF (0 : Nat) (NM E n)) (zipF (0 : Nat) (ND E n)) (zipF (0 : Nat) (BR E n)) (Cont.row (.fn fun j => elR (E j))) (Cont.row (.fn (txR nd))) (Cont.row (.fn (txR br)))) (c9 : nv = q) (c10 : na = r) : PieceN 20 (Ex.ret) [(6, .cpx true (Prod.fst (poP (ND E n) f (El.mk (El.k (E ((0 : Nat) + Int.toNat (Option.getD (lfind seq x (zipF (0 : Nat) (NM E n))) (0 : Int))))) (El.n (E ((0 : Nat) + Int.toNat (Option.getD (lfind seq x (zipF (0 : Nat) (NM E n))) (0 : Int))))) (El.a (E ((0 : Nat) + Int.toNat (Option.getD (lfind seq x (zipF (0 : Nat) (NM E n))) (0 : Int))))) (El.b (E ((0 : Nat) + Int.toNat (Option.getD (lfind seq x (zipF (0 : Nat) (NM E n))) (0 : Int))))) (El.c (E ((0 : Nat) + Int.toNat (Option.getD (lfind seq x (zipF (0 : Nat) (NM E n))) (0 : Int))))) (El.d (E ((0 : Nat) + Int.toNat (Option.getD (lfind seq x (zipF (0 : Nat) (NM E n))) (0 : Int))))) (El.v (E ((0 : Nat) + Int.toNat (Option.getD (lfind seq x (zipF (0 : Nat) (NM E n))) (0 : Int))))) (El.ph (E ((0 : Nat) + Int.toNat (Option.getD (lfind seq x (zipF (0 : Nat) (NM E n))) (0 : Int)))))) (Prod.fst (Prod.fst (tnR nv na n E f h om x)), Prod.snd (Prod.fst (tnR nv na n E f h om x))))) (Prod.snd (poP (ND E n) f (El.mk (El.k (E ((0 : Nat) + Int.toNat (Option.getD (lfind seq x (zipF (0 : Nat) (NM E n))) (0 : Int))))) (El.n (E ((0 : Nat) + Int.toNat (Option.getD (lfind seq x (zipF (0 : Nat) (NM E n))) (0 : Int))))) (El.a (E ((0 : Nat) + Int.toNat (Option.getD (lfind seq x (zipF (0 : Nat) (NM E n))) (0 : Int))))) (El.b (E ((0 : Nat) + Int.toNat (Option.getD (lfind seq x (zipF (0 : Nat) (NM E n))) (0 : Int))))) (El.c (E ((0 : Nat) + Int.toNat (Option.getD (lfind seq x (zipF (0 : Nat) (NM E n))) (0 : Int))))) (El.d (E ((0 : Nat) + Int.toNat (Option.getD (lfind seq x (zipF (0 : Nat) (NM E n))) (0 : Int))))) (El.v (E ((0 : Nat) + Int.toNat (Option.getD (lfind seq x (zipF (0 : Nat) (NM E n))) (0 : Int))))) (El.ph (E ((0 : Nat) + Int.toNat (Option.getD (lfind seq x (zipF (0 : Nat) (NM E n))) (0 : Int)))))) (Prod.fst (Prod.fst (tnR nv na n E f h om x)), Prod.snd (Prod.fst (tnR nv na n E f h om x)))))), (7, .int true .i64 (poE (ND E n) f (El.mk (El.k (E ((0 : Nat) + Int.toNat (Option.getD (lfind seq x (zipF (0 : Nat) (NM E n))) (0 : Int))))) (El.n (E ((0 : Nat) + Int.toNat (Option.getD (lfind seq x (zipF (0 : Nat) (NM E n))) (0 : Int))))) (El.a (E ((0 : Nat) + Int.toNat (Option.getD (lfind seq x (zipF (0 : Nat) (NM E n))) (0 : Int))))) (El.b (E ((0 : Nat) + Int.toNat (Option.getD (lfind seq x (zipF (0 : Nat) (NM E n))) (0 : Int))))) (El.c (E ((0 : Nat) + Int.toNat (Option.getD (lfind seq x (zipF (0 : Nat) (NM E n))) (0 : Int))))) (El.d (E ((0 : Nat) + Int.toNat (Option.getD (lfind seq x (zipF (0 : Nat) (NM E n))) (0 : Int))))) (El.v (E ((0 : Nat) + Int.toNat (Option.getD (lfind seq x (zipF (0 : Nat) (NM E n))) (0 : Int))))) (El.ph (E ((0 : Nat) + Int.toNat (Option.getD (lfind seq x (zipF (0 : Nat) (NM E n))) (0 : Int)))))) (Prod.fst (Prod.fst (tnR nv na n E f h om x)), Prod.snd (Prod.fst (tnR nv na n E f h om x)))))] [(3, .mSI true (zipF (0 : Nat) (NM E n))), (4, .mSI true (zipF (0 : Nat) (ND E n))), (5, .mSI true (zipF (0 : Nat) (BR E n)))] (piececallT Try.f14 ((bodyOf Try.f14)) (frameOf [.ptr ⟨false, 2, 0, 0⟩, solV om nv na, .str true x] 0 .e) (hpL (nvs n q r nv na E M1 M2 M3 nd br f h)) 11 [false, false]) := eqn (by kernel_rfl) (ai (ai (ai (ai (ai (ai (ai (ai (ai (ai (ai trivial c0) c1) trivial) c2) c3) (ai c4 c5)) c6) c7) c8) c1) (ai c9 c10))
theorem on_r1 (om nv na n q r : Nat) (E : Nat → El) (M1 M2 M3 : List (Tx × Int)) (nd br : Nat → Tx) (f h : Nat → Nat × Nat) (x : Tx) (c0 : NetQ n q r n q r M1 M2 M3 (Cont.row (.fn fun j => elR (E j))) (Cont.row (.fn (txR nd))) (Cont.row (.fn (txR br)))) (c1 : SolQ nv na nv na (Cont.row (.fn (cxR f))) (Cont.row (.fn (cxR h))) n E) (c2 : (!decide (Prod.snd (tnR nv na n E f h om x) = (0 : Int))) = true) : PieceN 20 (Ex.ret) [(6, .cpx false (0 : Nat) (0 : Nat)), (7, .int true .i64 (Prod.snd (tnR nv na n E f h om x)))] [(3, .mSI true (zipF (0 : Nat) (NM E n))), (4, .mSI true (zipF (0 : Nat) (ND E n))), (5, .mSI true (zipF (0 : Nat) (BR E n)))] (piececallT Try.f14 ((bodyOf Try.f14)) (frameOf [.ptr ⟨false, 2, 0, 0⟩, solV om nv na, .str true x] 0 .e) (hpL (nvs n q r nv na E M1 M2 M3 nd br f h)) 11 [true]) := eqn (by kernel_rfl) (ai (ai (ai (ai trivial c0) c1) trivial) c2)


/-- the power of the element of a name -/
noncomputable def onR (nv na n : Nat) (E : Nat → El) (f h : Nat → Nat × Nat) (om : Nat) (x : Tx) : (Nat × Nat) × Int := bif decide ((tnR nv na n E f h om x).2 = 0) then (match pos x (NM E n) with
 | none => ((0, 0), 0)
 | some i => (poP (ND E n) f (E i) (tnR nv na n E f h om x).1, poE (ND E n) f (E i) (tnR nv na n E f h om x).1)) else ((0, 0), (tnR nv na n E f h om x).2)
theorem tnR_zero {nv na n : Nat} {E : Nat → El} {f h : Nat → Nat × Nat} {om : Nat} {x : Tx} (z : (tnR nv na n E f h om x).2 = 0) : (ckE nv na (ND E n).length (BR E n).length f h) = 0 ∧ ∃ i, pos x (NM E n) = some i ∧ i < n ∧ thE (ND E n) (BR E n) f h om (E i) = 0 ∧ (tnR nv na n E f h om x) = (thV (ND E n) (BR E n) f h om (E i), 0) := by
 unfold tnR at z ⊢
 by_cases c : (ckE nv na (ND E n).length (BR E n).length f h) = 0
 ·rw [decide_eq_true c] at z ⊢
  cases hp : pos x (NM E n) with
  | none => rw [hp] at z; exact absurd (show (10 : Int) = 0 from z) (by decide)
  | some i =>
   rw [hp] at z
   have hi := (pos_lt hp).1
   rw [NM_len] at hi
   have z : thE (ND E n) (BR E n) f h om (E i) = 0 := z
   exact ⟨c, i, rfl, hi, z, by show (thV (ND E n) (BR E n) f h om (E i), thE (ND E n) (BR E n) f h om (E i)) = _; rw [z]⟩
 ·rw [decide_eq_false c] at z; exact absurd z c
theorem on_goes (om nv na n q r : Nat) (E : Nat → El) (f h : Nat → Nat × Nat) (x : Tx) (hn : n ≤ 256) (hq : q = (ND E n).length) (hr : r = (BR E n).length) (hg : ∀ j, j < n → badE chkE E j = 0) :
  GoesB Try.prog (bodyOf Try.f14) Try.f14.ntmps 11 11 20 (frameOf [.ptr ⟨false, 2, 0, 0⟩, solV om nv na, .str true x] 0 .e) (hpL (nbl n q r E ++ solB nv na f h)) (fun e fr' H' => e = .ret ∧ (∃ s s', fr' = frL [(6, .cpx s (onR nv na n E f h om x).1.1 (onR nv na n E f h om x).1.2), (7, .int s' .i64 (onR nv na n E f h om x).2)]) ∧ H' = hpL (mps n E)) := by
 have hz := find_zip x 0 (NM E n)
 unfold onR
 by_cases z : (tnR nv na n E f h om x).2 = 0
 case neg =>
  rw [decide_eq_false z]
  refine (GoesB.runN callT_ok (callT_reg _) (LoopsIn.none _ _ _) (on_r1 om nv na n q r E (zipF 0 (NM E n)) (zipF 0 (ND E n)) (zipF 0 (BR E n)) (lget (ND E n)) (lget (BR E n)) f h x (nqI hn hq hr) (sqI hg) (by rw [decide_eq_false z]; rfl)) (by omega)).mono fun e fr' H' h => ?_
  obtain ⟨rfl, rfl, rfl⟩ := h
  exact ⟨rfl, ⟨_, _, rfl⟩, rfl⟩
 obtain ⟨c, i, hp, hi, hth, ht⟩ := tnR_zero z
 obtain ⟨hv, ha⟩ := ckE_zero c
 have hv : nv = q := by omega
 have ha : na = r := by omega
 rw [decide_eq_true z, hp]
 rw [hp] at hz
 have hz : lfind seq x (zipF 0 (NM E n)) = some (i : Int) := by rw [hz]; simp
 have e0 : (0 : Nat) + Int.toNat (Option.getD (some (i : Int)) (0 : Int)) = i := by rw [Nat.zero_add]; rfl
 have hG := GoesB.runN (B := 11) callT_ok (callT_reg _) (LoopsIn.none _ _ _) (on_r0 om nv na n q r E (zipF 0 (NM E n)) (zipF 0 (ND E n)) (zipF 0 (BR E n)) (lget (ND E n)) (lget (BR E n)) f h x (nqI hn hq hr) (sqI hg) (by rw [decide_eq_true z]; rfl) (by rw [hz]; rfl) (by rw [hz]; show (0 : Int) ≤ (i : Int); omega) (by rw [hz]; show (i : Int) < (n : Int); omega) (by rw [hz]; show 0 + Int.toNat (i : Int) < n; omega) (by omega) (nqI hn hq hr) hv ha) (by omega)
 rw [hz, e0] at hG
 refine hG.mono fun e fr' H' h => ?_
 obtain ⟨rfl, rfl, rfl⟩ := h
 exact ⟨rfl, ⟨_, _, rfl⟩, rfl⟩
noncomputable def ofnS : List AV → M AV
 | [.ptr aN, .agg [.raw _ om, .slc _ true aV nv, .slc _ true aA na], .str _ x] => (M.okIf (flat0 aN)).andThen fun _ => (netRd aN.g).andThen fun y => (solRd aN.g y.1 y.2 ⟨nv, na, aV, aA⟩).andThen fun z => (M.req (True)).andThen fun _ => (M.setB y.1.m1 (.mSI true (zipF 0 (NM y.2 y.1.n)))).andThen fun _ => (M.setB y.1.m2 (.mSI true (zipF 0 (ND y.2 y.1.n)))).andThen fun _ => (M.setB y.1.m3 (.mSI true (zipF 0 (BR y.2 y.1.n)))).andThen fun _ => M.ret (.tup [.cpx true (onR nv na y.1.n y.2 z.1 z.2 om x).1.1 (onR nv na y.1.n y.2 z.1 z.2 om x).1.2, .int true .i64 (onR nv na y.1.n y.2 z.1 z.2 om x).2])
 | _ => M.no
theorem ofnS_tch : ∀ args, Tch (ofnS args) := by
 intro args
 unfold ofnS
 split
 ·exact (Tch.okIf _).andThen fun _ => (Tch_netRd _).andThen fun _ => (Tch_solRd _ _ _ _).andThen fun _ => (Tch.req _).andThen fun _ => (Tch.setB _ _).andThen fun _ => (Tch.setB _ _).andThen fun _ => (Tch.setB _ _).andThen fun _ => Tch.ret _
 ·exact Tch.no
theorem ofnS_ok : ∀ args v g g', ofnS args g = .done v g' → CallIs Try.prog 14 args v g g' := by
 intro args v g g' h
 unfold ofnS at h
 split at h
 case h_2 => exact (no_done h).elim
 rename_i aN s0 om s1 aV nv s2 aA na s3 x
 obtain ⟨_, g1, a1, h⟩ := done_of h
 obtain ⟨q0, rfl⟩ := okIf_done a1
 have q0 := flat0_is q0
 obtain ⟨⟨w, E⟩, g3, a3, h⟩ := done_of h
 obtain ⟨qf, kk0, f0⟩ := netRd_done a3
 obtain ⟨⟨fv, fa⟩, g4, a4, h⟩ := done_of h
 obtain ⟨qs, kk1, f1⟩ := solRd_done a4
 obtain ⟨_, g5, a5, h⟩ := done_of h
 have kk2 := (kk0.trans kk1).trans (req_done a5)
 dsimp only at h f0 f1
 obtain ⟨_, g6, a6, h⟩ := done_of h
 obtain ⟨_, g7, a7, h⟩ := done_of h
 obtain ⟨_, g8, a8, h⟩ := done_of h
 obtain ⟨b1, b2, b3⟩ := setB_done a6
 obtain ⟨b4, b5, b6⟩ := setB_done a7
 obtain ⟨b7, b8, b9⟩ := setB_done a8
 obtain ⟨rfl, rfl⟩ := ret_done h
 have ff := f0
 have fs : qs → SolF g aN.g w E ⟨nv, na, aV, aA⟩ fv fa := fun h => (f1 h).at kk0.1
 refine solCall (K' := 20) (c := (bodyOf Try.f14)) Try.func14 (by kernel_rfl) (by kernel_rfl) (s := ⟨nv, na, aV, aA⟩) (rest := [.str s3 x]) (restC := [.str true x]) (p := (qf ∧ qs) ∧ _) (fun hc => by rw [b9, b6, b3] at hc; exact kk2.2.2 hc) q0 (fun hp => ff hp.1.1) (fun hp => fs hp.1.2) (fun M M' μ μ' cs hr => by simpa only [Reps, Rep] using hr) (bs := []) (nms := []) rfl (fun nm h => by cases h) List.nodup_nil (by rw [b7, b4, b1, kk2.1]; rfl) (by rw [b8, b5, b2, kk2.2.1]; rfl) (fun b hb => by cases hb) (by simp [AV.low, lows]) (by simp [AV.inS, insS]) (fun hp _ => ?_)
 obtain ⟨⟨hf, hs⟩, R⟩ := hp
 have F := ff hf
 have S := fs hs
 refine (on_goes om nv na w.n w.q w.r E fv fa x F.n256 F.q_is F.r_is S.good).mono fun e fr' H' h => ?_
 obtain ⟨rfl, ⟨s, s', rfl⟩, rfl⟩ := h
 exact ⟨.inl rfl, _, _, rfl, trivial, AV.ge.tup2 (AV.ge.cpx' _ _ rfl rfl) (AV.ge.int _ _ _ _), ⟨rfl, rfl, rfl⟩, fun j b hb => by cases hb⟩


theorem awake_run : pureP (.bool true) (call0 7 [] (G.on [])) = (AV.bool true = AV.bool true ∧ True) := by kernel_rfl
noncomputable def awakeS : List AV → M AV
 | [] => M.ret (.bool true)
 | args => call0 7 args
theorem awakeS_ok : ∀ args v g g', awakeS args g = .done v g' → CallIs Try.prog 7 args v g g' := by
 intro args v g g' h
 unfold awakeS at h
 split at h
 ·obtain ⟨rfl, rfl⟩ := ret_done h
  refine scal call0_ok fun μ cargs ha => ?_
  have ha' : Reps 0 MM.none [] cargs.toList := by simpa only [Reps] using ha
  exact ⟨[], [], _, ha', ⟨by rw [awake_run]; exact ⟨rfl, trivial⟩⟩, rfl, fun c hc => by have := hc g.nx μ; simpa only [Rep] using this⟩
 ·exact call0_ok _ _ _ _ _ h
theorem awakeS_tch : ∀ args, Tch (awakeS args) := by
 intro args
 unfold awakeS
 split
 ·exact Tch.ret _
 ·exact call0_tch _ _


noncomputable def gamU : Known := kc 37 ofBits (kc 72 toBits (kc 80 smallS (kc 61 kindS (kc 58 rowOfS (kc 81 ofS (kc 59 nameS (kc 60 nodeS (kc 33 chkS (kc 87 constS (kc 86 cosS (kc 84 root2S (kc 66 phS (kc 19 finS (kc 12 pickS (kc 69 aofS (kc 8 netofS (kc 9 elsS (kc 38 numbersS (kc 70 voS (kc 68 vcS (kc 16 vlS (kc 42 thrS (kc 43 pofS (kc 40 ck2S (kc 47 caS (kc 21 paS (kc 13 thnS (kc 14 ofnS (kc 7 awakeS (kn))))))))))))))))))))))))))))))
theorem gamU_ok : KnownOk Try.prog gamU := kc_ok ((ofBits_is Try.prog).callIs Try.func37 (by kernel_rfl) (by kernel_rfl) (by kernel_rfl) (by kernel_rfl)) (kc_ok ((toBits_is Try.prog).callIs Try.func72 (by kernel_rfl) (by kernel_rfl) (by kernel_rfl) (by kernel_rfl)) (kc_ok smallS_ok (kc_ok kindS_ok (kc_ok rowOfS_ok (kc_ok ofS_ok (kc_ok nameS_ok (kc_ok nodeS_ok (kc_ok chkS_ok (kc_ok constS_ok (kc_ok cosS_ok (kc_ok root2S_ok (kc_ok phS_ok (kc_ok finS_ok (kc_ok pickS_ok (kc_ok aofS_ok (kc_ok netofS_ok (kc_ok elsS_ok (kc_ok numbersS_ok (kc_ok voS_ok (kc_ok vcS_ok (kc_ok vlS_ok (kc_ok thrS_ok (kc_ok pofS_ok (kc_ok ck2S_ok (kc_ok caS_ok (kc_ok paS_ok (kc_ok thnS_ok (kc_ok ofnS_ok (kc_ok awakeS_ok (kn_ok))))))))))))))))))))))))))))))
theorem gamU_tch : KnownT gamU := kc_tch Tch.ofBits (kc_tch Tch.toBits (kc_tch smallS_tch (kc_tch kindS_tch (kc_tch rowOfS_tch (kc_tch ofS_tch (kc_tch nameS_tch (kc_tch nodeS_tch (kc_tch chkS_tch (kc_tch constS_tch (kc_tch cosS_tch (kc_tch root2S_tch (kc_tch phS_tch (kc_tch finS_tch (kc_tch pickS_tch (kc_tch aofS_tch (kc_tch netofS_tch (kc_tch elsS_tch (kc_tch numbersS_tch (kc_tch voS_tch (kc_tch vcS_tch (kc_tch vlS_tch (kc_tch thrS_tch (kc_tch pofS_tch (kc_tch ck2S_tch (kc_tch caS_tch (kc_tch paS_tch (kc_tch thnS_tch (kc_tch ofnS_tch (kc_tch awakeS_tch (kn_tch))))))))))))))))))))))))))))))
noncomputable def callU : Calls' := Sx.runN Try.prog gamU (regionC Try.prog) 1000 50
theorem callU_ok : CallOk Try.prog callU := engineC gamU_ok gamU_tch (by kernel_rfl) (by kernel_rfl) 1000 50
theorem callU_reg (n : Nat) : RegionOk Try.prog (regionC Try.prog callU n) n := runN_regionC gamU_ok gamU_tch (by kernel_rfl) (by kernel_rfl) 1000 50 n
noncomputable abbrev piececallU (f : Func) (c : Code) (fr : Fr) (H : T ABk) (K : Nat) (path : List Bool) : Res (Ex × Fr) :=
 codeA Try.prog callU (regionC Try.prog callU f.ntmps) noLoops f.ntmps 1000 c fr ⟨H, K, [], path, True⟩


theorem rcU {fn : Func} {K K' B : Nat} {e : Ex} {F : List (Nat × AV)} {Hl : List (Nat × ABk)} {c : Code} {fr : Fr} {H : T ABk} {path : List Bool} (h : PieceN K' e F Hl (piececallU fn c fr H K path)) (hB : B ≤ K) : GoesB Try.prog c fn.ntmps B K K' fr H fun e' fr' H' => e' = e ∧ fr' = frL F ∧ H' = hpL Hl := GoesB.runN callU_ok (callU_reg _) (LoopsIn.none _ _ _) h hB
/-- not below nought, or no number -/
def P0 (x : Nat) : Prop := x < 9223372036854775808 ∨ x % 9223372036854775808 = 0
theorem P0.of {x : Nat} (h : x < 9223372036854775808) : P0 x := .inl h
theorem P0.e0 {x y : Nat} (h : P0 x) (e : E0 y x) : P0 y := by
 rcases e with rfl | ⟨e, _⟩
 ·exact h
 ·exact .inr e
theorem P0_qn : P0 qn := .inl (by decide)
theorem fge_P0 {x : Nat} (hx : x < 18446744073709551616) (hn : isnan x = false) (h : P0 x) : fge x 0 = true := by
 rw [fge_rk hx (by omega), hn]
 have i0 : isnan 0 = false := by decide
 have r0 : rk 0 = 0 := by decide
 rw [i0, r0]
 have : (0 : Int) ≤ rk x := by
  unfold rk
  split <;> rcases h with h | h <;> omega
 simp [this]
theorem zmul {z x : Nat} (hz : z < 18446744073709551616) (h : z % 9223372036854775808 = 0) (hf : x % 9223372036854775808 < 9218868437227405312) : fmul z x % 9223372036854775808 = 0 := by
 by_cases c : z = 0
 ·subst c; exact fmul_zero hf
 ·have e : z = fneg 0 := by
   have : fneg 0 = 9223372036854775808 := by decide
   rw [this]; omega
  rw [e, fmul_neg x (by omega)]
  exact fneg_zero (fmul_zero hf)
theorem neg_of {v : Nat} (hv : v < 18446744073709551616) (hf : v % 9223372036854775808 < 9218868437227405312) (h : ¬ v < 9223372036854775808) : ∃ u, u < 9223372036854775808 ∧ v = fneg u ∧ u % 9223372036854775808 < 9218868437227405312 := by
 refine ⟨v - 9223372036854775808, by omega, ?_, by omega⟩
 have hw : (v - 9223372036854775808) ^^^ 9223372036854775808 = 9223372036854775808 + (v - 9223372036854775808) := neg_word (by omega)
 unfold fneg
 rw [hw]
 have : isnan (9223372036854775808 + (v - 9223372036854775808)) = false := by unfold isnan; exact decide_eq_false (by omega)
 rw [cn_of_not this]
 omega
theorem fneg2_le {x : Nat} (h : x < 9223372036854775808) (hc : cn x = x) : fneg (fneg x) = x := by
 cases n : isnan x with
 | true =>
  have e : x = qn := by rw [← hc, cn_of_nan n]
  rw [e]; decide
 | false =>
  rcases fneg_cases x with ⟨a, _⟩ | ⟨_, a, b⟩
  ·rw [n] at a; cases a
  ·have hw : x ^^^ 9223372036854775808 = 9223372036854775808 + x := neg_word h
   have e1 : fneg x = 9223372036854775808 + x := by
    unfold fneg
    rw [hw]
    have : isnan (9223372036854775808 + x) = false := by unfold isnan at n ⊢; have := of_decide_eq_false n; exact decide_eq_false (by omega)
    rw [cn_of_not this]
   rw [e1]
   unfold fneg
   have e2 : (9223372036854775808 + x) ^^^ 9223372036854775808 = x := by
    rw [← hw, Nat.xor_assoc, Nat.xor_self, Nat.xor_zero]
   rw [e2, hc]
/-- a number times its product with one above nought -/
theorem P0_sq {g v : Nat} (hg : g < 9223372036854775808) (hv : v < 18446744073709551616) (hf : v % 9223372036854775808 < 9218868437227405312) : P0 (fmul v (fmul g v)) := by
 by_cases c : v < 9223372036854775808
 ·exact .inl (fmul_pos c (fmul_pos hg c))
 ·obtain ⟨u, hu, rfl, _⟩ := neg_of hv hf c
  have e1 : fmul g (fneg u) = fneg (fmul g u) := by rw [fmul_comm, fmul_neg g (by omega), fmul_comm]
  have e2 : fmul (fneg u) (fneg (fmul g u)) = fmul u (fmul g u) := by
   rw [fmul_neg _ (by omega), fmul_comm u, fmul_neg _ (fmul_lt _ _), fmul_comm _ u]
   exact fneg2_le (fmul_pos hu (fmul_pos hg hu)) (cn_fmul _ _)
  rw [e1, e2]
  exact .inl (fmul_pos hu (fmul_pos hg hu))
theorem P0_part {g v c : Nat} (hg : g < 9223372036854775808) (hv : v < 18446744073709551616) (hf : v % 9223372036854775808 < 9218868437227405312) (hc : c < 18446744073709551616) (e : E0 c (fmul g v)) : P0 (fmul v c) := by
 rcases e with rfl | ⟨e, _⟩
 ·exact P0_sq hg hv hf
 ·refine .inr ?_
  rw [fmul_comm]
  exact zmul hc e hf
theorem P0_add {a b : Nat} (fa : Fw a) (fb : Fw b) (ha : P0 a) (hb : P0 b) : P0 (fadd a b) := by
 cases na : isnan a with
 | true => rw [fadd_nan (.inl na)]; exact P0_qn
 | false =>
  cases nb : isnan b with
  | true => rw [fadd_nan (.inr nb)]; exact P0_qn
  | false =>
   rcases ha with ha | ha
   ·rcases hb with hb | hb
    ·unfold isnan at na nb
     have na := of_decide_eq_false na
     have nb := of_decide_eq_false nb
     have := (fadd_ge (x := a) (y := b) (by omega) (by omega)).2
     exact .inl (by omega)
    ·exact (P0.of ha).e0 (fadd_zero fa hb)
   ·rw [fadd_comm]
    exact hb.e0 (fadd_zero fb ha)
theorem P0_mul {h x : Nat} (hh : h < 9223372036854775808) (hf : h % 9223372036854775808 < 9218868437227405312) (hx : x < 18446744073709551616) (p : P0 x) : P0 (fmul h x) := by
 rcases p with p | p
 ·exact .inl (fmul_pos hh p)
 ·refine .inr ?_
  rw [fmul_comm]
  exact zmul hx p hf
theorem E0_sub {x z : Nat} (hx : Fw x) (hz : z % 9223372036854775808 = 0) (hl : z < 18446744073709551616) : E0 (fsub x z) x := by
 have n : isnan z = false := by unfold isnan; exact decide_eq_false (by omega)
 rw [fsub_is hl n]
 exact fadd_zero hx (fneg_zero hz)
/-- the heat of a conductance g at the volts v1, v2 -/
theorem heat {g v1 v2 : Nat} (hg : g < 9223372036854775808) (h1 : v1 < 18446744073709551616) (f1 : v1 % 9223372036854775808 < 9218868437227405312) (h2 : v2 < 18446744073709551616) (f2 : v2 % 9223372036854775808 < 9218868437227405312) :
  P0 (fsub (fmul v1 (fsub (fmul g v1) (fmul 0 v2))) (fmul v2 (fneg (fadd (fmul g v2) (fmul 0 v1))))) := by
 have a := P0_part hg h1 f1 (fsub_lt _ _) (E0_sub (Fw.fmul g v1) (fmul_zero f2) (fmul_lt _ _))
 have b := P0_part hg h2 f2 (fadd_lt _ _) (fadd_zero (Fw.fmul g v2) (fmul_zero f1))
 revert a b
 generalize hc : fsub (fmul g v1) (fmul 0 v2) = c1
 generalize hd : fadd (fmul g v2) (fmul 0 v1) = c2
 intro a b
 have l2 : c2 < 18446744073709551616 := by rw [← hd]; exact fadd_lt _ _
 have e : fmul v2 (fneg c2) = fneg (fmul v2 c2) := by rw [fmul_comm, fmul_neg _ l2, fmul_comm]
 rw [e]
 cases n : isnan (fmul v2 c2) with
 | true =>
  have n2 : isnan (fneg (fmul v2 c2)) = true := by rw [fneg_nan n]; decide
  have : fsub (fmul v1 c1) (fneg (fmul v2 c2)) = qn := by
   rw [fneg_nan n]
   unfold fsub Ieee.Format.sub
   have t := read_nan qn
   have q : isnan qn = true := by decide
   rw [q] at t
   cases e : Ieee.double.read qn <;> rw [e] at t <;> first | (cases Ieee.double.read (fmul v1 c1) <;> rfl) | cases t
  rw [this]; exact P0_qn
 | false =>
  have n2 : isnan (fneg (fmul v2 c2)) = false := by
   rcases fneg_cases (fmul v2 c2) with ⟨x, _⟩ | ⟨_, _, x⟩
   ·rw [n] at x; cases x
   ·exact x
  rw [fsub_is (fneg_lt (fmul_lt _ _)) n2]
  have key : fneg (fneg (fmul v2 c2)) = fmul v2 c2 := by
   rcases b with b | b
   ·exact fneg2_le b (cn_fmul _ _)
   ·by_cases z : fmul v2 c2 = 0
    ·rw [z]; decide
    ·have : fmul v2 c2 = 9223372036854775808 := by have := fmul_lt v2 c2; omega
     rw [this]; decide
  rw [key]
  exact P0_add (Fw.fmul _ _) (Fw.fmul _ _) a b


theorem fin_is {x y : Nat} (hx : Fw x) (hy : Fw y) (h : fin_0 x y = true) : x % 9223372036854775808 < 9218868437227405312 ∧ y % 9223372036854775808 < 9218868437227405312 := by
 have c0 : cn 0 = 0 := by decide
 have a : ∀ {x : Nat}, Fw x → feq (fsub x x) 0 = finD x := fun {x} hx => by
  have := fin_sub hx.1
  rw [hx.2, c0] at this
  exact this
 unfold fin_0 at h
 rw [a hx, a hy] at h
 cases e : finD x with
 | true =>
  rw [e] at h
  have h : finD y = true := h
  unfold finD at e h
  exact ⟨of_decide_eq_true e, of_decide_eq_true h⟩
 | false => rw [e] at h; cases h
theorem fin_nn {x : Nat} (h : x % 9223372036854775808 < 9218868437227405312) : isnan x = false := by unfold isnan; exact decide_eq_false (by omega)
theorem row2_1 : rowOf_2 1 = true := by decide +kernel
theorem row2_8 : rowOf_2 8 = true := by decide +kernel
theorem chk_val {k : Int} {n a b c d : List UInt8} {v : Nat} {ph : Int} (hk : rowOf_2 k = true) (h : chk_0 k n a b c d v ph = 0) : decide ((2 : Int) < kindDef v) = false ∧ fle (cn v) 0 = false := by
 have L : ∀ {b : Bool} {x c : Int}, c ≠ 0 → (bif b then x else c) = 0 → x = 0 := fun {b} {x} {c} n e => by
  cases b
  ·exact absurd e n
  ·exact e
 have L' : ∀ {b : Bool} {x c : Int}, c ≠ 0 → (bif b then c else x) = 0 → x = 0 := fun {b} {x} {c} n e => by
  cases b
  ·exact e
  ·exact absurd e n
 have L2 : ∀ {b : Bool} {x y : Int}, (bif b then x else y) = 0 → x = 0 ∨ y = 0 := fun {b} {x} {y} e => by
  cases b
  ·exact .inr e
  ·exact .inl e
 have D2 : (2 : Int) ≠ 0 := by decide
 have D5 : (5 : Int) ≠ 0 := by decide
 have D8 : (8 : Int) ≠ 0 := by decide
 unfold chk_0 at h
 rw [hk] at h
 have fin : (bif decide ((2 : Int) < kindDef v) then (5 : Int) else (bif true then (bif fle (cn v) 0 then (2 : Int) else 0) else 0)) = 0 → decide ((2 : Int) < kindDef v) = false ∧ fle (cn v) 0 = false := fun e => by
  cases h1 : decide ((2 : Int) < kindDef v) with
  | true => rw [h1] at e; exact absurd e D5
  | false =>
   rw [h1] at e
   cases h2 : fle (cn v) 0 with
   | true => rw [h2] at e; exact absurd e D2
   | false => exact ⟨rfl, rfl⟩
 have h := L D8 (L D8 (L D8 (L D8 (L D2 h))))
 rcases L2 h with h | h
 ·have h := L' D2 (L D8 (L D8 h))
  rcases L2 h with h | h
  ·exact fin h
  ·exact fin (L D2 h)
 ·have h := L D2 (L D2 (L' D2 h))
  rcases L2 h with h | h
  ·exact fin h
  ·exact fin (L D2 h)
theorem aof_res {z : El} {om : Nat} (hk : z.k = 1 ∨ z.k = 8) (hv : z.v < 18446744073709551616) (h : (aofE z om).2.2 = 0) : ∃ g, g < 9223372036854775808 ∧ (aofE z om).1 = g ∧ (aofE z om).2.1 = 0 := by
 have h : aof_2 z.k z.n z.a z.b z.c z.d z.v z.ph om = 0 := h
 show ∃ g, g < 9223372036854775808 ∧ aof_0 z.k z.n z.a z.b z.c z.d z.v z.ph om = g ∧ aof_1 z.k z.n z.a z.b z.c z.d z.v z.ph om = 0
 unfold aof_2 at h
 unfold aof_0 aof_1
 cases h1 : feq (fsub (cn om) (cn om)) 0 <;> rw [h1] at h
 ·exact absurd (show (5 : Int) = 0 from h) (by decide)
 cases h2 : fgt (cn om) 0 <;> rw [h2] at h
 ·exact absurd (show (2 : Int) = 0 from h) (by decide)
 by_cases h3 : chk_0 z.k z.n z.a z.b z.c z.d z.v z.ph = 0
 ·rw [decide_eq_true h3] at h ⊢
  have hr : rowOf_2 z.k = true := by rcases hk with e | e <;> rw [e] <;> first | exact row2_1 | exact row2_8
  obtain ⟨q1, q2⟩ := chk_val hr h3
  have c0 : cn 0 = 0 := by decide
  have hp := le_pos hv q1 (by rw [c0]; exact q2)
  have hg : fdiv 4607182418800017408 (cn z.v) < 9223372036854775808 := fdiv_pos (by omega) hp
  cases h4 : feq (fsub (fdiv 4607182418800017408 (cn z.v)) (fdiv 4607182418800017408 (cn z.v))) 0 with
  | true =>
   rcases hk with e | e <;> rw [e] <;> exact ⟨_, hg, rfl, rfl⟩
  | false =>
   rw [h4] at h
   rcases hk with e | e <;> rw [e] at h <;> exact absurd (show (6 : Int) = 0 from h) (by decide)
 ·rw [decide_eq_false h3] at h
  exact absurd h h3
theorem thE_X {nodes brs : List Tx} {f h : Nat → Nat × Nat} {om : Nat} {z : El} (e : thE nodes brs f h om z = 0) : thX om z = 0 := by
 unfold thE at e
 by_cases c : thX om z = 0
 ·exact c
 ·rw [decide_eq_false c] at e; exact absurd e c
theorem thE_V {nodes brs : List Tx} {f h : Nat → Nat × Nat} {om : Nat} {z : El} (e : thE nodes brs f h om z = 0) : thV nodes brs f h om z = thC nodes brs f h om z := by
 unfold thV; rw [e]; rfl
/-- a heat is not below nought -/
theorem po_heat {nodes brs : List Tx} {f h : Nat → Nat × Nat} {om : Nat} {z : El} (hk : z.k = 1 ∨ z.k = 8) (hv : z.v < 18446744073709551616) (e : thE nodes brs f h om z = 0) (fv : fin_0 (poV nodes f z).1 (poV nodes f z).2 = true) : P0 (poC nodes f z (thV nodes brs f h om z)).1 := by
 have k4 : ¬ z.k = 4 := by omega
 have k5 : ¬ z.k = 5 := by omega
 have k6 : ¬ z.k = 6 := by omega
 have k7 : ¬ z.k = 7 := by omega
 have x := thE_X e
 unfold thX at x
 rw [decide_eq_false k4, decide_eq_false k5, decide_eq_false k7, decide_eq_false k6] at x
 obtain ⟨g, hg, g1, g2⟩ := aof_res hk hv x
 have c : thC nodes brs f h om z = cmulE (g, 0) (poV nodes f z) := by
  unfold thC
  rw [decide_eq_false k4, decide_eq_false k5, decide_eq_false k7, decide_eq_false k6, g1, g2]
  rfl
 rw [thE_V e, c]
 obtain ⟨f1, f2⟩ := fin_is (Fw.fsub _ _) (Fw.fsub _ _) fv
 exact P0_mul (by omega) (by omega) (fsub_lt _ _) (heat hg (fsub_lt _ _) f1 (fsub_lt _ _) f2)
/-- the law's own power is the program's -/
noncomputable def lwW (nodes : List Tx) (f : Nat → Nat × Nat) (z : El) (c : Nat × Nat) : Nat × Nat := (fmul (cmulE (poV nodes f z) (c.1, fneg c.2)).1 4602678819172646912, fmul (cmulE (poV nodes f z) (c.1, fneg c.2)).2 4602678819172646912)
theorem lwW_is (nodes : List Tx) (f : Nat → Nat × Nat) (z : El) (c : Nat × Nat) : lwW nodes f z c = poC nodes f z c := by
 unfold lwW poC
 rw [fmul_comm _ 4602678819172646912, fmul_comm _ 4602678819172646912]


theorem lwA_r0 (n nv na om : Nat) (wh : Int) (G : Nat → El) (va aa : Nat → Nat × Nat) : PieceN 4 (Ex.normal) [(0, .slc true false ⟨false, 0, 0, 0⟩ n), (2, .int true .i64 wh), (4, .ptr ⟨false, 3, 0, 0⟩)] [(0, .cells false 8 n (.fn fun j => [.int true .u8 (El.k (G j)), .str true (El.n (G j)), .str true (El.a (G j)), .str true (El.b (G j)), .str true (El.c (G j)), .str true (El.d (G j)), .int true .u64 (↑(El.v (G j)) : Int), .int true .i64 (El.ph (G j))])), (1, .cells false 2 nv (.fn fun j => [.int true .u64 (↑(Prod.fst (va j)) : Int), .int true .u64 (↑(Prod.snd (va j)) : Int)])), (2, .cells false 2 na (.fn fun j => [.int true .u64 (↑(Prod.fst (aa j)) : Int), .int true .u64 (↑(Prod.snd (aa j)) : Int)])), (3, .cells true 3 1 (.lit [] (.n .e (some [.int true .u64 (↑om : Int), .slc true false ⟨false, 1, 0, 0⟩ nv, .slc true false ⟨false, 2, 0, 0⟩ na]) .e)))] (piececallU Try.f3 ((nav [0] (bodyOf Try.f3))) (frameOf [.slc true false ⟨false, 0, 0, 0⟩ n, .agg [.int true .u64 (om : Nat), .slc true false ⟨false, 1, 0, 0⟩ nv, .slc true false ⟨false, 2, 0, 0⟩ na], .int true .i64 wh] 0 .e) (hpL [(0, .cells false 8 n (.fn fun j => zR (G j))), (1, .cells false 2 nv (.fn fun j => [.int true .u64 ((va j).1 : Nat), .int true .u64 ((va j).2 : Nat)])), (2, .cells false 2 na (.fn fun j => [.int true .u64 ((aa j).1 : Nat), .int true .u64 ((aa j).2 : Nat)]))]) 3 []) := eqn (by kernel_rfl) trivial
theorem lwB_r0 (n nv na om : Nat) (wh : Int) (G : Nat → El) (va aa : Nat → Nat × Nat) : PieceN 4 (Ex.normal) [(0, .slc true false ⟨false, 0, 0, 0⟩ n), (2, .int true .i64 wh), (4, .ptr ⟨false, 3, 0, 0⟩), (7, .bool true)] [(0, .cells false 8 n (.fn fun j => [.int true .u8 (El.k (G j)), .str true (El.n (G j)), .str true (El.a (G j)), .str true (El.b (G j)), .str true (El.c (G j)), .str true (El.d (G j)), .int true .u64 (↑(El.v (G j)) : Int), .int true .i64 (El.ph (G j))])), (1, .cells false 2 nv (.fn fun j => [.int true .u64 (↑(Prod.fst (va j)) : Int), .int true .u64 (↑(Prod.snd (va j)) : Int)])), (2, .cells false 2 na (.fn fun j => [.int true .u64 (↑(Prod.fst (aa j)) : Int), .int true .u64 (↑(Prod.snd (aa j)) : Int)])), (3, .cells true 3 1 (.fn fun x => [.int true .u64 (↑om : Int), .slc true false ⟨false, 1, 0, 0⟩ nv, .slc true false ⟨false, 2, 0, 0⟩ na]))] (piececallU Try.f3 ((nav [1,0] (bodyOf Try.f3))) (frL [(0, .slc true false ⟨false, 0, 0, 0⟩ n), (2, .int true .i64 wh), (4, .ptr ⟨false, 3, 0, 0⟩)]) (hpL [(0, .cells false 8 n (.fn fun j => zR (G j))), (1, .cells false 2 nv (.fn fun j => [.int true .u64 ((va j).1 : Nat), .int true .u64 ((va j).2 : Nat)])), (2, .cells false 2 na (.fn fun j => [.int true .u64 ((aa j).1 : Nat), .int true .u64 ((aa j).2 : Nat)])), (3, .cells true 3 1 (.fn fun _ => [.int true .u64 (om : Nat), .slc true false ⟨false, 1, 0, 0⟩ nv, .slc true false ⟨false, 2, 0, 0⟩ na]))]) 4 []) := eqn (by kernel_rfl) trivial
theorem lwC_r0 (n nv na om : Nat) (wh : Int) (G : Nat → El) (va aa : Nat → Nat × Nat) (c0 : (0 : Nat) + n ≤ n) (c1 : n * (104 : Nat) ≤ (140737488355328 : Nat)) (c2 : ∀ (j : Nat), j < n → RowGe (zR (G ((0 : Nat) + j))) (zR (rowsZ (rowsOf ⟨false, 0, 0, 0⟩ (8 : Nat) (8 : Nat) (.fn fun j => zR (G j))) j)) ∧ El.v (G ((0 : Nat) + j)) < (18446744073709551616 : Nat)) (c3 : ∀ (j : Nat), j < n → ∀ (u : AV), u ∈ zR (G ((0 : Nat) + j)) → AV.low (0 : Nat) u = true) (c4 : (0 : Nat) + n ≤ n) (c5 : PEQ n fun j => (elR (G ((0 : Nat) + ((0 : Nat) + j))))) (c6 : decide (Prod.fst (ofX (rowsE fun j => (elR (G ((0 : Nat) + ((0 : Nat) + j))))) n) = (0 : Int)) = true) : PieceN 13 (Ex.normal) [(0, .slc true false ⟨false, 0, 0, 0⟩ n), (2, .int true .i64 wh), (4, .ptr ⟨false, 3, 0, 0⟩), (7, .bool true), (8, .ptr ⟨false, 11, 0, 0⟩), (9, .ptr ⟨false, 12, 0, 0⟩)] [(1, .cells false 2 nv (.fn fun j => [.int true .u64 (↑(Prod.fst (va j)) : Int), .int true .u64 (↑(Prod.snd (va j)) : Int)])), (2, .cells false 2 na (.fn fun j => [.int true .u64 (↑(Prod.fst (aa j)) : Int), .int true .u64 (↑(Prod.snd (aa j)) : Int)])), (3, .cells true 3 1 (.fn fun x => [.int true .u64 (↑om : Int), .slc true false ⟨false, 1, 0, 0⟩ nv, .slc true false ⟨false, 2, 0, 0⟩ na])), (5, .mSI true (zipF (0 : Nat) (NM (rowsE (rowsOf ⟨false, 4, 0, 0⟩ (8 : Nat) (8 : Nat) (.fn fun j => elR (rowsZ (rowsOf ⟨false, 0, 0, 0⟩ (8 : Nat) (8 : Nat) (.fn fun j => zR (G j))) j)))) n))), (6, .mSI true (zipF (0 : Nat) (ND (rowsE (rowsOf ⟨false, 4, 0, 0⟩ (8 : Nat) (8 : Nat) (.fn fun j => elR (rowsZ (rowsOf ⟨false, 0, 0, 0⟩ (8 : Nat) (8 : Nat) (.fn fun j => zR (G j))) j)))) n))), (7, .mSI true (zipF (0 : Nat) (BR (rowsE (rowsOf ⟨false, 4, 0, 0⟩ (8 : Nat) (8 : Nat) (.fn fun j => elR (rowsZ (rowsOf ⟨false, 0, 0, 0⟩ (8 : Nat) (8 : Nat) (.fn fun j => zR (G j))) j)))) n))), (8, .cells true 8 n (.fn fun j => (elR (G ((0 : Nat) + ((0 : Nat) + j)))))), (9, .cells true 1 (List.length (ND (rowsE fun j => (elR (G ((0 : Nat) + ((0 : Nat) + j))))) n)) (.fn fun j => [.str true (lget (ND (rowsE fun j => (elR (G ((0 : Nat) + ((0 : Nat) + j))))) n) j)])), (10, .cells true 1 (List.length (BR (rowsE fun j => (elR (G ((0 : Nat) + ((0 : Nat) + j))))) n)) (.fn fun j => [.str true (lget (BR (rowsE fun j => (elR (G ((0 : Nat) + ((0 : Nat) + j))))) n) j)])), (11, .cells true 7 1 (.fn fun x => [.bool true, .slc true true ⟨false, 8, 0, 0⟩ n, AV.mp (5 : Nat), .slc true true ⟨false, 9, 0, 0⟩ (List.length (ND (rowsE fun j => (elR (G ((0 : Nat) + ((0 : Nat) + j))))) n)), AV.mp (6 : Nat), .slc true true ⟨false, 10, 0, 0⟩ (List.length (BR (rowsE fun j => (elR (G ((0 : Nat) + ((0 : Nat) + j))))) n)), AV.mp (7 : Nat)])), (12, .cells true 2 1 (.lit [] (.n .e (some [.int false .i64 0, .int false .i64 0]) .e))), (5, .mSI true (zipF (0 : Nat) (NM (rowsE (rowsOf ⟨false, 4, 0, 0⟩ (8 : Nat) (8 : Nat) (.fn fun j => elR (rowsZ (rowsOf ⟨false, 0, 0, 0⟩ (8 : Nat) (8 : Nat) (.fn fun j => zR (G j))) j)))) n)))] (piececallU Try.f3 ((nav [1,1,0] (bodyOf Try.f3))) (frL [(0, .slc true false ⟨false, 0, 0, 0⟩ n), (2, .int true .i64 wh), (4, .ptr ⟨false, 3, 0, 0⟩), (7, .bool true)]) (hpL [(0, .cells false 8 n (.fn fun j => zR (G j))), (1, .cells false 2 nv (.fn fun j => [.int true .u64 ((va j).1 : Nat), .int true .u64 ((va j).2 : Nat)])), (2, .cells false 2 na (.fn fun j => [.int true .u64 ((aa j).1 : Nat), .int true .u64 ((aa j).2 : Nat)])), (3, .cells true 3 1 (.fn fun _ => [.int true .u64 (om : Nat), .slc true false ⟨false, 1, 0, 0⟩ nv, .slc true false ⟨false, 2, 0, 0⟩ na]))]) 4 [true]) := eqn (by kernel_rfl) (ai (ai (ai (ai (ai trivial c0) (ai (ai c1 c2) c3)) c4) c5) c6)
theorem lwC_r1 (n nv na om : Nat) (wh : Int) (G : Nat → El) (va aa : Nat → Nat × Nat) (c0 : (0 : Nat) + n ≤ n) (c1 : n * (104 : Nat) ≤ (140737488355328 : Nat)) (c2 : ∀ (j : Nat), j < n → RowGe (zR (G ((0 : Nat) + j))) (zR (rowsZ (rowsOf ⟨false, 0, 0, 0⟩ (8 : Nat) (8 : Nat) (.fn fun j => zR (G j))) j)) ∧ El.v (G ((0 : Nat) + j)) < (18446744073709551616 : Nat)) (c3 : ∀ (j : Nat), j < n → ∀ (u : AV), u ∈ zR (G ((0 : Nat) + j)) → AV.low (0 : Nat) u = true) (c4 : (0 : Nat) + n ≤ n) (c5 : PEQ n fun j => (elR (G ((0 : Nat) + ((0 : Nat) + j))))) (c6 : decide (Prod.fst (ofX (rowsE fun j => (elR (G ((0 : Nat) + ((0 : Nat) + j))))) n) = (0 : Int)) = false) : PieceN 13 (Ex.normal) [(0, .slc true false ⟨false, 0, 0, 0⟩ n), (2, .int true .i64 wh), (4, .ptr ⟨false, 3, 0, 0⟩), (7, .bool true), (8, .nilp), (9, .ptr ⟨false, 5, 0, 0⟩)] [(1, .cells false 2 nv (.fn fun j => [.int true .u64 (↑(Prod.fst (va j)) : Int), .int true .u64 (↑(Prod.snd (va j)) : Int)])), (2, .cells false 2 na (.fn fun j => [.int true .u64 (↑(Prod.fst (aa j)) : Int), .int true .u64 (↑(Prod.snd (aa j)) : Int)])), (3, .cells true 3 1 (.fn fun x => [.int true .u64 (↑om : Int), .slc true false ⟨false, 1, 0, 0⟩ nv, .slc true false ⟨false, 2, 0, 0⟩ na])), (5, .cells true 2 1 (.lit [] (.n .e (some [.int true .i64 (Prod.fst (ofX (rowsE (rowsOf ⟨false, 4, 0, 0⟩ (8 : Nat) (8 : Nat) (.fn fun j => elR (rowsZ (rowsOf ⟨false, 0, 0, 0⟩ (8 : Nat) (8 : Nat) (.fn fun j => zR (G j))) j)))) n)), .int true .i64 (Prod.snd (ofX (rowsE (rowsOf ⟨false, 4, 0, 0⟩ (8 : Nat) (8 : Nat) (.fn fun j => elR (rowsZ (rowsOf ⟨false, 0, 0, 0⟩ (8 : Nat) (8 : Nat) (.fn fun j => zR (G j))) j)))) n))]) .e))), (5, .cells true 2 1 (.lit [] (.n .e (some [.int true .i64 (Prod.fst (ofX (rowsE (rowsOf ⟨false, 4, 0, 0⟩ (8 : Nat) (8 : Nat) (.fn fun j => elR (rowsZ (rowsOf ⟨false, 0, 0, 0⟩ (8 : Nat) (8 : Nat) (.fn fun j => zR (G j))) j)))) n)), .int true .i64 (Prod.snd (ofX (rowsE (rowsOf ⟨false, 4, 0, 0⟩ (8 : Nat) (8 : Nat) (.fn fun j => elR (rowsZ (rowsOf ⟨false, 0, 0, 0⟩ (8 : Nat) (8 : Nat) (.fn fun j => zR (G j))) j)))) n))]) .e)))] (piececallU Try.f3 ((nav [1,1,0] (bodyOf Try.f3))) (frL [(0, .slc true false ⟨false, 0, 0, 0⟩ n), (2, .int true .i64 wh), (4, .ptr ⟨false, 3, 0, 0⟩), (7, .bool true)]) (hpL [(0, .cells false 8 n (.fn fun j => zR (G j))), (1, .cells false 2 nv (.fn fun j => [.int true .u64 ((va j).1 : Nat), .int true .u64 ((va j).2 : Nat)])), (2, .cells false 2 na (.fn fun j => [.int true .u64 ((aa j).1 : Nat), .int true .u64 ((aa j).2 : Nat)])), (3, .cells true 3 1 (.fn fun _ => [.int true .u64 (om : Nat), .slc true false ⟨false, 1, 0, 0⟩ nv, .slc true false ⟨false, 2, 0, 0⟩ na]))]) 4 [false]) := eqn (by kernel_rfl) (ai (ai (ai (ai (ai trivial c0) (ai (ai c1 c2) c3)) c4) c5) c6)
theorem lwD_r0 (n q r nv na om : Nat) (wh : Int) (E : Nat → El) (M1 M2 M3 : List (Tx × Int)) (nd br : Nat → Tx) (va aa : Nat → Nat × Nat) (c0 : decide ((↑n : Int) = (0 : Int)) = true) : PieceN 13 (Ex.ret) [(2, .int true .i64 wh), (4, .ptr ⟨false, 3, 0, 0⟩), (6, .bool true), (7, .bool true), (8, .ptr ⟨false, 11, 0, 0⟩)] [(1, .cells false 2 nv (.fn fun j => [.int true .u64 (↑(Prod.fst (va j)) : Int), .int true .u64 (↑(Prod.snd (va j)) : Int)])), (2, .cells false 2 na (.fn fun j => [.int true .u64 (↑(Prod.fst (aa j)) : Int), .int true .u64 (↑(Prod.snd (aa j)) : Int)])), (3, .cells true 3 1 (.fn fun x => [.int true .u64 (↑om : Int), .slc true false ⟨false, 1, 0, 0⟩ nv, .slc true false ⟨false, 2, 0, 0⟩ na])), (5, .mSI true M1), (6, .mSI true M2), (7, .mSI true M3), (8, .cells true 8 n (.fn fun j => elR (E j))), (9, .cells true 1 q (.fn (txR nd))), (10, .cells true 1 r (.fn (txR br))), (11, .cells true 7 1 (.fn fun _ => netG 5 6 7 8 9 10 n q r))] (piececallU Try.f3 ((nav [1,1,1,0] (bodyOf Try.f3))) (frL [(0, .slc true false ⟨false, 0, 0, 0⟩ n), (2, .int true .i64 wh), (4, .ptr ⟨false, 3, 0, 0⟩), (7, .bool true), (8, .ptr ⟨false, 11, 0, 0⟩), (9, .ptr ⟨false, 12, 0, 0⟩)]) (hpL [(1, .cells false 2 nv (.fn fun j => [.int true .u64 ((va j).1 : Nat), .int true .u64 ((va j).2 : Nat)])), (2, .cells false 2 na (.fn fun j => [.int true .u64 ((aa j).1 : Nat), .int true .u64 ((aa j).2 : Nat)])), (3, .cells true 3 1 (.fn fun _ => [.int true .u64 (om : Nat), .slc true false ⟨false, 1, 0, 0⟩ nv, .slc true false ⟨false, 2, 0, 0⟩ na])), (5, .mSI true M1), (6, .mSI true M2), (7, .mSI true M3), (8, .cells true 8 n (.fn fun j => elR (E j))), (9, .cells true 1 q (.fn (txR nd))), (10, .cells true 1 r (.fn (txR br))), (11, .cells true 7 1 (.fn fun _ => netG 5 6 7 8 9 10 n q r)), (12, .cells true 2 1 (.fn fun _ => [.int false .i64 0, .int false .i64 0]))]) 13 [true]) := eqn (by kernel_rfl) (ai trivial c0)
theorem lwD_r1 (n q r nv na om : Nat) (wh : Int) (E : Nat → El) (M1 M2 M3 : List (Tx × Int)) (nd br : Nat → Tx) (va aa : Nat → Nat × Nat) (c0 : decide ((↑n : Int) = (0 : Int)) = false) : PieceN 13 (Ex.normal) [(2, .int true .i64 wh), (4, .ptr ⟨false, 3, 0, 0⟩), (7, .bool true), (8, .ptr ⟨false, 11, 0, 0⟩)] [(1, .cells false 2 nv (.fn fun j => [.int true .u64 (↑(Prod.fst (va j)) : Int), .int true .u64 (↑(Prod.snd (va j)) : Int)])), (2, .cells false 2 na (.fn fun j => [.int true .u64 (↑(Prod.fst (aa j)) : Int), .int true .u64 (↑(Prod.snd (aa j)) : Int)])), (3, .cells true 3 1 (.fn fun x => [.int true .u64 (↑om : Int), .slc true false ⟨false, 1, 0, 0⟩ nv, .slc true false ⟨false, 2, 0, 0⟩ na])), (5, .mSI true M1), (6, .mSI true M2), (7, .mSI true M3), (8, .cells true 8 n (.fn fun j => elR (E j))), (9, .cells true 1 q (.fn (txR nd))), (10, .cells true 1 r (.fn (txR br))), (11, .cells true 7 1 (.fn fun _ => netG 5 6 7 8 9 10 n q r))] (piececallU Try.f3 ((nav [1,1,1,0] (bodyOf Try.f3))) (frL [(0, .slc true false ⟨false, 0, 0, 0⟩ n), (2, .int true .i64 wh), (4, .ptr ⟨false, 3, 0, 0⟩), (7, .bool true), (8, .ptr ⟨false, 11, 0, 0⟩), (9, .ptr ⟨false, 12, 0, 0⟩)]) (hpL [(1, .cells false 2 nv (.fn fun j => [.int true .u64 ((va j).1 : Nat), .int true .u64 ((va j).2 : Nat)])), (2, .cells false 2 na (.fn fun j => [.int true .u64 ((aa j).1 : Nat), .int true .u64 ((aa j).2 : Nat)])), (3, .cells true 3 1 (.fn fun _ => [.int true .u64 (om : Nat), .slc true false ⟨false, 1, 0, 0⟩ nv, .slc true false ⟨false, 2, 0, 0⟩ na])), (5, .mSI true M1), (6, .mSI true M2), (7, .mSI true M3), (8, .cells true 8 n (.fn fun j => elR (E j))), (9, .cells true 1 q (.fn (txR nd))), (10, .cells true 1 r (.fn (txR br))), (11, .cells true 7 1 (.fn fun _ => netG 5 6 7 8 9 10 n q r)), (12, .cells true 2 1 (.fn fun _ => [.int false .i64 0, .int false .i64 0]))]) 13 [false]) := eqn (by kernel_rfl) (ai trivial c0)
theorem lwE_r0 (n : Nat) (er at_ : Int) (c0 : (!(decide (er = (0 : Int)) && (decide (at_ = (0 : Int)) && true))) = false) : PieceN 13 (Ex.ret) [(6, .bool true)] [] (piececallU Try.f3 ((nav [1,1,1,0] (bodyOf Try.f3))) (frL [(0, .slc true false ⟨false, 0, 0, 0⟩ n), (7, .bool true), (8, .nilp), (9, .ptr ⟨false, 5, 0, 0⟩)]) (hpL [(5, .cells true 2 1 (.fn fun _ => [.int true .i64 er, .int true .i64 at_]))]) 13 [false]) := eqn (by kernel_rfl) (ai trivial c0)
theorem lwE_r1 (n : Nat) (er at_ : Int) (c0 : (!(decide (er = (0 : Int)) && (decide (at_ = (0 : Int)) && true))) = true) : PieceN 13 (Ex.ret) [(6, .bool true)] [] (piececallU Try.f3 ((nav [1,1,1,0] (bodyOf Try.f3))) (frL [(0, .slc true false ⟨false, 0, 0, 0⟩ n), (7, .bool true), (8, .nilp), (9, .ptr ⟨false, 5, 0, 0⟩)]) (hpL [(5, .cells true 2 1 (.fn fun _ => [.int true .i64 er, .int true .i64 at_]))]) 13 [true]) := eqn (by kernel_rfl) (ai trivial c0)
def nlw (n q r : Nat) (E : Nat → El) (M1 M2 M3 : List (Tx × Int)) (nd br : Nat → Tx) : List (Nat × ABk) := [(5, .mSI true M1), (6, .mSI true M2), (7, .mSI true M3), (8, .cells true 8 n (.fn fun j => elR (E j))), (9, .cells true 1 q (.fn (txR nd))), (10, .cells true 1 r (.fn (txR br))), (11, .cells true 7 1 (.fn fun _ => netG 5 6 7 8 9 10 n q r))]
theorem lwF_r0 (n q r nv na om : Nat) (wh : Int) (E : Nat → El) (M1 M2 M3 : List (Tx × Int)) (nd br : Nat → Tx) (va aa : Nat → Nat × Nat) (c0 : (0 : Int) ≤ (↑om : Int)) (c1 : (↑om : Int) < (18446744073709551616 : Int)) (c2 : (0 : Nat) + nv ≤ nv) (c3 : nv * (16 : Nat) ≤ (140737488355328 : Nat)) (c4 : ∀ (j : Nat), j < nv → ZRow [.int true .u64 (↑(Prod.fst (va ((0 : Nat) + j))) : Int), .int true .u64 (↑(Prod.snd (va ((0 : Nat) + j))) : Int)]) (c5 : ∀ (j : Nat), j < nv → ∀ (u : AV), u ∈ [AV.int true .u64 (↑(Prod.fst (va ((0 : Nat) + j))) : Int), .int true .u64 (↑(Prod.snd (va ((0 : Nat) + j))) : Int)] → AV.low (0 : Nat) u = true) (c6 : (0 : Nat) + na ≤ na) (c7 : na * (16 : Nat) ≤ (140737488355328 : Nat)) (c8 : ∀ (j : Nat), j < na → ZRow [.int true .u64 (↑(Prod.fst (aa ((0 : Nat) + j))) : Int), .int true .u64 (↑(Prod.snd (aa ((0 : Nat) + j))) : Int)]) (c9 : ∀ (j : Nat), j < na → ∀ (u : AV), u ∈ [AV.int true .u64 (↑(Prod.fst (aa ((0 : Nat) + j))) : Int), .int true .u64 (↑(Prod.snd (aa ((0 : Nat) + j))) : Int)] → AV.low (0 : Nat) u = true) : PieceN 18 (Ex.normal) [(2, .int true .i64 wh), (7, .bool true), (8, .ptr ⟨false, 11, 0, 0⟩), (10, .ptr ⟨false, 17, 0, 0⟩)] (nlw n q r E M1 M2 M3 nd br ++ [(15, .cells true 1 nv (.fn fun j => [.cpx true (cn (Prod.fst (va ((0 : Nat) + j)))) (cn (Prod.snd (va ((0 : Nat) + j))))])), (16, .cells true 1 na (.fn fun j => [.cpx true (cn (Prod.fst (aa ((0 : Nat) + j)))) (cn (Prod.snd (aa ((0 : Nat) + j))))])), (17, .cells true 3 1 (.lit [] (.n .e (some [.raw true om, .slc true true ⟨false, 15, 0, 0⟩ nv, .slc true true ⟨false, 16, 0, 0⟩ na]) .e)))]) (piececallU Try.f3 ((nav [1,1,1,1,0] (bodyOf Try.f3))) (frL [(2, .int true .i64 wh), (4, .ptr ⟨false, 3, 0, 0⟩), (7, .bool true), (8, .ptr ⟨false, 11, 0, 0⟩)]) (hpL [(1, .cells false 2 nv (.fn fun j => [.int true .u64 ((va j).1 : Nat), .int true .u64 ((va j).2 : Nat)])), (2, .cells false 2 na (.fn fun j => [.int true .u64 ((aa j).1 : Nat), .int true .u64 ((aa j).2 : Nat)])), (3, .cells true 3 1 (.fn fun _ => [.int true .u64 (om : Nat), .slc true false ⟨false, 1, 0, 0⟩ nv, .slc true false ⟨false, 2, 0, 0⟩ na])), (5, .mSI true M1), (6, .mSI true M2), (7, .mSI true M3), (8, .cells true 8 n (.fn fun j => elR (E j))), (9, .cells true 1 q (.fn (txR nd))), (10, .cells true 1 r (.fn (txR br))), (11, .cells true 7 1 (.fn fun _ => netG 5 6 7 8 9 10 n q r))]) 13 []) := eqn (by kernel_rfl) (ai (ai (ai (ai (ai trivial (ai c0 c1)) c2) (ai (ai c3 c4) c5)) c6) (ai (ai c7 c8) c9))
theorem lwG_r0 (n q r nv na om : Nat) (wh : Int) (E : Nat → El) (M1 M2 M3 : List (Tx × Int)) (nd br : Nat → Tx) (f h : Nat → Nat × Nat) (c0 : (0 : Nat) + n ≤ n) (c1 : n * (104 : Nat) ≤ (140737488355328 : Nat)) (c2 : n ≤ (9223372036854775807 : Nat)) : PieceN 19 (Ex.normal) [(2, .int true .i64 wh), (7, .bool true), (8, .ptr ⟨false, 11, 0, 0⟩), (10, .ptr ⟨false, 17, 0, 0⟩), (11, .slc true true ⟨false, 18, 0, 0⟩ n)] (nlw n q r E M1 M2 M3 nd br ++ [(15, .cells true 1 nv (.fn (cxR f))), (16, .cells true 1 na (.fn (cxR h))), (17, .cells true 3 1 (.fn fun x => [.raw true om, .slc true true ⟨false, 15, 0, 0⟩ nv, .slc true true ⟨false, 16, 0, 0⟩ na])), (18, .cells true 8 n (.fn fun j => (elR (E ((0 : Nat) + j)))))]) (piececallU Try.f3 ((nav [1,1,1,1,1,0] (bodyOf Try.f3))) (frL [(2, .int true .i64 wh), (7, .bool true), (8, .ptr ⟨false, 11, 0, 0⟩), (10, .ptr ⟨false, 17, 0, 0⟩)]) (hpL (nlw n q r E M1 M2 M3 nd br ++ [(15, .cells true 1 nv (.fn (cxR f))), (16, .cells true 1 na (.fn (cxR h))), (17, .cells true 3 1 (.fn fun _ => [.raw true om, .slc true true ⟨false, 15, 0, 0⟩ nv, .slc true true ⟨false, 16, 0, 0⟩ na]))])) 18 []) := eqn (by kernel_rfl) (ai (ai trivial c0) (ai c1 c2))
theorem lwH_r0 (n q r nv na om : Nat) (wh : Int) (E : Nat → El) (M1 M2 M3 : List (Tx × Int)) (nd br : Nat → Tx) (f h : Nat → Nat × Nat) (c0 : decide (Int.tmod wh (↑n : Int) < (0 : Int)) = true → (↑n : Int) ≠ (0 : Int)) (c1 : decide (Int.tmod wh (↑n : Int) < (0 : Int)) = true → (-9223372036854775808 : Int) ≤ Int.tmod wh (↑n : Int) + (↑n : Int)) (c2 : decide (Int.tmod wh (↑n : Int) < (0 : Int)) = true → Int.tmod wh (↑n : Int) + (↑n : Int) ≤ (9223372036854775807 : Int)) (c3 : decide (Int.tmod wh (↑n : Int) < (0 : Int)) = false → (↑n : Int) ≠ (0 : Int)) (c4 : (0 : Int) ≤ pick_0 wh (↑n : Int)) (c5 : pick_0 wh (↑n : Int) < (↑n : Int)) (c6 : (0 : Nat) + Int.toNat (pick_0 wh (↑n : Int)) < n) (c7 : (8 : Nat) ≤ (8 : Nat)) : PieceN 20 (Ex.normal) [(2, .int true .i64 wh), (7, .bool true), (8, .ptr ⟨false, 11, 0, 0⟩), (10, .ptr ⟨false, 17, 0, 0⟩), (11, .slc true true ⟨false, 18, 0, 0⟩ n), (12, .ptr ⟨false, 19, 0, 0⟩)] (nlw n q r E M1 M2 M3 nd br ++ [(15, .cells true 1 nv (.fn (cxR f))), (16, .cells true 1 na (.fn (cxR h))), (17, .cells true 3 1 (.fn fun x => [.raw true om, .slc true true ⟨false, 15, 0, 0⟩ nv, .slc true true ⟨false, 16, 0, 0⟩ na])), (18, .cells true 8 n (.fn fun j => elR (E j))), (19, .cells true 8 1 (.lit [] (T.n T.e (Option.some (elR (E ((0 : Nat) + Int.toNat (pick_0 wh (↑n : Int)))))) T.e)))]) (piececallU Try.f3 ((nav [1,1,1,1,1,1,0] (bodyOf Try.f3))) (frL [(2, .int true .i64 wh), (7, .bool true), (8, .ptr ⟨false, 11, 0, 0⟩), (10, .ptr ⟨false, 17, 0, 0⟩), (11, .slc true true ⟨false, 18, 0, 0⟩ n)]) (hpL (nlw n q r E M1 M2 M3 nd br ++ [(15, .cells true 1 nv (.fn (cxR f))), (16, .cells true 1 na (.fn (cxR h))), (17, .cells true 3 1 (.fn fun _ => [.raw true om, .slc true true ⟨false, 15, 0, 0⟩ nv, .slc true true ⟨false, 16, 0, 0⟩ na])), (18, .cells true 8 n (.fn fun j => elR (E j)))])) 19 []) := eqn (by kernel_rfl) (ai (ai (ai (ai trivial (ai c0 (ai c1 (ai c2 c3)))) (ai c4 c5)) c6) c7)
theorem lwI_r0 (n q r nv na om : Nat) (wh : Int) (E : Nat → El) (M1 M2 M3 : List (Tx × Int)) (nd br : Nat → Tx) (f h : Nat → Nat × Nat) (z : El) (c0 : NetQ n q r n q r M1 M2 M3 (Cont.row (.fn fun j => elR (E j))) (Cont.row (.fn (txR nd))) (Cont.row (.fn (txR br)))) (c1 : SolQ nv na nv na (Cont.row (.fn (cxR f))) (Cont.row (.fn (cxR h))) n E) : PieceN 20 (Ex.normal) [(2, .int true .i64 wh), (7, .bool true), (8, .ptr ⟨false, 11, 0, 0⟩), (10, .ptr ⟨false, 17, 0, 0⟩), (11, .slc true true ⟨false, 18, 0, 0⟩ n), (12, .ptr ⟨false, 19, 0, 0⟩), (13, .cpx true (Prod.fst (Prod.fst (tnR nv na n E f h om (El.n z)))) (Prod.snd (Prod.fst (tnR nv na n E f h om (El.n z))))), (14, .int true .i64 (Prod.snd (tnR nv na n E f h om (El.n z))))] (nlw n q r E (zipF 0 (NM E n)) (zipF 0 (ND E n)) (zipF 0 (BR E n)) nd br ++ [(15, .cells true 1 nv (.fn (cxR f))), (16, .cells true 1 na (.fn (cxR h))), (17, .cells true 3 1 (.fn fun x => [.raw true om, .slc true true ⟨false, 15, 0, 0⟩ nv, .slc true true ⟨false, 16, 0, 0⟩ na])), (18, .cells true 8 n (.fn fun j => elR (E j))), (19, .cells true 8 1 (.fn fun _ => elR z))]) (piececallU Try.f3 ((nav [1,1,1,1,1,1,1,0] (bodyOf Try.f3))) (frL [(2, .int true .i64 wh), (7, .bool true), (8, .ptr ⟨false, 11, 0, 0⟩), (10, .ptr ⟨false, 17, 0, 0⟩), (11, .slc true true ⟨false, 18, 0, 0⟩ n), (12, .ptr ⟨false, 19, 0, 0⟩)]) (hpL (nlw n q r E M1 M2 M3 nd br ++ [(15, .cells true 1 nv (.fn (cxR f))), (16, .cells true 1 na (.fn (cxR h))), (17, .cells true 3 1 (.fn fun _ => [.raw true om, .slc true true ⟨false, 15, 0, 0⟩ nv, .slc true true ⟨false, 16, 0, 0⟩ na])), (18, .cells true 8 n (.fn fun j => elR (E j))), (19, .cells true 8 1 (.fn fun _ => elR z))])) 20 []) := eqn (by kernel_rfl) (ai (ai (ai trivial c0) c1) trivial)
theorem lwJ_r0 (n q r nv na om : Nat) (wh er : Int) (E : Nat → El) (M1 M2 M3 : List (Tx × Int)) (nd br : Nat → Tx) (f h : Nat → Nat × Nat) (z : El) (y0 y1 : Nat) (c0 : NetQ n q r n q r M1 M2 M3 (Cont.row (.fn fun j => elR (E j))) (Cont.row (.fn (txR nd))) (Cont.row (.fn (txR br)))) (c1 : SolQ nv na nv na (Cont.row (.fn (cxR f))) (Cont.row (.fn (cxR h))) n E) : PieceN 20 (Ex.normal) [(2, .int true .i64 wh), (7, .bool true), (8, .ptr ⟨false, 11, 0, 0⟩), (10, .ptr ⟨false, 17, 0, 0⟩), (11, .slc true true ⟨false, 18, 0, 0⟩ n), (12, .ptr ⟨false, 19, 0, 0⟩), (13, .cpx true y0 y1), (14, .int true .i64 er), (15, .cpx true (Prod.fst (Prod.fst (onR nv na n E f h om (El.n z)))) (Prod.snd (Prod.fst (onR nv na n E f h om (El.n z))))), (16, .int true .i64 (Prod.snd (onR nv na n E f h om (El.n z))))] (nlw n q r E (zipF 0 (NM E n)) (zipF 0 (ND E n)) (zipF 0 (BR E n)) nd br ++ [(15, .cells true 1 nv (.fn (cxR f))), (16, .cells true 1 na (.fn (cxR h))), (17, .cells true 3 1 (.fn fun x => [.raw true om, .slc true true ⟨false, 15, 0, 0⟩ nv, .slc true true ⟨false, 16, 0, 0⟩ na])), (18, .cells true 8 n (.fn fun j => elR (E j))), (19, .cells true 8 1 (.fn fun _ => elR z))]) (piececallU Try.f3 ((nav [1,1,1,1,1,1,1,1,0] (bodyOf Try.f3))) (frL [(2, .int true .i64 wh), (7, .bool true), (8, .ptr ⟨false, 11, 0, 0⟩), (10, .ptr ⟨false, 17, 0, 0⟩), (11, .slc true true ⟨false, 18, 0, 0⟩ n), (12, .ptr ⟨false, 19, 0, 0⟩), (13, .cpx true y0 y1), (14, .int true .i64 er)]) (hpL (nlw n q r E M1 M2 M3 nd br ++ [(15, .cells true 1 nv (.fn (cxR f))), (16, .cells true 1 na (.fn (cxR h))), (17, .cells true 3 1 (.fn fun _ => [.raw true om, .slc true true ⟨false, 15, 0, 0⟩ nv, .slc true true ⟨false, 16, 0, 0⟩ na])), (18, .cells true 8 n (.fn fun j => elR (E j))), (19, .cells true 8 1 (.fn fun _ => elR z))])) 20 []) := eqn (by kernel_rfl) (ai (ai (ai trivial c0) c1) trivial)
theorem lwK_r0 (n : Nat) (wh er at_ : Int) (y0 y1 p0 p1 : Nat) (c0 : (!decide (er = (0 : Int))) = false) : PieceN 20 (Ex.normal) [(2, .int true .i64 wh), (7, .bool true), (8, .ptr ⟨false, 11, 0, 0⟩), (10, .ptr ⟨false, 17, 0, 0⟩), (11, .slc true true ⟨false, 18, 0, 0⟩ n), (12, .ptr ⟨false, 19, 0, 0⟩), (13, .cpx true y0 y1), (15, .cpx true p0 p1), (16, .int true .i64 at_)] [] (piececallU Try.f3 ((nav [1,1,1,1,1,1,1,1,1,0] (bodyOf Try.f3))) (frL [(2, .int true .i64 wh), (7, .bool true), (8, .ptr ⟨false, 11, 0, 0⟩), (10, .ptr ⟨false, 17, 0, 0⟩), (11, .slc true true ⟨false, 18, 0, 0⟩ n), (12, .ptr ⟨false, 19, 0, 0⟩), (13, .cpx true y0 y1), (14, .int true .i64 er), (15, .cpx true p0 p1), (16, .int true .i64 at_)]) (hpL []) 20 [false]) := eqn (by kernel_rfl) (ai trivial c0)
theorem lwK_r1 (n : Nat) (wh er at_ : Int) (y0 y1 p0 p1 : Nat) (c0 : (!decide (er = (0 : Int))) = true) (c1 : decide (at_ = er) = true) : PieceN 20 (Ex.ret) [(2, .int true .i64 wh), (6, .sbool (feq p0 (0 : Nat) && feq p1 (0 : Nat))), (7, .bool true), (8, .ptr ⟨false, 11, 0, 0⟩), (10, .ptr ⟨false, 17, 0, 0⟩), (11, .slc true true ⟨false, 18, 0, 0⟩ n), (12, .ptr ⟨false, 19, 0, 0⟩), (13, .cpx true y0 y1), (15, .cpx true p0 p1), (16, .int true .i64 at_)] [] (piececallU Try.f3 ((nav [1,1,1,1,1,1,1,1,1,0] (bodyOf Try.f3))) (frL [(2, .int true .i64 wh), (7, .bool true), (8, .ptr ⟨false, 11, 0, 0⟩), (10, .ptr ⟨false, 17, 0, 0⟩), (11, .slc true true ⟨false, 18, 0, 0⟩ n), (12, .ptr ⟨false, 19, 0, 0⟩), (13, .cpx true y0 y1), (14, .int true .i64 er), (15, .cpx true p0 p1), (16, .int true .i64 at_)]) (hpL []) 20 [true, true]) := eqn (by kernel_rfl) (ai (ai trivial c0) c1)
theorem lwL_r0 (n q r nv na om : Nat) (wh at_ : Int) (E : Nat → El) (M1 M2 M3 : List (Tx × Int)) (nd br : Nat → Tx) (f h : Nat → Nat × Nat) (z : El) (y0 y1 p0 p1 : Nat) (c0 : NetQ n q r n q r M1 M2 M3 (Cont.row (.fn fun j => elR (E j))) (Cont.row (.fn (txR nd))) (Cont.row (.fn (txR br)))) (c1 : SolQ nv na nv na (Cont.row (.fn (cxR f))) (Cont.row (.fn (cxR h))) n E) (c2 : nv = q) (c3 : na = r) (c4 : NetQ n q r n q r (zipF (0 : Nat) (NM E n)) (zipF (0 : Nat) (ND E n)) (zipF (0 : Nat) (BR E n)) (Cont.row (.fn fun j => elR (E j))) (Cont.row (.fn (txR nd))) (Cont.row (.fn (txR br)))) : PieceN 20 (Ex.normal) [(2, .int true .i64 wh), (7, .bool true), (8, .ptr ⟨false, 11, 0, 0⟩), (10, .ptr ⟨false, 17, 0, 0⟩), (11, .slc true true ⟨false, 18, 0, 0⟩ n), (12, .ptr ⟨false, 19, 0, 0⟩), (13, .cpx true y0 y1), (15, .cpx true p0 p1), (16, .int true .i64 at_), (17, .cpx true (fsub (Prod.fst (vE (ND E n) f (El.a z))) (Prod.fst (vE (ND E n) f (El.b z)))) (fsub (Prod.snd (vE (ND E n) f (El.a z))) (Prod.snd (vE (ND E n) f (El.b z)))))] (nlw n q r E (zipF 0 (NM E n)) (zipF 0 (ND E n)) (zipF 0 (BR E n)) nd br ++ [(15, .cells true 1 nv (.fn (cxR f))), (16, .cells true 1 na (.fn (cxR h))), (17, .cells true 3 1 (.fn fun x => [.raw true om, .slc true true ⟨false, 15, 0, 0⟩ nv, .slc true true ⟨false, 16, 0, 0⟩ na])), (18, .cells true 8 n (.fn fun j => elR (E j))), (19, .cells true 8 1 (.fn fun _ => elR z))]) (piececallU Try.f3 ((nav [1,1,1,1,1,1,1,1,1,1,0] (bodyOf Try.f3))) (frL [(2, .int true .i64 wh), (7, .bool true), (8, .ptr ⟨false, 11, 0, 0⟩), (10, .ptr ⟨false, 17, 0, 0⟩), (11, .slc true true ⟨false, 18, 0, 0⟩ n), (12, .ptr ⟨false, 19, 0, 0⟩), (13, .cpx true y0 y1), (15, .cpx true p0 p1), (16, .int true .i64 at_)]) (hpL (nlw n q r E M1 M2 M3 nd br ++ [(15, .cells true 1 nv (.fn (cxR f))), (16, .cells true 1 na (.fn (cxR h))), (17, .cells true 3 1 (.fn fun _ => [.raw true om, .slc true true ⟨false, 15, 0, 0⟩ nv, .slc true true ⟨false, 16, 0, 0⟩ na])), (18, .cells true 8 n (.fn fun j => elR (E j))), (19, .cells true 8 1 (.fn fun _ => elR z))])) 20 []) := eqn (by kernel_rfl) (ai (ai (ai (ai (ai (ai trivial c0) c1) (ai c2 c3)) c4) c1) (ai c2 c3))
theorem lwM_r0 (n : Nat) (wh at_ : Int) (y0 y1 p0 p1 w0 w1 : Nat) : PieceN 20 (Ex.normal) [(2, .int true .i64 wh), (7, .bool true), (8, .ptr ⟨false, 11, 0, 0⟩), (10, .ptr ⟨false, 17, 0, 0⟩), (11, .slc true true ⟨false, 18, 0, 0⟩ n), (12, .ptr ⟨false, 19, 0, 0⟩), (15, .cpx true p0 p1), (16, .int true .i64 at_), (17, .cpx true w0 w1), (18, .cpx true (fsub (fmul w0 y0) (fmul w1 (fneg y1))) (fadd (fmul w0 (fneg y1)) (fmul w1 y0)))] [] (piececallU Try.f3 ((nav [1,1,1,1,1,1,1,1,1,1,1,0] (bodyOf Try.f3))) (frL [(2, .int true .i64 wh), (7, .bool true), (8, .ptr ⟨false, 11, 0, 0⟩), (10, .ptr ⟨false, 17, 0, 0⟩), (11, .slc true true ⟨false, 18, 0, 0⟩ n), (12, .ptr ⟨false, 19, 0, 0⟩), (13, .cpx true y0 y1), (15, .cpx true p0 p1), (16, .int true .i64 at_), (17, .cpx true w0 w1)]) (hpL []) 20 []) := eqn (by kernel_rfl) trivial
theorem lwN_r0 (n : Nat) (wh at_ : Int) (p0 p1 w0 w1 x0 x1 : Nat) : PieceN 20 (Ex.normal) [(2, .int true .i64 wh), (7, .bool true), (8, .ptr ⟨false, 11, 0, 0⟩), (10, .ptr ⟨false, 17, 0, 0⟩), (11, .slc true true ⟨false, 18, 0, 0⟩ n), (12, .ptr ⟨false, 19, 0, 0⟩), (15, .cpx true p0 p1), (16, .int true .i64 at_), (17, .cpx true w0 w1), (18, .cpx true (fmul x0 (4602678819172646912 : Nat)) (fmul x1 (4602678819172646912 : Nat)))] [] (piececallU Try.f3 ((nav [1,1,1,1,1,1,1,1,1,1,1,1,0] (bodyOf Try.f3))) (frL [(2, .int true .i64 wh), (7, .bool true), (8, .ptr ⟨false, 11, 0, 0⟩), (10, .ptr ⟨false, 17, 0, 0⟩), (11, .slc true true ⟨false, 18, 0, 0⟩ n), (12, .ptr ⟨false, 19, 0, 0⟩), (15, .cpx true p0 p1), (16, .int true .i64 at_), (17, .cpx true w0 w1), (18, .cpx true x0 x1)]) (hpL []) 20 []) := eqn (by kernel_rfl) trivial
theorem lwO_r0 (n : Nat) (wh at_ : Int) (p0 p1 w0 w1 x0 x1 : Nat) (c0 : (!fin_0 x0 x1) = false) (c1 : (!fin_0 w0 w1) = false) : PieceN 20 (Ex.normal) [(2, .int true .i64 wh), (7, .bool true), (8, .ptr ⟨false, 11, 0, 0⟩), (10, .ptr ⟨false, 17, 0, 0⟩), (11, .slc true true ⟨false, 18, 0, 0⟩ n), (12, .ptr ⟨false, 19, 0, 0⟩), (15, .cpx true p0 p1), (16, .int true .i64 at_), (18, .cpx true x0 x1)] [] (piececallU Try.f3 ((nav [1,1,1,1,1,1,1,1,1,1,1,1,1,0] (bodyOf Try.f3))) (frL [(2, .int true .i64 wh), (7, .bool true), (8, .ptr ⟨false, 11, 0, 0⟩), (10, .ptr ⟨false, 17, 0, 0⟩), (11, .slc true true ⟨false, 18, 0, 0⟩ n), (12, .ptr ⟨false, 19, 0, 0⟩), (15, .cpx true p0 p1), (16, .int true .i64 at_), (17, .cpx true w0 w1), (18, .cpx true x0 x1)]) (hpL []) 20 [false, false]) := eqn (by kernel_rfl) (ai (ai trivial c0) c1)
theorem lwO_r1 (n : Nat) (wh at_ : Int) (p0 p1 w0 w1 x0 x1 : Nat) (c0 : (!fin_0 x0 x1) = false) (c1 : (!fin_0 w0 w1) = true) (c2 : decide (at_ = (6 : Int)) = true) : PieceN 20 (Ex.ret) [(2, .int true .i64 wh), (6, .sbool (feq p0 (0 : Nat) && feq p1 (0 : Nat))), (7, .bool true), (8, .ptr ⟨false, 11, 0, 0⟩), (10, .ptr ⟨false, 17, 0, 0⟩), (11, .slc true true ⟨false, 18, 0, 0⟩ n), (12, .ptr ⟨false, 19, 0, 0⟩), (15, .cpx true p0 p1), (16, .int true .i64 at_), (18, .cpx true x0 x1)] [] (piececallU Try.f3 ((nav [1,1,1,1,1,1,1,1,1,1,1,1,1,0] (bodyOf Try.f3))) (frL [(2, .int true .i64 wh), (7, .bool true), (8, .ptr ⟨false, 11, 0, 0⟩), (10, .ptr ⟨false, 17, 0, 0⟩), (11, .slc true true ⟨false, 18, 0, 0⟩ n), (12, .ptr ⟨false, 19, 0, 0⟩), (15, .cpx true p0 p1), (16, .int true .i64 at_), (17, .cpx true w0 w1), (18, .cpx true x0 x1)]) (hpL []) 20 [false, true, true]) := eqn (by kernel_rfl) (ai (ai (ai trivial c0) c1) c2)
theorem lwO_r3 (n : Nat) (wh at_ : Int) (p0 p1 w0 w1 x0 x1 : Nat) (c0 : (!fin_0 x0 x1) = true) (c1 : decide (at_ = (6 : Int)) = true) : PieceN 20 (Ex.ret) [(2, .int true .i64 wh), (6, .sbool (feq p0 (0 : Nat) && feq p1 (0 : Nat))), (7, .bool true), (8, .ptr ⟨false, 11, 0, 0⟩), (10, .ptr ⟨false, 17, 0, 0⟩), (11, .slc true true ⟨false, 18, 0, 0⟩ n), (12, .ptr ⟨false, 19, 0, 0⟩), (15, .cpx true p0 p1), (16, .int true .i64 at_), (18, .cpx true x0 x1)] [] (piececallU Try.f3 ((nav [1,1,1,1,1,1,1,1,1,1,1,1,1,0] (bodyOf Try.f3))) (frL [(2, .int true .i64 wh), (7, .bool true), (8, .ptr ⟨false, 11, 0, 0⟩), (10, .ptr ⟨false, 17, 0, 0⟩), (11, .slc true true ⟨false, 18, 0, 0⟩ n), (12, .ptr ⟨false, 19, 0, 0⟩), (15, .cpx true p0 p1), (16, .int true .i64 at_), (17, .cpx true w0 w1), (18, .cpx true x0 x1)]) (hpL []) 20 [true, true]) := eqn (by kernel_rfl) (ai (ai trivial c0) c1)
theorem lwP_r0 (n : Nat) (wh at_ : Int) (p0 p1 x0 x1 : Nat) (c0 : (!decide (at_ = (0 : Int))) = false) (c1 : isnan p0 = false) (c2 : isnan x0 = false) (c3 : decide ((↑p0 : Int) = (↑x0 : Int)) = true) (c4 : isnan p1 = false) (c5 : isnan x1 = false) (c6 : decide ((↑p1 : Int) = (↑x1 : Int)) = true) : PieceN 20 (Ex.normal) [(2, .int true .i64 wh), (7, .bool true), (8, .ptr ⟨false, 11, 0, 0⟩), (10, .ptr ⟨false, 17, 0, 0⟩), (11, .slc true true ⟨false, 18, 0, 0⟩ n), (12, .ptr ⟨false, 19, 0, 0⟩), (15, .cpx true p0 p1)] [] (piececallU Try.f3 ((nav [1,1,1,1,1,1,1,1,1,1,1,1,1,1,0] (bodyOf Try.f3))) (frL [(2, .int true .i64 wh), (7, .bool true), (8, .ptr ⟨false, 11, 0, 0⟩), (10, .ptr ⟨false, 17, 0, 0⟩), (11, .slc true true ⟨false, 18, 0, 0⟩ n), (12, .ptr ⟨false, 19, 0, 0⟩), (15, .cpx true p0 p1), (16, .int true .i64 at_), (18, .cpx true x0 x1)]) (hpL []) 20 [false, true, true]) := eqn (by kernel_rfl) (ai (ai (ai (ai (ai (ai (ai trivial c0) c1) c2) c3) c4) c5) c6)
theorem lwQ_r0 (n : Nat) (wh : Int) (z : El) (p0 p1 : Nat) (c0 : decide (El.k z = (1 : Int)) = true) (c1 : (!fge p0 (0 : Nat)) = false) : PieceN 20 (Ex.normal) [(2, .int true .i64 wh), (7, .bool true), (8, .ptr ⟨false, 11, 0, 0⟩), (10, .ptr ⟨false, 17, 0, 0⟩), (11, .slc true true ⟨false, 18, 0, 0⟩ n), (15, .cpx true p0 p1)] [(19, .cells true 8 1 (.fn fun _ => elR z))] (piececallU Try.f3 ((nav [1,1,1,1,1,1,1,1,1,1,1,1,1,1,1,0] (bodyOf Try.f3))) (frL [(2, .int true .i64 wh), (7, .bool true), (8, .ptr ⟨false, 11, 0, 0⟩), (10, .ptr ⟨false, 17, 0, 0⟩), (11, .slc true true ⟨false, 18, 0, 0⟩ n), (12, .ptr ⟨false, 19, 0, 0⟩), (15, .cpx true p0 p1)]) (hpL [(19, .cells true 8 1 (.fn fun _ => elR z))]) 20 [true, false]) := eqn (by kernel_rfl) (ai (ai trivial c0) c1)
theorem lwQ_r2 (n : Nat) (wh : Int) (z : El) (p0 p1 : Nat) (c0 : decide (El.k z = (1 : Int)) = false) (c1 : decide (El.k z = (8 : Int)) = true) (c2 : (!fge p0 (0 : Nat)) = false) : PieceN 20 (Ex.normal) [(2, .int true .i64 wh), (7, .bool true), (8, .ptr ⟨false, 11, 0, 0⟩), (10, .ptr ⟨false, 17, 0, 0⟩), (11, .slc true true ⟨false, 18, 0, 0⟩ n), (15, .cpx true p0 p1)] [(19, .cells true 8 1 (.fn fun _ => elR z))] (piececallU Try.f3 ((nav [1,1,1,1,1,1,1,1,1,1,1,1,1,1,1,0] (bodyOf Try.f3))) (frL [(2, .int true .i64 wh), (7, .bool true), (8, .ptr ⟨false, 11, 0, 0⟩), (10, .ptr ⟨false, 17, 0, 0⟩), (11, .slc true true ⟨false, 18, 0, 0⟩ n), (12, .ptr ⟨false, 19, 0, 0⟩), (15, .cpx true p0 p1)]) (hpL [(19, .cells true 8 1 (.fn fun _ => elR z))]) 20 [false, true, false]) := eqn (by kernel_rfl) (ai (ai (ai trivial c0) c1) c2)
theorem lwQ_r4 (n : Nat) (wh : Int) (z : El) (p0 p1 : Nat) (c0 : decide (El.k z = (1 : Int)) = false) (c1 : decide (El.k z = (8 : Int)) = false) : PieceN 20 (Ex.normal) [(2, .int true .i64 wh), (7, .bool true), (8, .ptr ⟨false, 11, 0, 0⟩), (10, .ptr ⟨false, 17, 0, 0⟩), (11, .slc true true ⟨false, 18, 0, 0⟩ n), (15, .cpx true p0 p1)] [(19, .cells true 8 1 (.fn fun _ => elR z))] (piececallU Try.f3 ((nav [1,1,1,1,1,1,1,1,1,1,1,1,1,1,1,0] (bodyOf Try.f3))) (frL [(2, .int true .i64 wh), (7, .bool true), (8, .ptr ⟨false, 11, 0, 0⟩), (10, .ptr ⟨false, 17, 0, 0⟩), (11, .slc true true ⟨false, 18, 0, 0⟩ n), (12, .ptr ⟨false, 19, 0, 0⟩), (15, .cpx true p0 p1)]) (hpL [(19, .cells true 8 1 (.fn fun _ => elR z))]) 20 [false, false]) := eqn (by kernel_rfl) (ai (ai trivial c0) c1)
theorem lwR_r0 (n q r nv na om : Nat) (wh : Int) (E : Nat → El) (M1 M2 M3 : List (Tx × Int)) (nd br : Nat → Tx) (f h : Nat → Nat × Nat) (p0 p1 : Nat) (c0 : NetQ n q r n q r M1 M2 M3 (Cont.row (.fn fun j => elR (E j))) (Cont.row (.fn (txR nd))) (Cont.row (.fn (txR br)))) (c1 : SolQ nv na nv na (Cont.row (.fn (cxR f))) (Cont.row (.fn (cxR h))) n E) (c2 : decide (paE nv na n E f h om = (0 : Int)) = true) : PieceN 21 (Ex.normal) [(2, .int true .i64 wh), (7, .bool true), (11, .slc true true ⟨false, 18, 0, 0⟩ n), (15, .cpx true p0 p1), (19, .slc true true ⟨false, 20, 0, 0⟩ n), (20, .int false .i64 0)] [(18, .cells true 8 n (.fn fun j => elR (E j))), (20, .cells true 1 n (.fn fun j => [.cpx true (Prod.fst (poP (ND E n) f (E j) (thV (ND E n) (BR E n) f h om (E j)))) (Prod.snd (poP (ND E n) f (E j) (thV (ND E n) (BR E n) f h om (E j))))]))] (piececallU Try.f3 ((nav [1,1,1,1,1,1,1,1,1,1,1,1,1,1,1,1,0] (bodyOf Try.f3))) (frL [(2, .int true .i64 wh), (7, .bool true), (8, .ptr ⟨false, 11, 0, 0⟩), (10, .ptr ⟨false, 17, 0, 0⟩), (11, .slc true true ⟨false, 18, 0, 0⟩ n), (15, .cpx true p0 p1)]) (hpL (nlw n q r E M1 M2 M3 nd br ++ [(15, .cells true 1 nv (.fn (cxR f))), (16, .cells true 1 na (.fn (cxR h))), (17, .cells true 3 1 (.fn fun _ => [.raw true om, .slc true true ⟨false, 15, 0, 0⟩ nv, .slc true true ⟨false, 16, 0, 0⟩ na])), (18, .cells true 8 n (.fn fun j => elR (E j)))])) 20 [true]) := eqn (by kernel_rfl) (ai (ai (ai trivial c0) c1) c2)
theorem lwR_r1 (n q r nv na om : Nat) (wh : Int) (E : Nat → El) (M1 M2 M3 : List (Tx × Int)) (nd br : Nat → Tx) (f h : Nat → Nat × Nat) (p0 p1 : Nat) (c0 : NetQ n q r n q r M1 M2 M3 (Cont.row (.fn fun j => elR (E j))) (Cont.row (.fn (txR nd))) (Cont.row (.fn (txR br)))) (c1 : SolQ nv na nv na (Cont.row (.fn (cxR f))) (Cont.row (.fn (cxR h))) n E) (c2 : decide (paE nv na n E f h om = (0 : Int)) = false) : PieceN 21 (Ex.normal) [(2, .int true .i64 wh), (7, .bool true), (11, .slc true true ⟨false, 18, 0, 0⟩ n), (15, .cpx true p0 p1), (19, .nils), (20, .int true .i64 (paE nv na n E f h om))] [(18, .cells true 8 n (.fn fun j => elR (E j)))] (piececallU Try.f3 ((nav [1,1,1,1,1,1,1,1,1,1,1,1,1,1,1,1,0] (bodyOf Try.f3))) (frL [(2, .int true .i64 wh), (7, .bool true), (8, .ptr ⟨false, 11, 0, 0⟩), (10, .ptr ⟨false, 17, 0, 0⟩), (11, .slc true true ⟨false, 18, 0, 0⟩ n), (15, .cpx true p0 p1)]) (hpL (nlw n q r E M1 M2 M3 nd br ++ [(15, .cells true 1 nv (.fn (cxR f))), (16, .cells true 1 na (.fn (cxR h))), (17, .cells true 3 1 (.fn fun _ => [.raw true om, .slc true true ⟨false, 15, 0, 0⟩ nv, .slc true true ⟨false, 16, 0, 0⟩ na])), (18, .cells true 8 n (.fn fun j => elR (E j)))])) 20 [false]) := eqn (by kernel_rfl) (ai (ai (ai trivial c0) c1) c2)
theorem lwS_r1 (er : Int) (c0 : (!decide (er = (0 : Int))) = true) : PieceN 21 (Ex.ret) [(6, .bool true)] [] (piececallU Try.f3 ((nav [1,1,1,1,1,1,1,1,1,1,1,1,1,1,1,1,1,0] (bodyOf Try.f3))) (frL [(7, .bool true), (19, .nils), (20, .int true .i64 er)]) (hpL []) 21 [true]) := eqn (by kernel_rfl) (ai trivial c0)
theorem lwU_r0 (n : Nat) (wh : Int) (p0 p1 : Nat) (c0 : false = false) : PieceN 21 (Ex.normal) [(2, .int true .i64 wh), (7, .bool true), (11, .slc true true ⟨false, 18, 0, 0⟩ n), (15, .cpx true p0 p1), (19, .slc true true ⟨false, 20, 0, 0⟩ n)] [] (piececallU Try.f3 ((nav [1,1,1,1,1,1,1,1,1,1,1,1,1,1,1,1,1,0] (bodyOf Try.f3))) (frL [(2, .int true .i64 wh), (7, .bool true), (11, .slc true true ⟨false, 18, 0, 0⟩ n), (15, .cpx true p0 p1), (19, .slc true true ⟨false, 20, 0, 0⟩ n), (20, .int true .i64 0)]) (hpL []) 21 [false]) := eqn (by kernel_rfl) (ai trivial c0)
theorem lwT_r0 (n : Nat) (wh : Int) (E : Nat → El) (f : Nat → Nat × Nat) (p0 p1 : Nat) (c0 : decide ((↑n : Int) = (↑n : Int)) = true) (c1 : decide (Int.tmod wh (↑n : Int) < (0 : Int)) = true → (↑n : Int) ≠ (0 : Int)) (c2 : decide (Int.tmod wh (↑n : Int) < (0 : Int)) = true → (-9223372036854775808 : Int) ≤ Int.tmod wh (↑n : Int) + (↑n : Int)) (c3 : decide (Int.tmod wh (↑n : Int) < (0 : Int)) = true → Int.tmod wh (↑n : Int) + (↑n : Int) ≤ (9223372036854775807 : Int)) (c4 : decide (Int.tmod wh (↑n : Int) < (0 : Int)) = false → (↑n : Int) ≠ (0 : Int)) (c5 : (0 : Int) ≤ pick_0 wh (↑n : Int)) (c6 : pick_0 wh (↑n : Int) < (↑n : Int)) (c7 : (0 : Nat) + Int.toNat (pick_0 wh (↑n : Int)) < n) (c8 : isnan (Prod.fst (f ((0 : Nat) + Int.toNat (pick_0 wh (↑n : Int))))) = false) (c9 : isnan p0 = false) (c10 : decide ((↑(Prod.fst (f ((0 : Nat) + Int.toNat (pick_0 wh (↑n : Int))))) : Int) = (↑p0 : Int)) = true) (c11 : isnan (Prod.snd (f ((0 : Nat) + Int.toNat (pick_0 wh (↑n : Int))))) = false) (c12 : isnan p1 = false) (c13 : decide ((↑(Prod.snd (f ((0 : Nat) + Int.toNat (pick_0 wh (↑n : Int))))) : Int) = (↑p1 : Int)) = true) : PieceN 21 (Ex.ret) [(6, .bool true)] [] (piececallU Try.f3 ((nav [1,1,1,1,1,1,1,1,1,1,1,1,1,1,1,1,1,1] (bodyOf Try.f3))) (frL [(2, .int true .i64 wh), (7, .bool true), (11, .slc true true ⟨false, 18, 0, 0⟩ n), (15, .cpx true p0 p1), (19, .slc true true ⟨false, 20, 0, 0⟩ n)]) (hpL [(18, .cells true 8 n (.fn fun j => elR (E j))), (20, .cells true 1 n (.fn (cxR f)))]) 21 [true, true, true]) := eqn (by kernel_rfl) (ai (ai (ai (ai (ai (ai (ai (ai (ai (ai trivial c0) (ai c1 (ai c2 (ai c3 c4)))) (ai c5 c6)) c7) c8) c9) c10) c11) c12) c13)


def hRL (n q r nv na om : Nat) (G : Nat → El) (f h : Nat → Nat × Nat) : List (Nat × ABk) := [(5, .mSI true (zipF 0 (NM G n))), (6, .mSI true (zipF 0 (ND G n))), (7, .mSI true (zipF 0 (BR G n))), (8, .cells true 8 n (.fn fun j => elR (G j))), (9, .cells true 1 q (.fn (txR (lget (ND G n))))), (10, .cells true 1 r (.fn (txR (lget (BR G n))))), (11, .cells true 7 1 (.fn fun _ => netG 5 6 7 8 9 10 n q r)), (15, .cells true 1 nv (.fn (cxR f))), (16, .cells true 1 na (.fn (cxR h))), (17, .cells true 3 1 (.fn fun _ => [.raw true om, .slc true true ⟨false, 15, 0, 0⟩ nv, .slc true true ⟨false, 16, 0, 0⟩ na])), (18, .cells true 8 n (.fn fun j => elR (G j)))]
theorem lw_ret {c : Code} {fr : Fr} {F : List (Nat × AV)} {xl : List (Nat × ABk)} {K K' : Nat} (h : GoesB Try.prog c Try.f3.ntmps K K K' fr (hpL []) (fun e' fr' H' => e' = .ret ∧ fr' = frL F ∧ H' = hpL [])) (hx : LowL K xl) (hK : 3 ≤ K) (hKK : K ≤ K') (hu : ∃ u, (frL F).get 6 = some u ∧ AV.ge u (.bool true)) : GoesB Try.prog c Try.f3.ntmps 3 K K' fr (hpL xl) (fun e fr' H' => e = .ret ∧ ∃ u, fr'.get 6 = some u ∧ AV.ge u (.bool true)) :=
 GoesB.lower (B' := K) (GoesB.frameL (bl := []) (xl := xl) h hKK hx rfl (fun e' fr' H' hh => ⟨[], hh.2.2, rfl, trivial, hh.1, by rw [hh.2.1]; exact hu⟩)) hK
theorem f00 : (feq 0 0 && feq 0 0) = true := by decide +kernel
theorem pos_app {x : Tx} {m : List Tx} : ∀ {l : List Tx} {i : Nat}, pos x l = some i → pos x (l ++ m) = some i
 | [], i, h => by cases h
 | y :: l, i, h => by
  show (bif x == y then some 0 else (pos x (l ++ m)).map (· + 1)) = some i
  have h : (bif x == y then some 0 else (pos x l).map (· + 1)) = some i := h
  cases e : x == y <;> rw [e] at h
  ·cases q : pos x l with
   | none => rw [q] at h; cases h
   | some j =>
    rw [q] at h
    rw [pos_app q]
    exact h
  ·exact h
theorem pos_end {x : Tx} : ∀ {l : List Tx}, pos x l = none → pos x (l ++ [x]) = some l.length
 | [], h => by show (bif x == x then some 0 else none) = some 0; rw [beq_self_eq_true]; rfl
 | y :: l, h => by
  show (bif x == y then some 0 else (pos x (l ++ [x])).map (· + 1)) = some (l.length + 1)
  have h : (bif x == y then some 0 else (pos x l).map (· + 1)) = none := h
  cases e : x == y <;> rw [e] at h
  ·cases q : pos x l with
   | none => rw [pos_end q]; rfl
   | some j => rw [q] at h; cases h
  ·cases h
theorem pos_NM {G : Nat → El} {n : Nat} (hg : ∀ j, j < n → badE chkE G j = 0) {p : Nat} (hp : p < n) : pos (G p).n (NM G n) = some p := by
 induction n with
 | zero => omega
 | succ n ih =>
  unfold NM
  by_cases c : p < n
  ·exact pos_app (ih (fun j hj => hg j (by omega)) c)
  ·obtain rfl : p = n := by omega
   have hb := hg p hp
   cases q : pos (G p).n (NM G p) with
   | none => rw [pos_end q, NM_len]
   | some y =>
    unfold badE at hb
    rw [q] at hb
    by_cases d : chkE (G p) = 0
    ·rw [decide_eq_true d] at hb; exact absurd (show (9 : Int) = 0 from hb) (by decide)
    ·rw [decide_eq_false d] at hb; exact absurd hb d
theorem lw_low (n q r nv na om : Nat) (G : Nat → El) (f h : Nat → Nat × Nat) (p K : Nat) (hK : 20 ≤ K) : LowL K (([(19, .cells true 8 1 (.fn fun _ => elR (G p)))] : List (Nat × ABk)) ++ (hRL n q r nv na om G f h)) := ⟨⟨by omega, fun j hj v hv => List.all_eq_true.1 (elR_low K _) v hv⟩, ⟨by omega, trivial⟩, ⟨by omega, trivial⟩, ⟨by omega, trivial⟩, ⟨by omega, fun j hj v hv => List.all_eq_true.1 (elR_low K _) v hv⟩, ⟨by omega, fun j hj v hv => by rw [List.mem_singleton.1 hv]; rfl⟩, ⟨by omega, fun j hj v hv => by rw [List.mem_singleton.1 hv]; rfl⟩, ⟨by omega, fun j hj v hv => low_up v (List.all_eq_true.1 (show (netG 5 6 7 8 9 10 n q r).all (fun v => v.low 20) = true from rfl) v hv) hK⟩, ⟨by omega, fun j hj v hv => by rw [List.mem_singleton.1 hv]; rfl⟩, ⟨by omega, fun j hj v hv => by rw [List.mem_singleton.1 hv]; rfl⟩, ⟨by omega, fun j hj v hv => low_up v (List.all_eq_true.1 (show [AV.raw true om, .slc true true ⟨false, 15, 0, 0⟩ nv, .slc true true ⟨false, 16, 0, 0⟩ na].all (fun v => v.low 20) = true from rfl) v hv) hK⟩, ⟨by omega, fun j hj v hv => List.all_eq_true.1 (elR_low K _) v hv⟩, trivial⟩
theorem lw_tail (n q r nv na om p : Nat) (wh : Int) (G : Nat → El) (f h : Nat → Nat × Nat) (hp : p < n) (hpk : pick_0 wh (n : Int) = (p : Int)) (hn : n ≤ 256) (hq : q = (ND G n).length) (hr : r = (BR G n).length) (hg : ∀ j, j < n → badE chkE G j = 0) (hv : ∀ j, j < n → (G j).v < 18446744073709551616) :
  GoesB Try.prog (nav [1,1,1,1,1,1,1] (bodyOf Try.f3)) Try.f3.ntmps 3 20 21 (frL [(2, .int true .i64 wh), (7, .bool true), (8, .ptr ⟨false, 11, 0, 0⟩), (10, .ptr ⟨false, 17, 0, 0⟩), (11, .slc true true ⟨false, 18, 0, 0⟩ n), (12, .ptr ⟨false, 19, 0, 0⟩)]) (hpL (([(19, .cells true 8 1 (.fn fun _ => elR (G p)))] : List (Nat × ABk)) ++ (hRL n q r nv na om G f h))) (fun e fr' H' => (e = .ret ∨ e = .normal) ∧ ∃ u, fr'.get 6 = some u ∧ AV.ge u (.bool true)) := by
 have low := lw_low n q r nv na om G f h p 20 (by omega)
 have hpos := pos_NM hg hp
 rw [show (nav [1,1,1,1,1,1,1] (bodyOf Try.f3)) = .seq (nav [1,1,1,1,1,1,1,0] (bodyOf Try.f3)) (.seq (nav [1,1,1,1,1,1,1,1,0] (bodyOf Try.f3)) (.seq (nav [1,1,1,1,1,1,1,1,1,0] (bodyOf Try.f3)) (nav [1,1,1,1,1,1,1,1,1,1] (bodyOf Try.f3)))) by kernel_rfl]
 refine GoesB.seqN (K1 := 20) (F1 := [(2, .int true .i64 wh), (7, .bool true), (8, .ptr ⟨false, 11, 0, 0⟩), (10, .ptr ⟨false, 17, 0, 0⟩), (11, .slc true true ⟨false, 18, 0, 0⟩ n), (12, .ptr ⟨false, 19, 0, 0⟩), (13, .cpx true (tnR nv na n G f h om (G p).n).1.1 (tnR nv na n G f h om (G p).n).1.2), (14, .int true .i64 (tnR nv na n G f h om (G p).n).2)]) (H1 := (([(19, .cells true 8 1 (.fn fun _ => elR (G p)))] : List (Nat × ABk)) ++ (hRL n q r nv na om G f h))) (GoesB.toN (rcU (B := 3) (lwI_r0 n q r nv na om wh G (zipF 0 (NM G n)) (zipF 0 (ND G n)) (zipF 0 (BR G n)) (lget (ND G n)) (lget (BR G n)) f h (G p) (nqI hn hq hr) (sqI hg)) (by omega)) ⟨re rfl, re rfl, re rfl, re rfl, re rfl, re rfl, re rfl, re rfl, trivial⟩ ⟨hs rfl, hs rfl, hs rfl, hs rfl, hs rfl, hs rfl, hs rfl, hs rfl, hs rfl, hs rfl, hs rfl, hs rfl, trivial⟩) (by omega) ?_
 refine GoesB.seqN (K1 := 20) (F1 := [(2, .int true .i64 wh), (7, .bool true), (8, .ptr ⟨false, 11, 0, 0⟩), (10, .ptr ⟨false, 17, 0, 0⟩), (11, .slc true true ⟨false, 18, 0, 0⟩ n), (12, .ptr ⟨false, 19, 0, 0⟩), (13, .cpx true (tnR nv na n G f h om (G p).n).1.1 (tnR nv na n G f h om (G p).n).1.2), (14, .int true .i64 (tnR nv na n G f h om (G p).n).2), (15, .cpx true (onR nv na n G f h om (G p).n).1.1 (onR nv na n G f h om (G p).n).1.2), (16, .int true .i64 (onR nv na n G f h om (G p).n).2)]) (H1 := (([(19, .cells true 8 1 (.fn fun _ => elR (G p)))] : List (Nat × ABk)) ++ (hRL n q r nv na om G f h))) (GoesB.toN (rcU (B := 3) (lwJ_r0 n q r nv na om wh (tnR nv na n G f h om (G p).n).2 G (zipF 0 (NM G n)) (zipF 0 (ND G n)) (zipF 0 (BR G n)) (lget (ND G n)) (lget (BR G n)) f h (G p) (tnR nv na n G f h om (G p).n).1.1 (tnR nv na n G f h om (G p).n).1.2 (nqI hn hq hr) (sqI hg)) (by omega)) ⟨re rfl, re rfl, re rfl, re rfl, re rfl, re rfl, re rfl, re rfl, re rfl, re rfl, trivial⟩ ⟨hs rfl, hs rfl, hs rfl, hs rfl, hs rfl, hs rfl, hs rfl, hs rfl, hs rfl, hs rfl, hs rfl, hs rfl, trivial⟩) (by omega) ?_
 by_cases ht : (tnR nv na n G f h om (G p).n).2 = 0
 case neg =>
  have hO : (onR nv na n G f h om (G p).n) = ((0, 0), (tnR nv na n G f h om (G p).n).2) := by unfold onR; rw [decide_eq_false ht]; rfl
  refine GoesB.seq (K1 := 20) (by omega) ((lw_ret  (rcU (B := 20) (lwK_r1 n wh (tnR nv na n G f h om (G p).n).2 (onR nv na n G f h om (G p).n).2 (tnR nv na n G f h om (G p).n).1.1 (tnR nv na n G f h om (G p).n).1.2 (onR nv na n G f h om (G p).n).1.1 (onR nv na n G f h om (G p).n).1.2 (by rw [decide_eq_false ht]; rfl) (decide_eq_true (by rw [hO]))) (by omega)) low (by omega) (by omega) ⟨_, rfl, AV.ge.sboolb (by rw [hO]; exact f00)⟩).mono fun e fr H hh => ?_)
  obtain ⟨rfl, hu⟩ := hh
  exact ⟨.inl rfl, hu⟩
 obtain ⟨ck, i, hi, hin, hth, hT⟩ := tnR_zero ht
 rw [hpos] at hi
 cases hi
 obtain ⟨hnv, hna⟩ := ckE_zero ck
 have hnv : nv = q := by omega
 have hna : na = r := by omega
 have hO : (onR nv na n G f h om (G p).n) = (poP (ND G n) f (G p) (tnR nv na n G f h om (G p).n).1, poE (ND G n) f (G p) (tnR nv na n G f h om (G p).n).1) := by unfold onR; rw [decide_eq_true ht, hpos]; rfl
 have hC : (tnR nv na n G f h om (G p).n).1 = thV (ND G n) (BR G n) f h om (G p) := by rw [hT]
 refine GoesB.seqN (K1 := 20) ((GoesB.lower (B' := 20) (GoesB.idleN (xl := (([(19, .cells true 8 1 (.fn fun _ => elR (G p)))] : List (Nat × ABk)) ++ (hRL n q r nv na om G f h))) (rcU (B := 20) (lwK_r0 n wh (tnR nv na n G f h om (G p).n).2 (onR nv na n G f h om (G p).n).2 (tnR nv na n G f h om (G p).n).1.1 (tnR nv na n G f h om (G p).n).1.2 (onR nv na n G f h om (G p).n).1.1 (onR nv na n G f h om (G p).n).1.2 (by rw [decide_eq_true ht]; rfl)) (by omega)) (by omega) low) (by omega))) (by omega) ?_
 rw [show (nav [1,1,1,1,1,1,1,1,1,1] (bodyOf Try.f3)) = .seq (nav [1,1,1,1,1,1,1,1,1,1,0] (bodyOf Try.f3)) (.seq (nav [1,1,1,1,1,1,1,1,1,1,1,0] (bodyOf Try.f3)) (.seq (nav [1,1,1,1,1,1,1,1,1,1,1,1,0] (bodyOf Try.f3)) (.seq (nav [1,1,1,1,1,1,1,1,1,1,1,1,1,0] (bodyOf Try.f3)) (nav [1,1,1,1,1,1,1,1,1,1,1,1,1,1] (bodyOf Try.f3))))) by kernel_rfl]
 refine GoesB.seqN (K1 := 20) (F1 := [(2, .int true .i64 wh), (7, .bool true), (8, .ptr ⟨false, 11, 0, 0⟩), (10, .ptr ⟨false, 17, 0, 0⟩), (11, .slc true true ⟨false, 18, 0, 0⟩ n), (12, .ptr ⟨false, 19, 0, 0⟩), (13, .cpx true (tnR nv na n G f h om (G p).n).1.1 (tnR nv na n G f h om (G p).n).1.2), (15, .cpx true (onR nv na n G f h om (G p).n).1.1 (onR nv na n G f h om (G p).n).1.2), (16, .int true .i64 (onR nv na n G f h om (G p).n).2), (17, .cpx true (poV (ND G n) f (G p)).1 (poV (ND G n) f (G p)).2)]) (H1 := (([(19, .cells true 8 1 (.fn fun _ => elR (G p)))] : List (Nat × ABk)) ++ (hRL n q r nv na om G f h))) (GoesB.toN (rcU (B := 3) (lwL_r0 n q r nv na om wh (onR nv na n G f h om (G p).n).2 G (zipF 0 (NM G n)) (zipF 0 (ND G n)) (zipF 0 (BR G n)) (lget (ND G n)) (lget (BR G n)) f h (G p) (tnR nv na n G f h om (G p).n).1.1 (tnR nv na n G f h om (G p).n).1.2 (onR nv na n G f h om (G p).n).1.1 (onR nv na n G f h om (G p).n).1.2 (nqI hn hq hr) (sqI hg) hnv hna (nqI hn hq hr)) (by omega)) ⟨re rfl, re rfl, re rfl, re rfl, re rfl, re rfl, re rfl, re rfl, re rfl, re rfl, trivial⟩ ⟨hs rfl, hs rfl, hs rfl, hs rfl, hs rfl, hs rfl, hs rfl, hs rfl, hs rfl, hs rfl, hs rfl, hs rfl, trivial⟩) (by omega) ?_
 refine GoesB.seqN (K1 := 20) (F1 := [(2, .int true .i64 wh), (7, .bool true), (8, .ptr ⟨false, 11, 0, 0⟩), (10, .ptr ⟨false, 17, 0, 0⟩), (11, .slc true true ⟨false, 18, 0, 0⟩ n), (12, .ptr ⟨false, 19, 0, 0⟩), (15, .cpx true (onR nv na n G f h om (G p).n).1.1 (onR nv na n G f h om (G p).n).1.2), (16, .int true .i64 (onR nv na n G f h om (G p).n).2), (17, .cpx true (poV (ND G n) f (G p)).1 (poV (ND G n) f (G p)).2), (18, .cpx true (cmulE (poV (ND G n) f (G p)) ((tnR nv na n G f h om (G p).n).1.1, fneg (tnR nv na n G f h om (G p).n).1.2)).1 (cmulE (poV (ND G n) f (G p)) ((tnR nv na n G f h om (G p).n).1.1, fneg (tnR nv na n G f h om (G p).n).1.2)).2)]) (H1 := (([(19, .cells true 8 1 (.fn fun _ => elR (G p)))] : List (Nat × ABk)) ++ (hRL n q r nv na om G f h))) ((GoesB.lower (B' := 20) (GoesB.idleN (xl := (([(19, .cells true 8 1 (.fn fun _ => elR (G p)))] : List (Nat × ABk)) ++ (hRL n q r nv na om G f h))) (rcU (B := 20) (lwM_r0 n wh (onR nv na n G f h om (G p).n).2 (tnR nv na n G f h om (G p).n).1.1 (tnR nv na n G f h om (G p).n).1.2 (onR nv na n G f h om (G p).n).1.1 (onR nv na n G f h om (G p).n).1.2 (poV (ND G n) f (G p)).1 (poV (ND G n) f (G p)).2 ) (by omega)) (by omega) low) (by omega))) (by omega) ?_
 refine GoesB.seqN (K1 := 20) (F1 := [(2, .int true .i64 wh), (7, .bool true), (8, .ptr ⟨false, 11, 0, 0⟩), (10, .ptr ⟨false, 17, 0, 0⟩), (11, .slc true true ⟨false, 18, 0, 0⟩ n), (12, .ptr ⟨false, 19, 0, 0⟩), (15, .cpx true (onR nv na n G f h om (G p).n).1.1 (onR nv na n G f h om (G p).n).1.2), (16, .int true .i64 (onR nv na n G f h om (G p).n).2), (17, .cpx true (poV (ND G n) f (G p)).1 (poV (ND G n) f (G p)).2), (18, .cpx true (lwW (ND G n) f (G p) (tnR nv na n G f h om (G p).n).1).1 (lwW (ND G n) f (G p) (tnR nv na n G f h om (G p).n).1).2)]) (H1 := (([(19, .cells true 8 1 (.fn fun _ => elR (G p)))] : List (Nat × ABk)) ++ (hRL n q r nv na om G f h))) ((GoesB.lower (B' := 20) (GoesB.idleN (xl := (([(19, .cells true 8 1 (.fn fun _ => elR (G p)))] : List (Nat × ABk)) ++ (hRL n q r nv na om G f h))) (rcU (B := 20) (lwN_r0 n wh (onR nv na n G f h om (G p).n).2 (onR nv na n G f h om (G p).n).1.1 (onR nv na n G f h om (G p).n).1.2 (poV (ND G n) f (G p)).1 (poV (ND G n) f (G p)).2 (cmulE (poV (ND G n) f (G p)) ((tnR nv na n G f h om (G p).n).1.1, fneg (tnR nv na n G f h om (G p).n).1.2)).1 (cmulE (poV (ND G n) f (G p)) ((tnR nv na n G f h om (G p).n).1.1, fneg (tnR nv na n G f h om (G p).n).1.2)).2 ) (by omega)) (by omega) low) (by omega))) (by omega) ?_
 have hW := lwW_is (ND G n) f (G p) (tnR nv na n G f h om (G p).n).1
 cases hfw : fin_0 (lwW (ND G n) f (G p) (tnR nv na n G f h om (G p).n).1).1 (lwW (ND G n) f (G p) (tnR nv na n G f h om (G p).n).1).2 with
 | false =>
  have hE : (onR nv na n G f h om (G p).n) = ((0, 0), 6) := by
   have e1 : poE (ND G n) f (G p) (tnR nv na n G f h om (G p).n).1 = 6 := by
    unfold poE; rw [← hW, hfw]; cases fin_0 (poV (ND G n) f (G p)).1 (poV (ND G n) f (G p)).2 <;> rfl
   rw [hO]; unfold poP; rw [e1]; rfl
  refine GoesB.seq (K1 := 20) (by omega) ((lw_ret  (rcU (B := 20) (lwO_r3 n wh (onR nv na n G f h om (G p).n).2 (onR nv na n G f h om (G p).n).1.1 (onR nv na n G f h om (G p).n).1.2 (poV (ND G n) f (G p)).1 (poV (ND G n) f (G p)).2 (lwW (ND G n) f (G p) (tnR nv na n G f h om (G p).n).1).1 (lwW (ND G n) f (G p) (tnR nv na n G f h om (G p).n).1).2 (by rw [hfw]; rfl) (decide_eq_true (by rw [hE]))) (by omega)) low (by omega) (by omega) ⟨_, rfl, AV.ge.sboolb (by rw [hE]; exact f00)⟩).mono fun e fr H hh => ?_)
  obtain ⟨rfl, hu⟩ := hh
  exact ⟨.inl rfl, hu⟩
 | true =>
 cases hfv : fin_0 (poV (ND G n) f (G p)).1 (poV (ND G n) f (G p)).2 with
 | false =>
  have hE : (onR nv na n G f h om (G p).n) = ((0, 0), 6) := by
   have e1 : poE (ND G n) f (G p) (tnR nv na n G f h om (G p).n).1 = 6 := by
    unfold poE; rw [hfv]; rfl
   rw [hO]; unfold poP; rw [e1]; rfl
  refine GoesB.seq (K1 := 20) (by omega) ((lw_ret  (rcU (B := 20) (lwO_r1 n wh (onR nv na n G f h om (G p).n).2 (onR nv na n G f h om (G p).n).1.1 (onR nv na n G f h om (G p).n).1.2 (poV (ND G n) f (G p)).1 (poV (ND G n) f (G p)).2 (lwW (ND G n) f (G p) (tnR nv na n G f h om (G p).n).1).1 (lwW (ND G n) f (G p) (tnR nv na n G f h om (G p).n).1).2 (by rw [hfw]; rfl) (by rw [hfv]; rfl) (decide_eq_true (by rw [hE]))) (by omega)) low (by omega) (by omega) ⟨_, rfl, AV.ge.sboolb (by rw [hE]; exact f00)⟩).mono fun e fr H hh => ?_)
  obtain ⟨rfl, hu⟩ := hh
  exact ⟨.inl rfl, hu⟩
 | true =>
 have hE : (onR nv na n G f h om (G p).n) = ((lwW (ND G n) f (G p) (tnR nv na n G f h om (G p).n).1), 0) := by
  have e1 : poE (ND G n) f (G p) (tnR nv na n G f h om (G p).n).1 = 0 := by
   unfold poE; rw [hfv, ← hW, hfw]; rfl
  have e2 : poP (ND G n) f (G p) (tnR nv na n G f h om (G p).n).1 = (lwW (ND G n) f (G p) (tnR nv na n G f h om (G p).n).1) := by unfold poP; rw [e1, hW]; rfl
  rw [hO, e1, e2]
 have wf1 : Fw (lwW (ND G n) f (G p) (tnR nv na n G f h om (G p).n).1).1 := Fw.fmul _ _
 have wf2 : Fw (lwW (ND G n) f (G p) (tnR nv na n G f h om (G p).n).1).2 := Fw.fmul _ _
 obtain ⟨wn1, wn2⟩ := fin_is wf1 wf2 hfw
 have wn1 := fin_nn wn1
 have wn2 := fin_nn wn2
 refine GoesB.seqN (K1 := 20) ((GoesB.lower (B' := 20) (GoesB.idleN (xl := (([(19, .cells true 8 1 (.fn fun _ => elR (G p)))] : List (Nat × ABk)) ++ (hRL n q r nv na om G f h))) (rcU (B := 20) (lwO_r0 n wh (onR nv na n G f h om (G p).n).2 (onR nv na n G f h om (G p).n).1.1 (onR nv na n G f h om (G p).n).1.2 (poV (ND G n) f (G p)).1 (poV (ND G n) f (G p)).2 (lwW (ND G n) f (G p) (tnR nv na n G f h om (G p).n).1).1 (lwW (ND G n) f (G p) (tnR nv na n G f h om (G p).n).1).2 (by rw [hfw]; rfl) (by rw [hfv]; rfl)) (by omega)) (by omega) low) (by omega))) (by omega) ?_
 rw [show (nav [1,1,1,1,1,1,1,1,1,1,1,1,1,1] (bodyOf Try.f3)) = .seq (nav [1,1,1,1,1,1,1,1,1,1,1,1,1,1,0] (bodyOf Try.f3)) (.seq (nav [1,1,1,1,1,1,1,1,1,1,1,1,1,1,1,0] (bodyOf Try.f3)) (.seq (nav [1,1,1,1,1,1,1,1,1,1,1,1,1,1,1,1,0] (bodyOf Try.f3)) (.seq (nav [1,1,1,1,1,1,1,1,1,1,1,1,1,1,1,1,1,0] (bodyOf Try.f3)) (nav [1,1,1,1,1,1,1,1,1,1,1,1,1,1,1,1,1,1] (bodyOf Try.f3))))) by kernel_rfl]
 rw [hE]
 refine GoesB.seqN (K1 := 20) ((GoesB.lower (B' := 20) (GoesB.idleN (xl := (([(19, .cells true 8 1 (.fn fun _ => elR (G p)))] : List (Nat × ABk)) ++ (hRL n q r nv na om G f h))) (rcU (B := 20) (lwP_r0 n wh 0 (lwW (ND G n) f (G p) (tnR nv na n G f h om (G p).n).1).1 (lwW (ND G n) f (G p) (tnR nv na n G f h om (G p).n).1).2 (lwW (ND G n) f (G p) (tnR nv na n G f h om (G p).n).1).1 (lwW (ND G n) f (G p) (tnR nv na n G f h om (G p).n).1).2 rfl wn1 wn1 (decide_eq_true rfl) wn2 wn2 (decide_eq_true rfl)) (by omega)) (by omega) low) (by omega))) (by omega) ?_
 have hrow : (poP (ND G n) f (G p) (thV (ND G n) (BR G n) f h om (G p))) = (lwW (ND G n) f (G p) (tnR nv na n G f h om (G p).n).1) := by
  have h1 : (poP (ND G n) f (G p) (tnR nv na n G f h om (G p).n).1, poE (ND G n) f (G p) (tnR nv na n G f h om (G p).n).1) = ((lwW (ND G n) f (G p) (tnR nv na n G f h om (G p).n).1), 0) := hO.symm.trans hE
  rw [hC] at h1
  rw [hC]
  exact congrArg Prod.fst h1
 have heat : (G p).k = 1 ∨ (G p).k = 8 → fge (lwW (ND G n) f (G p) (tnR nv na n G f h om (G p).n).1).1 0 = true := fun k => fge_P0 wf1.1 wn1 (by rw [hW, hC]; exact po_heat k (hv p hp) hth hfv)
 have lowR : LowL 20 (hRL n q r nv na om G f h) := low.2
 refine GoesB.seqN (K1 := 20) (F1 := [(2, .int true .i64 wh), (7, .bool true), (8, .ptr ⟨false, 11, 0, 0⟩), (10, .ptr ⟨false, 17, 0, 0⟩), (11, .slc true true ⟨false, 18, 0, 0⟩ n), (15, .cpx true (lwW (ND G n) f (G p) (tnR nv na n G f h om (G p).n).1).1 (lwW (ND G n) f (G p) (tnR nv na n G f h om (G p).n).1).2)]) (H1 := (([(19, .cells true 8 1 (.fn fun _ => elR (G p)))] : List (Nat × ABk)) ++ (hRL n q r nv na om G f h))) ?_ (by omega) ?_
 ·by_cases k1 : (G p).k = 1
  ·exact (GoesB.lower (B' := 20) (GoesB.frameN (bl := ([(19, .cells true 8 1 (.fn fun _ => elR (G p)))] : List (Nat × ABk))) (bl' := ([(19, .cells true 8 1 (.fn fun _ => elR (G p)))] : List (Nat × ABk))) (xl := (hRL n q r nv na om G f h)) (rcU (B := 20) (lwQ_r0 n wh (G p) (lwW (ND G n) f (G p) (tnR nv na n G f h om (G p).n).1).1 (lwW (ND G n) f (G p) (tnR nv na n G f h om (G p).n).1).2 (decide_eq_true k1) (by rw [heat (.inl k1)]; rfl)) (by omega)) (by omega) lowR (by kernel_rfl) (by kernel_rfl) ⟨.inl rfl, trivial⟩) (by omega))
  ·by_cases k8 : (G p).k = 8
   ·exact (GoesB.lower (B' := 20) (GoesB.frameN (bl := ([(19, .cells true 8 1 (.fn fun _ => elR (G p)))] : List (Nat × ABk))) (bl' := ([(19, .cells true 8 1 (.fn fun _ => elR (G p)))] : List (Nat × ABk))) (xl := (hRL n q r nv na om G f h)) (rcU (B := 20) (lwQ_r2 n wh (G p) (lwW (ND G n) f (G p) (tnR nv na n G f h om (G p).n).1).1 (lwW (ND G n) f (G p) (tnR nv na n G f h om (G p).n).1).2 (decide_eq_false k1) (decide_eq_true k8) (by rw [heat (.inr k8)]; rfl)) (by omega)) (by omega) lowR (by kernel_rfl) (by kernel_rfl) ⟨.inl rfl, trivial⟩) (by omega))
   ·exact (GoesB.lower (B' := 20) (GoesB.frameN (bl := ([(19, .cells true 8 1 (.fn fun _ => elR (G p)))] : List (Nat × ABk))) (bl' := ([(19, .cells true 8 1 (.fn fun _ => elR (G p)))] : List (Nat × ABk))) (xl := (hRL n q r nv na om G f h)) (rcU (B := 20) (lwQ_r4 n wh (G p) (lwW (ND G n) f (G p) (tnR nv na n G f h om (G p).n).1).1 (lwW (ND G n) f (G p) (tnR nv na n G f h om (G p).n).1).2 (decide_eq_false k1) (decide_eq_false k8)) (by omega)) (by omega) lowR (by kernel_rfl) (by kernel_rfl) ⟨.inl rfl, trivial⟩) (by omega))
 refine GoesB.weakL (fl := [(2, .int true .i64 wh), (7, .bool true), (8, .ptr ⟨false, 11, 0, 0⟩), (10, .ptr ⟨false, 17, 0, 0⟩), (11, .slc true true ⟨false, 18, 0, 0⟩ n), (15, .cpx true (lwW (ND G n) f (G p) (tnR nv na n G f h om (G p).n).1).1 (lwW (ND G n) f (G p) (tnR nv na n G f h om (G p).n).1).2)]) (bl := (hRL n q r nv na om G f h)) ⟨re rfl, re rfl, re rfl, re rfl, re rfl, re rfl, trivial⟩ ⟨hs rfl, hs rfl, hs rfl, hs rfl, hs rfl, hs rfl, hs rfl, hs rfl, hs rfl, hs rfl, hs rfl, trivial⟩ ?_
 by_cases pa : paE nv na n G f h om = 0
 case neg =>
  refine GoesB.seqN (K1 := 21) (F1 := [(7, .bool true), (19, .nils), (20, .int true .i64 (paE nv na n G f h om))]) (H1 := ([(18, .cells true 8 n (.fn fun j => elR (G j)))] : List (Nat × ABk))) (GoesB.toN (rcU (B := 3) (lwR_r1 n q r nv na om wh G (zipF 0 (NM G n)) (zipF 0 (ND G n)) (zipF 0 (BR G n)) (lget (ND G n)) (lget (BR G n)) f h (lwW (ND G n) f (G p) (tnR nv na n G f h om (G p).n).1).1 (lwW (ND G n) f (G p) (tnR nv na n G f h om (G p).n).1).2 (nqI hn hq hr) (sqI hg) (decide_eq_false pa)) (by omega)) ⟨re rfl, re rfl, re rfl, trivial⟩ ⟨hs rfl, trivial⟩) (by omega) ?_
  refine GoesB.seq (K1 := 21) (by omega) ((lw_ret (xl := ([(18, .cells true 8 n (.fn fun j => elR (G j)))] : List (Nat × ABk))) (rcU (B := 21) (lwS_r1 (paE nv na n G f h om) (by rw [decide_eq_false pa]; rfl)) (by omega)) ⟨⟨by omega, fun j hj v hv => List.all_eq_true.1 (elR_low 21 _) v hv⟩, trivial⟩ (by omega) (by omega) (re rfl)).mono fun e fr H hh => ?_)
  obtain ⟨rfl, hu⟩ := hh
  exact ⟨.inl rfl, hu⟩
 refine GoesB.seqN (K1 := 21) (F1 := [(2, .int true .i64 wh), (7, .bool true), (11, .slc true true ⟨false, 18, 0, 0⟩ n), (15, .cpx true (lwW (ND G n) f (G p) (tnR nv na n G f h om (G p).n).1).1 (lwW (ND G n) f (G p) (tnR nv na n G f h om (G p).n).1).2), (19, .slc true true ⟨false, 20, 0, 0⟩ n), (20, .int true .i64 0)]) (H1 := ([(18, .cells true 8 n (.fn fun j => elR (G j))), (20, .cells true 1 (n) (.fn (cxR (fun j => poP (ND G n) f (G j) (thV (ND G n) (BR G n) f h om (G j))))))] : List (Nat × ABk))) (GoesB.toN (rcU (B := 3) (lwR_r0 n q r nv na om wh G (zipF 0 (NM G n)) (zipF 0 (ND G n)) (zipF 0 (BR G n)) (lget (ND G n)) (lget (BR G n)) f h (lwW (ND G n) f (G p) (tnR nv na n G f h om (G p).n).1).1 (lwW (ND G n) f (G p) (tnR nv na n G f h om (G p).n).1).2 (nqI hn hq hr) (sqI hg) (decide_eq_true pa)) (by omega)) ⟨re rfl, re rfl, re rfl, re rfl, re rfl, ri rfl, trivial⟩ ⟨hs rfl, hs rfl, trivial⟩) (by omega) ?_
 refine GoesB.seqN (K1 := 21) ((GoesB.lower (B' := 21) (GoesB.idleN (xl := ([(18, .cells true 8 n (.fn fun j => elR (G j))), (20, .cells true 1 (n) (.fn (cxR (fun j => poP (ND G n) f (G j) (thV (ND G n) (BR G n) f h om (G j))))))] : List (Nat × ABk))) (rcU (B := 21) (lwU_r0 n wh (lwW (ND G n) f (G p) (tnR nv na n G f h om (G p).n).1).1 (lwW (ND G n) f (G p) (tnR nv na n G f h om (G p).n).1).2 rfl) (by omega)) (by omega) ⟨⟨by omega, fun j hj v hv => List.all_eq_true.1 (elR_low 21 _) v hv⟩, ⟨by omega, fun j hj v hv => by rw [List.mem_singleton.1 hv]; rfl⟩, trivial⟩) (by omega))) (by omega) ?_
 have n0 : (0 : Int) < (n : Int) := by omega
 have tm1 := Int.lt_tmod_of_pos wh n0
 have tm2 := Int.tmod_lt_of_pos wh n0
 have e0 : (0 : Nat) + Int.toNat (pick_0 wh (n : Int)) = p := by rw [hpk, Nat.zero_add]; rfl
 refine ((rcU (B := 3) (lwT_r0 n wh G (fun j => poP (ND G n) f (G j) (thV (ND G n) (BR G n) f h om (G j))) (lwW (ND G n) f (G p) (tnR nv na n G f h om (G p).n).1).1 (lwW (ND G n) f (G p) (tnR nv na n G f h om (G p).n).1).2 (decide_eq_true rfl) (fun _ => by omega) (fun _ => by omega) (fun _ => by omega) (fun _ => by omega) (by rw [hpk]; omega) (by rw [hpk]; omega) (by rw [e0]; exact hp) (by rw [e0, hrow]; exact wn1) wn1 (by rw [e0, hrow]; exact decide_eq_true rfl) (by rw [e0, hrow]; exact wn2) wn2 (by rw [e0, hrow]; exact decide_eq_true rfl)) (by omega))).mono fun e fr H hh => ?_
 obtain ⟨rfl, rfl, rfl⟩ := hh
 exact ⟨.inl rfl, _, rfl, AV.ge.refl _⟩


theorem rowsE_el (G : Nat → El) : rowsE (fun j => elR (G j)) = G := rfl
theorem rowsE_of (G : Nat → El) : rowsE (rowsOf ⟨false, 4, 0, 0⟩ 8 8 (.fn fun j => elR (rowsZ (rowsOf ⟨false, 0, 0, 0⟩ 8 8 (.fn fun j => zR (G j))) j))) = G := by
 funext j
 show unE (elR (unZ (zR (G (0 + (0 + j)))))) = G j
 rw [Nat.zero_add, Nat.zero_add]
 rfl
theorem law_goes (n nv na om : Nat) (wh : Int) (G : Nat → El) (va aa : Nat → Nat × Nat) (h1 : n * 104 ≤ 140737488355328) (hnv : nv * 16 ≤ 140737488355328) (hna : na * 16 ≤ 140737488355328) (hom : om < 18446744073709551616) (hv : ∀ j, j < n → (G j).v < 18446744073709551616)
  (hva : ∀ j, j < nv → (va j).1 < 18446744073709551616 ∧ (va j).2 < 18446744073709551616) (haa : ∀ j, j < na → (aa j).1 < 18446744073709551616 ∧ (aa j).2 < 18446744073709551616) :
  GoesB Try.prog (bodyOf Try.f3) Try.f3.ntmps 3 3 21 (frameOf [.slc true false ⟨false, 0, 0, 0⟩ n, .agg [.int true .u64 (om : Nat), .slc true false ⟨false, 1, 0, 0⟩ nv, .slc true false ⟨false, 2, 0, 0⟩ na], .int true .i64 wh] 0 .e) (hpL [(0, .cells false 8 (n) (.fn fun j => zR (G j))), (1, .cells false 2 (nv) (.fn fun j => [.int true .u64 ((va j).1 : Nat), .int true .u64 ((va j).2 : Nat)])), (2, .cells false 2 (na) (.fn fun j => [.int true .u64 ((aa j).1 : Nat), .int true .u64 ((aa j).2 : Nat)]))]) (fun e fr' H' => (e = .ret ∨ e = .normal) ∧ ∃ u, fr'.get 6 = some u ∧ AV.ge u (.bool true)) := by
 rw [show (bodyOf Try.f3) = .seq (nav [0] (bodyOf Try.f3)) (.seq (nav [1,0] (bodyOf Try.f3)) (.seq (nav [1,1,0] (bodyOf Try.f3)) (.seq (nav [1,1,1,0] (bodyOf Try.f3)) (.seq (nav [1,1,1,1,0] (bodyOf Try.f3)) (.seq (nav [1,1,1,1,1,0] (bodyOf Try.f3)) (.seq (nav [1,1,1,1,1,1,0] (bodyOf Try.f3)) (nav [1,1,1,1,1,1,1] (bodyOf Try.f3)))))))) by kernel_rfl]
 refine GoesB.seqN (K1 := 4) (F1 := [(0, .slc true false ⟨false, 0, 0, 0⟩ n), (2, .int true .i64 wh), (4, .ptr ⟨false, 3, 0, 0⟩)]) (H1 := [(0, .cells false 8 (n) (.fn fun j => zR (G j))), (1, .cells false 2 (nv) (.fn fun j => [.int true .u64 ((va j).1 : Nat), .int true .u64 ((va j).2 : Nat)])), (2, .cells false 2 (na) (.fn fun j => [.int true .u64 ((aa j).1 : Nat), .int true .u64 ((aa j).2 : Nat)])), (3, .cells true 3 1 (.fn fun _ => [.int true .u64 (om : Nat), .slc true false ⟨false, 1, 0, 0⟩ nv, .slc true false ⟨false, 2, 0, 0⟩ na]))]) (GoesB.toN (rcU (B := 3) (lwA_r0 n nv na om wh G va aa) (by omega)) ⟨re rfl, re rfl, re rfl, trivial⟩ ⟨hs rfl, hs rfl, hs rfl, hbl1 rfl, trivial⟩) (by omega) ?_
 refine GoesB.seqN (K1 := 4) (F1 := [(0, .slc true false ⟨false, 0, 0, 0⟩ n), (2, .int true .i64 wh), (4, .ptr ⟨false, 3, 0, 0⟩), (7, .bool true)]) (H1 := [(0, .cells false 8 (n) (.fn fun j => zR (G j))), (1, .cells false 2 (nv) (.fn fun j => [.int true .u64 ((va j).1 : Nat), .int true .u64 ((va j).2 : Nat)])), (2, .cells false 2 (na) (.fn fun j => [.int true .u64 ((aa j).1 : Nat), .int true .u64 ((aa j).2 : Nat)])), (3, .cells true 3 1 (.fn fun _ => [.int true .u64 (om : Nat), .slc true false ⟨false, 1, 0, 0⟩ nv, .slc true false ⟨false, 2, 0, 0⟩ na]))]) (GoesB.toN (rcU (B := 3) (lwB_r0 n nv na om wh G va aa) (by omega)) ⟨re rfl, re rfl, re rfl, re rfl, trivial⟩ ⟨hs rfl, hs rfl, hs rfl, hs rfl, trivial⟩) (by omega) ?_
 by_cases t : decide ((ofX G n).1 = 0) = true
 case neg =>
  have t := Bool.eq_false_iff.2 t
  have hC := (rcU (B := 3) (lwC_r1 n nv na om wh G va aa (by omega) h1 (fun j hj => ⟨RowGe_refl (zR (G (0 + j))) rfl, by rw [Nat.zero_add]; exact hv j hj⟩) (fun j hj u hu => List.all_eq_true.1 (show (zR (G (0 + j))).all (fun v => v.low 0) = true from rfl) u hu) (by omega) ⟨⟨fun j hj => RowGe_refl _ rfl⟩, fun j hj u hu => List.all_eq_true.1 (elR_low 0 _) u hu⟩ (by simp only [Nat.zero_add, rowsE_el]; exact t)) (by omega))
  simp only [Nat.zero_add, rowsE_of, rowsE_el] at hC
  refine GoesB.seqN (K1 := 13) (F1 := [(0, .slc true false ⟨false, 0, 0, 0⟩ n), (7, .bool true), (8, .nilp), (9, .ptr ⟨false, 5, 0, 0⟩)]) (H1 := ([(5, .cells true 2 1 (.fn fun _ => [.int true .i64 (ofX G n).1, .int true .i64 (ofX G n).2]))] : List (Nat × ABk))) (GoesB.toN hC ⟨re rfl, re rfl, re rfl, re rfl, trivial⟩ ⟨hbl1 rfl, trivial⟩) (by omega) ?_
  have AE : ∀ er at_ : Int, GoesB Try.prog (nav [1,1,1,0] (bodyOf Try.f3)) Try.f3.ntmps 3 13 13 (frL [(0, .slc true false ⟨false, 0, 0, 0⟩ n), (7, .bool true), (8, .nilp), (9, .ptr ⟨false, 5, 0, 0⟩)]) (hpL ([(5, .cells true 2 1 (.fn fun _ => [.int true .i64 er, .int true .i64 at_]))] : List (Nat × ABk))) (fun e' fr' H' => e' = .ret ∧ fr' = frL [(6, .bool true)] ∧ H' = hpL []) := fun er at_ => by
   cases c : (!(decide (er = (0 : Int)) && (decide (at_ = (0 : Int)) && true))) with
   | false => exact (rcU (B := 3) (lwE_r0 n er at_ c) (by omega))
   | true => exact (rcU (B := 3) (lwE_r1 n er at_ c) (by omega))
  refine GoesB.seq (K1 := 13) (by omega) ((AE _ _).mono fun e fr H hh => ?_)
  obtain ⟨rfl, rfl, rfl⟩ := hh
  exact ⟨.inl rfl, _, rfl, AV.ge.refl _⟩
 have hC := (rcU (B := 3) (lwC_r0 n nv na om wh G va aa (by omega) h1 (fun j hj => ⟨RowGe_refl (zR (G (0 + j))) rfl, by rw [Nat.zero_add]; exact hv j hj⟩) (fun j hj u hu => List.all_eq_true.1 (show (zR (G (0 + j))).all (fun v => v.low 0) = true from rfl) u hu) (by omega) ⟨⟨fun j hj => RowGe_refl _ rfl⟩, fun j hj u hu => List.all_eq_true.1 (elR_low 0 _) u hu⟩ (by simp only [Nat.zero_add, rowsE_el]; exact t)) (by omega))
 simp only [Nat.zero_add, rowsE_of, rowsE_el] at hC
 have hz := of_decide_eq_true t
 rw [ofX_is] at hz
 obtain ⟨hn, hg⟩ := ofR_zero hz
 refine GoesB.seqN (K1 := 13) (F1 := [(0, .slc true false ⟨false, 0, 0, 0⟩ n), (2, .int true .i64 wh), (4, .ptr ⟨false, 3, 0, 0⟩), (7, .bool true), (8, .ptr ⟨false, 11, 0, 0⟩), (9, .ptr ⟨false, 12, 0, 0⟩)]) (H1 := ([(1, .cells false 2 (nv) (.fn fun j => [.int true .u64 ((va j).1 : Nat), .int true .u64 ((va j).2 : Nat)])), (2, .cells false 2 (na) (.fn fun j => [.int true .u64 ((aa j).1 : Nat), .int true .u64 ((aa j).2 : Nat)])), (3, .cells true 3 1 (.fn fun _ => [.int true .u64 (om : Nat), .slc true false ⟨false, 1, 0, 0⟩ nv, .slc true false ⟨false, 2, 0, 0⟩ na])), (5, .mSI true (zipF 0 (NM G n))), (6, .mSI true (zipF 0 (ND G n))), (7, .mSI true (zipF 0 (BR G n))), (8, .cells true 8 n (.fn fun j => elR (G j))), (9, .cells true 1 (ND G n).length (.fn (txR (lget (ND G n))))), (10, .cells true 1 (BR G n).length (.fn (txR (lget (BR G n))))), (11, .cells true 7 1 (.fn fun _ => netG 5 6 7 8 9 10 n (ND G n).length (BR G n).length)), (12, .cells true 2 1 (.fn fun _ => [.int false .i64 0, .int false .i64 0]))] : List (Nat × ABk))) (GoesB.toN hC ⟨re rfl, re rfl, re rfl, re rfl, re rfl, re rfl, trivial⟩ ⟨hs rfl, hs rfl, hs rfl, hs rfl, hs rfl, hs rfl, hs rfl, hs rfl, hs rfl, hs rfl, hbl1 rfl, trivial⟩) (by omega) ?_
 clear hC
 by_cases n0 : n = 0
 ·refine GoesB.seq (K1 := 13) (by omega) ((rcU (B := 3) (lwD_r0 n ((ND G n).length) ((BR G n).length) nv na om wh G (zipF 0 (NM G n)) (zipF 0 (ND G n)) (zipF 0 (BR G n)) (lget (ND G n)) (lget (BR G n)) va aa (decide_eq_true (by omega))) (by omega)).mono fun e fr H hh => ?_)
  obtain ⟨rfl, rfl, rfl⟩ := hh
  exact ⟨.inl rfl, _, rfl, AV.ge.refl _⟩
 refine GoesB.seqN (K1 := 13) (rcU (B := 3) (lwD_r1 n ((ND G n).length) ((BR G n).length) nv na om wh G (zipF 0 (NM G n)) (zipF 0 (ND G n)) (zipF 0 (BR G n)) (lget (ND G n)) (lget (BR G n)) va aa (decide_eq_false (by omega))) (by omega)) (by omega) ?_
 have zr : ∀ (va : Nat → Nat × Nat) (j : Nat), (va (0 + j)).1 < 18446744073709551616 ∧ (va (0 + j)).2 < 18446744073709551616 → ZRow [AV.int true .u64 (((va (0 + j)).1 : Nat) : Int), .int true .u64 (((va (0 + j)).2 : Nat) : Int)] := fun va j h => ⟨⟨true, true, rfl⟩, by show (0 : Int) ≤ (((va (0 + j)).1 : Nat) : Int); omega, by show (((va (0 + j)).1 : Nat) : Int) < _; omega, by show (0 : Int) ≤ (((va (0 + j)).2 : Nat) : Int); omega, by show (((va (0 + j)).2 : Nat) : Int) < _; omega⟩
 have zl : ∀ (va : Nat → Nat × Nat) (j : Nat) (u : AV), u ∈ [AV.int true .u64 (((va (0 + j)).1 : Nat) : Int), .int true .u64 (((va (0 + j)).2 : Nat) : Int)] → u.low 0 = true := fun va j u hu => List.all_eq_true.1 (show ([AV.int true .u64 (((va (0 + j)).1 : Nat) : Int), .int true .u64 (((va (0 + j)).2 : Nat) : Int)]).all (fun v => v.low 0) = true from rfl) u hu
 refine GoesB.seqN (K1 := 18) (F1 := [(2, .int true .i64 wh), (7, .bool true), (8, .ptr ⟨false, 11, 0, 0⟩), (10, .ptr ⟨false, 17, 0, 0⟩)]) (H1 := ([(5, .mSI true (zipF 0 (NM G n))), (6, .mSI true (zipF 0 (ND G n))), (7, .mSI true (zipF 0 (BR G n))), (8, .cells true 8 n (.fn fun j => elR (G j))), (9, .cells true 1 (ND G n).length (.fn (txR (lget (ND G n))))), (10, .cells true 1 (BR G n).length (.fn (txR (lget (BR G n))))), (11, .cells true 7 1 (.fn fun _ => netG 5 6 7 8 9 10 n (ND G n).length (BR G n).length)), (15, .cells true 1 nv (.fn (cxR (fun j => (cn (va j).1, cn (va j).2))))), (16, .cells true 1 na (.fn (cxR (fun j => (cn (aa j).1, cn (aa j).2))))), (17, .cells true 3 1 (.fn fun _ => [.raw true om, .slc true true ⟨false, 15, 0, 0⟩ nv, .slc true true ⟨false, 16, 0, 0⟩ na]))] : List (Nat × ABk))) (GoesB.toN (rcU (B := 3) (lwF_r0 n ((ND G n).length) ((BR G n).length) nv na om wh G (zipF 0 (NM G n)) (zipF 0 (ND G n)) (zipF 0 (BR G n)) (lget (ND G n)) (lget (BR G n)) va aa (by omega) (by omega) (by omega) (by omega) (fun j hj => zr va j (by rw [Nat.zero_add]; exact hva j hj)) (fun j hj => zl va j) (by omega) (by omega) (fun j hj => zr aa j (by rw [Nat.zero_add]; exact haa j hj)) (fun j hj => zl aa j)) (by omega)) ⟨re rfl, re rfl, re rfl, re rfl, trivial⟩ ⟨hs rfl, hs rfl, hs rfl, hs rfl, hs rfl, hs rfl, hs rfl, gR rfl rfl (fun j _ => by rw [Nat.zero_add]; rfl), gR rfl rfl (fun j _ => by rw [Nat.zero_add]; rfl), hbl1 rfl, trivial⟩) (by omega) ?_
 refine GoesB.seqN (K1 := 19) (F1 := [(2, .int true .i64 wh), (7, .bool true), (8, .ptr ⟨false, 11, 0, 0⟩), (10, .ptr ⟨false, 17, 0, 0⟩), (11, .slc true true ⟨false, 18, 0, 0⟩ n)]) (H1 := ([(5, .mSI true (zipF 0 (NM G n))), (6, .mSI true (zipF 0 (ND G n))), (7, .mSI true (zipF 0 (BR G n))), (8, .cells true 8 n (.fn fun j => elR (G j))), (9, .cells true 1 (ND G n).length (.fn (txR (lget (ND G n))))), (10, .cells true 1 (BR G n).length (.fn (txR (lget (BR G n))))), (11, .cells true 7 1 (.fn fun _ => netG 5 6 7 8 9 10 n (ND G n).length (BR G n).length)), (15, .cells true 1 nv (.fn (cxR (fun j => (cn (va j).1, cn (va j).2))))), (16, .cells true 1 na (.fn (cxR (fun j => (cn (aa j).1, cn (aa j).2))))), (17, .cells true 3 1 (.fn fun _ => [.raw true om, .slc true true ⟨false, 15, 0, 0⟩ nv, .slc true true ⟨false, 16, 0, 0⟩ na])), (18, .cells true 8 n (.fn fun j => elR (G j)))] : List (Nat × ABk))) (GoesB.toN (rcU (B := 3) (lwG_r0 n ((ND G n).length) ((BR G n).length) nv na om wh G (zipF 0 (NM G n)) (zipF 0 (ND G n)) (zipF 0 (BR G n)) (lget (ND G n)) (lget (BR G n)) (fun j => (cn (va j).1, cn (va j).2)) (fun j => (cn (aa j).1, cn (aa j).2)) (by omega) (by omega) (by omega)) (by omega)) ⟨re rfl, re rfl, re rfl, re rfl, re rfl, trivial⟩ ⟨hs rfl, hs rfl, hs rfl, hs rfl, hs rfl, hs rfl, hs rfl, hs rfl, hs rfl, hs rfl, gR rfl rfl (fun j _ => by rw [Nat.zero_add]), trivial⟩) (by omega) ?_
 have n0' : (0 : Int) < (n : Int) := by omega
 have tm1 := Int.lt_tmod_of_pos wh n0'
 have tm2 := Int.tmod_lt_of_pos wh n0'
 have hpk : 0 ≤ (pick_0 wh (n : Int)) ∧ (pick_0 wh (n : Int)) < (n : Int) := by
  unfold pick_0
  by_cases c : Int.tmod wh (n : Int) < 0
  ·rw [decide_eq_true c]; show 0 ≤ Int.tmod wh (n : Int) + n ∧ Int.tmod wh (n : Int) + n < n; omega
  ·rw [decide_eq_false c]; show 0 ≤ Int.tmod wh (n : Int) ∧ Int.tmod wh (n : Int) < n; omega
 obtain ⟨p, hp⟩ := Int.eq_ofNat_of_zero_le hpk.1
 have e0 : (0 : Nat) + Int.toNat (pick_0 wh (n : Int)) = p := by rw [hp, Nat.zero_add]; rfl
 have hH := (rcU (B := 3) (lwH_r0 n ((ND G n).length) ((BR G n).length) nv na om wh G (zipF 0 (NM G n)) (zipF 0 (ND G n)) (zipF 0 (BR G n)) (lget (ND G n)) (lget (BR G n)) (fun j => (cn (va j).1, cn (va j).2)) (fun j => (cn (aa j).1, cn (aa j).2)) (fun _ => by omega) (fun _ => by omega) (fun _ => by omega) (fun _ => by omega) hpk.1 hpk.2 (by omega) (by omega)) (by omega))
 rw [e0] at hH
 refine GoesB.seqN (K1 := 20) (F1 := [(2, .int true .i64 wh), (7, .bool true), (8, .ptr ⟨false, 11, 0, 0⟩), (10, .ptr ⟨false, 17, 0, 0⟩), (11, .slc true true ⟨false, 18, 0, 0⟩ n), (12, .ptr ⟨false, 19, 0, 0⟩)]) (H1 := ([(19, .cells true 8 1 (.fn fun _ => elR (G p)))] : List (Nat × ABk)) ++ hRL n (ND G n).length (BR G n).length nv na om G (fun j => (cn (va j).1, cn (va j).2)) (fun j => (cn (aa j).1, cn (aa j).2))) (GoesB.toN hH ⟨re rfl, re rfl, re rfl, re rfl, re rfl, re rfl, trivial⟩ ⟨hbl1 rfl, hs rfl, hs rfl, hs rfl, hs rfl, hs rfl, hs rfl, hs rfl, hs rfl, hs rfl, hs rfl, hs rfl, trivial⟩) (by omega) ?_
 exact lw_tail n (ND G n).length (BR G n).length nv na om p wh G (fun j => (cn (va j).1, cn (va j).2)) (fun j => (cn (aa j).1, cn (aa j).2)) (by omega) hp hn rfl rfl hg hv


theorem viewN {N : Nat} {μ : MM} {hp : Array Obj} {g sz m : Nat} {c : Cont} {rows : Nat → List AV} (h : BkOk N μ hp g (.cells false sz m c)) (k : ∀ j, j < m → RowGe (c.row j) (rows j)) : BkOk N μ hp g (.cells false sz m (.fn rows)) := by
 refine ⟨h.1, h.2.1, fun hr => ?_⟩
 obtain ⟨cur, ty, fz, p1, p2, p3, p4⟩ := h.2.2 hr
 exact ⟨cur, ty, fz, p1, p2, p3, fun i hi => RowOk.ge (p4 i hi) (k i hi)⟩
theorem law_walk {H : Type} {enc : TypeId × Value → H} {base : Nat} {d0 d1 d2 : DataW H} {p0 p1 : List MemPlace} {wd : World} (v0 : Value) (hv0 : Value.okWide Try.prog wd .any base 22 v0) (h0 : DataW.Trod enc Try.prog wd 0 (fun _ => true) true 22 v0 d0 p0) (z0 : (DataW.weightsEach Try.prog [22, 26, 3] [d0, d1, d2]).all (· ≤ reachBytes) = true)
  (v1 : Value) (hv1 : Value.okWide Try.prog wd .any base 26 v1) (h1 : DataW.Trod enc Try.prog wd 0 (fun _ => true) true 26 v1 d1 p1) (z1 : (DataW.weightsEach Try.prog [22, 26, 3] [d0, d1, d2]).all (· ≤ reachBytes) = true) (k1 : Int) (w1 : (Lit.int .i64 k1).wf = true) (w' : World) (hw : w' = wd) :
  Calls Try.prog 3 #[v0, v1, .int .i64 k1] wd fun e w' => e = .returned (.bool true) ∧ Below wd.heap.size wd w' := by
 obtain ⟨a0, len0, cap0, rfl⟩ := okWide_slice Try.underlying22 hv0
 obtain ⟨fuel0, hx0⟩ := h0
 obtain ⟨n0, blk0, bs0, c0, hval0, hbk0, hok0, hlen0⟩ := open_slc (n := 3) (shs := [.int .u8, .str, .str, .str, .str, .str, .int .u64, .int .i64]) (v := .slice a0 len0 cap0) Try.underlying22 (by kernel_rfl) (by kernel_rfl) (by decide) hx0
 have hn0 : n0 * 104 ≤ 140737488351232 := by
  rcases hlen0 with ⟨rfl, _⟩ | ⟨es, sps, e1, e2⟩
  ·omega
  ·dsimp only at e1
   have h := sized_slice z0 (j := 0) (t := 22) (e := 84) (elems := es) (spare := sps) rfl (by rw [← e1]; rfl) Try.underlying22
   rw [show Try.prog.bytesOf 84 = 104 by kernel_rfl, e2] at h
   have hR : reachBytes = 140737488351232 := rfl
   rw [hR] at h
   exact Nat.le_trans (Nat.mul_le_mul_right 104 (Nat.le_add_right n0 sps.length)) h
 obtain ⟨r, n1, blk1, bs1, n2, blk2, bs2, c1, c2, hwf, hval, hbk1, hbk2, hok1, hok2, hn1, hn2⟩ := open_sol (n := 3) (shs := [.int .u64, .int .u64]) (i := 23) (s := 24) (e := 113) Try.underlying26 (by kernel_rfl) (by kernel_rfl) (by kernel_rfl) (by kernel_rfl) (by kernel_rfl) Try.underlying24 (by kernel_rfl) (by kernel_rfl) (by decide) hv1 h1 (fun x hx => of_decide_eq_true (List.all_eq_true.1 z0 x (DataW.weights_mem_each (j := 1) rfl rfl x hx)))
 rw [show Try.prog.bytesOf 113 = 16 by kernel_rfl] at hn1 hn2
 have hn1 : n1 * 16 ≤ 140737488351232 := hn1
 have hn2 : n2 * 16 ≤ 140737488351232 := hn2
 have bd : ∀ {x : Value}, (Sh.int .u64).ok x → 0 ≤ Sx.intOf x ∧ Sx.intOf x < 18446744073709551616 := fun {x} h => by
  obtain ⟨n, rfl, hw⟩ := h
  have := bounds_u64 hw
  simp only [Sx.intOf]; omega
 have br := bounds_u64 hwf
 obtain ⟨om, rfl⟩ := Int.eq_ofNat_of_zero_le br.1
 have hg := gv_gok (l := [⟨8, n0, blk0, bs0, fun j => zR ((fun j => (⟨Sx.intOf (c0 j 0), Sx.strOf (c0 j 1), Sx.strOf (c0 j 2), Sx.strOf (c0 j 3), Sx.strOf (c0 j 4), Sx.strOf (c0 j 5), (Sx.intOf (c0 j 6)).toNat, Sx.intOf (c0 j 7)⟩ : El)) j)⟩, ⟨2, n1, blk1, bs1, fun j => [.int true .u64 ((((Sx.intOf (c1 j 0))).toNat : Nat) : Int), .int true .u64 ((((Sx.intOf (c1 j 1))).toNat : Nat) : Int)]⟩, ⟨2, n2, blk2, bs2, fun j => [.int true .u64 ((((Sx.intOf (c2 j 0))).toNat : Nat) : Int), .int true .u64 ((((Sx.intOf (c2 j 1))).toNat : Nat) : Int)]⟩]) (hp := wd.heap) fun i v hi μ N e1 e2 e3 => by
  match i, hi with
  | 0, hi =>
   cases hi
   refine viewN (hbk0 μ 0 N e1 e2 e3) fun j hj => ?_
   have e : (((Sx.intOf (c0 j 6)).toNat : Nat) : Int) = Sx.intOf (c0 j 6) := Int.toNat_of_nonneg (bd (hok0 j hj 6 _ rfl)).1
   show RowGe [.int true .u8 (Sx.intOf (c0 j 0)), .str true (Sx.strOf (c0 j 1)), .str true (Sx.strOf (c0 j 2)), .str true (Sx.strOf (c0 j 3)), .str true (Sx.strOf (c0 j 4)), .str true (Sx.strOf (c0 j 5)), .int true .u64 (Sx.intOf (c0 j 6)), .int true .i64 (Sx.intOf (c0 j 7))] [.int true .u8 (Sx.intOf (c0 j 0)), .str true (Sx.strOf (c0 j 1)), .str true (Sx.strOf (c0 j 2)), .str true (Sx.strOf (c0 j 3)), .str true (Sx.strOf (c0 j 4)), .str true (Sx.strOf (c0 j 5)), .int true .u64 (((Sx.intOf (c0 j 6)).toNat : Nat) : Int), .int true .i64 (Sx.intOf (c0 j 7))]
   rw [e]
   exact RowGe_refl _ rfl
  | 1, hi =>
   cases hi
   refine viewN (hbk1 μ 1 N e1 e2 e3) fun j hj => ?_
   have e : (((Sx.intOf (c1 j 0)).toNat : Nat) : Int) = Sx.intOf (c1 j 0) := Int.toNat_of_nonneg (bd (hok1 j hj 0 _ rfl)).1
   have e' : (((Sx.intOf (c1 j 1)).toNat : Nat) : Int) = Sx.intOf (c1 j 1) := Int.toNat_of_nonneg (bd (hok1 j hj 1 _ rfl)).1
   show RowGe [.int true .u64 (Sx.intOf (c1 j 0)), .int true .u64 (Sx.intOf (c1 j 1))] [.int true .u64 ((((Sx.intOf (c1 j 0))).toNat : Nat) : Int), .int true .u64 ((((Sx.intOf (c1 j 1))).toNat : Nat) : Int)]
   rw [e, e']
   exact RowGe_refl _ rfl
  | 2, hi =>
   cases hi
   refine viewN (hbk2 μ 2 N e1 e2 e3) fun j hj => ?_
   have e : (((Sx.intOf (c2 j 0)).toNat : Nat) : Int) = Sx.intOf (c2 j 0) := Int.toNat_of_nonneg (bd (hok2 j hj 0 _ rfl)).1
   have e' : (((Sx.intOf (c2 j 1)).toNat : Nat) : Int) = Sx.intOf (c2 j 1) := Int.toNat_of_nonneg (bd (hok2 j hj 1 _ rfl)).1
   show RowGe [.int true .u64 (Sx.intOf (c2 j 0)), .int true .u64 (Sx.intOf (c2 j 1))] [.int true .u64 ((((Sx.intOf (c2 j 0))).toNat : Nat) : Int), .int true .u64 ((((Sx.intOf (c2 j 1))).toNat : Nat) : Int)]
   rw [e, e']
   exact RowGe_refl _ rfl
  | i + 3, hi => simp at hi
 exact goes_true Try.func3 rfl (by kernel_rfl) (t := 6) (by kernel_rfl) (law_goes n0 n1 n2 om k1 (fun j => (⟨Sx.intOf (c0 j 0), Sx.strOf (c0 j 1), Sx.strOf (c0 j 2), Sx.strOf (c0 j 3), Sx.strOf (c0 j 4), Sx.strOf (c0 j 5), (Sx.intOf (c0 j 6)).toNat, Sx.intOf (c0 j 7)⟩ : El)) (fun j => ((Sx.intOf (c1 j 0)).toNat, (Sx.intOf (c1 j 1)).toNat)) (fun j => ((Sx.intOf (c2 j 0)).toNat, (Sx.intOf (c2 j 1)).toNat)) (by omega) (by omega) (by omega) (by omega) (fun j hj => by have := bd (hok0 j hj 6 _ rfl); show (Sx.intOf (c0 j 6)).toNat < 18446744073709551616; omega) (fun j hj => by have := bd (hok1 j hj 0 _ rfl); have h2 := bd (hok1 j hj 1 _ rfl); show (Sx.intOf (c1 j 0)).toNat < 18446744073709551616 ∧ (Sx.intOf (c1 j 1)).toNat < 18446744073709551616; omega) (fun j hj => by have := bd (hok2 j hj 0 _ rfl); have h2 := bd (hok2 j hj 1 _ rfl); show (Sx.intOf (c2 j 0)).toNat < 18446744073709551616 ∧ (Sx.intOf (c2 j 1)).toNat < 18446744073709551616; omega)) hg (fun B => gv_may (l := [⟨8, n0, blk0, bs0, fun j => zR ((fun j => (⟨Sx.intOf (c0 j 0), Sx.strOf (c0 j 1), Sx.strOf (c0 j 2), Sx.strOf (c0 j 3), Sx.strOf (c0 j 4), Sx.strOf (c0 j 5), (Sx.intOf (c0 j 6)).toNat, Sx.intOf (c0 j 7)⟩ : El)) j)⟩, ⟨2, n1, blk1, bs1, fun j => [.int true .u64 ((((Sx.intOf (c1 j 0))).toNat : Nat) : Int), .int true .u64 ((((Sx.intOf (c1 j 1))).toNat : Nat) : Int)]⟩, ⟨2, n2, blk2, bs2, fun j => [.int true .u64 ((((Sx.intOf (c2 j 0))).toNat : Nat) : Int), .int true .u64 ((((Sx.intOf (c2 j 1))).toNat : Nat) : Int)]⟩])) (by simp only [Reps]; exact ⟨_, _, rfl, hval0 _ 0 _ (by decide) rfl rfl rfl, _, _, rfl, hval _ 1 2 _ (by decide) (by decide) rfl rfl rfl rfl rfl rfl, _, _, rfl, by simp only [Rep], rfl⟩)



set_option maxRecDepth 100000 in
theorem law_lifted (os : Os) (started : os.Started) (H : Type) (enc : TypeId × Value → H) :
  ReturnsInHanded {} Try.checked os 3 .any (Rows.powerMeansSpec.pre6 enc Try.prog Try.f3 Rows.powerMeansRow.domain false) (Rows.powerMeansSpec.post enc Try.prog Try.f3 false true false false) := by
 refine returnsInHanded_of_change_sized (C := Try.checked) own started (by kernel_rfl) Try.func3
  (ChangeSpec.witness6 (enc := enc) (C := Try.checked) false ⟨#[], #[.slice none 0 0, .agg #[.int .u64 0, .slice none 0 0, .slice none 0 0], .int .i64 0], []⟩ 8 (by kernel_rfl) (by kernel_rfl) (by kernel_rfl) (by kernel_rfl)) ?_
 intro W base args ds gs before hval0 hW hcnd hsz0 _
 have hval : ∀ (j : Nat) t v, Try.f3.params[j]? = some t → args[j]? = some v → Value.okWide Try.prog W .any base t v := hval0
 have hsz1 : (DataW.weightsEach Try.prog (Try.f3.params.toList ++ Rows.powerMeansSpec.plain.varTypes Try.prog) (ds ++ gs)).all (· ≤ reachBytes) = true := hsz0
 have hsz : (DataW.weightsEach Try.prog [22, 26, 3] (ds ++ gs)).all (· ≤ reachBytes) = true := by
  have e : Try.f3.params.toList ++ Rows.powerMeansSpec.plain.varTypes Try.prog = [22, 26, 3] := by rw [Try.params3]; kernel_rfl
  rw [← e]; exact hsz1
 have hW' := hW
 obtain ⟨p, q, hA0, hV, rfl, hfz, hnd⟩ := hW
 have hA : DataW.TrodAll enc Try.prog W 0 (fun _ => true) true Try.f3.params.toList args.toList ds p := hA0
 rw [Try.params3] at hA hval
 obtain ⟨v0, vs0, d0, ds0, p0, q0, hargs, rfl, rfl, h0, r0⟩ := trodAll_cons hA
 obtain ⟨v1, vs1, d1, ds1, p1, q1, rfl, rfl, rfl, h1, r1⟩ := trodAll_cons r0
 obtain ⟨v2, vs2, d2, ds2, p2, q2, rfl, rfl, rfl, h2, r2⟩ := trodAll_cons r1
 obtain ⟨rfl, rfl, rfl⟩ := trodAll_nil r2
 obtain rfl : args = #[v0, v1, v2] := by cases args; simp_all
 obtain ⟨rfl, rfl⟩ := trodVars_none hV
 rw [List.append_nil] at hsz
 have hk0 := h0
 have hlt0 : ∀ x ∈ p0, x.block < W.heap.size := DataW.TrodAll.lt (trodAll_mk1 h0)
 have hk1 := h1
 have hlt1 : ∀ x ∈ p1, x.block < W.heap.size := DataW.TrodAll.lt (trodAll_mk1 h1)
 have hk2 := h2
 have hlt2 : ∀ x ∈ p2, x.block < W.heap.size := DataW.TrodAll.lt (trodAll_mk1 h2)
 obtain ⟨a2, e2, ed2, ep2, w2⟩ := open_int Try.underlying3 (hval 2 3 v2 rfl rfl) h2
 subst e2
 clear hA0 hval0 hsz0 hsz1
 refine (law_walk v0 (hval 0 22 v0 rfl rfl) h0 hsz v1 (hval 1 26 v1 rfl rfl) h1 hsz a2 w2 W rfl).mono fun e W' ⟨he, bel⟩ => ?_
 subst he
 exact ⟨_, rfl, _, _, _, [], _, [], hW', trodAll_mk1 (shut_bool Try.underlying4 _), (trodAll_cons_mk (Below.trod laidOut (by kernel_rfl) (of_decide_eq_true (by kernel_rfl)) hk0 bel hlt0) (trodAll_cons_mk (Below.trod laidOut (by kernel_rfl) (of_decide_eq_true (by kernel_rfl)) hk1 bel hlt1) (trodAll_cons_mk (Below.trod laidOut (by kernel_rfl) (of_decide_eq_true (by kernel_rfl)) hk2 bel hlt2) trodAll_mk0))), rfl, bel.frame _, fun h => by cases h⟩
theorem law_over : Rows.powerMeansRow.holds Try.pinned (OpenSpec.ofChange Rows.powerMeansSpec) :=
 OpenClaim.holds_of_wide 3 Try.f3 rfl rfl rfl rfl rfl rfl rfl ⟨rfl, rfl, rfl, rfl, rfl⟩ rfl rfl rfl rfl rfl (by kernel_rfl) Try.func3 (by kernel_rfl)
  (of_decide_eq_true (by kernel_rfl)) (by unfold Func.isWrapper; first | (rw [if_pos (by decide +kernel)]; kernel_rfl) | (rw [if_neg (by decide +kernel)]; exact ⟨rfl, rfl⟩))
  (fun os started H enc _ => law_lifted os started H enc)
/-- THE STATEMENT -/
theorem powerMeans_proved : Rows.PowerMeansSaid := law_over
#print axioms powerMeans_proved
end Go.Proofs.Ytmmogbldndklnaa
