/- AdmitDoubles: a part: summaries of functions that the statement reaches, printed by program, checked by the kernel. -/
import Derived.ProofKit
import Derived.OpenShut
import Derived.KernelRfl
import Derived.SizedLaws
import Derived.Test.YtmlcakchmkdggaaProg
import Derived.Test.YtmlcakchmkdggaaAdmitDoublesPA
namespace Go.Proofs.Ytmlcakchmkdggaa
open Go.ChangeShapes Go.WideShapes Go.ChangeAt Go.RowKit
set_option linter.unusedVariables false
set_option linter.unusedSimpArgs false
set_option maxRecDepth 100000

theorem rofS_ok : ∀ args v g g', rofS args g = .done v g' → Sx.CallIs Try.prog 63 args v g g' := by
 intro args v g g' h
 unfold rofS at h
 split at h
 ·rename_i s0 k
  obtain ⟨rfl, rfl⟩ := Sx.ret_done h
  refine Sx.scal call1_ok fun μ cargs ha => ?_
  have ha' : Sx.Reps 0 Sx.MM.none [.int true .u8 k] cargs.toList := by simpa only [Sx.Reps, Sx.Rep] using ha
  cases t0 : decide ((82 : Int) = k) with
  | true =>
   exact ⟨_, _, _, ha', rof_r0 k t0, rfl, fun c hc => by have := hc g.nx μ; have e0 : rof_0 k = ((1 : Int)) := (Sx.ct t0).trans (rfl); have e1 : rof_1 k = (true) := (Sx.ct t0).trans (rfl); rw [e0, e1]; simpa only [Sx.Rep, Sx.Reps, Sx.Rep_cmpB] using this⟩
  | false =>
   cases t1 : decide ((76 : Int) = k) with
   | true =>
    exact ⟨_, _, _, ha', rof_r1 k t0 t1, rfl, fun c hc => by have := hc g.nx μ; have e0 : rof_0 k = ((2 : Int)) := (Sx.cf t0).trans ((Sx.ct t1).trans (rfl)); have e1 : rof_1 k = (true) := (Sx.cf t0).trans ((Sx.ct t1).trans (rfl)); rw [e0, e1]; simpa only [Sx.Rep, Sx.Reps, Sx.Rep_cmpB] using this⟩
   | false =>
    cases t2 : decide ((67 : Int) = k) with
    | true =>
     exact ⟨_, _, _, ha', rof_r2 k t0 t1 t2, rfl, fun c hc => by have := hc g.nx μ; have e0 : rof_0 k = ((3 : Int)) := (Sx.cf t0).trans ((Sx.cf t1).trans ((Sx.ct t2).trans (rfl))); have e1 : rof_1 k = (true) := (Sx.cf t0).trans ((Sx.cf t1).trans ((Sx.ct t2).trans (rfl))); rw [e0, e1]; simpa only [Sx.Rep, Sx.Reps, Sx.Rep_cmpB] using this⟩
    | false =>
     cases t3 : decide ((73 : Int) = k) with
     | true =>
      exact ⟨_, _, _, ha', rof_r3 k t0 t1 t2 t3, rfl, fun c hc => by have := hc g.nx μ; have e0 : rof_0 k = ((4 : Int)) := (Sx.cf t0).trans ((Sx.cf t1).trans ((Sx.cf t2).trans ((Sx.ct t3).trans (rfl)))); have e1 : rof_1 k = (true) := (Sx.cf t0).trans ((Sx.cf t1).trans ((Sx.cf t2).trans ((Sx.ct t3).trans (rfl)))); rw [e0, e1]; simpa only [Sx.Rep, Sx.Reps, Sx.Rep_cmpB] using this⟩
     | false =>
      cases t4 : decide ((86 : Int) = k) with
      | true =>
       exact ⟨_, _, _, ha', rof_r4 k t0 t1 t2 t3 t4, rfl, fun c hc => by have := hc g.nx μ; have e0 : rof_0 k = ((5 : Int)) := (Sx.cf t0).trans ((Sx.cf t1).trans ((Sx.cf t2).trans ((Sx.cf t3).trans ((Sx.ct t4).trans (rfl))))); have e1 : rof_1 k = (true) := (Sx.cf t0).trans ((Sx.cf t1).trans ((Sx.cf t2).trans ((Sx.cf t3).trans ((Sx.ct t4).trans (rfl))))); rw [e0, e1]; simpa only [Sx.Rep, Sx.Reps, Sx.Rep_cmpB] using this⟩
      | false =>
       cases t5 : decide ((71 : Int) = k) with
       | true =>
        exact ⟨_, _, _, ha', rof_r5 k t0 t1 t2 t3 t4 t5, rfl, fun c hc => by have := hc g.nx μ; have e0 : rof_0 k = ((6 : Int)) := (Sx.cf t0).trans ((Sx.cf t1).trans ((Sx.cf t2).trans ((Sx.cf t3).trans ((Sx.cf t4).trans ((Sx.ct t5).trans (rfl)))))); have e1 : rof_1 k = (true) := (Sx.cf t0).trans ((Sx.cf t1).trans ((Sx.cf t2).trans ((Sx.cf t3).trans ((Sx.cf t4).trans ((Sx.ct t5).trans (rfl)))))); rw [e0, e1]; simpa only [Sx.Rep, Sx.Reps, Sx.Rep_cmpB] using this⟩
       | false =>
        cases t6 : decide ((69 : Int) = k) with
        | true =>
         exact ⟨_, _, _, ha', rof_r6 k t0 t1 t2 t3 t4 t5 t6, rfl, fun c hc => by have := hc g.nx μ; have e0 : rof_0 k = ((7 : Int)) := (Sx.cf t0).trans ((Sx.cf t1).trans ((Sx.cf t2).trans ((Sx.cf t3).trans ((Sx.cf t4).trans ((Sx.cf t5).trans ((Sx.ct t6).trans (rfl))))))); have e1 : rof_1 k = (true) := (Sx.cf t0).trans ((Sx.cf t1).trans ((Sx.cf t2).trans ((Sx.cf t3).trans ((Sx.cf t4).trans ((Sx.cf t5).trans ((Sx.ct t6).trans (rfl))))))); rw [e0, e1]; simpa only [Sx.Rep, Sx.Reps, Sx.Rep_cmpB] using this⟩
        | false =>
         cases t7 : decide ((80 : Int) = k) with
         | true =>
          exact ⟨_, _, _, ha', rof_r7 k t0 t1 t2 t3 t4 t5 t6 t7, rfl, fun c hc => by have := hc g.nx μ; have e0 : rof_0 k = ((8 : Int)) := (Sx.cf t0).trans ((Sx.cf t1).trans ((Sx.cf t2).trans ((Sx.cf t3).trans ((Sx.cf t4).trans ((Sx.cf t5).trans ((Sx.cf t6).trans ((Sx.ct t7).trans (rfl)))))))); have e1 : rof_1 k = (true) := (Sx.cf t0).trans ((Sx.cf t1).trans ((Sx.cf t2).trans ((Sx.cf t3).trans ((Sx.cf t4).trans ((Sx.cf t5).trans ((Sx.cf t6).trans ((Sx.ct t7).trans (rfl)))))))); rw [e0, e1]; simpa only [Sx.Rep, Sx.Reps, Sx.Rep_cmpB] using this⟩
         | false =>
          exact ⟨_, _, _, ha', rof_r8 k t0 t1 t2 t3 t4 t5 t6 t7, rfl, fun c hc => by have := hc g.nx μ; have e0 : rof_0 k = ((0 : Int)) := (Sx.cf t0).trans ((Sx.cf t1).trans ((Sx.cf t2).trans ((Sx.cf t3).trans ((Sx.cf t4).trans ((Sx.cf t5).trans ((Sx.cf t6).trans ((Sx.cf t7).trans (rfl)))))))); have e1 : rof_1 k = (false) := (Sx.cf t0).trans ((Sx.cf t1).trans ((Sx.cf t2).trans ((Sx.cf t3).trans ((Sx.cf t4).trans ((Sx.cf t5).trans ((Sx.cf t6).trans ((Sx.cf t7).trans (rfl)))))))); rw [e0, e1]; simpa only [Sx.Rep, Sx.Reps, Sx.Rep_cmpB] using this⟩
 ·exact call1_ok _ _ _ _ _ h
theorem rofS_tch : ∀ args, Sx.Tch (rofS args) := by
 intro args
 unfold rofS
 split
 ·exact Sx.Tch.ret _
 ·exact call1_tch _ _
noncomputable def gam2 : Sx.Known := fun f => bif Nat.beq f 8 then some Sx.ofBits else (bif Nat.beq f 14 then some Sx.toBits else (bif Nat.beq f 50 then some smallS else (bif Nat.beq f 62 then some bytesS else (bif Nat.beq f 42 then some kindS else (bif Nat.beq f 59 then some rkindS else (bif Nat.beq f 39 then some rowOfS else (bif Nat.beq f 56 then some rrowS else (bif Nat.beq f 51 then some ofS else (bif Nat.beq f 63 then some rofS else (none))))))))))
theorem gam2_ok : Sx.KnownOk Try.prog gam2 := by
 intro f s h
 unfold gam2 at h
 cases h1 : Nat.beq f 8 with
 | true =>
  rw [h1] at h
  cases h
  cases Nat.eq_of_beq_eq_true h1
  exact (Sx.ofBits_is Try.prog).callIs Try.func8 (by kernel_rfl) (by kernel_rfl) (by kernel_rfl) (by kernel_rfl)
 | false =>
  rw [h1, cond_false] at h
  clear h1
  cases h1 : Nat.beq f 14 with
  | true =>
   rw [h1] at h
   cases h
   cases Nat.eq_of_beq_eq_true h1
   exact (Sx.toBits_is Try.prog).callIs Try.func14 (by kernel_rfl) (by kernel_rfl) (by kernel_rfl) (by kernel_rfl)
  | false =>
   rw [h1, cond_false] at h
   clear h1
   cases h1 : Nat.beq f 50 with
   | true =>
    rw [h1] at h
    cases h
    cases Nat.eq_of_beq_eq_true h1
    exact smallS_ok
   | false =>
    rw [h1, cond_false] at h
    clear h1
    cases h1 : Nat.beq f 62 with
    | true =>
     rw [h1] at h
     cases h
     cases Nat.eq_of_beq_eq_true h1
     exact bytesS_ok
    | false =>
     rw [h1, cond_false] at h
     clear h1
     cases h1 : Nat.beq f 42 with
     | true =>
      rw [h1] at h
      cases h
      cases Nat.eq_of_beq_eq_true h1
      exact kindS_ok
     | false =>
      rw [h1, cond_false] at h
      clear h1
      cases h1 : Nat.beq f 59 with
      | true =>
       rw [h1] at h
       cases h
       cases Nat.eq_of_beq_eq_true h1
       exact rkindS_ok
      | false =>
       rw [h1, cond_false] at h
       clear h1
       cases h1 : Nat.beq f 39 with
       | true =>
        rw [h1] at h
        cases h
        cases Nat.eq_of_beq_eq_true h1
        exact rowOfS_ok
       | false =>
        rw [h1, cond_false] at h
        clear h1
        cases h1 : Nat.beq f 56 with
        | true =>
         rw [h1] at h
         cases h
         cases Nat.eq_of_beq_eq_true h1
         exact rrowS_ok
        | false =>
         rw [h1, cond_false] at h
         clear h1
         cases h1 : Nat.beq f 51 with
         | true =>
          rw [h1] at h
          cases h
          cases Nat.eq_of_beq_eq_true h1
          exact ofS_ok
         | false =>
          rw [h1, cond_false] at h
          clear h1
          cases h1 : Nat.beq f 63 with
          | true =>
           rw [h1] at h
           cases h
           cases Nat.eq_of_beq_eq_true h1
           exact rofS_ok
          | false =>
           rw [h1, cond_false] at h
           clear h1
           cases h
theorem gam2_tch : Sx.KnownT gam2 := by
 intro f s h
 unfold gam2 at h
 cases h1 : Nat.beq f 8 with
 | true => rw [h1] at h; cases h; exact Sx.Tch.ofBits
 | false =>
  rw [h1, cond_false] at h
  clear h1
  cases h1 : Nat.beq f 14 with
  | true => rw [h1] at h; cases h; exact Sx.Tch.toBits
  | false =>
   rw [h1, cond_false] at h
   clear h1
   cases h1 : Nat.beq f 50 with
   | true => rw [h1] at h; cases h; exact smallS_tch
   | false =>
    rw [h1, cond_false] at h
    clear h1
    cases h1 : Nat.beq f 62 with
    | true => rw [h1] at h; cases h; exact bytesS_tch
    | false =>
     rw [h1, cond_false] at h
     clear h1
     cases h1 : Nat.beq f 42 with
     | true => rw [h1] at h; cases h; exact kindS_tch
     | false =>
      rw [h1, cond_false] at h
      clear h1
      cases h1 : Nat.beq f 59 with
      | true => rw [h1] at h; cases h; exact rkindS_tch
      | false =>
       rw [h1, cond_false] at h
       clear h1
       cases h1 : Nat.beq f 39 with
       | true => rw [h1] at h; cases h; exact rowOfS_tch
       | false =>
        rw [h1, cond_false] at h
        clear h1
        cases h1 : Nat.beq f 56 with
        | true => rw [h1] at h; cases h; exact rrowS_tch
        | false =>
         rw [h1, cond_false] at h
         clear h1
         cases h1 : Nat.beq f 51 with
         | true => rw [h1] at h; cases h; exact ofS_tch
         | false =>
          rw [h1, cond_false] at h
          clear h1
          cases h1 : Nat.beq f 63 with
          | true => rw [h1] at h; cases h; exact rofS_tch
          | false =>
           rw [h1, cond_false] at h
           clear h1
           cases h
noncomputable def call2 : Sx.Calls' := Sx.runN Try.prog gam2 (Sx.regionC Try.prog) 1000 50
theorem call2_ok : Sx.CallOk Try.prog call2 := Sx.engineC gam2_ok gam2_tch (by kernel_rfl) (by kernel_rfl) 1000 50
theorem call2_tch : Sx.CallT call2 := Sx.runA_tch gam2_tch (fun _ _ _ h => by cases h) (fun call hc n l fr => Sx.regionC_tch hc n l fr) 50
theorem name_r0 (l : List UInt8) (c0 : decide ((↑(List.length l) : Int) < (2 : Int)) = true) : Sx.PureP (Sx.AV.tup [Sx.AV.int false .u8 0, Sx.AV.bool false]) (call2 40 [.str true l] (Sx.G.on [true])) := by
 have e : Sx.pureP (Sx.AV.tup [Sx.AV.int false .u8 0, Sx.AV.bool false]) (call2 40 [.str true l] (Sx.G.on [true])) = ((Sx.AV.tup [Sx.AV.int false .u8 0, Sx.AV.bool false]) = (Sx.AV.tup [Sx.AV.int false .u8 0, Sx.AV.bool false]) ∧ (True ∧ (decide ((↑(List.length l) : Int) < (2 : Int)) = true))) := by kernel_rfl
 exact ⟨by rw [e]; exact ⟨rfl, ⟨trivial, c0⟩⟩⟩


theorem name_r1 (l : List UInt8) (c0 : decide ((↑(List.length l) : Int) < (2 : Int)) = false) (c1 : decide ((16 : Int) < (↑(List.length l) : Int)) = true) : Sx.PureP (Sx.AV.tup [Sx.AV.int false .u8 0, Sx.AV.bool false]) (call2 40 [.str true l] (Sx.G.on [false, true])) := by
 have e : Sx.pureP (Sx.AV.tup [Sx.AV.int false .u8 0, Sx.AV.bool false]) (call2 40 [.str true l] (Sx.G.on [false, true])) = ((Sx.AV.tup [Sx.AV.int false .u8 0, Sx.AV.bool false]) = (Sx.AV.tup [Sx.AV.int false .u8 0, Sx.AV.bool false]) ∧ ((True ∧ (decide ((↑(List.length l) : Int) < (2 : Int)) = false)) ∧ (decide ((16 : Int) < (↑(List.length l) : Int)) = true))) := by kernel_rfl
 exact ⟨by rw [e]; exact ⟨rfl, ⟨⟨trivial, c0⟩, c1⟩⟩⟩
theorem name_r2 (l : List UInt8) (c0 : decide ((↑(List.length l) : Int) < (2 : Int)) = false) (c1 : decide ((16 : Int) < (↑(List.length l) : Int)) = false) (c2 : (0 : Int) ≤ (1 : Int)) (c3 : (1 : Int) ≤ (↑(List.length l) : Int)) (c4 : (↑(List.length l) : Int) ≤ (↑(List.length l) : Int)) (c5 : (!List.all (List.take (Int.toNat (↑(List.length l) : Int) - Int.toNat (1 : Int)) (List.drop (Int.toNat (1 : Int)) l)) okB) = false) (c6 : (0 : Int) ≤ (0 : Int)) (c7 : (0 : Int) < (↑(List.length l) : Int)) : Sx.PureP (Sx.AV.tup [Sx.AV.int true .u8 (of_0 (↑(UInt8.toNat (List.getD l (Int.toNat (0 : Int)) (0 : UInt8))) : Int)), Sx.AV.sbool (of_1 (↑(UInt8.toNat (List.getD l (Int.toNat (0 : Int)) (0 : UInt8))) : Int))]) (call2 40 [.str true l] (Sx.G.on [false, false, false])) := by
 have e : Sx.pureP (Sx.AV.tup [Sx.AV.int true .u8 (of_0 (↑(UInt8.toNat (List.getD l (Int.toNat (0 : Int)) (0 : UInt8))) : Int)), Sx.AV.sbool (of_1 (↑(UInt8.toNat (List.getD l (Int.toNat (0 : Int)) (0 : UInt8))) : Int))]) (call2 40 [.str true l] (Sx.G.on [false, false, false])) = ((Sx.AV.tup [Sx.AV.int true .u8 (of_0 (↑(UInt8.toNat (List.getD l (Int.toNat (0 : Int)) (0 : UInt8))) : Int)), Sx.AV.sbool (of_1 (↑(UInt8.toNat (List.getD l (Int.toNat (0 : Int)) (0 : UInt8))) : Int))]) = (Sx.AV.tup [Sx.AV.int true .u8 (of_0 (↑(UInt8.toNat (List.getD l (Int.toNat (0 : Int)) (0 : UInt8))) : Int)), Sx.AV.sbool (of_1 (↑(UInt8.toNat (List.getD l (Int.toNat (0 : Int)) (0 : UInt8))) : Int))]) ∧ (((((True ∧ (decide ((↑(List.length l) : Int) < (2 : Int)) = false)) ∧ (decide ((16 : Int) < (↑(List.length l) : Int)) = false)) ∧ (((0 : Int) ≤ (1 : Int)) ∧ (((1 : Int) ≤ (↑(List.length l) : Int)) ∧ ((↑(List.length l) : Int) ≤ (↑(List.length l) : Int))))) ∧ ((!List.all (List.take (Int.toNat (↑(List.length l) : Int) - Int.toNat (1 : Int)) (List.drop (Int.toNat (1 : Int)) l)) okB) = false)) ∧ (((0 : Int) ≤ (0 : Int)) ∧ ((0 : Int) < (↑(List.length l) : Int))))) := by kernel_rfl
 exact ⟨by rw [e]; exact ⟨rfl, ⟨⟨⟨⟨⟨trivial, c0⟩, c1⟩, ⟨c2, ⟨c3, c4⟩⟩⟩, c5⟩, ⟨c6, c7⟩⟩⟩⟩
theorem name_r3 (l : List UInt8) (c0 : decide ((↑(List.length l) : Int) < (2 : Int)) = false) (c1 : decide ((16 : Int) < (↑(List.length l) : Int)) = false) (c2 : (0 : Int) ≤ (1 : Int)) (c3 : (1 : Int) ≤ (↑(List.length l) : Int)) (c4 : (↑(List.length l) : Int) ≤ (↑(List.length l) : Int)) (c5 : (!List.all (List.take (Int.toNat (↑(List.length l) : Int) - Int.toNat (1 : Int)) (List.drop (Int.toNat (1 : Int)) l)) okB) = true) : Sx.PureP (Sx.AV.tup [Sx.AV.int false .u8 0, Sx.AV.bool false]) (call2 40 [.str true l] (Sx.G.on [false, false, true])) := by
 have e : Sx.pureP (Sx.AV.tup [Sx.AV.int false .u8 0, Sx.AV.bool false]) (call2 40 [.str true l] (Sx.G.on [false, false, true])) = ((Sx.AV.tup [Sx.AV.int false .u8 0, Sx.AV.bool false]) = (Sx.AV.tup [Sx.AV.int false .u8 0, Sx.AV.bool false]) ∧ ((((True ∧ (decide ((↑(List.length l) : Int) < (2 : Int)) = false)) ∧ (decide ((16 : Int) < (↑(List.length l) : Int)) = false)) ∧ (((0 : Int) ≤ (1 : Int)) ∧ (((1 : Int) ≤ (↑(List.length l) : Int)) ∧ ((↑(List.length l) : Int) ≤ (↑(List.length l) : Int))))) ∧ ((!List.all (List.take (Int.toNat (↑(List.length l) : Int) - Int.toNat (1 : Int)) (List.drop (Int.toNat (1 : Int)) l)) okB) = true))) := by kernel_rfl
 exact ⟨by rw [e]; exact ⟨rfl, ⟨⟨⟨⟨trivial, c0⟩, c1⟩, ⟨c2, ⟨c3, c4⟩⟩⟩, c5⟩⟩⟩
noncomputable def name_0 (l : List UInt8) : Int := (bif decide ((↑(List.length l) : Int) < (2 : Int)) then ((0 : Int)) else (bif decide ((16 : Int) < (↑(List.length l) : Int)) then ((0 : Int)) else (bif List.all (List.take (Int.toNat (↑(List.length l) : Int) - Int.toNat (1 : Int)) (List.drop (Int.toNat (1 : Int)) l)) okB then (of_0 (↑(UInt8.toNat (List.getD l (Int.toNat (0 : Int)) (0 : UInt8))) : Int)) else ((0 : Int)))))
noncomputable def name_1 (l : List UInt8) : Bool := (bif decide ((↑(List.length l) : Int) < (2 : Int)) then (false) else (bif decide ((16 : Int) < (↑(List.length l) : Int)) then (false) else (bif List.all (List.take (Int.toNat (↑(List.length l) : Int) - Int.toNat (1 : Int)) (List.drop (Int.toNat (1 : Int)) l)) okB then (of_1 (↑(UInt8.toNat (List.getD l (Int.toNat (0 : Int)) (0 : UInt8))) : Int)) else (false))))
noncomputable def nameS : List Sx.AV → Sx.M Sx.AV
 | [.str s0 l] => Sx.M.ret (Sx.AV.tup [Sx.AV.int s0 (IntKind.u8) (name_0 l), Sx.cmpB s0 (name_1 l)])
 | args => call2 40 args
theorem nameS_ok : ∀ args v g g', nameS args g = .done v g' → Sx.CallIs Try.prog 40 args v g g' := by
 intro args v g g' h
 unfold nameS at h
 split at h
 ·rename_i s0 l
  obtain ⟨rfl, rfl⟩ := Sx.ret_done h
  refine Sx.scal call2_ok fun μ cargs ha => ?_
  have ha' : Sx.Reps 0 Sx.MM.none [.str true l] cargs.toList := by simpa only [Sx.Reps, Sx.Rep] using ha
  cases t0 : decide ((↑(List.length l) : Int) < (2 : Int)) with
  | true =>
   exact ⟨_, _, _, ha', name_r0 l t0, rfl, fun c hc => by have := hc g.nx μ; have e0 : name_0 l = ((0 : Int)) := (Sx.ct t0).trans (rfl); have e1 : name_1 l = (false) := (Sx.ct t0).trans (rfl); rw [e0, e1]; simpa only [Sx.Rep, Sx.Reps, Sx.Rep_cmpB] using this⟩
  | false =>
   cases t1 : decide ((16 : Int) < (↑(List.length l) : Int)) with
   | true =>
    exact ⟨_, _, _, ha', name_r1 l t0 t1, rfl, fun c hc => by have := hc g.nx μ; have e0 : name_0 l = ((0 : Int)) := (Sx.cf t0).trans ((Sx.ct t1).trans (rfl)); have e1 : name_1 l = (false) := (Sx.cf t0).trans ((Sx.ct t1).trans (rfl)); rw [e0, e1]; simpa only [Sx.Rep, Sx.Reps, Sx.Rep_cmpB] using this⟩
   | false =>
    cases t2 : List.all (List.take (Int.toNat (↑(List.length l) : Int) - Int.toNat (1 : Int)) (List.drop (Int.toNat (1 : Int)) l)) okB with
    | true =>
     exact ⟨_, _, _, ha', name_r2 l t0 t1 (by first | ((try simp only [decide_eq_true_eq, decide_eq_false_iff_not] at t0 t1 t2); (try simp only [List.length_take, List.length_drop]); omega) | decide | (have hp' := hp; simp_all; try omega)) (by first | ((try simp only [decide_eq_true_eq, decide_eq_false_iff_not] at t0 t1 t2); (try simp only [List.length_take, List.length_drop]); omega) | decide | (have hp' := hp; simp_all; try omega)) (by first | ((try simp only [decide_eq_true_eq, decide_eq_false_iff_not] at t0 t1 t2); (try simp only [List.length_take, List.length_drop]); omega) | decide | (have hp' := hp; simp_all; try omega)) (by rw [t2]; rfl) (by first | ((try simp only [decide_eq_true_eq, decide_eq_false_iff_not] at t0 t1 t2); (try simp only [List.length_take, List.length_drop]); omega) | decide | (have hp' := hp; simp_all; try omega)) (by first | ((try simp only [decide_eq_true_eq, decide_eq_false_iff_not] at t0 t1 t2); (try simp only [List.length_take, List.length_drop]); omega) | decide | (have hp' := hp; simp_all; try omega)), rfl, fun c hc => by have := hc g.nx μ; have e0 : name_0 l = (of_0 (↑(UInt8.toNat (List.getD l (Int.toNat (0 : Int)) (0 : UInt8))) : Int)) := (Sx.cf t0).trans ((Sx.cf t1).trans ((Sx.ct t2).trans (rfl))); have e1 : name_1 l = (of_1 (↑(UInt8.toNat (List.getD l (Int.toNat (0 : Int)) (0 : UInt8))) : Int)) := (Sx.cf t0).trans ((Sx.cf t1).trans ((Sx.ct t2).trans (rfl))); rw [e0, e1]; simpa only [Sx.Rep, Sx.Reps, Sx.Rep_cmpB] using this⟩
    | false =>
     exact ⟨_, _, _, ha', name_r3 l t0 t1 (by first | ((try simp only [decide_eq_true_eq, decide_eq_false_iff_not] at t0 t1 t2); (try simp only [List.length_take, List.length_drop]); omega) | decide | (have hp' := hp; simp_all; try omega)) (by first | ((try simp only [decide_eq_true_eq, decide_eq_false_iff_not] at t0 t1 t2); (try simp only [List.length_take, List.length_drop]); omega) | decide | (have hp' := hp; simp_all; try omega)) (by first | ((try simp only [decide_eq_true_eq, decide_eq_false_iff_not] at t0 t1 t2); (try simp only [List.length_take, List.length_drop]); omega) | decide | (have hp' := hp; simp_all; try omega)) (by rw [t2]; rfl), rfl, fun c hc => by have := hc g.nx μ; have e0 : name_0 l = ((0 : Int)) := (Sx.cf t0).trans ((Sx.cf t1).trans ((Sx.cf t2).trans (rfl))); have e1 : name_1 l = (false) := (Sx.cf t0).trans ((Sx.cf t1).trans ((Sx.cf t2).trans (rfl))); rw [e0, e1]; simpa only [Sx.Rep, Sx.Reps, Sx.Rep_cmpB] using this⟩
 ·exact call2_ok _ _ _ _ _ h
theorem nameS_tch : ∀ args, Sx.Tch (nameS args) := by
 intro args
 unfold nameS
 split
 ·exact Sx.Tch.ret _
 ·exact call2_tch _ _
theorem rname_r0 (l : List UInt8) (c0 : decide ((↑(List.length l) : Int) < (2 : Int)) = true) : Sx.PureP (Sx.AV.tup [Sx.AV.int false .u8 0, Sx.AV.bool false]) (call2 57 [.str true l] (Sx.G.on [true])) := by
 have e : Sx.pureP (Sx.AV.tup [Sx.AV.int false .u8 0, Sx.AV.bool false]) (call2 57 [.str true l] (Sx.G.on [true])) = ((Sx.AV.tup [Sx.AV.int false .u8 0, Sx.AV.bool false]) = (Sx.AV.tup [Sx.AV.int false .u8 0, Sx.AV.bool false]) ∧ (True ∧ (decide ((↑(List.length l) : Int) < (2 : Int)) = true))) := by kernel_rfl
 exact ⟨by rw [e]; exact ⟨rfl, ⟨trivial, c0⟩⟩⟩
theorem rname_r1 (l : List UInt8) (c0 : decide ((↑(List.length l) : Int) < (2 : Int)) = false) (c1 : decide ((16 : Int) < (↑(List.length l) : Int)) = true) : Sx.PureP (Sx.AV.tup [Sx.AV.int false .u8 0, Sx.AV.bool false]) (call2 57 [.str true l] (Sx.G.on [false, true])) := by
 have e : Sx.pureP (Sx.AV.tup [Sx.AV.int false .u8 0, Sx.AV.bool false]) (call2 57 [.str true l] (Sx.G.on [false, true])) = ((Sx.AV.tup [Sx.AV.int false .u8 0, Sx.AV.bool false]) = (Sx.AV.tup [Sx.AV.int false .u8 0, Sx.AV.bool false]) ∧ ((True ∧ (decide ((↑(List.length l) : Int) < (2 : Int)) = false)) ∧ (decide ((16 : Int) < (↑(List.length l) : Int)) = true))) := by kernel_rfl
 exact ⟨by rw [e]; exact ⟨rfl, ⟨⟨trivial, c0⟩, c1⟩⟩⟩
theorem rname_r2 (l : List UInt8) (c0 : decide ((↑(List.length l) : Int) < (2 : Int)) = false) (c1 : decide ((16 : Int) < (↑(List.length l) : Int)) = false) (c2 : (0 : Int) ≤ (1 : Int)) (c3 : (1 : Int) ≤ (↑(List.length l) : Int)) (c4 : (↑(List.length l) : Int) ≤ (↑(List.length l) : Int)) (c5 : List.length (List.take (Int.toNat (↑(List.length l) : Int) - Int.toNat (1 : Int)) (List.drop (Int.toNat (1 : Int)) l)) ≤ (9223372036854775807 : Nat)) (c6 : (!List.all (List.take (Int.toNat (↑(List.length l) : Int) - Int.toNat (1 : Int)) (List.drop (Int.toNat (1 : Int)) l)) okB) = false) (c7 : (0 : Int) ≤ (0 : Int)) (c8 : (0 : Int) < (↑(List.length l) : Int)) : Sx.PureP (Sx.AV.tup [Sx.AV.int true .u8 (rof_0 (↑(UInt8.toNat (List.getD l (Int.toNat (0 : Int)) (0 : UInt8))) : Int)), Sx.AV.sbool (rof_1 (↑(UInt8.toNat (List.getD l (Int.toNat (0 : Int)) (0 : UInt8))) : Int))]) (call2 57 [.str true l] (Sx.G.on [false, false, false])) := by
 have e : Sx.pureP (Sx.AV.tup [Sx.AV.int true .u8 (rof_0 (↑(UInt8.toNat (List.getD l (Int.toNat (0 : Int)) (0 : UInt8))) : Int)), Sx.AV.sbool (rof_1 (↑(UInt8.toNat (List.getD l (Int.toNat (0 : Int)) (0 : UInt8))) : Int))]) (call2 57 [.str true l] (Sx.G.on [false, false, false])) = ((Sx.AV.tup [Sx.AV.int true .u8 (rof_0 (↑(UInt8.toNat (List.getD l (Int.toNat (0 : Int)) (0 : UInt8))) : Int)), Sx.AV.sbool (rof_1 (↑(UInt8.toNat (List.getD l (Int.toNat (0 : Int)) (0 : UInt8))) : Int))]) = (Sx.AV.tup [Sx.AV.int true .u8 (rof_0 (↑(UInt8.toNat (List.getD l (Int.toNat (0 : Int)) (0 : UInt8))) : Int)), Sx.AV.sbool (rof_1 (↑(UInt8.toNat (List.getD l (Int.toNat (0 : Int)) (0 : UInt8))) : Int))]) ∧ ((((((True ∧ (decide ((↑(List.length l) : Int) < (2 : Int)) = false)) ∧ (decide ((16 : Int) < (↑(List.length l) : Int)) = false)) ∧ (((0 : Int) ≤ (1 : Int)) ∧ (((1 : Int) ≤ (↑(List.length l) : Int)) ∧ ((↑(List.length l) : Int) ≤ (↑(List.length l) : Int))))) ∧ (List.length (List.take (Int.toNat (↑(List.length l) : Int) - Int.toNat (1 : Int)) (List.drop (Int.toNat (1 : Int)) l)) ≤ (9223372036854775807 : Nat))) ∧ ((!List.all (List.take (Int.toNat (↑(List.length l) : Int) - Int.toNat (1 : Int)) (List.drop (Int.toNat (1 : Int)) l)) okB) = false)) ∧ (((0 : Int) ≤ (0 : Int)) ∧ ((0 : Int) < (↑(List.length l) : Int))))) := by kernel_rfl
 exact ⟨by rw [e]; exact ⟨rfl, ⟨⟨⟨⟨⟨⟨trivial, c0⟩, c1⟩, ⟨c2, ⟨c3, c4⟩⟩⟩, c5⟩, c6⟩, ⟨c7, c8⟩⟩⟩⟩
theorem rname_r3 (l : List UInt8) (c0 : decide ((↑(List.length l) : Int) < (2 : Int)) = false) (c1 : decide ((16 : Int) < (↑(List.length l) : Int)) = false) (c2 : (0 : Int) ≤ (1 : Int)) (c3 : (1 : Int) ≤ (↑(List.length l) : Int)) (c4 : (↑(List.length l) : Int) ≤ (↑(List.length l) : Int)) (c5 : List.length (List.take (Int.toNat (↑(List.length l) : Int) - Int.toNat (1 : Int)) (List.drop (Int.toNat (1 : Int)) l)) ≤ (9223372036854775807 : Nat)) (c6 : (!List.all (List.take (Int.toNat (↑(List.length l) : Int) - Int.toNat (1 : Int)) (List.drop (Int.toNat (1 : Int)) l)) okB) = true) : Sx.PureP (Sx.AV.tup [Sx.AV.int false .u8 0, Sx.AV.bool false]) (call2 57 [.str true l] (Sx.G.on [false, false, true])) := by
 have e : Sx.pureP (Sx.AV.tup [Sx.AV.int false .u8 0, Sx.AV.bool false]) (call2 57 [.str true l] (Sx.G.on [false, false, true])) = ((Sx.AV.tup [Sx.AV.int false .u8 0, Sx.AV.bool false]) = (Sx.AV.tup [Sx.AV.int false .u8 0, Sx.AV.bool false]) ∧ (((((True ∧ (decide ((↑(List.length l) : Int) < (2 : Int)) = false)) ∧ (decide ((16 : Int) < (↑(List.length l) : Int)) = false)) ∧ (((0 : Int) ≤ (1 : Int)) ∧ (((1 : Int) ≤ (↑(List.length l) : Int)) ∧ ((↑(List.length l) : Int) ≤ (↑(List.length l) : Int))))) ∧ (List.length (List.take (Int.toNat (↑(List.length l) : Int) - Int.toNat (1 : Int)) (List.drop (Int.toNat (1 : Int)) l)) ≤ (9223372036854775807 : Nat))) ∧ ((!List.all (List.take (Int.toNat (↑(List.length l) : Int) - Int.toNat (1 : Int)) (List.drop (Int.toNat (1 : Int)) l)) okB) = true))) := by kernel_rfl
 exact ⟨by rw [e]; exact ⟨rfl, ⟨⟨⟨⟨⟨trivial, c0⟩, c1⟩, ⟨c2, ⟨c3, c4⟩⟩⟩, c5⟩, c6⟩⟩⟩
noncomputable def rname_0 (l : List UInt8) : Int := (bif decide ((↑(List.length l) : Int) < (2 : Int)) then ((0 : Int)) else (bif decide ((16 : Int) < (↑(List.length l) : Int)) then ((0 : Int)) else (bif List.all (List.take (Int.toNat (↑(List.length l) : Int) - Int.toNat (1 : Int)) (List.drop (Int.toNat (1 : Int)) l)) okB then (rof_0 (↑(UInt8.toNat (List.getD l (Int.toNat (0 : Int)) (0 : UInt8))) : Int)) else ((0 : Int)))))
noncomputable def rname_1 (l : List UInt8) : Bool := (bif decide ((↑(List.length l) : Int) < (2 : Int)) then (false) else (bif decide ((16 : Int) < (↑(List.length l) : Int)) then (false) else (bif List.all (List.take (Int.toNat (↑(List.length l) : Int) - Int.toNat (1 : Int)) (List.drop (Int.toNat (1 : Int)) l)) okB then (rof_1 (↑(UInt8.toNat (List.getD l (Int.toNat (0 : Int)) (0 : UInt8))) : Int)) else (false))))
noncomputable def rnameS : List Sx.AV → Sx.M Sx.AV
 | [.str s0 l] => Sx.M.ret (Sx.AV.tup [Sx.AV.int s0 (IntKind.u8) (rname_0 l), Sx.cmpB s0 (rname_1 l)])
 | args => call2 57 args
theorem rnameS_ok : ∀ args v g g', rnameS args g = .done v g' → Sx.CallIs Try.prog 57 args v g g' := by
 intro args v g g' h
 unfold rnameS at h
 split at h
 ·rename_i s0 l
  obtain ⟨rfl, rfl⟩ := Sx.ret_done h
  refine Sx.scal call2_ok fun μ cargs ha => ?_
  have ha' : Sx.Reps 0 Sx.MM.none [.str true l] cargs.toList := by simpa only [Sx.Reps, Sx.Rep] using ha
  cases t0 : decide ((↑(List.length l) : Int) < (2 : Int)) with
  | true =>
   exact ⟨_, _, _, ha', rname_r0 l t0, rfl, fun c hc => by have := hc g.nx μ; have e0 : rname_0 l = ((0 : Int)) := (Sx.ct t0).trans (rfl); have e1 : rname_1 l = (false) := (Sx.ct t0).trans (rfl); rw [e0, e1]; simpa only [Sx.Rep, Sx.Reps, Sx.Rep_cmpB] using this⟩
  | false =>
   cases t1 : decide ((16 : Int) < (↑(List.length l) : Int)) with
   | true =>
    exact ⟨_, _, _, ha', rname_r1 l t0 t1, rfl, fun c hc => by have := hc g.nx μ; have e0 : rname_0 l = ((0 : Int)) := (Sx.cf t0).trans ((Sx.ct t1).trans (rfl)); have e1 : rname_1 l = (false) := (Sx.cf t0).trans ((Sx.ct t1).trans (rfl)); rw [e0, e1]; simpa only [Sx.Rep, Sx.Reps, Sx.Rep_cmpB] using this⟩
   | false =>
    cases t2 : List.all (List.take (Int.toNat (↑(List.length l) : Int) - Int.toNat (1 : Int)) (List.drop (Int.toNat (1 : Int)) l)) okB with
    | true =>
     exact ⟨_, _, _, ha', rname_r2 l t0 t1 (by first | ((try simp only [decide_eq_true_eq, decide_eq_false_iff_not] at t0 t1 t2); (try simp only [List.length_take, List.length_drop]); omega) | decide | (have hp' := hp; simp_all; try omega)) (by first | ((try simp only [decide_eq_true_eq, decide_eq_false_iff_not] at t0 t1 t2); (try simp only [List.length_take, List.length_drop]); omega) | decide | (have hp' := hp; simp_all; try omega)) (by first | ((try simp only [decide_eq_true_eq, decide_eq_false_iff_not] at t0 t1 t2); (try simp only [List.length_take, List.length_drop]); omega) | decide | (have hp' := hp; simp_all; try omega)) (by first | ((try simp only [decide_eq_true_eq, decide_eq_false_iff_not] at t0 t1 t2); (try simp only [List.length_take, List.length_drop]); omega) | decide | (have hp' := hp; simp_all; try omega)) (by rw [t2]; rfl) (by first | ((try simp only [decide_eq_true_eq, decide_eq_false_iff_not] at t0 t1 t2); (try simp only [List.length_take, List.length_drop]); omega) | decide | (have hp' := hp; simp_all; try omega)) (by first | ((try simp only [decide_eq_true_eq, decide_eq_false_iff_not] at t0 t1 t2); (try simp only [List.length_take, List.length_drop]); omega) | decide | (have hp' := hp; simp_all; try omega)), rfl, fun c hc => by have := hc g.nx μ; have e0 : rname_0 l = (rof_0 (↑(UInt8.toNat (List.getD l (Int.toNat (0 : Int)) (0 : UInt8))) : Int)) := (Sx.cf t0).trans ((Sx.cf t1).trans ((Sx.ct t2).trans (rfl))); have e1 : rname_1 l = (rof_1 (↑(UInt8.toNat (List.getD l (Int.toNat (0 : Int)) (0 : UInt8))) : Int)) := (Sx.cf t0).trans ((Sx.cf t1).trans ((Sx.ct t2).trans (rfl))); rw [e0, e1]; simpa only [Sx.Rep, Sx.Reps, Sx.Rep_cmpB] using this⟩
    | false =>
     exact ⟨_, _, _, ha', rname_r3 l t0 t1 (by first | ((try simp only [decide_eq_true_eq, decide_eq_false_iff_not] at t0 t1 t2); (try simp only [List.length_take, List.length_drop]); omega) | decide | (have hp' := hp; simp_all; try omega)) (by first | ((try simp only [decide_eq_true_eq, decide_eq_false_iff_not] at t0 t1 t2); (try simp only [List.length_take, List.length_drop]); omega) | decide | (have hp' := hp; simp_all; try omega)) (by first | ((try simp only [decide_eq_true_eq, decide_eq_false_iff_not] at t0 t1 t2); (try simp only [List.length_take, List.length_drop]); omega) | decide | (have hp' := hp; simp_all; try omega)) (by first | ((try simp only [decide_eq_true_eq, decide_eq_false_iff_not] at t0 t1 t2); (try simp only [List.length_take, List.length_drop]); omega) | decide | (have hp' := hp; simp_all; try omega)) (by rw [t2]; rfl), rfl, fun c hc => by have := hc g.nx μ; have e0 : rname_0 l = ((0 : Int)) := (Sx.cf t0).trans ((Sx.cf t1).trans ((Sx.cf t2).trans (rfl))); have e1 : rname_1 l = (false) := (Sx.cf t0).trans ((Sx.cf t1).trans ((Sx.cf t2).trans (rfl))); rw [e0, e1]; simpa only [Sx.Rep, Sx.Reps, Sx.Rep_cmpB] using this⟩
 ·exact call2_ok _ _ _ _ _ h
theorem rnameS_tch : ∀ args, Sx.Tch (rnameS args) := by
 intro args
 unfold rnameS
 split
 ·exact Sx.Tch.ret _
 ·exact call2_tch _ _
theorem node_r0 (l : List UInt8) (c0 : decide ((0 : Int) < (↑(List.length l) : Int)) = true) (c1 : decide ((↑(List.length l) : Int) ≤ (16 : Int)) = true) : Sx.PureP (Sx.AV.sbool (List.all l okB)) (call2 41 [.str true l] (Sx.G.on [true, true])) := by
 have e : Sx.pureP (Sx.AV.sbool (List.all l okB)) (call2 41 [.str true l] (Sx.G.on [true, true])) = ((Sx.AV.sbool (List.all l okB)) = (Sx.AV.sbool (List.all l okB)) ∧ ((True ∧ (decide ((0 : Int) < (↑(List.length l) : Int)) = true)) ∧ (decide ((↑(List.length l) : Int) ≤ (16 : Int)) = true))) := by kernel_rfl
 exact ⟨by rw [e]; exact ⟨rfl, ⟨⟨trivial, c0⟩, c1⟩⟩⟩
theorem node_r1 (l : List UInt8) (c0 : decide ((0 : Int) < (↑(List.length l) : Int)) = true) (c1 : decide ((↑(List.length l) : Int) ≤ (16 : Int)) = false) : Sx.PureP (Sx.AV.bool false) (call2 41 [.str true l] (Sx.G.on [true, false])) := by
 have e : Sx.pureP (Sx.AV.bool false) (call2 41 [.str true l] (Sx.G.on [true, false])) = ((Sx.AV.bool false) = (Sx.AV.bool false) ∧ ((True ∧ (decide ((0 : Int) < (↑(List.length l) : Int)) = true)) ∧ (decide ((↑(List.length l) : Int) ≤ (16 : Int)) = false))) := by kernel_rfl
 exact ⟨by rw [e]; exact ⟨rfl, ⟨⟨trivial, c0⟩, c1⟩⟩⟩
theorem node_r2 (l : List UInt8) (c0 : decide ((0 : Int) < (↑(List.length l) : Int)) = false) : Sx.PureP (Sx.AV.bool false) (call2 41 [.str true l] (Sx.G.on [false])) := by
 have e : Sx.pureP (Sx.AV.bool false) (call2 41 [.str true l] (Sx.G.on [false])) = ((Sx.AV.bool false) = (Sx.AV.bool false) ∧ (True ∧ (decide ((0 : Int) < (↑(List.length l) : Int)) = false))) := by kernel_rfl
 exact ⟨by rw [e]; exact ⟨rfl, ⟨trivial, c0⟩⟩⟩
noncomputable def node_0 (l : List UInt8) : Bool := (bif decide ((0 : Int) < (↑(List.length l) : Int)) then (bif decide ((↑(List.length l) : Int) ≤ (16 : Int)) then (List.all l okB) else (false)) else (false))
noncomputable def nodeS : List Sx.AV → Sx.M Sx.AV
 | [.str s0 l] => Sx.M.ret (Sx.cmpB s0 (node_0 l))
 | args => call2 41 args
theorem nodeS_ok : ∀ args v g g', nodeS args g = .done v g' → Sx.CallIs Try.prog 41 args v g g' := by
 intro args v g g' h
 unfold nodeS at h
 split at h
 ·rename_i s0 l
  obtain ⟨rfl, rfl⟩ := Sx.ret_done h
  refine Sx.scal call2_ok fun μ cargs ha => ?_
  have ha' : Sx.Reps 0 Sx.MM.none [.str true l] cargs.toList := by simpa only [Sx.Reps, Sx.Rep] using ha
  cases t0 : decide ((0 : Int) < (↑(List.length l) : Int)) with
  | true =>
   cases t1 : decide ((↑(List.length l) : Int) ≤ (16 : Int)) with
   | true =>
    exact ⟨_, _, _, ha', node_r0 l t0 t1, rfl, fun c hc => by have := hc g.nx μ; have e0 : node_0 l = (List.all l okB) := (Sx.ct t0).trans ((Sx.ct t1).trans (rfl)); rw [e0]; simpa only [Sx.Rep, Sx.Reps, Sx.Rep_cmpB] using this⟩
   | false =>
    exact ⟨_, _, _, ha', node_r1 l t0 t1, rfl, fun c hc => by have := hc g.nx μ; have e0 : node_0 l = (false) := (Sx.ct t0).trans ((Sx.cf t1).trans (rfl)); rw [e0]; simpa only [Sx.Rep, Sx.Reps, Sx.Rep_cmpB] using this⟩
  | false =>
   exact ⟨_, _, _, ha', node_r2 l t0, rfl, fun c hc => by have := hc g.nx μ; have e0 : node_0 l = (false) := (Sx.cf t0).trans (rfl); rw [e0]; simpa only [Sx.Rep, Sx.Reps, Sx.Rep_cmpB] using this⟩
 ·exact call2_ok _ _ _ _ _ h
theorem nodeS_tch : ∀ args, Sx.Tch (nodeS args) := by
 intro args
 unfold nodeS
 split
 ·exact Sx.Tch.ret _
 ·exact call2_tch _ _
theorem rnode_r0 (l : List UInt8) (c0 : decide ((1 : Int) ≤ (↑(List.length l) : Int)) = true) (c1 : decide ((↑(List.length l) : Int) ≤ (16 : Int)) = true) (c2 : List.length l ≤ (9223372036854775807 : Nat)) : Sx.PureP (Sx.AV.sbool (List.all l okB)) (call2 58 [.str true l] (Sx.G.on [true, true])) := by
 have e : Sx.pureP (Sx.AV.sbool (List.all l okB)) (call2 58 [.str true l] (Sx.G.on [true, true])) = ((Sx.AV.sbool (List.all l okB)) = (Sx.AV.sbool (List.all l okB)) ∧ (((True ∧ (decide ((1 : Int) ≤ (↑(List.length l) : Int)) = true)) ∧ (decide ((↑(List.length l) : Int) ≤ (16 : Int)) = true)) ∧ (List.length l ≤ (9223372036854775807 : Nat)))) := by kernel_rfl
 exact ⟨by rw [e]; exact ⟨rfl, ⟨⟨⟨trivial, c0⟩, c1⟩, c2⟩⟩⟩
theorem rnode_r1 (l : List UInt8) (c0 : decide ((1 : Int) ≤ (↑(List.length l) : Int)) = true) (c1 : decide ((↑(List.length l) : Int) ≤ (16 : Int)) = false) : Sx.PureP (Sx.AV.bool false) (call2 58 [.str true l] (Sx.G.on [true, false])) := by
 have e : Sx.pureP (Sx.AV.bool false) (call2 58 [.str true l] (Sx.G.on [true, false])) = ((Sx.AV.bool false) = (Sx.AV.bool false) ∧ ((True ∧ (decide ((1 : Int) ≤ (↑(List.length l) : Int)) = true)) ∧ (decide ((↑(List.length l) : Int) ≤ (16 : Int)) = false))) := by kernel_rfl
 exact ⟨by rw [e]; exact ⟨rfl, ⟨⟨trivial, c0⟩, c1⟩⟩⟩
theorem rnode_r2 (l : List UInt8) (c0 : decide ((1 : Int) ≤ (↑(List.length l) : Int)) = false) : Sx.PureP (Sx.AV.bool false) (call2 58 [.str true l] (Sx.G.on [false])) := by
 have e : Sx.pureP (Sx.AV.bool false) (call2 58 [.str true l] (Sx.G.on [false])) = ((Sx.AV.bool false) = (Sx.AV.bool false) ∧ (True ∧ (decide ((1 : Int) ≤ (↑(List.length l) : Int)) = false))) := by kernel_rfl
 exact ⟨by rw [e]; exact ⟨rfl, ⟨trivial, c0⟩⟩⟩
noncomputable def rnode_0 (l : List UInt8) : Bool := (bif decide ((1 : Int) ≤ (↑(List.length l) : Int)) then (bif decide ((↑(List.length l) : Int) ≤ (16 : Int)) then (List.all l okB) else (false)) else (false))
noncomputable def rnodeS : List Sx.AV → Sx.M Sx.AV
 | [.str s0 l] => Sx.M.ret (Sx.cmpB s0 (rnode_0 l))
 | args => call2 58 args
theorem rnodeS_ok : ∀ args v g g', rnodeS args g = .done v g' → Sx.CallIs Try.prog 58 args v g g' := by
 intro args v g g' h
 unfold rnodeS at h
 split at h
 ·rename_i s0 l
  obtain ⟨rfl, rfl⟩ := Sx.ret_done h
  refine Sx.scal call2_ok fun μ cargs ha => ?_
  have ha' : Sx.Reps 0 Sx.MM.none [.str true l] cargs.toList := by simpa only [Sx.Reps, Sx.Rep] using ha
  cases t0 : decide ((1 : Int) ≤ (↑(List.length l) : Int)) with
  | true =>
   cases t1 : decide ((↑(List.length l) : Int) ≤ (16 : Int)) with
   | true =>
    exact ⟨_, _, _, ha', rnode_r0 l t0 t1 (by first | ((try simp only [decide_eq_true_eq, decide_eq_false_iff_not] at t0 t1); (try simp only [List.length_take, List.length_drop]); omega) | decide | (have hp' := hp; simp_all; try omega)), rfl, fun c hc => by have := hc g.nx μ; have e0 : rnode_0 l = (List.all l okB) := (Sx.ct t0).trans ((Sx.ct t1).trans (rfl)); rw [e0]; simpa only [Sx.Rep, Sx.Reps, Sx.Rep_cmpB] using this⟩
   | false =>
    exact ⟨_, _, _, ha', rnode_r1 l t0 t1, rfl, fun c hc => by have := hc g.nx μ; have e0 : rnode_0 l = (false) := (Sx.ct t0).trans ((Sx.cf t1).trans (rfl)); rw [e0]; simpa only [Sx.Rep, Sx.Reps, Sx.Rep_cmpB] using this⟩
  | false =>
   exact ⟨_, _, _, ha', rnode_r2 l t0, rfl, fun c hc => by have := hc g.nx μ; have e0 : rnode_0 l = (false) := (Sx.cf t0).trans (rfl); rw [e0]; simpa only [Sx.Rep, Sx.Reps, Sx.Rep_cmpB] using this⟩
 ·exact call2_ok _ _ _ _ _ h
theorem rnodeS_tch : ∀ args, Sx.Tch (rnodeS args) := by
 intro args
 unfold rnodeS
 split
 ·exact Sx.Tch.ret _
 ·exact call2_tch _ _
noncomputable def gam3 : Sx.Known := fun f => bif Nat.beq f 8 then some Sx.ofBits else (bif Nat.beq f 14 then some Sx.toBits else (bif Nat.beq f 50 then some smallS else (bif Nat.beq f 62 then some bytesS else (bif Nat.beq f 42 then some kindS else (bif Nat.beq f 59 then some rkindS else (bif Nat.beq f 39 then some rowOfS else (bif Nat.beq f 56 then some rrowS else (bif Nat.beq f 51 then some ofS else (bif Nat.beq f 63 then some rofS else (bif Nat.beq f 40 then some nameS else (bif Nat.beq f 57 then some rnameS else (bif Nat.beq f 41 then some nodeS else (bif Nat.beq f 58 then some rnodeS else (none))))))))))))))
theorem gam3_ok : Sx.KnownOk Try.prog gam3 := by
 intro f s h
 unfold gam3 at h
 cases h1 : Nat.beq f 8 with
 | true =>
  rw [h1] at h
  cases h
  cases Nat.eq_of_beq_eq_true h1
  exact (Sx.ofBits_is Try.prog).callIs Try.func8 (by kernel_rfl) (by kernel_rfl) (by kernel_rfl) (by kernel_rfl)
 | false =>
  rw [h1, cond_false] at h
  clear h1
  cases h1 : Nat.beq f 14 with
  | true =>
   rw [h1] at h
   cases h
   cases Nat.eq_of_beq_eq_true h1
   exact (Sx.toBits_is Try.prog).callIs Try.func14 (by kernel_rfl) (by kernel_rfl) (by kernel_rfl) (by kernel_rfl)
  | false =>
   rw [h1, cond_false] at h
   clear h1
   cases h1 : Nat.beq f 50 with
   | true =>
    rw [h1] at h
    cases h
    cases Nat.eq_of_beq_eq_true h1
    exact smallS_ok
   | false =>
    rw [h1, cond_false] at h
    clear h1
    cases h1 : Nat.beq f 62 with
    | true =>
     rw [h1] at h
     cases h
     cases Nat.eq_of_beq_eq_true h1
     exact bytesS_ok
    | false =>
     rw [h1, cond_false] at h
     clear h1
     cases h1 : Nat.beq f 42 with
     | true =>
      rw [h1] at h
      cases h
      cases Nat.eq_of_beq_eq_true h1
      exact kindS_ok
     | false =>
      rw [h1, cond_false] at h
      clear h1
      cases h1 : Nat.beq f 59 with
      | true =>
       rw [h1] at h
       cases h
       cases Nat.eq_of_beq_eq_true h1
       exact rkindS_ok
      | false =>
       rw [h1, cond_false] at h
       clear h1
       cases h1 : Nat.beq f 39 with
       | true =>
        rw [h1] at h
        cases h
        cases Nat.eq_of_beq_eq_true h1
        exact rowOfS_ok
       | false =>
        rw [h1, cond_false] at h
        clear h1
        cases h1 : Nat.beq f 56 with
        | true =>
         rw [h1] at h
         cases h
         cases Nat.eq_of_beq_eq_true h1
         exact rrowS_ok
        | false =>
         rw [h1, cond_false] at h
         clear h1
         cases h1 : Nat.beq f 51 with
         | true =>
          rw [h1] at h
          cases h
          cases Nat.eq_of_beq_eq_true h1
          exact ofS_ok
         | false =>
          rw [h1, cond_false] at h
          clear h1
          cases h1 : Nat.beq f 63 with
          | true =>
           rw [h1] at h
           cases h
           cases Nat.eq_of_beq_eq_true h1
           exact rofS_ok
          | false =>
           rw [h1, cond_false] at h
           clear h1
           cases h1 : Nat.beq f 40 with
           | true =>
            rw [h1] at h
            cases h
            cases Nat.eq_of_beq_eq_true h1
            exact nameS_ok
           | false =>
            rw [h1, cond_false] at h
            clear h1
            cases h1 : Nat.beq f 57 with
            | true =>
             rw [h1] at h
             cases h
             cases Nat.eq_of_beq_eq_true h1
             exact rnameS_ok
            | false =>
             rw [h1, cond_false] at h
             clear h1
             cases h1 : Nat.beq f 41 with
             | true =>
              rw [h1] at h
              cases h
              cases Nat.eq_of_beq_eq_true h1
              exact nodeS_ok
             | false =>
              rw [h1, cond_false] at h
              clear h1
              cases h1 : Nat.beq f 58 with
              | true =>
               rw [h1] at h
               cases h
               cases Nat.eq_of_beq_eq_true h1
               exact rnodeS_ok
              | false =>
               rw [h1, cond_false] at h
               clear h1
               cases h
theorem gam3_tch : Sx.KnownT gam3 := by
 intro f s h
 unfold gam3 at h
 cases h1 : Nat.beq f 8 with
 | true => rw [h1] at h; cases h; exact Sx.Tch.ofBits
 | false =>
  rw [h1, cond_false] at h
  clear h1
  cases h1 : Nat.beq f 14 with
  | true => rw [h1] at h; cases h; exact Sx.Tch.toBits
  | false =>
   rw [h1, cond_false] at h
   clear h1
   cases h1 : Nat.beq f 50 with
   | true => rw [h1] at h; cases h; exact smallS_tch
   | false =>
    rw [h1, cond_false] at h
    clear h1
    cases h1 : Nat.beq f 62 with
    | true => rw [h1] at h; cases h; exact bytesS_tch
    | false =>
     rw [h1, cond_false] at h
     clear h1
     cases h1 : Nat.beq f 42 with
     | true => rw [h1] at h; cases h; exact kindS_tch
     | false =>
      rw [h1, cond_false] at h
      clear h1
      cases h1 : Nat.beq f 59 with
      | true => rw [h1] at h; cases h; exact rkindS_tch
      | false =>
       rw [h1, cond_false] at h
       clear h1
       cases h1 : Nat.beq f 39 with
       | true => rw [h1] at h; cases h; exact rowOfS_tch
       | false =>
        rw [h1, cond_false] at h
        clear h1
        cases h1 : Nat.beq f 56 with
        | true => rw [h1] at h; cases h; exact rrowS_tch
        | false =>
         rw [h1, cond_false] at h
         clear h1
         cases h1 : Nat.beq f 51 with
         | true => rw [h1] at h; cases h; exact ofS_tch
         | false =>
          rw [h1, cond_false] at h
          clear h1
          cases h1 : Nat.beq f 63 with
          | true => rw [h1] at h; cases h; exact rofS_tch
          | false =>
           rw [h1, cond_false] at h
           clear h1
           cases h1 : Nat.beq f 40 with
           | true => rw [h1] at h; cases h; exact nameS_tch
           | false =>
            rw [h1, cond_false] at h
            clear h1
            cases h1 : Nat.beq f 57 with
            | true => rw [h1] at h; cases h; exact rnameS_tch
            | false =>
             rw [h1, cond_false] at h
             clear h1
             cases h1 : Nat.beq f 41 with
             | true => rw [h1] at h; cases h; exact nodeS_tch
             | false =>
              rw [h1, cond_false] at h
              clear h1
              cases h1 : Nat.beq f 58 with
              | true => rw [h1] at h; cases h; exact rnodeS_tch
              | false =>
               rw [h1, cond_false] at h
               clear h1
               cases h
noncomputable def call3 : Sx.Calls' := Sx.runN Try.prog gam3 (Sx.regionC Try.prog) 1000 50
theorem call3_ok : Sx.CallOk Try.prog call3 := Sx.engineC gam3_ok gam3_tch (by kernel_rfl) (by kernel_rfl) 1000 50
theorem call3_tch : Sx.CallT call3 := Sx.runA_tch gam3_tch (fun _ _ _ h => by cases h) (fun call hc n l fr => Sx.regionC_tch hc n l fr) 50
theorem chk_r0 (k : Int) (n a b c d : List UInt8) (v : Nat) (ph : Int) (c0 : (!rowOf_5 k) = false) (c1 : (!name_1 n) = false) (c2 : (!decide (name_0 n = k)) = false) (c3 : (!node_0 a) = false) (c4 : (!node_0 b) = false) (c5 : rowOf_3 k = true) (c6 : (!node_0 c) = false) (c7 : (!node_0 d) = false) (c8 : (a == b) = true) : Sx.PureP (Sx.AV.int false .i64 2) (call3 29 [.agg [.int true .u8 k, .str true n, .str true a, .str true b, .str true c, .str true d, .raw true v, .int true .i64 ph]] (Sx.G.on [false, false, false, false, false, true, false, false, true])) := by
 have e : Sx.pureP (Sx.AV.int false .i64 2) (call3 29 [.agg [.int true .u8 k, .str true n, .str true a, .str true b, .str true c, .str true d, .raw true v, .int true .i64 ph]] (Sx.G.on [false, false, false, false, false, true, false, false, true])) = ((Sx.AV.int false .i64 2) = (Sx.AV.int false .i64 2) ∧ (((((((((True ∧ ((!rowOf_5 k) = false)) ∧ ((!name_1 n) = false)) ∧ ((!decide (name_0 n = k)) = false)) ∧ ((!node_0 a) = false)) ∧ ((!node_0 b) = false)) ∧ (rowOf_3 k = true)) ∧ ((!node_0 c) = false)) ∧ ((!node_0 d) = false)) ∧ ((a == b) = true))) := by kernel_rfl
 exact ⟨by rw [e]; exact ⟨rfl, ⟨⟨⟨⟨⟨⟨⟨⟨⟨trivial, c0⟩, c1⟩, c2⟩, c3⟩, c4⟩, c5⟩, c6⟩, c7⟩, c8⟩⟩⟩
theorem chk_r1 (k : Int) (n a b c d : List UInt8) (v : Nat) (ph : Int) (c0 : (!rowOf_5 k) = false) (c1 : (!name_1 n) = false) (c2 : (!decide (name_0 n = k)) = false) (c3 : (!node_0 a) = false) (c4 : (!node_0 b) = false) (c5 : rowOf_3 k = true) (c6 : (!node_0 c) = false) (c7 : (!node_0 d) = false) (c8 : (a == b) = false) (c9 : (!rowOf_3 k) = false) (c10 : (!rowOf_4 k) = false) (c11 : decide ((2 : Int) < Sx.kindDef v) = true) : Sx.PureP (Sx.AV.int false .i64 5) (call3 29 [.agg [.int true .u8 k, .str true n, .str true a, .str true b, .str true c, .str true d, .raw true v, .int true .i64 ph]] (Sx.G.on [false, false, false, false, false, true, false, false, false, false, false, true])) := by
 have e : Sx.pureP (Sx.AV.int false .i64 5) (call3 29 [.agg [.int true .u8 k, .str true n, .str true a, .str true b, .str true c, .str true d, .raw true v, .int true .i64 ph]] (Sx.G.on [false, false, false, false, false, true, false, false, false, false, false, true])) = ((Sx.AV.int false .i64 5) = (Sx.AV.int false .i64 5) ∧ ((((((((((((True ∧ ((!rowOf_5 k) = false)) ∧ ((!name_1 n) = false)) ∧ ((!decide (name_0 n = k)) = false)) ∧ ((!node_0 a) = false)) ∧ ((!node_0 b) = false)) ∧ (rowOf_3 k = true)) ∧ ((!node_0 c) = false)) ∧ ((!node_0 d) = false)) ∧ ((a == b) = false)) ∧ ((!rowOf_3 k) = false)) ∧ ((!rowOf_4 k) = false)) ∧ (decide ((2 : Int) < Sx.kindDef v) = true))) := by kernel_rfl
 exact ⟨by rw [e]; exact ⟨rfl, ⟨⟨⟨⟨⟨⟨⟨⟨⟨⟨⟨⟨trivial, c0⟩, c1⟩, c2⟩, c3⟩, c4⟩, c5⟩, c6⟩, c7⟩, c8⟩, c9⟩, c10⟩, c11⟩⟩⟩
theorem chk_r2 (k : Int) (n a b c d : List UInt8) (v : Nat) (ph : Int) (c0 : (!rowOf_5 k) = false) (c1 : (!name_1 n) = false) (c2 : (!decide (name_0 n = k)) = false) (c3 : (!node_0 a) = false) (c4 : (!node_0 b) = false) (c5 : rowOf_3 k = true) (c6 : (!node_0 c) = false) (c7 : (!node_0 d) = false) (c8 : (a == b) = false) (c9 : (!rowOf_3 k) = false) (c10 : (!rowOf_4 k) = false) (c11 : decide ((2 : Int) < Sx.kindDef v) = false) (c12 : rowOf_2 k = true) (c13 : Sx.fle (Sx.cn v) (Sx.cn (0 : Nat)) = true) : Sx.PureP (Sx.AV.int false .i64 2) (call3 29 [.agg [.int true .u8 k, .str true n, .str true a, .str true b, .str true c, .str true d, .raw true v, .int true .i64 ph]] (Sx.G.on [false, false, false, false, false, true, false, false, false, false, false, false, true, true])) := by
 have e : Sx.pureP (Sx.AV.int false .i64 2) (call3 29 [.agg [.int true .u8 k, .str true n, .str true a, .str true b, .str true c, .str true d, .raw true v, .int true .i64 ph]] (Sx.G.on [false, false, false, false, false, true, false, false, false, false, false, false, true, true])) = ((Sx.AV.int false .i64 2) = (Sx.AV.int false .i64 2) ∧ ((((((((((((((True ∧ ((!rowOf_5 k) = false)) ∧ ((!name_1 n) = false)) ∧ ((!decide (name_0 n = k)) = false)) ∧ ((!node_0 a) = false)) ∧ ((!node_0 b) = false)) ∧ (rowOf_3 k = true)) ∧ ((!node_0 c) = false)) ∧ ((!node_0 d) = false)) ∧ ((a == b) = false)) ∧ ((!rowOf_3 k) = false)) ∧ ((!rowOf_4 k) = false)) ∧ (decide ((2 : Int) < Sx.kindDef v) = false)) ∧ (rowOf_2 k = true)) ∧ (Sx.fle (Sx.cn v) (Sx.cn (0 : Nat)) = true))) := by kernel_rfl
 exact ⟨by rw [e]; exact ⟨rfl, ⟨⟨⟨⟨⟨⟨⟨⟨⟨⟨⟨⟨⟨⟨trivial, c0⟩, c1⟩, c2⟩, c3⟩, c4⟩, c5⟩, c6⟩, c7⟩, c8⟩, c9⟩, c10⟩, c11⟩, c12⟩, c13⟩⟩⟩
theorem chk_r3 (k : Int) (n a b c d : List UInt8) (v : Nat) (ph : Int) (c0 : (!rowOf_5 k) = false) (c1 : (!name_1 n) = false) (c2 : (!decide (name_0 n = k)) = false) (c3 : (!node_0 a) = false) (c4 : (!node_0 b) = false) (c5 : rowOf_3 k = true) (c6 : (!node_0 c) = false) (c7 : (!node_0 d) = false) (c8 : (a == b) = false) (c9 : (!rowOf_3 k) = false) (c10 : (!rowOf_4 k) = false) (c11 : decide ((2 : Int) < Sx.kindDef v) = false) (c12 : rowOf_2 k = true) (c13 : Sx.fle (Sx.cn v) (Sx.cn (0 : Nat)) = false) : Sx.PureP (Sx.AV.int false .i64 0) (call3 29 [.agg [.int true .u8 k, .str true n, .str true a, .str true b, .str true c, .str true d, .raw true v, .int true .i64 ph]] (Sx.G.on [false, false, false, false, false, true, false, false, false, false, false, false, true, false])) := by
 have e : Sx.pureP (Sx.AV.int false .i64 0) (call3 29 [.agg [.int true .u8 k, .str true n, .str true a, .str true b, .str true c, .str true d, .raw true v, .int true .i64 ph]] (Sx.G.on [false, false, false, false, false, true, false, false, false, false, false, false, true, false])) = ((Sx.AV.int false .i64 0) = (Sx.AV.int false .i64 0) ∧ ((((((((((((((True ∧ ((!rowOf_5 k) = false)) ∧ ((!name_1 n) = false)) ∧ ((!decide (name_0 n = k)) = false)) ∧ ((!node_0 a) = false)) ∧ ((!node_0 b) = false)) ∧ (rowOf_3 k = true)) ∧ ((!node_0 c) = false)) ∧ ((!node_0 d) = false)) ∧ ((a == b) = false)) ∧ ((!rowOf_3 k) = false)) ∧ ((!rowOf_4 k) = false)) ∧ (decide ((2 : Int) < Sx.kindDef v) = false)) ∧ (rowOf_2 k = true)) ∧ (Sx.fle (Sx.cn v) (Sx.cn (0 : Nat)) = false))) := by kernel_rfl
 exact ⟨by rw [e]; exact ⟨rfl, ⟨⟨⟨⟨⟨⟨⟨⟨⟨⟨⟨⟨⟨⟨trivial, c0⟩, c1⟩, c2⟩, c3⟩, c4⟩, c5⟩, c6⟩, c7⟩, c8⟩, c9⟩, c10⟩, c11⟩, c12⟩, c13⟩⟩⟩
theorem chk_r4 (k : Int) (n a b c d : List UInt8) (v : Nat) (ph : Int) (c0 : (!rowOf_5 k) = false) (c1 : (!name_1 n) = false) (c2 : (!decide (name_0 n = k)) = false) (c3 : (!node_0 a) = false) (c4 : (!node_0 b) = false) (c5 : rowOf_3 k = true) (c6 : (!node_0 c) = false) (c7 : (!node_0 d) = false) (c8 : (a == b) = false) (c9 : (!rowOf_3 k) = false) (c10 : (!rowOf_4 k) = false) (c11 : decide ((2 : Int) < Sx.kindDef v) = false) (c12 : rowOf_2 k = false) : Sx.PureP (Sx.AV.int false .i64 0) (call3 29 [.agg [.int true .u8 k, .str true n, .str true a, .str true b, .str true c, .str true d, .raw true v, .int true .i64 ph]] (Sx.G.on [false, false, false, false, false, true, false, false, false, false, false, false, false])) := by
 have e : Sx.pureP (Sx.AV.int false .i64 0) (call3 29 [.agg [.int true .u8 k, .str true n, .str true a, .str true b, .str true c, .str true d, .raw true v, .int true .i64 ph]] (Sx.G.on [false, false, false, false, false, true, false, false, false, false, false, false, false])) = ((Sx.AV.int false .i64 0) = (Sx.AV.int false .i64 0) ∧ (((((((((((((True ∧ ((!rowOf_5 k) = false)) ∧ ((!name_1 n) = false)) ∧ ((!decide (name_0 n = k)) = false)) ∧ ((!node_0 a) = false)) ∧ ((!node_0 b) = false)) ∧ (rowOf_3 k = true)) ∧ ((!node_0 c) = false)) ∧ ((!node_0 d) = false)) ∧ ((a == b) = false)) ∧ ((!rowOf_3 k) = false)) ∧ ((!rowOf_4 k) = false)) ∧ (decide ((2 : Int) < Sx.kindDef v) = false)) ∧ (rowOf_2 k = false))) := by kernel_rfl
 exact ⟨by rw [e]; exact ⟨rfl, ⟨⟨⟨⟨⟨⟨⟨⟨⟨⟨⟨⟨⟨trivial, c0⟩, c1⟩, c2⟩, c3⟩, c4⟩, c5⟩, c6⟩, c7⟩, c8⟩, c9⟩, c10⟩, c11⟩, c12⟩⟩⟩
theorem chk_r5 (k : Int) (n a b c d : List UInt8) (v : Nat) (ph : Int) (c0 : (!rowOf_5 k) = false) (c1 : (!name_1 n) = false) (c2 : (!decide (name_0 n = k)) = false) (c3 : (!node_0 a) = false) (c4 : (!node_0 b) = false) (c5 : rowOf_3 k = true) (c6 : (!node_0 c) = false) (c7 : (!node_0 d) = false) (c8 : (a == b) = false) (c9 : (!rowOf_3 k) = false) (c10 : (!rowOf_4 k) = true) (c11 : (!decide (ph = (0 : Int))) = false) (c12 : decide ((2 : Int) < Sx.kindDef v) = true) : Sx.PureP (Sx.AV.int false .i64 5) (call3 29 [.agg [.int true .u8 k, .str true n, .str true a, .str true b, .str true c, .str true d, .raw true v, .int true .i64 ph]] (Sx.G.on [false, false, false, false, false, true, false, false, false, false, true, false, true])) := by
 have e : Sx.pureP (Sx.AV.int false .i64 5) (call3 29 [.agg [.int true .u8 k, .str true n, .str true a, .str true b, .str true c, .str true d, .raw true v, .int true .i64 ph]] (Sx.G.on [false, false, false, false, false, true, false, false, false, false, true, false, true])) = ((Sx.AV.int false .i64 5) = (Sx.AV.int false .i64 5) ∧ (((((((((((((True ∧ ((!rowOf_5 k) = false)) ∧ ((!name_1 n) = false)) ∧ ((!decide (name_0 n = k)) = false)) ∧ ((!node_0 a) = false)) ∧ ((!node_0 b) = false)) ∧ (rowOf_3 k = true)) ∧ ((!node_0 c) = false)) ∧ ((!node_0 d) = false)) ∧ ((a == b) = false)) ∧ ((!rowOf_3 k) = false)) ∧ ((!rowOf_4 k) = true)) ∧ ((!decide (ph = (0 : Int))) = false)) ∧ (decide ((2 : Int) < Sx.kindDef v) = true))) := by kernel_rfl
 exact ⟨by rw [e]; exact ⟨rfl, ⟨⟨⟨⟨⟨⟨⟨⟨⟨⟨⟨⟨⟨trivial, c0⟩, c1⟩, c2⟩, c3⟩, c4⟩, c5⟩, c6⟩, c7⟩, c8⟩, c9⟩, c10⟩, c11⟩, c12⟩⟩⟩
theorem chk_r6 (k : Int) (n a b c d : List UInt8) (v : Nat) (ph : Int) (c0 : (!rowOf_5 k) = false) (c1 : (!name_1 n) = false) (c2 : (!decide (name_0 n = k)) = false) (c3 : (!node_0 a) = false) (c4 : (!node_0 b) = false) (c5 : rowOf_3 k = true) (c6 : (!node_0 c) = false) (c7 : (!node_0 d) = false) (c8 : (a == b) = false) (c9 : (!rowOf_3 k) = false) (c10 : (!rowOf_4 k) = true) (c11 : (!decide (ph = (0 : Int))) = false) (c12 : decide ((2 : Int) < Sx.kindDef v) = false) (c13 : rowOf_2 k = true) (c14 : Sx.fle (Sx.cn v) (Sx.cn (0 : Nat)) = true) : Sx.PureP (Sx.AV.int false .i64 2) (call3 29 [.agg [.int true .u8 k, .str true n, .str true a, .str true b, .str true c, .str true d, .raw true v, .int true .i64 ph]] (Sx.G.on [false, false, false, false, false, true, false, false, false, false, true, false, false, true, true])) := by
 have e : Sx.pureP (Sx.AV.int false .i64 2) (call3 29 [.agg [.int true .u8 k, .str true n, .str true a, .str true b, .str true c, .str true d, .raw true v, .int true .i64 ph]] (Sx.G.on [false, false, false, false, false, true, false, false, false, false, true, false, false, true, true])) = ((Sx.AV.int false .i64 2) = (Sx.AV.int false .i64 2) ∧ (((((((((((((((True ∧ ((!rowOf_5 k) = false)) ∧ ((!name_1 n) = false)) ∧ ((!decide (name_0 n = k)) = false)) ∧ ((!node_0 a) = false)) ∧ ((!node_0 b) = false)) ∧ (rowOf_3 k = true)) ∧ ((!node_0 c) = false)) ∧ ((!node_0 d) = false)) ∧ ((a == b) = false)) ∧ ((!rowOf_3 k) = false)) ∧ ((!rowOf_4 k) = true)) ∧ ((!decide (ph = (0 : Int))) = false)) ∧ (decide ((2 : Int) < Sx.kindDef v) = false)) ∧ (rowOf_2 k = true)) ∧ (Sx.fle (Sx.cn v) (Sx.cn (0 : Nat)) = true))) := by kernel_rfl
 exact ⟨by rw [e]; exact ⟨rfl, ⟨⟨⟨⟨⟨⟨⟨⟨⟨⟨⟨⟨⟨⟨⟨trivial, c0⟩, c1⟩, c2⟩, c3⟩, c4⟩, c5⟩, c6⟩, c7⟩, c8⟩, c9⟩, c10⟩, c11⟩, c12⟩, c13⟩, c14⟩⟩⟩
theorem chk_r7 (k : Int) (n a b c d : List UInt8) (v : Nat) (ph : Int) (c0 : (!rowOf_5 k) = false) (c1 : (!name_1 n) = false) (c2 : (!decide (name_0 n = k)) = false) (c3 : (!node_0 a) = false) (c4 : (!node_0 b) = false) (c5 : rowOf_3 k = true) (c6 : (!node_0 c) = false) (c7 : (!node_0 d) = false) (c8 : (a == b) = false) (c9 : (!rowOf_3 k) = false) (c10 : (!rowOf_4 k) = true) (c11 : (!decide (ph = (0 : Int))) = false) (c12 : decide ((2 : Int) < Sx.kindDef v) = false) (c13 : rowOf_2 k = true) (c14 : Sx.fle (Sx.cn v) (Sx.cn (0 : Nat)) = false) : Sx.PureP (Sx.AV.int false .i64 0) (call3 29 [.agg [.int true .u8 k, .str true n, .str true a, .str true b, .str true c, .str true d, .raw true v, .int true .i64 ph]] (Sx.G.on [false, false, false, false, false, true, false, false, false, false, true, false, false, true, false])) := by
 have e : Sx.pureP (Sx.AV.int false .i64 0) (call3 29 [.agg [.int true .u8 k, .str true n, .str true a, .str true b, .str true c, .str true d, .raw true v, .int true .i64 ph]] (Sx.G.on [false, false, false, false, false, true, false, false, false, false, true, false, false, true, false])) = ((Sx.AV.int false .i64 0) = (Sx.AV.int false .i64 0) ∧ (((((((((((((((True ∧ ((!rowOf_5 k) = false)) ∧ ((!name_1 n) = false)) ∧ ((!decide (name_0 n = k)) = false)) ∧ ((!node_0 a) = false)) ∧ ((!node_0 b) = false)) ∧ (rowOf_3 k = true)) ∧ ((!node_0 c) = false)) ∧ ((!node_0 d) = false)) ∧ ((a == b) = false)) ∧ ((!rowOf_3 k) = false)) ∧ ((!rowOf_4 k) = true)) ∧ ((!decide (ph = (0 : Int))) = false)) ∧ (decide ((2 : Int) < Sx.kindDef v) = false)) ∧ (rowOf_2 k = true)) ∧ (Sx.fle (Sx.cn v) (Sx.cn (0 : Nat)) = false))) := by kernel_rfl
 exact ⟨by rw [e]; exact ⟨rfl, ⟨⟨⟨⟨⟨⟨⟨⟨⟨⟨⟨⟨⟨⟨⟨trivial, c0⟩, c1⟩, c2⟩, c3⟩, c4⟩, c5⟩, c6⟩, c7⟩, c8⟩, c9⟩, c10⟩, c11⟩, c12⟩, c13⟩, c14⟩⟩⟩
theorem chk_r8 (k : Int) (n a b c d : List UInt8) (v : Nat) (ph : Int) (c0 : (!rowOf_5 k) = false) (c1 : (!name_1 n) = false) (c2 : (!decide (name_0 n = k)) = false) (c3 : (!node_0 a) = false) (c4 : (!node_0 b) = false) (c5 : rowOf_3 k = true) (c6 : (!node_0 c) = false) (c7 : (!node_0 d) = false) (c8 : (a == b) = false) (c9 : (!rowOf_3 k) = false) (c10 : (!rowOf_4 k) = true) (c11 : (!decide (ph = (0 : Int))) = false) (c12 : decide ((2 : Int) < Sx.kindDef v) = false) (c13 : rowOf_2 k = false) : Sx.PureP (Sx.AV.int false .i64 0) (call3 29 [.agg [.int true .u8 k, .str true n, .str true a, .str true b, .str true c, .str true d, .raw true v, .int true .i64 ph]] (Sx.G.on [false, false, false, false, false, true, false, false, false, false, true, false, false, false])) := by
 have e : Sx.pureP (Sx.AV.int false .i64 0) (call3 29 [.agg [.int true .u8 k, .str true n, .str true a, .str true b, .str true c, .str true d, .raw true v, .int true .i64 ph]] (Sx.G.on [false, false, false, false, false, true, false, false, false, false, true, false, false, false])) = ((Sx.AV.int false .i64 0) = (Sx.AV.int false .i64 0) ∧ ((((((((((((((True ∧ ((!rowOf_5 k) = false)) ∧ ((!name_1 n) = false)) ∧ ((!decide (name_0 n = k)) = false)) ∧ ((!node_0 a) = false)) ∧ ((!node_0 b) = false)) ∧ (rowOf_3 k = true)) ∧ ((!node_0 c) = false)) ∧ ((!node_0 d) = false)) ∧ ((a == b) = false)) ∧ ((!rowOf_3 k) = false)) ∧ ((!rowOf_4 k) = true)) ∧ ((!decide (ph = (0 : Int))) = false)) ∧ (decide ((2 : Int) < Sx.kindDef v) = false)) ∧ (rowOf_2 k = false))) := by kernel_rfl
 exact ⟨by rw [e]; exact ⟨rfl, ⟨⟨⟨⟨⟨⟨⟨⟨⟨⟨⟨⟨⟨⟨trivial, c0⟩, c1⟩, c2⟩, c3⟩, c4⟩, c5⟩, c6⟩, c7⟩, c8⟩, c9⟩, c10⟩, c11⟩, c12⟩, c13⟩⟩⟩
theorem chk_r9 (k : Int) (n a b c d : List UInt8) (v : Nat) (ph : Int) (c0 : (!rowOf_5 k) = false) (c1 : (!name_1 n) = false) (c2 : (!decide (name_0 n = k)) = false) (c3 : (!node_0 a) = false) (c4 : (!node_0 b) = false) (c5 : rowOf_3 k = true) (c6 : (!node_0 c) = false) (c7 : (!node_0 d) = false) (c8 : (a == b) = false) (c9 : (!rowOf_3 k) = false) (c10 : (!rowOf_4 k) = true) (c11 : (!decide (ph = (0 : Int))) = true) : Sx.PureP (Sx.AV.int false .i64 2) (call3 29 [.agg [.int true .u8 k, .str true n, .str true a, .str true b, .str true c, .str true d, .raw true v, .int true .i64 ph]] (Sx.G.on [false, false, false, false, false, true, false, false, false, false, true, true])) := by
 have e : Sx.pureP (Sx.AV.int false .i64 2) (call3 29 [.agg [.int true .u8 k, .str true n, .str true a, .str true b, .str true c, .str true d, .raw true v, .int true .i64 ph]] (Sx.G.on [false, false, false, false, false, true, false, false, false, false, true, true])) = ((Sx.AV.int false .i64 2) = (Sx.AV.int false .i64 2) ∧ ((((((((((((True ∧ ((!rowOf_5 k) = false)) ∧ ((!name_1 n) = false)) ∧ ((!decide (name_0 n = k)) = false)) ∧ ((!node_0 a) = false)) ∧ ((!node_0 b) = false)) ∧ (rowOf_3 k = true)) ∧ ((!node_0 c) = false)) ∧ ((!node_0 d) = false)) ∧ ((a == b) = false)) ∧ ((!rowOf_3 k) = false)) ∧ ((!rowOf_4 k) = true)) ∧ ((!decide (ph = (0 : Int))) = true))) := by kernel_rfl
 exact ⟨by rw [e]; exact ⟨rfl, ⟨⟨⟨⟨⟨⟨⟨⟨⟨⟨⟨⟨trivial, c0⟩, c1⟩, c2⟩, c3⟩, c4⟩, c5⟩, c6⟩, c7⟩, c8⟩, c9⟩, c10⟩, c11⟩⟩⟩
theorem chk_r10 (k : Int) (n a b c d : List UInt8) (v : Nat) (ph : Int) (c0 : (!rowOf_5 k) = false) (c1 : (!name_1 n) = false) (c2 : (!decide (name_0 n = k)) = false) (c3 : (!node_0 a) = false) (c4 : (!node_0 b) = false) (c5 : rowOf_3 k = true) (c6 : (!node_0 c) = false) (c7 : (!node_0 d) = true) : Sx.PureP (Sx.AV.int false .i64 8) (call3 29 [.agg [.int true .u8 k, .str true n, .str true a, .str true b, .str true c, .str true d, .raw true v, .int true .i64 ph]] (Sx.G.on [false, false, false, false, false, true, false, true])) := by
 have e : Sx.pureP (Sx.AV.int false .i64 8) (call3 29 [.agg [.int true .u8 k, .str true n, .str true a, .str true b, .str true c, .str true d, .raw true v, .int true .i64 ph]] (Sx.G.on [false, false, false, false, false, true, false, true])) = ((Sx.AV.int false .i64 8) = (Sx.AV.int false .i64 8) ∧ ((((((((True ∧ ((!rowOf_5 k) = false)) ∧ ((!name_1 n) = false)) ∧ ((!decide (name_0 n = k)) = false)) ∧ ((!node_0 a) = false)) ∧ ((!node_0 b) = false)) ∧ (rowOf_3 k = true)) ∧ ((!node_0 c) = false)) ∧ ((!node_0 d) = true))) := by kernel_rfl
 exact ⟨by rw [e]; exact ⟨rfl, ⟨⟨⟨⟨⟨⟨⟨⟨trivial, c0⟩, c1⟩, c2⟩, c3⟩, c4⟩, c5⟩, c6⟩, c7⟩⟩⟩
theorem chk_r11 (k : Int) (n a b c d : List UInt8) (v : Nat) (ph : Int) (c0 : (!rowOf_5 k) = false) (c1 : (!name_1 n) = false) (c2 : (!decide (name_0 n = k)) = false) (c3 : (!node_0 a) = false) (c4 : (!node_0 b) = false) (c5 : rowOf_3 k = true) (c6 : (!node_0 c) = true) : Sx.PureP (Sx.AV.int false .i64 8) (call3 29 [.agg [.int true .u8 k, .str true n, .str true a, .str true b, .str true c, .str true d, .raw true v, .int true .i64 ph]] (Sx.G.on [false, false, false, false, false, true, true])) := by
 have e : Sx.pureP (Sx.AV.int false .i64 8) (call3 29 [.agg [.int true .u8 k, .str true n, .str true a, .str true b, .str true c, .str true d, .raw true v, .int true .i64 ph]] (Sx.G.on [false, false, false, false, false, true, true])) = ((Sx.AV.int false .i64 8) = (Sx.AV.int false .i64 8) ∧ (((((((True ∧ ((!rowOf_5 k) = false)) ∧ ((!name_1 n) = false)) ∧ ((!decide (name_0 n = k)) = false)) ∧ ((!node_0 a) = false)) ∧ ((!node_0 b) = false)) ∧ (rowOf_3 k = true)) ∧ ((!node_0 c) = true))) := by kernel_rfl
 exact ⟨by rw [e]; exact ⟨rfl, ⟨⟨⟨⟨⟨⟨⟨trivial, c0⟩, c1⟩, c2⟩, c3⟩, c4⟩, c5⟩, c6⟩⟩⟩
theorem chk_r12 (k : Int) (n a b c d : List UInt8) (v : Nat) (ph : Int) (c0 : (!rowOf_5 k) = false) (c1 : (!name_1 n) = false) (c2 : (!decide (name_0 n = k)) = false) (c3 : (!node_0 a) = false) (c4 : (!node_0 b) = false) (c5 : rowOf_3 k = false) (c6 : (a == b) = true) : Sx.PureP (Sx.AV.int false .i64 2) (call3 29 [.agg [.int true .u8 k, .str true n, .str true a, .str true b, .str true c, .str true d, .raw true v, .int true .i64 ph]] (Sx.G.on [false, false, false, false, false, false, true])) := by
 have e : Sx.pureP (Sx.AV.int false .i64 2) (call3 29 [.agg [.int true .u8 k, .str true n, .str true a, .str true b, .str true c, .str true d, .raw true v, .int true .i64 ph]] (Sx.G.on [false, false, false, false, false, false, true])) = ((Sx.AV.int false .i64 2) = (Sx.AV.int false .i64 2) ∧ (((((((True ∧ ((!rowOf_5 k) = false)) ∧ ((!name_1 n) = false)) ∧ ((!decide (name_0 n = k)) = false)) ∧ ((!node_0 a) = false)) ∧ ((!node_0 b) = false)) ∧ (rowOf_3 k = false)) ∧ ((a == b) = true))) := by kernel_rfl
 exact ⟨by rw [e]; exact ⟨rfl, ⟨⟨⟨⟨⟨⟨⟨trivial, c0⟩, c1⟩, c2⟩, c3⟩, c4⟩, c5⟩, c6⟩⟩⟩
theorem chk_r13 (k : Int) (n a b c d : List UInt8) (v : Nat) (ph : Int) (c0 : (!rowOf_5 k) = false) (c1 : (!name_1 n) = false) (c2 : (!decide (name_0 n = k)) = false) (c3 : (!node_0 a) = false) (c4 : (!node_0 b) = false) (c5 : rowOf_3 k = false) (c6 : (a == b) = false) (c7 : (!rowOf_3 k) = true) (c8 : (!c == []) = false) (c9 : (!d == []) = false) (c10 : (!rowOf_4 k) = false) (c11 : decide ((2 : Int) < Sx.kindDef v) = true) : Sx.PureP (Sx.AV.int false .i64 5) (call3 29 [.agg [.int true .u8 k, .str true n, .str true a, .str true b, .str true c, .str true d, .raw true v, .int true .i64 ph]] (Sx.G.on [false, false, false, false, false, false, false, true, false, false, false, true])) := by
 have e : Sx.pureP (Sx.AV.int false .i64 5) (call3 29 [.agg [.int true .u8 k, .str true n, .str true a, .str true b, .str true c, .str true d, .raw true v, .int true .i64 ph]] (Sx.G.on [false, false, false, false, false, false, false, true, false, false, false, true])) = ((Sx.AV.int false .i64 5) = (Sx.AV.int false .i64 5) ∧ ((((((((((((True ∧ ((!rowOf_5 k) = false)) ∧ ((!name_1 n) = false)) ∧ ((!decide (name_0 n = k)) = false)) ∧ ((!node_0 a) = false)) ∧ ((!node_0 b) = false)) ∧ (rowOf_3 k = false)) ∧ ((a == b) = false)) ∧ ((!rowOf_3 k) = true)) ∧ ((!c == []) = false)) ∧ ((!d == []) = false)) ∧ ((!rowOf_4 k) = false)) ∧ (decide ((2 : Int) < Sx.kindDef v) = true))) := by kernel_rfl
 exact ⟨by rw [e]; exact ⟨rfl, ⟨⟨⟨⟨⟨⟨⟨⟨⟨⟨⟨⟨trivial, c0⟩, c1⟩, c2⟩, c3⟩, c4⟩, c5⟩, c6⟩, c7⟩, c8⟩, c9⟩, c10⟩, c11⟩⟩⟩
theorem chk_r14 (k : Int) (n a b c d : List UInt8) (v : Nat) (ph : Int) (c0 : (!rowOf_5 k) = false) (c1 : (!name_1 n) = false) (c2 : (!decide (name_0 n = k)) = false) (c3 : (!node_0 a) = false) (c4 : (!node_0 b) = false) (c5 : rowOf_3 k = false) (c6 : (a == b) = false) (c7 : (!rowOf_3 k) = true) (c8 : (!c == []) = false) (c9 : (!d == []) = false) (c10 : (!rowOf_4 k) = false) (c11 : decide ((2 : Int) < Sx.kindDef v) = false) (c12 : rowOf_2 k = true) (c13 : Sx.fle (Sx.cn v) (Sx.cn (0 : Nat)) = true) : Sx.PureP (Sx.AV.int false .i64 2) (call3 29 [.agg [.int true .u8 k, .str true n, .str true a, .str true b, .str true c, .str true d, .raw true v, .int true .i64 ph]] (Sx.G.on [false, false, false, false, false, false, false, true, false, false, false, false, true, true])) := by
 have e : Sx.pureP (Sx.AV.int false .i64 2) (call3 29 [.agg [.int true .u8 k, .str true n, .str true a, .str true b, .str true c, .str true d, .raw true v, .int true .i64 ph]] (Sx.G.on [false, false, false, false, false, false, false, true, false, false, false, false, true, true])) = ((Sx.AV.int false .i64 2) = (Sx.AV.int false .i64 2) ∧ ((((((((((((((True ∧ ((!rowOf_5 k) = false)) ∧ ((!name_1 n) = false)) ∧ ((!decide (name_0 n = k)) = false)) ∧ ((!node_0 a) = false)) ∧ ((!node_0 b) = false)) ∧ (rowOf_3 k = false)) ∧ ((a == b) = false)) ∧ ((!rowOf_3 k) = true)) ∧ ((!c == []) = false)) ∧ ((!d == []) = false)) ∧ ((!rowOf_4 k) = false)) ∧ (decide ((2 : Int) < Sx.kindDef v) = false)) ∧ (rowOf_2 k = true)) ∧ (Sx.fle (Sx.cn v) (Sx.cn (0 : Nat)) = true))) := by kernel_rfl
 exact ⟨by rw [e]; exact ⟨rfl, ⟨⟨⟨⟨⟨⟨⟨⟨⟨⟨⟨⟨⟨⟨trivial, c0⟩, c1⟩, c2⟩, c3⟩, c4⟩, c5⟩, c6⟩, c7⟩, c8⟩, c9⟩, c10⟩, c11⟩, c12⟩, c13⟩⟩⟩
theorem chk_r15 (k : Int) (n a b c d : List UInt8) (v : Nat) (ph : Int) (c0 : (!rowOf_5 k) = false) (c1 : (!name_1 n) = false) (c2 : (!decide (name_0 n = k)) = false) (c3 : (!node_0 a) = false) (c4 : (!node_0 b) = false) (c5 : rowOf_3 k = false) (c6 : (a == b) = false) (c7 : (!rowOf_3 k) = true) (c8 : (!c == []) = false) (c9 : (!d == []) = false) (c10 : (!rowOf_4 k) = false) (c11 : decide ((2 : Int) < Sx.kindDef v) = false) (c12 : rowOf_2 k = true) (c13 : Sx.fle (Sx.cn v) (Sx.cn (0 : Nat)) = false) : Sx.PureP (Sx.AV.int false .i64 0) (call3 29 [.agg [.int true .u8 k, .str true n, .str true a, .str true b, .str true c, .str true d, .raw true v, .int true .i64 ph]] (Sx.G.on [false, false, false, false, false, false, false, true, false, false, false, false, true, false])) := by
 have e : Sx.pureP (Sx.AV.int false .i64 0) (call3 29 [.agg [.int true .u8 k, .str true n, .str true a, .str true b, .str true c, .str true d, .raw true v, .int true .i64 ph]] (Sx.G.on [false, false, false, false, false, false, false, true, false, false, false, false, true, false])) = ((Sx.AV.int false .i64 0) = (Sx.AV.int false .i64 0) ∧ ((((((((((((((True ∧ ((!rowOf_5 k) = false)) ∧ ((!name_1 n) = false)) ∧ ((!decide (name_0 n = k)) = false)) ∧ ((!node_0 a) = false)) ∧ ((!node_0 b) = false)) ∧ (rowOf_3 k = false)) ∧ ((a == b) = false)) ∧ ((!rowOf_3 k) = true)) ∧ ((!c == []) = false)) ∧ ((!d == []) = false)) ∧ ((!rowOf_4 k) = false)) ∧ (decide ((2 : Int) < Sx.kindDef v) = false)) ∧ (rowOf_2 k = true)) ∧ (Sx.fle (Sx.cn v) (Sx.cn (0 : Nat)) = false))) := by kernel_rfl
 exact ⟨by rw [e]; exact ⟨rfl, ⟨⟨⟨⟨⟨⟨⟨⟨⟨⟨⟨⟨⟨⟨trivial, c0⟩, c1⟩, c2⟩, c3⟩, c4⟩, c5⟩, c6⟩, c7⟩, c8⟩, c9⟩, c10⟩, c11⟩, c12⟩, c13⟩⟩⟩
theorem chk_r16 (k : Int) (n a b c d : List UInt8) (v : Nat) (ph : Int) (c0 : (!rowOf_5 k) = false) (c1 : (!name_1 n) = false) (c2 : (!decide (name_0 n = k)) = false) (c3 : (!node_0 a) = false) (c4 : (!node_0 b) = false) (c5 : rowOf_3 k = false) (c6 : (a == b) = false) (c7 : (!rowOf_3 k) = true) (c8 : (!c == []) = false) (c9 : (!d == []) = false) (c10 : (!rowOf_4 k) = false) (c11 : decide ((2 : Int) < Sx.kindDef v) = false) (c12 : rowOf_2 k = false) : Sx.PureP (Sx.AV.int false .i64 0) (call3 29 [.agg [.int true .u8 k, .str true n, .str true a, .str true b, .str true c, .str true d, .raw true v, .int true .i64 ph]] (Sx.G.on [false, false, false, false, false, false, false, true, false, false, false, false, false])) := by
 have e : Sx.pureP (Sx.AV.int false .i64 0) (call3 29 [.agg [.int true .u8 k, .str true n, .str true a, .str true b, .str true c, .str true d, .raw true v, .int true .i64 ph]] (Sx.G.on [false, false, false, false, false, false, false, true, false, false, false, false, false])) = ((Sx.AV.int false .i64 0) = (Sx.AV.int false .i64 0) ∧ (((((((((((((True ∧ ((!rowOf_5 k) = false)) ∧ ((!name_1 n) = false)) ∧ ((!decide (name_0 n = k)) = false)) ∧ ((!node_0 a) = false)) ∧ ((!node_0 b) = false)) ∧ (rowOf_3 k = false)) ∧ ((a == b) = false)) ∧ ((!rowOf_3 k) = true)) ∧ ((!c == []) = false)) ∧ ((!d == []) = false)) ∧ ((!rowOf_4 k) = false)) ∧ (decide ((2 : Int) < Sx.kindDef v) = false)) ∧ (rowOf_2 k = false))) := by kernel_rfl
 exact ⟨by rw [e]; exact ⟨rfl, ⟨⟨⟨⟨⟨⟨⟨⟨⟨⟨⟨⟨⟨trivial, c0⟩, c1⟩, c2⟩, c3⟩, c4⟩, c5⟩, c6⟩, c7⟩, c8⟩, c9⟩, c10⟩, c11⟩, c12⟩⟩⟩
theorem chk_r17 (k : Int) (n a b c d : List UInt8) (v : Nat) (ph : Int) (c0 : (!rowOf_5 k) = false) (c1 : (!name_1 n) = false) (c2 : (!decide (name_0 n = k)) = false) (c3 : (!node_0 a) = false) (c4 : (!node_0 b) = false) (c5 : rowOf_3 k = false) (c6 : (a == b) = false) (c7 : (!rowOf_3 k) = true) (c8 : (!c == []) = false) (c9 : (!d == []) = false) (c10 : (!rowOf_4 k) = true) (c11 : (!decide (ph = (0 : Int))) = false) (c12 : decide ((2 : Int) < Sx.kindDef v) = true) : Sx.PureP (Sx.AV.int false .i64 5) (call3 29 [.agg [.int true .u8 k, .str true n, .str true a, .str true b, .str true c, .str true d, .raw true v, .int true .i64 ph]] (Sx.G.on [false, false, false, false, false, false, false, true, false, false, true, false, true])) := by
 have e : Sx.pureP (Sx.AV.int false .i64 5) (call3 29 [.agg [.int true .u8 k, .str true n, .str true a, .str true b, .str true c, .str true d, .raw true v, .int true .i64 ph]] (Sx.G.on [false, false, false, false, false, false, false, true, false, false, true, false, true])) = ((Sx.AV.int false .i64 5) = (Sx.AV.int false .i64 5) ∧ (((((((((((((True ∧ ((!rowOf_5 k) = false)) ∧ ((!name_1 n) = false)) ∧ ((!decide (name_0 n = k)) = false)) ∧ ((!node_0 a) = false)) ∧ ((!node_0 b) = false)) ∧ (rowOf_3 k = false)) ∧ ((a == b) = false)) ∧ ((!rowOf_3 k) = true)) ∧ ((!c == []) = false)) ∧ ((!d == []) = false)) ∧ ((!rowOf_4 k) = true)) ∧ ((!decide (ph = (0 : Int))) = false)) ∧ (decide ((2 : Int) < Sx.kindDef v) = true))) := by kernel_rfl
 exact ⟨by rw [e]; exact ⟨rfl, ⟨⟨⟨⟨⟨⟨⟨⟨⟨⟨⟨⟨⟨trivial, c0⟩, c1⟩, c2⟩, c3⟩, c4⟩, c5⟩, c6⟩, c7⟩, c8⟩, c9⟩, c10⟩, c11⟩, c12⟩⟩⟩
theorem chk_r18 (k : Int) (n a b c d : List UInt8) (v : Nat) (ph : Int) (c0 : (!rowOf_5 k) = false) (c1 : (!name_1 n) = false) (c2 : (!decide (name_0 n = k)) = false) (c3 : (!node_0 a) = false) (c4 : (!node_0 b) = false) (c5 : rowOf_3 k = false) (c6 : (a == b) = false) (c7 : (!rowOf_3 k) = true) (c8 : (!c == []) = false) (c9 : (!d == []) = false) (c10 : (!rowOf_4 k) = true) (c11 : (!decide (ph = (0 : Int))) = false) (c12 : decide ((2 : Int) < Sx.kindDef v) = false) (c13 : rowOf_2 k = true) (c14 : Sx.fle (Sx.cn v) (Sx.cn (0 : Nat)) = true) : Sx.PureP (Sx.AV.int false .i64 2) (call3 29 [.agg [.int true .u8 k, .str true n, .str true a, .str true b, .str true c, .str true d, .raw true v, .int true .i64 ph]] (Sx.G.on [false, false, false, false, false, false, false, true, false, false, true, false, false, true, true])) := by
 have e : Sx.pureP (Sx.AV.int false .i64 2) (call3 29 [.agg [.int true .u8 k, .str true n, .str true a, .str true b, .str true c, .str true d, .raw true v, .int true .i64 ph]] (Sx.G.on [false, false, false, false, false, false, false, true, false, false, true, false, false, true, true])) = ((Sx.AV.int false .i64 2) = (Sx.AV.int false .i64 2) ∧ (((((((((((((((True ∧ ((!rowOf_5 k) = false)) ∧ ((!name_1 n) = false)) ∧ ((!decide (name_0 n = k)) = false)) ∧ ((!node_0 a) = false)) ∧ ((!node_0 b) = false)) ∧ (rowOf_3 k = false)) ∧ ((a == b) = false)) ∧ ((!rowOf_3 k) = true)) ∧ ((!c == []) = false)) ∧ ((!d == []) = false)) ∧ ((!rowOf_4 k) = true)) ∧ ((!decide (ph = (0 : Int))) = false)) ∧ (decide ((2 : Int) < Sx.kindDef v) = false)) ∧ (rowOf_2 k = true)) ∧ (Sx.fle (Sx.cn v) (Sx.cn (0 : Nat)) = true))) := by kernel_rfl
 exact ⟨by rw [e]; exact ⟨rfl, ⟨⟨⟨⟨⟨⟨⟨⟨⟨⟨⟨⟨⟨⟨⟨trivial, c0⟩, c1⟩, c2⟩, c3⟩, c4⟩, c5⟩, c6⟩, c7⟩, c8⟩, c9⟩, c10⟩, c11⟩, c12⟩, c13⟩, c14⟩⟩⟩
theorem chk_r19 (k : Int) (n a b c d : List UInt8) (v : Nat) (ph : Int) (c0 : (!rowOf_5 k) = false) (c1 : (!name_1 n) = false) (c2 : (!decide (name_0 n = k)) = false) (c3 : (!node_0 a) = false) (c4 : (!node_0 b) = false) (c5 : rowOf_3 k = false) (c6 : (a == b) = false) (c7 : (!rowOf_3 k) = true) (c8 : (!c == []) = false) (c9 : (!d == []) = false) (c10 : (!rowOf_4 k) = true) (c11 : (!decide (ph = (0 : Int))) = false) (c12 : decide ((2 : Int) < Sx.kindDef v) = false) (c13 : rowOf_2 k = true) (c14 : Sx.fle (Sx.cn v) (Sx.cn (0 : Nat)) = false) : Sx.PureP (Sx.AV.int false .i64 0) (call3 29 [.agg [.int true .u8 k, .str true n, .str true a, .str true b, .str true c, .str true d, .raw true v, .int true .i64 ph]] (Sx.G.on [false, false, false, false, false, false, false, true, false, false, true, false, false, true, false])) := by
 have e : Sx.pureP (Sx.AV.int false .i64 0) (call3 29 [.agg [.int true .u8 k, .str true n, .str true a, .str true b, .str true c, .str true d, .raw true v, .int true .i64 ph]] (Sx.G.on [false, false, false, false, false, false, false, true, false, false, true, false, false, true, false])) = ((Sx.AV.int false .i64 0) = (Sx.AV.int false .i64 0) ∧ (((((((((((((((True ∧ ((!rowOf_5 k) = false)) ∧ ((!name_1 n) = false)) ∧ ((!decide (name_0 n = k)) = false)) ∧ ((!node_0 a) = false)) ∧ ((!node_0 b) = false)) ∧ (rowOf_3 k = false)) ∧ ((a == b) = false)) ∧ ((!rowOf_3 k) = true)) ∧ ((!c == []) = false)) ∧ ((!d == []) = false)) ∧ ((!rowOf_4 k) = true)) ∧ ((!decide (ph = (0 : Int))) = false)) ∧ (decide ((2 : Int) < Sx.kindDef v) = false)) ∧ (rowOf_2 k = true)) ∧ (Sx.fle (Sx.cn v) (Sx.cn (0 : Nat)) = false))) := by kernel_rfl
 exact ⟨by rw [e]; exact ⟨rfl, ⟨⟨⟨⟨⟨⟨⟨⟨⟨⟨⟨⟨⟨⟨⟨trivial, c0⟩, c1⟩, c2⟩, c3⟩, c4⟩, c5⟩, c6⟩, c7⟩, c8⟩, c9⟩, c10⟩, c11⟩, c12⟩, c13⟩, c14⟩⟩⟩
theorem chk_r20 (k : Int) (n a b c d : List UInt8) (v : Nat) (ph : Int) (c0 : (!rowOf_5 k) = false) (c1 : (!name_1 n) = false) (c2 : (!decide (name_0 n = k)) = false) (c3 : (!node_0 a) = false) (c4 : (!node_0 b) = false) (c5 : rowOf_3 k = false) (c6 : (a == b) = false) (c7 : (!rowOf_3 k) = true) (c8 : (!c == []) = false) (c9 : (!d == []) = false) (c10 : (!rowOf_4 k) = true) (c11 : (!decide (ph = (0 : Int))) = false) (c12 : decide ((2 : Int) < Sx.kindDef v) = false) (c13 : rowOf_2 k = false) : Sx.PureP (Sx.AV.int false .i64 0) (call3 29 [.agg [.int true .u8 k, .str true n, .str true a, .str true b, .str true c, .str true d, .raw true v, .int true .i64 ph]] (Sx.G.on [false, false, false, false, false, false, false, true, false, false, true, false, false, false])) := by
 have e : Sx.pureP (Sx.AV.int false .i64 0) (call3 29 [.agg [.int true .u8 k, .str true n, .str true a, .str true b, .str true c, .str true d, .raw true v, .int true .i64 ph]] (Sx.G.on [false, false, false, false, false, false, false, true, false, false, true, false, false, false])) = ((Sx.AV.int false .i64 0) = (Sx.AV.int false .i64 0) ∧ ((((((((((((((True ∧ ((!rowOf_5 k) = false)) ∧ ((!name_1 n) = false)) ∧ ((!decide (name_0 n = k)) = false)) ∧ ((!node_0 a) = false)) ∧ ((!node_0 b) = false)) ∧ (rowOf_3 k = false)) ∧ ((a == b) = false)) ∧ ((!rowOf_3 k) = true)) ∧ ((!c == []) = false)) ∧ ((!d == []) = false)) ∧ ((!rowOf_4 k) = true)) ∧ ((!decide (ph = (0 : Int))) = false)) ∧ (decide ((2 : Int) < Sx.kindDef v) = false)) ∧ (rowOf_2 k = false))) := by kernel_rfl
 exact ⟨by rw [e]; exact ⟨rfl, ⟨⟨⟨⟨⟨⟨⟨⟨⟨⟨⟨⟨⟨⟨trivial, c0⟩, c1⟩, c2⟩, c3⟩, c4⟩, c5⟩, c6⟩, c7⟩, c8⟩, c9⟩, c10⟩, c11⟩, c12⟩, c13⟩⟩⟩
theorem chk_r21 (k : Int) (n a b c d : List UInt8) (v : Nat) (ph : Int) (c0 : (!rowOf_5 k) = false) (c1 : (!name_1 n) = false) (c2 : (!decide (name_0 n = k)) = false) (c3 : (!node_0 a) = false) (c4 : (!node_0 b) = false) (c5 : rowOf_3 k = false) (c6 : (a == b) = false) (c7 : (!rowOf_3 k) = true) (c8 : (!c == []) = false) (c9 : (!d == []) = false) (c10 : (!rowOf_4 k) = true) (c11 : (!decide (ph = (0 : Int))) = true) : Sx.PureP (Sx.AV.int false .i64 2) (call3 29 [.agg [.int true .u8 k, .str true n, .str true a, .str true b, .str true c, .str true d, .raw true v, .int true .i64 ph]] (Sx.G.on [false, false, false, false, false, false, false, true, false, false, true, true])) := by
 have e : Sx.pureP (Sx.AV.int false .i64 2) (call3 29 [.agg [.int true .u8 k, .str true n, .str true a, .str true b, .str true c, .str true d, .raw true v, .int true .i64 ph]] (Sx.G.on [false, false, false, false, false, false, false, true, false, false, true, true])) = ((Sx.AV.int false .i64 2) = (Sx.AV.int false .i64 2) ∧ ((((((((((((True ∧ ((!rowOf_5 k) = false)) ∧ ((!name_1 n) = false)) ∧ ((!decide (name_0 n = k)) = false)) ∧ ((!node_0 a) = false)) ∧ ((!node_0 b) = false)) ∧ (rowOf_3 k = false)) ∧ ((a == b) = false)) ∧ ((!rowOf_3 k) = true)) ∧ ((!c == []) = false)) ∧ ((!d == []) = false)) ∧ ((!rowOf_4 k) = true)) ∧ ((!decide (ph = (0 : Int))) = true))) := by kernel_rfl
 exact ⟨by rw [e]; exact ⟨rfl, ⟨⟨⟨⟨⟨⟨⟨⟨⟨⟨⟨⟨trivial, c0⟩, c1⟩, c2⟩, c3⟩, c4⟩, c5⟩, c6⟩, c7⟩, c8⟩, c9⟩, c10⟩, c11⟩⟩⟩
theorem chk_r22 (k : Int) (n a b c d : List UInt8) (v : Nat) (ph : Int) (c0 : (!rowOf_5 k) = false) (c1 : (!name_1 n) = false) (c2 : (!decide (name_0 n = k)) = false) (c3 : (!node_0 a) = false) (c4 : (!node_0 b) = false) (c5 : rowOf_3 k = false) (c6 : (a == b) = false) (c7 : (!rowOf_3 k) = true) (c8 : (!c == []) = false) (c9 : (!d == []) = true) : Sx.PureP (Sx.AV.int false .i64 2) (call3 29 [.agg [.int true .u8 k, .str true n, .str true a, .str true b, .str true c, .str true d, .raw true v, .int true .i64 ph]] (Sx.G.on [false, false, false, false, false, false, false, true, false, true])) := by
 have e : Sx.pureP (Sx.AV.int false .i64 2) (call3 29 [.agg [.int true .u8 k, .str true n, .str true a, .str true b, .str true c, .str true d, .raw true v, .int true .i64 ph]] (Sx.G.on [false, false, false, false, false, false, false, true, false, true])) = ((Sx.AV.int false .i64 2) = (Sx.AV.int false .i64 2) ∧ ((((((((((True ∧ ((!rowOf_5 k) = false)) ∧ ((!name_1 n) = false)) ∧ ((!decide (name_0 n = k)) = false)) ∧ ((!node_0 a) = false)) ∧ ((!node_0 b) = false)) ∧ (rowOf_3 k = false)) ∧ ((a == b) = false)) ∧ ((!rowOf_3 k) = true)) ∧ ((!c == []) = false)) ∧ ((!d == []) = true))) := by kernel_rfl
 exact ⟨by rw [e]; exact ⟨rfl, ⟨⟨⟨⟨⟨⟨⟨⟨⟨⟨trivial, c0⟩, c1⟩, c2⟩, c3⟩, c4⟩, c5⟩, c6⟩, c7⟩, c8⟩, c9⟩⟩⟩
theorem chk_r23 (k : Int) (n a b c d : List UInt8) (v : Nat) (ph : Int) (c0 : (!rowOf_5 k) = false) (c1 : (!name_1 n) = false) (c2 : (!decide (name_0 n = k)) = false) (c3 : (!node_0 a) = false) (c4 : (!node_0 b) = false) (c5 : rowOf_3 k = false) (c6 : (a == b) = false) (c7 : (!rowOf_3 k) = true) (c8 : (!c == []) = true) : Sx.PureP (Sx.AV.int false .i64 2) (call3 29 [.agg [.int true .u8 k, .str true n, .str true a, .str true b, .str true c, .str true d, .raw true v, .int true .i64 ph]] (Sx.G.on [false, false, false, false, false, false, false, true, true])) := by
 have e : Sx.pureP (Sx.AV.int false .i64 2) (call3 29 [.agg [.int true .u8 k, .str true n, .str true a, .str true b, .str true c, .str true d, .raw true v, .int true .i64 ph]] (Sx.G.on [false, false, false, false, false, false, false, true, true])) = ((Sx.AV.int false .i64 2) = (Sx.AV.int false .i64 2) ∧ (((((((((True ∧ ((!rowOf_5 k) = false)) ∧ ((!name_1 n) = false)) ∧ ((!decide (name_0 n = k)) = false)) ∧ ((!node_0 a) = false)) ∧ ((!node_0 b) = false)) ∧ (rowOf_3 k = false)) ∧ ((a == b) = false)) ∧ ((!rowOf_3 k) = true)) ∧ ((!c == []) = true))) := by kernel_rfl
 exact ⟨by rw [e]; exact ⟨rfl, ⟨⟨⟨⟨⟨⟨⟨⟨⟨trivial, c0⟩, c1⟩, c2⟩, c3⟩, c4⟩, c5⟩, c6⟩, c7⟩, c8⟩⟩⟩
theorem chk_r24 (k : Int) (n a b c d : List UInt8) (v : Nat) (ph : Int) (c0 : (!rowOf_5 k) = false) (c1 : (!name_1 n) = false) (c2 : (!decide (name_0 n = k)) = false) (c3 : (!node_0 a) = false) (c4 : (!node_0 b) = true) : Sx.PureP (Sx.AV.int false .i64 8) (call3 29 [.agg [.int true .u8 k, .str true n, .str true a, .str true b, .str true c, .str true d, .raw true v, .int true .i64 ph]] (Sx.G.on [false, false, false, false, true])) := by
 have e : Sx.pureP (Sx.AV.int false .i64 8) (call3 29 [.agg [.int true .u8 k, .str true n, .str true a, .str true b, .str true c, .str true d, .raw true v, .int true .i64 ph]] (Sx.G.on [false, false, false, false, true])) = ((Sx.AV.int false .i64 8) = (Sx.AV.int false .i64 8) ∧ (((((True ∧ ((!rowOf_5 k) = false)) ∧ ((!name_1 n) = false)) ∧ ((!decide (name_0 n = k)) = false)) ∧ ((!node_0 a) = false)) ∧ ((!node_0 b) = true))) := by kernel_rfl
 exact ⟨by rw [e]; exact ⟨rfl, ⟨⟨⟨⟨⟨trivial, c0⟩, c1⟩, c2⟩, c3⟩, c4⟩⟩⟩
theorem chk_r25 (k : Int) (n a b c d : List UInt8) (v : Nat) (ph : Int) (c0 : (!rowOf_5 k) = false) (c1 : (!name_1 n) = false) (c2 : (!decide (name_0 n = k)) = false) (c3 : (!node_0 a) = true) : Sx.PureP (Sx.AV.int false .i64 8) (call3 29 [.agg [.int true .u8 k, .str true n, .str true a, .str true b, .str true c, .str true d, .raw true v, .int true .i64 ph]] (Sx.G.on [false, false, false, true])) := by
 have e : Sx.pureP (Sx.AV.int false .i64 8) (call3 29 [.agg [.int true .u8 k, .str true n, .str true a, .str true b, .str true c, .str true d, .raw true v, .int true .i64 ph]] (Sx.G.on [false, false, false, true])) = ((Sx.AV.int false .i64 8) = (Sx.AV.int false .i64 8) ∧ ((((True ∧ ((!rowOf_5 k) = false)) ∧ ((!name_1 n) = false)) ∧ ((!decide (name_0 n = k)) = false)) ∧ ((!node_0 a) = true))) := by kernel_rfl
 exact ⟨by rw [e]; exact ⟨rfl, ⟨⟨⟨⟨trivial, c0⟩, c1⟩, c2⟩, c3⟩⟩⟩
theorem chk_r26 (k : Int) (n a b c d : List UInt8) (v : Nat) (ph : Int) (c0 : (!rowOf_5 k) = false) (c1 : (!name_1 n) = false) (c2 : (!decide (name_0 n = k)) = true) : Sx.PureP (Sx.AV.int false .i64 8) (call3 29 [.agg [.int true .u8 k, .str true n, .str true a, .str true b, .str true c, .str true d, .raw true v, .int true .i64 ph]] (Sx.G.on [false, false, true])) := by
 have e : Sx.pureP (Sx.AV.int false .i64 8) (call3 29 [.agg [.int true .u8 k, .str true n, .str true a, .str true b, .str true c, .str true d, .raw true v, .int true .i64 ph]] (Sx.G.on [false, false, true])) = ((Sx.AV.int false .i64 8) = (Sx.AV.int false .i64 8) ∧ (((True ∧ ((!rowOf_5 k) = false)) ∧ ((!name_1 n) = false)) ∧ ((!decide (name_0 n = k)) = true))) := by kernel_rfl
 exact ⟨by rw [e]; exact ⟨rfl, ⟨⟨⟨trivial, c0⟩, c1⟩, c2⟩⟩⟩
theorem chk_r27 (k : Int) (n a b c d : List UInt8) (v : Nat) (ph : Int) (c0 : (!rowOf_5 k) = false) (c1 : (!name_1 n) = true) : Sx.PureP (Sx.AV.int false .i64 8) (call3 29 [.agg [.int true .u8 k, .str true n, .str true a, .str true b, .str true c, .str true d, .raw true v, .int true .i64 ph]] (Sx.G.on [false, true])) := by
 have e : Sx.pureP (Sx.AV.int false .i64 8) (call3 29 [.agg [.int true .u8 k, .str true n, .str true a, .str true b, .str true c, .str true d, .raw true v, .int true .i64 ph]] (Sx.G.on [false, true])) = ((Sx.AV.int false .i64 8) = (Sx.AV.int false .i64 8) ∧ ((True ∧ ((!rowOf_5 k) = false)) ∧ ((!name_1 n) = true))) := by kernel_rfl
 exact ⟨by rw [e]; exact ⟨rfl, ⟨⟨trivial, c0⟩, c1⟩⟩⟩
theorem chk_r28 (k : Int) (n a b c d : List UInt8) (v : Nat) (ph : Int) (c0 : (!rowOf_5 k) = true) : Sx.PureP (Sx.AV.int false .i64 2) (call3 29 [.agg [.int true .u8 k, .str true n, .str true a, .str true b, .str true c, .str true d, .raw true v, .int true .i64 ph]] (Sx.G.on [true])) := by
 have e : Sx.pureP (Sx.AV.int false .i64 2) (call3 29 [.agg [.int true .u8 k, .str true n, .str true a, .str true b, .str true c, .str true d, .raw true v, .int true .i64 ph]] (Sx.G.on [true])) = ((Sx.AV.int false .i64 2) = (Sx.AV.int false .i64 2) ∧ (True ∧ ((!rowOf_5 k) = true))) := by kernel_rfl
 exact ⟨by rw [e]; exact ⟨rfl, ⟨trivial, c0⟩⟩⟩
noncomputable def chk_0 (k : Int) (n a b c d : List UInt8) (v : Nat) (ph : Int) : Int := (bif rowOf_5 k then (bif name_1 n then (bif decide (name_0 n = k) then (bif node_0 a then (bif node_0 b then (bif rowOf_3 k then (bif node_0 c then (bif node_0 d then (bif a == b then ((2 : Int)) else (bif rowOf_4 k then (bif decide ((2 : Int) < Sx.kindDef v) then ((5 : Int)) else (bif rowOf_2 k then (bif Sx.fle (Sx.cn v) (Sx.cn (0 : Nat)) then ((2 : Int)) else ((0 : Int))) else ((0 : Int)))) else (bif decide (ph = (0 : Int)) then (bif decide ((2 : Int) < Sx.kindDef v) then ((5 : Int)) else (bif rowOf_2 k then (bif Sx.fle (Sx.cn v) (Sx.cn (0 : Nat)) then ((2 : Int)) else ((0 : Int))) else ((0 : Int)))) else ((2 : Int))))) else ((8 : Int))) else ((8 : Int))) else (bif a == b then ((2 : Int)) else (bif c == [] then (bif d == [] then (bif rowOf_4 k then (bif decide ((2 : Int) < Sx.kindDef v) then ((5 : Int)) else (bif rowOf_2 k then (bif Sx.fle (Sx.cn v) (Sx.cn (0 : Nat)) then ((2 : Int)) else ((0 : Int))) else ((0 : Int)))) else (bif decide (ph = (0 : Int)) then (bif decide ((2 : Int) < Sx.kindDef v) then ((5 : Int)) else (bif rowOf_2 k then (bif Sx.fle (Sx.cn v) (Sx.cn (0 : Nat)) then ((2 : Int)) else ((0 : Int))) else ((0 : Int)))) else ((2 : Int)))) else ((2 : Int))) else ((2 : Int))))) else ((8 : Int))) else ((8 : Int))) else ((8 : Int))) else ((8 : Int))) else ((2 : Int)))
noncomputable def chkS : List Sx.AV → Sx.M Sx.AV
 | [.agg [.int s0 .u8 k, .str s1 n, .str s2 a, .str s3 b, .str s4 c, .str s5 d, .raw s6 v, .int s7 .i64 ph]] => Sx.M.ret (Sx.AV.int (Bool.or s0 (Bool.or s1 (Bool.or s2 (Bool.or s3 (Bool.or s4 (Bool.or s5 (Bool.or s6 s7))))))) (IntKind.i64) (chk_0 k n a b c d v ph))
 | args => call3 29 args
theorem chkS_ok : ∀ args v g g', chkS args g = .done v g' → Sx.CallIs Try.prog 29 args v g g' := by
 intro args v g g' h
 unfold chkS at h
 split at h
 ·rename_i s0 k s1 n s2 a s3 b s4 c s5 d s6 v s7 ph
  obtain ⟨rfl, rfl⟩ := Sx.ret_done h
  refine Sx.scal call3_ok fun μ cargs ha => ?_
  have ha' : Sx.Reps 0 Sx.MM.none [.agg [.int true .u8 k, .str true n, .str true a, .str true b, .str true c, .str true d, .raw true v, .int true .i64 ph]] cargs.toList := by simpa only [Sx.Reps, Sx.Rep] using ha
  cases t0 : rowOf_5 k with
  | true =>
   cases t1 : name_1 n with
   | true =>
    cases t2 : decide (name_0 n = k) with
    | true =>
     cases t3 : node_0 a with
     | true =>
      cases t4 : node_0 b with
      | true =>
       cases t5 : rowOf_3 k with
       | true =>
        cases t6 : node_0 c with
        | true =>
         cases t7 : node_0 d with
         | true =>
          cases t8 : a == b with
          | true =>
           exact ⟨_, _, _, ha', chk_r0 k n a b c d v ph (by rw [t0]; rfl) (by rw [t1]; rfl) (by rw [t2]; rfl) (by rw [t3]; rfl) (by rw [t4]; rfl) t5 (by rw [t6]; rfl) (by rw [t7]; rfl) t8, rfl, fun cv hc => by have := hc g.nx μ; have e0 : chk_0 k n a b c d v ph = ((2 : Int)) := (Sx.ct t0).trans ((Sx.ct t1).trans ((Sx.ct t2).trans ((Sx.ct t3).trans ((Sx.ct t4).trans ((Sx.ct t5).trans ((Sx.ct t6).trans ((Sx.ct t7).trans ((Sx.ct t8).trans (rfl))))))))); rw [e0]; simpa only [Sx.Rep, Sx.Reps, Sx.Rep_cmpB] using this⟩
          | false =>
           cases t9 : rowOf_4 k with
           | true =>
            cases t10 : decide ((2 : Int) < Sx.kindDef v) with
            | true =>
             exact ⟨_, _, _, ha', chk_r1 k n a b c d v ph (by rw [t0]; rfl) (by rw [t1]; rfl) (by rw [t2]; rfl) (by rw [t3]; rfl) (by rw [t4]; rfl) t5 (by rw [t6]; rfl) (by rw [t7]; rfl) t8 (by rw [t5]; rfl) (by rw [t9]; rfl) t10, rfl, fun cv hc => by have := hc g.nx μ; have e0 : chk_0 k n a b c d v ph = ((5 : Int)) := (Sx.ct t0).trans ((Sx.ct t1).trans ((Sx.ct t2).trans ((Sx.ct t3).trans ((Sx.ct t4).trans ((Sx.ct t5).trans ((Sx.ct t6).trans ((Sx.ct t7).trans ((Sx.cf t8).trans ((Sx.ct t9).trans ((Sx.ct t10).trans (rfl))))))))))); rw [e0]; simpa only [Sx.Rep, Sx.Reps, Sx.Rep_cmpB] using this⟩
            | false =>
             cases t11 : rowOf_2 k with
             | true =>
              cases t12 : Sx.fle (Sx.cn v) (Sx.cn (0 : Nat)) with
              | true =>
               exact ⟨_, _, _, ha', chk_r2 k n a b c d v ph (by rw [t0]; rfl) (by rw [t1]; rfl) (by rw [t2]; rfl) (by rw [t3]; rfl) (by rw [t4]; rfl) t5 (by rw [t6]; rfl) (by rw [t7]; rfl) t8 (by rw [t5]; rfl) (by rw [t9]; rfl) t10 t11 t12, rfl, fun cv hc => by have := hc g.nx μ; have e0 : chk_0 k n a b c d v ph = ((2 : Int)) := (Sx.ct t0).trans ((Sx.ct t1).trans ((Sx.ct t2).trans ((Sx.ct t3).trans ((Sx.ct t4).trans ((Sx.ct t5).trans ((Sx.ct t6).trans ((Sx.ct t7).trans ((Sx.cf t8).trans ((Sx.ct t9).trans ((Sx.cf t10).trans ((Sx.ct t11).trans ((Sx.ct t12).trans (rfl))))))))))))); rw [e0]; simpa only [Sx.Rep, Sx.Reps, Sx.Rep_cmpB] using this⟩
              | false =>
               exact ⟨_, _, _, ha', chk_r3 k n a b c d v ph (by rw [t0]; rfl) (by rw [t1]; rfl) (by rw [t2]; rfl) (by rw [t3]; rfl) (by rw [t4]; rfl) t5 (by rw [t6]; rfl) (by rw [t7]; rfl) t8 (by rw [t5]; rfl) (by rw [t9]; rfl) t10 t11 t12, rfl, fun cv hc => by have := hc g.nx μ; have e0 : chk_0 k n a b c d v ph = ((0 : Int)) := (Sx.ct t0).trans ((Sx.ct t1).trans ((Sx.ct t2).trans ((Sx.ct t3).trans ((Sx.ct t4).trans ((Sx.ct t5).trans ((Sx.ct t6).trans ((Sx.ct t7).trans ((Sx.cf t8).trans ((Sx.ct t9).trans ((Sx.cf t10).trans ((Sx.ct t11).trans ((Sx.cf t12).trans (rfl))))))))))))); rw [e0]; simpa only [Sx.Rep, Sx.Reps, Sx.Rep_cmpB] using this⟩
             | false =>
              exact ⟨_, _, _, ha', chk_r4 k n a b c d v ph (by rw [t0]; rfl) (by rw [t1]; rfl) (by rw [t2]; rfl) (by rw [t3]; rfl) (by rw [t4]; rfl) t5 (by rw [t6]; rfl) (by rw [t7]; rfl) t8 (by rw [t5]; rfl) (by rw [t9]; rfl) t10 t11, rfl, fun cv hc => by have := hc g.nx μ; have e0 : chk_0 k n a b c d v ph = ((0 : Int)) := (Sx.ct t0).trans ((Sx.ct t1).trans ((Sx.ct t2).trans ((Sx.ct t3).trans ((Sx.ct t4).trans ((Sx.ct t5).trans ((Sx.ct t6).trans ((Sx.ct t7).trans ((Sx.cf t8).trans ((Sx.ct t9).trans ((Sx.cf t10).trans ((Sx.cf t11).trans (rfl)))))))))))); rw [e0]; simpa only [Sx.Rep, Sx.Reps, Sx.Rep_cmpB] using this⟩
           | false =>
            cases t10 : decide (ph = (0 : Int)) with
            | true =>
             cases t11 : decide ((2 : Int) < Sx.kindDef v) with
             | true =>
              exact ⟨_, _, _, ha', chk_r5 k n a b c d v ph (by rw [t0]; rfl) (by rw [t1]; rfl) (by rw [t2]; rfl) (by rw [t3]; rfl) (by rw [t4]; rfl) t5 (by rw [t6]; rfl) (by rw [t7]; rfl) t8 (by rw [t5]; rfl) (by rw [t9]; rfl) (by rw [t10]; rfl) t11, rfl, fun cv hc => by have := hc g.nx μ; have e0 : chk_0 k n a b c d v ph = ((5 : Int)) := (Sx.ct t0).trans ((Sx.ct t1).trans ((Sx.ct t2).trans ((Sx.ct t3).trans ((Sx.ct t4).trans ((Sx.ct t5).trans ((Sx.ct t6).trans ((Sx.ct t7).trans ((Sx.cf t8).trans ((Sx.cf t9).trans ((Sx.ct t10).trans ((Sx.ct t11).trans (rfl)))))))))))); rw [e0]; simpa only [Sx.Rep, Sx.Reps, Sx.Rep_cmpB] using this⟩
             | false =>
              cases t12 : rowOf_2 k with
              | true =>
               cases t13 : Sx.fle (Sx.cn v) (Sx.cn (0 : Nat)) with
               | true =>
                exact ⟨_, _, _, ha', chk_r6 k n a b c d v ph (by rw [t0]; rfl) (by rw [t1]; rfl) (by rw [t2]; rfl) (by rw [t3]; rfl) (by rw [t4]; rfl) t5 (by rw [t6]; rfl) (by rw [t7]; rfl) t8 (by rw [t5]; rfl) (by rw [t9]; rfl) (by rw [t10]; rfl) t11 t12 t13, rfl, fun cv hc => by have := hc g.nx μ; have e0 : chk_0 k n a b c d v ph = ((2 : Int)) := (Sx.ct t0).trans ((Sx.ct t1).trans ((Sx.ct t2).trans ((Sx.ct t3).trans ((Sx.ct t4).trans ((Sx.ct t5).trans ((Sx.ct t6).trans ((Sx.ct t7).trans ((Sx.cf t8).trans ((Sx.cf t9).trans ((Sx.ct t10).trans ((Sx.cf t11).trans ((Sx.ct t12).trans ((Sx.ct t13).trans (rfl)))))))))))))); rw [e0]; simpa only [Sx.Rep, Sx.Reps, Sx.Rep_cmpB] using this⟩
               | false =>
                exact ⟨_, _, _, ha', chk_r7 k n a b c d v ph (by rw [t0]; rfl) (by rw [t1]; rfl) (by rw [t2]; rfl) (by rw [t3]; rfl) (by rw [t4]; rfl) t5 (by rw [t6]; rfl) (by rw [t7]; rfl) t8 (by rw [t5]; rfl) (by rw [t9]; rfl) (by rw [t10]; rfl) t11 t12 t13, rfl, fun cv hc => by have := hc g.nx μ; have e0 : chk_0 k n a b c d v ph = ((0 : Int)) := (Sx.ct t0).trans ((Sx.ct t1).trans ((Sx.ct t2).trans ((Sx.ct t3).trans ((Sx.ct t4).trans ((Sx.ct t5).trans ((Sx.ct t6).trans ((Sx.ct t7).trans ((Sx.cf t8).trans ((Sx.cf t9).trans ((Sx.ct t10).trans ((Sx.cf t11).trans ((Sx.ct t12).trans ((Sx.cf t13).trans (rfl)))))))))))))); rw [e0]; simpa only [Sx.Rep, Sx.Reps, Sx.Rep_cmpB] using this⟩
              | false =>
               exact ⟨_, _, _, ha', chk_r8 k n a b c d v ph (by rw [t0]; rfl) (by rw [t1]; rfl) (by rw [t2]; rfl) (by rw [t3]; rfl) (by rw [t4]; rfl) t5 (by rw [t6]; rfl) (by rw [t7]; rfl) t8 (by rw [t5]; rfl) (by rw [t9]; rfl) (by rw [t10]; rfl) t11 t12, rfl, fun cv hc => by have := hc g.nx μ; have e0 : chk_0 k n a b c d v ph = ((0 : Int)) := (Sx.ct t0).trans ((Sx.ct t1).trans ((Sx.ct t2).trans ((Sx.ct t3).trans ((Sx.ct t4).trans ((Sx.ct t5).trans ((Sx.ct t6).trans ((Sx.ct t7).trans ((Sx.cf t8).trans ((Sx.cf t9).trans ((Sx.ct t10).trans ((Sx.cf t11).trans ((Sx.cf t12).trans (rfl))))))))))))); rw [e0]; simpa only [Sx.Rep, Sx.Reps, Sx.Rep_cmpB] using this⟩
            | false =>
             exact ⟨_, _, _, ha', chk_r9 k n a b c d v ph (by rw [t0]; rfl) (by rw [t1]; rfl) (by rw [t2]; rfl) (by rw [t3]; rfl) (by rw [t4]; rfl) t5 (by rw [t6]; rfl) (by rw [t7]; rfl) t8 (by rw [t5]; rfl) (by rw [t9]; rfl) (by rw [t10]; rfl), rfl, fun cv hc => by have := hc g.nx μ; have e0 : chk_0 k n a b c d v ph = ((2 : Int)) := (Sx.ct t0).trans ((Sx.ct t1).trans ((Sx.ct t2).trans ((Sx.ct t3).trans ((Sx.ct t4).trans ((Sx.ct t5).trans ((Sx.ct t6).trans ((Sx.ct t7).trans ((Sx.cf t8).trans ((Sx.cf t9).trans ((Sx.cf t10).trans (rfl))))))))))); rw [e0]; simpa only [Sx.Rep, Sx.Reps, Sx.Rep_cmpB] using this⟩
         | false =>
          exact ⟨_, _, _, ha', chk_r10 k n a b c d v ph (by rw [t0]; rfl) (by rw [t1]; rfl) (by rw [t2]; rfl) (by rw [t3]; rfl) (by rw [t4]; rfl) t5 (by rw [t6]; rfl) (by rw [t7]; rfl), rfl, fun cv hc => by have := hc g.nx μ; have e0 : chk_0 k n a b c d v ph = ((8 : Int)) := (Sx.ct t0).trans ((Sx.ct t1).trans ((Sx.ct t2).trans ((Sx.ct t3).trans ((Sx.ct t4).trans ((Sx.ct t5).trans ((Sx.ct t6).trans ((Sx.cf t7).trans (rfl)))))))); rw [e0]; simpa only [Sx.Rep, Sx.Reps, Sx.Rep_cmpB] using this⟩
        | false =>
         exact ⟨_, _, _, ha', chk_r11 k n a b c d v ph (by rw [t0]; rfl) (by rw [t1]; rfl) (by rw [t2]; rfl) (by rw [t3]; rfl) (by rw [t4]; rfl) t5 (by rw [t6]; rfl), rfl, fun cv hc => by have := hc g.nx μ; have e0 : chk_0 k n a b c d v ph = ((8 : Int)) := (Sx.ct t0).trans ((Sx.ct t1).trans ((Sx.ct t2).trans ((Sx.ct t3).trans ((Sx.ct t4).trans ((Sx.ct t5).trans ((Sx.cf t6).trans (rfl))))))); rw [e0]; simpa only [Sx.Rep, Sx.Reps, Sx.Rep_cmpB] using this⟩
       | false =>
        cases t6 : a == b with
        | true =>
         exact ⟨_, _, _, ha', chk_r12 k n a b c d v ph (by rw [t0]; rfl) (by rw [t1]; rfl) (by rw [t2]; rfl) (by rw [t3]; rfl) (by rw [t4]; rfl) t5 t6, rfl, fun cv hc => by have := hc g.nx μ; have e0 : chk_0 k n a b c d v ph = ((2 : Int)) := (Sx.ct t0).trans ((Sx.ct t1).trans ((Sx.ct t2).trans ((Sx.ct t3).trans ((Sx.ct t4).trans ((Sx.cf t5).trans ((Sx.ct t6).trans (rfl))))))); rw [e0]; simpa only [Sx.Rep, Sx.Reps, Sx.Rep_cmpB] using this⟩
        | false =>
         cases t7 : c == [] with
         | true =>
          cases t8 : d == [] with
          | true =>
           cases t9 : rowOf_4 k with
           | true =>
            cases t10 : decide ((2 : Int) < Sx.kindDef v) with
            | true =>
             exact ⟨_, _, _, ha', chk_r13 k n a b c d v ph (by rw [t0]; rfl) (by rw [t1]; rfl) (by rw [t2]; rfl) (by rw [t3]; rfl) (by rw [t4]; rfl) t5 t6 (by rw [t5]; rfl) (by rw [t7]; rfl) (by rw [t8]; rfl) (by rw [t9]; rfl) t10, rfl, fun cv hc => by have := hc g.nx μ; have e0 : chk_0 k n a b c d v ph = ((5 : Int)) := (Sx.ct t0).trans ((Sx.ct t1).trans ((Sx.ct t2).trans ((Sx.ct t3).trans ((Sx.ct t4).trans ((Sx.cf t5).trans ((Sx.cf t6).trans ((Sx.ct t7).trans ((Sx.ct t8).trans ((Sx.ct t9).trans ((Sx.ct t10).trans (rfl))))))))))); rw [e0]; simpa only [Sx.Rep, Sx.Reps, Sx.Rep_cmpB] using this⟩
            | false =>
             cases t11 : rowOf_2 k with
             | true =>
              cases t12 : Sx.fle (Sx.cn v) (Sx.cn (0 : Nat)) with
              | true =>
               exact ⟨_, _, _, ha', chk_r14 k n a b c d v ph (by rw [t0]; rfl) (by rw [t1]; rfl) (by rw [t2]; rfl) (by rw [t3]; rfl) (by rw [t4]; rfl) t5 t6 (by rw [t5]; rfl) (by rw [t7]; rfl) (by rw [t8]; rfl) (by rw [t9]; rfl) t10 t11 t12, rfl, fun cv hc => by have := hc g.nx μ; have e0 : chk_0 k n a b c d v ph = ((2 : Int)) := (Sx.ct t0).trans ((Sx.ct t1).trans ((Sx.ct t2).trans ((Sx.ct t3).trans ((Sx.ct t4).trans ((Sx.cf t5).trans ((Sx.cf t6).trans ((Sx.ct t7).trans ((Sx.ct t8).trans ((Sx.ct t9).trans ((Sx.cf t10).trans ((Sx.ct t11).trans ((Sx.ct t12).trans (rfl))))))))))))); rw [e0]; simpa only [Sx.Rep, Sx.Reps, Sx.Rep_cmpB] using this⟩
              | false =>
               exact ⟨_, _, _, ha', chk_r15 k n a b c d v ph (by rw [t0]; rfl) (by rw [t1]; rfl) (by rw [t2]; rfl) (by rw [t3]; rfl) (by rw [t4]; rfl) t5 t6 (by rw [t5]; rfl) (by rw [t7]; rfl) (by rw [t8]; rfl) (by rw [t9]; rfl) t10 t11 t12, rfl, fun cv hc => by have := hc g.nx μ; have e0 : chk_0 k n a b c d v ph = ((0 : Int)) := (Sx.ct t0).trans ((Sx.ct t1).trans ((Sx.ct t2).trans ((Sx.ct t3).trans ((Sx.ct t4).trans ((Sx.cf t5).trans ((Sx.cf t6).trans ((Sx.ct t7).trans ((Sx.ct t8).trans ((Sx.ct t9).trans ((Sx.cf t10).trans ((Sx.ct t11).trans ((Sx.cf t12).trans (rfl))))))))))))); rw [e0]; simpa only [Sx.Rep, Sx.Reps, Sx.Rep_cmpB] using this⟩
             | false =>
              exact ⟨_, _, _, ha', chk_r16 k n a b c d v ph (by rw [t0]; rfl) (by rw [t1]; rfl) (by rw [t2]; rfl) (by rw [t3]; rfl) (by rw [t4]; rfl) t5 t6 (by rw [t5]; rfl) (by rw [t7]; rfl) (by rw [t8]; rfl) (by rw [t9]; rfl) t10 t11, rfl, fun cv hc => by have := hc g.nx μ; have e0 : chk_0 k n a b c d v ph = ((0 : Int)) := (Sx.ct t0).trans ((Sx.ct t1).trans ((Sx.ct t2).trans ((Sx.ct t3).trans ((Sx.ct t4).trans ((Sx.cf t5).trans ((Sx.cf t6).trans ((Sx.ct t7).trans ((Sx.ct t8).trans ((Sx.ct t9).trans ((Sx.cf t10).trans ((Sx.cf t11).trans (rfl)))))))))))); rw [e0]; simpa only [Sx.Rep, Sx.Reps, Sx.Rep_cmpB] using this⟩
           | false =>
            cases t10 : decide (ph = (0 : Int)) with
            | true =>
             cases t11 : decide ((2 : Int) < Sx.kindDef v) with
             | true =>
              exact ⟨_, _, _, ha', chk_r17 k n a b c d v ph (by rw [t0]; rfl) (by rw [t1]; rfl) (by rw [t2]; rfl) (by rw [t3]; rfl) (by rw [t4]; rfl) t5 t6 (by rw [t5]; rfl) (by rw [t7]; rfl) (by rw [t8]; rfl) (by rw [t9]; rfl) (by rw [t10]; rfl) t11, rfl, fun cv hc => by have := hc g.nx μ; have e0 : chk_0 k n a b c d v ph = ((5 : Int)) := (Sx.ct t0).trans ((Sx.ct t1).trans ((Sx.ct t2).trans ((Sx.ct t3).trans ((Sx.ct t4).trans ((Sx.cf t5).trans ((Sx.cf t6).trans ((Sx.ct t7).trans ((Sx.ct t8).trans ((Sx.cf t9).trans ((Sx.ct t10).trans ((Sx.ct t11).trans (rfl)))))))))))); rw [e0]; simpa only [Sx.Rep, Sx.Reps, Sx.Rep_cmpB] using this⟩
             | false =>
              cases t12 : rowOf_2 k with
              | true =>
               cases t13 : Sx.fle (Sx.cn v) (Sx.cn (0 : Nat)) with
               | true =>
                exact ⟨_, _, _, ha', chk_r18 k n a b c d v ph (by rw [t0]; rfl) (by rw [t1]; rfl) (by rw [t2]; rfl) (by rw [t3]; rfl) (by rw [t4]; rfl) t5 t6 (by rw [t5]; rfl) (by rw [t7]; rfl) (by rw [t8]; rfl) (by rw [t9]; rfl) (by rw [t10]; rfl) t11 t12 t13, rfl, fun cv hc => by have := hc g.nx μ; have e0 : chk_0 k n a b c d v ph = ((2 : Int)) := (Sx.ct t0).trans ((Sx.ct t1).trans ((Sx.ct t2).trans ((Sx.ct t3).trans ((Sx.ct t4).trans ((Sx.cf t5).trans ((Sx.cf t6).trans ((Sx.ct t7).trans ((Sx.ct t8).trans ((Sx.cf t9).trans ((Sx.ct t10).trans ((Sx.cf t11).trans ((Sx.ct t12).trans ((Sx.ct t13).trans (rfl)))))))))))))); rw [e0]; simpa only [Sx.Rep, Sx.Reps, Sx.Rep_cmpB] using this⟩
               | false =>
                exact ⟨_, _, _, ha', chk_r19 k n a b c d v ph (by rw [t0]; rfl) (by rw [t1]; rfl) (by rw [t2]; rfl) (by rw [t3]; rfl) (by rw [t4]; rfl) t5 t6 (by rw [t5]; rfl) (by rw [t7]; rfl) (by rw [t8]; rfl) (by rw [t9]; rfl) (by rw [t10]; rfl) t11 t12 t13, rfl, fun cv hc => by have := hc g.nx μ; have e0 : chk_0 k n a b c d v ph = ((0 : Int)) := (Sx.ct t0).trans ((Sx.ct t1).trans ((Sx.ct t2).trans ((Sx.ct t3).trans ((Sx.ct t4).trans ((Sx.cf t5).trans ((Sx.cf t6).trans ((Sx.ct t7).trans ((Sx.ct t8).trans ((Sx.cf t9).trans ((Sx.ct t10).trans ((Sx.cf t11).trans ((Sx.ct t12).trans ((Sx.cf t13).trans (rfl)))))))))))))); rw [e0]; simpa only [Sx.Rep, Sx.Reps, Sx.Rep_cmpB] using this⟩
              | false =>
               exact ⟨_, _, _, ha', chk_r20 k n a b c d v ph (by rw [t0]; rfl) (by rw [t1]; rfl) (by rw [t2]; rfl) (by rw [t3]; rfl) (by rw [t4]; rfl) t5 t6 (by rw [t5]; rfl) (by rw [t7]; rfl) (by rw [t8]; rfl) (by rw [t9]; rfl) (by rw [t10]; rfl) t11 t12, rfl, fun cv hc => by have := hc g.nx μ; have e0 : chk_0 k n a b c d v ph = ((0 : Int)) := (Sx.ct t0).trans ((Sx.ct t1).trans ((Sx.ct t2).trans ((Sx.ct t3).trans ((Sx.ct t4).trans ((Sx.cf t5).trans ((Sx.cf t6).trans ((Sx.ct t7).trans ((Sx.ct t8).trans ((Sx.cf t9).trans ((Sx.ct t10).trans ((Sx.cf t11).trans ((Sx.cf t12).trans (rfl))))))))))))); rw [e0]; simpa only [Sx.Rep, Sx.Reps, Sx.Rep_cmpB] using this⟩
            | false =>
             exact ⟨_, _, _, ha', chk_r21 k n a b c d v ph (by rw [t0]; rfl) (by rw [t1]; rfl) (by rw [t2]; rfl) (by rw [t3]; rfl) (by rw [t4]; rfl) t5 t6 (by rw [t5]; rfl) (by rw [t7]; rfl) (by rw [t8]; rfl) (by rw [t9]; rfl) (by rw [t10]; rfl), rfl, fun cv hc => by have := hc g.nx μ; have e0 : chk_0 k n a b c d v ph = ((2 : Int)) := (Sx.ct t0).trans ((Sx.ct t1).trans ((Sx.ct t2).trans ((Sx.ct t3).trans ((Sx.ct t4).trans ((Sx.cf t5).trans ((Sx.cf t6).trans ((Sx.ct t7).trans ((Sx.ct t8).trans ((Sx.cf t9).trans ((Sx.cf t10).trans (rfl))))))))))); rw [e0]; simpa only [Sx.Rep, Sx.Reps, Sx.Rep_cmpB] using this⟩
          | false =>
           exact ⟨_, _, _, ha', chk_r22 k n a b c d v ph (by rw [t0]; rfl) (by rw [t1]; rfl) (by rw [t2]; rfl) (by rw [t3]; rfl) (by rw [t4]; rfl) t5 t6 (by rw [t5]; rfl) (by rw [t7]; rfl) (by rw [t8]; rfl), rfl, fun cv hc => by have := hc g.nx μ; have e0 : chk_0 k n a b c d v ph = ((2 : Int)) := (Sx.ct t0).trans ((Sx.ct t1).trans ((Sx.ct t2).trans ((Sx.ct t3).trans ((Sx.ct t4).trans ((Sx.cf t5).trans ((Sx.cf t6).trans ((Sx.ct t7).trans ((Sx.cf t8).trans (rfl))))))))); rw [e0]; simpa only [Sx.Rep, Sx.Reps, Sx.Rep_cmpB] using this⟩
         | false =>
          exact ⟨_, _, _, ha', chk_r23 k n a b c d v ph (by rw [t0]; rfl) (by rw [t1]; rfl) (by rw [t2]; rfl) (by rw [t3]; rfl) (by rw [t4]; rfl) t5 t6 (by rw [t5]; rfl) (by rw [t7]; rfl), rfl, fun cv hc => by have := hc g.nx μ; have e0 : chk_0 k n a b c d v ph = ((2 : Int)) := (Sx.ct t0).trans ((Sx.ct t1).trans ((Sx.ct t2).trans ((Sx.ct t3).trans ((Sx.ct t4).trans ((Sx.cf t5).trans ((Sx.cf t6).trans ((Sx.cf t7).trans (rfl)))))))); rw [e0]; simpa only [Sx.Rep, Sx.Reps, Sx.Rep_cmpB] using this⟩
      | false =>
       exact ⟨_, _, _, ha', chk_r24 k n a b c d v ph (by rw [t0]; rfl) (by rw [t1]; rfl) (by rw [t2]; rfl) (by rw [t3]; rfl) (by rw [t4]; rfl), rfl, fun cv hc => by have := hc g.nx μ; have e0 : chk_0 k n a b c d v ph = ((8 : Int)) := (Sx.ct t0).trans ((Sx.ct t1).trans ((Sx.ct t2).trans ((Sx.ct t3).trans ((Sx.cf t4).trans (rfl))))); rw [e0]; simpa only [Sx.Rep, Sx.Reps, Sx.Rep_cmpB] using this⟩
     | false =>
      exact ⟨_, _, _, ha', chk_r25 k n a b c d v ph (by rw [t0]; rfl) (by rw [t1]; rfl) (by rw [t2]; rfl) (by rw [t3]; rfl), rfl, fun cv hc => by have := hc g.nx μ; have e0 : chk_0 k n a b c d v ph = ((8 : Int)) := (Sx.ct t0).trans ((Sx.ct t1).trans ((Sx.ct t2).trans ((Sx.cf t3).trans (rfl)))); rw [e0]; simpa only [Sx.Rep, Sx.Reps, Sx.Rep_cmpB] using this⟩
    | false =>
     exact ⟨_, _, _, ha', chk_r26 k n a b c d v ph (by rw [t0]; rfl) (by rw [t1]; rfl) (by rw [t2]; rfl), rfl, fun cv hc => by have := hc g.nx μ; have e0 : chk_0 k n a b c d v ph = ((8 : Int)) := (Sx.ct t0).trans ((Sx.ct t1).trans ((Sx.cf t2).trans (rfl))); rw [e0]; simpa only [Sx.Rep, Sx.Reps, Sx.Rep_cmpB] using this⟩
   | false =>
    exact ⟨_, _, _, ha', chk_r27 k n a b c d v ph (by rw [t0]; rfl) (by rw [t1]; rfl), rfl, fun cv hc => by have := hc g.nx μ; have e0 : chk_0 k n a b c d v ph = ((8 : Int)) := (Sx.ct t0).trans ((Sx.cf t1).trans (rfl)); rw [e0]; simpa only [Sx.Rep, Sx.Reps, Sx.Rep_cmpB] using this⟩
  | false =>
   exact ⟨_, _, _, ha', chk_r28 k n a b c d v ph (by rw [t0]; rfl), rfl, fun cv hc => by have := hc g.nx μ; have e0 : chk_0 k n a b c d v ph = ((2 : Int)) := (Sx.cf t0).trans (rfl); rw [e0]; simpa only [Sx.Rep, Sx.Reps, Sx.Rep_cmpB] using this⟩
 ·exact call3_ok _ _ _ _ _ h
theorem chkS_tch : ∀ args, Sx.Tch (chkS args) := by
 intro args
 unfold chkS
 split
 ·exact Sx.Tch.ret _
 ·exact call3_tch _ _
theorem rchk_r0 (k : Int) (n a b c d : List UInt8) (v : Nat) (ph : Int) (c0 : (!rrow_6 k) = false) (c1 : (!rname_1 n) = false) (c2 : (!decide (rname_0 n = k)) = false) (c3 : (!rnode_0 a) = false) (c4 : (!rnode_0 b) = false) (c5 : rrow_5 k = true) (c6 : (!rnode_0 c) = false) (c7 : (!rnode_0 d) = false) (c8 : (a == b) = true) : Sx.PureP (Sx.AV.int false .i64 2) (call3 46 [.agg [.int true .u8 k, .str true n, .str true a, .str true b, .str true c, .str true d, .raw true v, .int true .i64 ph]] (Sx.G.on [false, false, false, false, false, true, false, false, true])) := by
 have e : Sx.pureP (Sx.AV.int false .i64 2) (call3 46 [.agg [.int true .u8 k, .str true n, .str true a, .str true b, .str true c, .str true d, .raw true v, .int true .i64 ph]] (Sx.G.on [false, false, false, false, false, true, false, false, true])) = ((Sx.AV.int false .i64 2) = (Sx.AV.int false .i64 2) ∧ (((((((((True ∧ ((!rrow_6 k) = false)) ∧ ((!rname_1 n) = false)) ∧ ((!decide (rname_0 n = k)) = false)) ∧ ((!rnode_0 a) = false)) ∧ ((!rnode_0 b) = false)) ∧ (rrow_5 k = true)) ∧ ((!rnode_0 c) = false)) ∧ ((!rnode_0 d) = false)) ∧ ((a == b) = true))) := by kernel_rfl
 exact ⟨by rw [e]; exact ⟨rfl, ⟨⟨⟨⟨⟨⟨⟨⟨⟨trivial, c0⟩, c1⟩, c2⟩, c3⟩, c4⟩, c5⟩, c6⟩, c7⟩, c8⟩⟩⟩
theorem rchk_r1 (k : Int) (n a b c d : List UInt8) (v : Nat) (ph : Int) (c0 : (!rrow_6 k) = false) (c1 : (!rname_1 n) = false) (c2 : (!decide (rname_0 n = k)) = false) (c3 : (!rnode_0 a) = false) (c4 : (!rnode_0 b) = false) (c5 : rrow_5 k = true) (c6 : (!rnode_0 c) = false) (c7 : (!rnode_0 d) = false) (c8 : (a == b) = false) (c9 : (!rrow_5 k) = false) (c10 : (!rrow_4 k) = false) (c11 : decide ((2 : Int) < rkind_0 v) = true) : Sx.PureP (Sx.AV.int false .i64 5) (call3 46 [.agg [.int true .u8 k, .str true n, .str true a, .str true b, .str true c, .str true d, .raw true v, .int true .i64 ph]] (Sx.G.on [false, false, false, false, false, true, false, false, false, false, false, true])) := by
 have e : Sx.pureP (Sx.AV.int false .i64 5) (call3 46 [.agg [.int true .u8 k, .str true n, .str true a, .str true b, .str true c, .str true d, .raw true v, .int true .i64 ph]] (Sx.G.on [false, false, false, false, false, true, false, false, false, false, false, true])) = ((Sx.AV.int false .i64 5) = (Sx.AV.int false .i64 5) ∧ ((((((((((((True ∧ ((!rrow_6 k) = false)) ∧ ((!rname_1 n) = false)) ∧ ((!decide (rname_0 n = k)) = false)) ∧ ((!rnode_0 a) = false)) ∧ ((!rnode_0 b) = false)) ∧ (rrow_5 k = true)) ∧ ((!rnode_0 c) = false)) ∧ ((!rnode_0 d) = false)) ∧ ((a == b) = false)) ∧ ((!rrow_5 k) = false)) ∧ ((!rrow_4 k) = false)) ∧ (decide ((2 : Int) < rkind_0 v) = true))) := by kernel_rfl
 exact ⟨by rw [e]; exact ⟨rfl, ⟨⟨⟨⟨⟨⟨⟨⟨⟨⟨⟨⟨trivial, c0⟩, c1⟩, c2⟩, c3⟩, c4⟩, c5⟩, c6⟩, c7⟩, c8⟩, c9⟩, c10⟩, c11⟩⟩⟩
theorem rchk_r2 (k : Int) (n a b c d : List UInt8) (v : Nat) (ph : Int) (c0 : (!rrow_6 k) = false) (c1 : (!rname_1 n) = false) (c2 : (!decide (rname_0 n = k)) = false) (c3 : (!rnode_0 a) = false) (c4 : (!rnode_0 b) = false) (c5 : rrow_5 k = true) (c6 : (!rnode_0 c) = false) (c7 : (!rnode_0 d) = false) (c8 : (a == b) = false) (c9 : (!rrow_5 k) = false) (c10 : (!rrow_4 k) = false) (c11 : decide ((2 : Int) < rkind_0 v) = false) (c12 : rrow_3 k = true) (c13 : (!Sx.fgt (Sx.cn v) (Sx.cn (0 : Nat))) = false) : Sx.PureP (Sx.AV.int false .i64 0) (call3 46 [.agg [.int true .u8 k, .str true n, .str true a, .str true b, .str true c, .str true d, .raw true v, .int true .i64 ph]] (Sx.G.on [false, false, false, false, false, true, false, false, false, false, false, false, true, false])) := by
 have e : Sx.pureP (Sx.AV.int false .i64 0) (call3 46 [.agg [.int true .u8 k, .str true n, .str true a, .str true b, .str true c, .str true d, .raw true v, .int true .i64 ph]] (Sx.G.on [false, false, false, false, false, true, false, false, false, false, false, false, true, false])) = ((Sx.AV.int false .i64 0) = (Sx.AV.int false .i64 0) ∧ ((((((((((((((True ∧ ((!rrow_6 k) = false)) ∧ ((!rname_1 n) = false)) ∧ ((!decide (rname_0 n = k)) = false)) ∧ ((!rnode_0 a) = false)) ∧ ((!rnode_0 b) = false)) ∧ (rrow_5 k = true)) ∧ ((!rnode_0 c) = false)) ∧ ((!rnode_0 d) = false)) ∧ ((a == b) = false)) ∧ ((!rrow_5 k) = false)) ∧ ((!rrow_4 k) = false)) ∧ (decide ((2 : Int) < rkind_0 v) = false)) ∧ (rrow_3 k = true)) ∧ ((!Sx.fgt (Sx.cn v) (Sx.cn (0 : Nat))) = false))) := by kernel_rfl
 exact ⟨by rw [e]; exact ⟨rfl, ⟨⟨⟨⟨⟨⟨⟨⟨⟨⟨⟨⟨⟨⟨trivial, c0⟩, c1⟩, c2⟩, c3⟩, c4⟩, c5⟩, c6⟩, c7⟩, c8⟩, c9⟩, c10⟩, c11⟩, c12⟩, c13⟩⟩⟩
theorem rchk_r3 (k : Int) (n a b c d : List UInt8) (v : Nat) (ph : Int) (c0 : (!rrow_6 k) = false) (c1 : (!rname_1 n) = false) (c2 : (!decide (rname_0 n = k)) = false) (c3 : (!rnode_0 a) = false) (c4 : (!rnode_0 b) = false) (c5 : rrow_5 k = true) (c6 : (!rnode_0 c) = false) (c7 : (!rnode_0 d) = false) (c8 : (a == b) = false) (c9 : (!rrow_5 k) = false) (c10 : (!rrow_4 k) = false) (c11 : decide ((2 : Int) < rkind_0 v) = false) (c12 : rrow_3 k = true) (c13 : (!Sx.fgt (Sx.cn v) (Sx.cn (0 : Nat))) = true) : Sx.PureP (Sx.AV.int false .i64 2) (call3 46 [.agg [.int true .u8 k, .str true n, .str true a, .str true b, .str true c, .str true d, .raw true v, .int true .i64 ph]] (Sx.G.on [false, false, false, false, false, true, false, false, false, false, false, false, true, true])) := by
 have e : Sx.pureP (Sx.AV.int false .i64 2) (call3 46 [.agg [.int true .u8 k, .str true n, .str true a, .str true b, .str true c, .str true d, .raw true v, .int true .i64 ph]] (Sx.G.on [false, false, false, false, false, true, false, false, false, false, false, false, true, true])) = ((Sx.AV.int false .i64 2) = (Sx.AV.int false .i64 2) ∧ ((((((((((((((True ∧ ((!rrow_6 k) = false)) ∧ ((!rname_1 n) = false)) ∧ ((!decide (rname_0 n = k)) = false)) ∧ ((!rnode_0 a) = false)) ∧ ((!rnode_0 b) = false)) ∧ (rrow_5 k = true)) ∧ ((!rnode_0 c) = false)) ∧ ((!rnode_0 d) = false)) ∧ ((a == b) = false)) ∧ ((!rrow_5 k) = false)) ∧ ((!rrow_4 k) = false)) ∧ (decide ((2 : Int) < rkind_0 v) = false)) ∧ (rrow_3 k = true)) ∧ ((!Sx.fgt (Sx.cn v) (Sx.cn (0 : Nat))) = true))) := by kernel_rfl
 exact ⟨by rw [e]; exact ⟨rfl, ⟨⟨⟨⟨⟨⟨⟨⟨⟨⟨⟨⟨⟨⟨trivial, c0⟩, c1⟩, c2⟩, c3⟩, c4⟩, c5⟩, c6⟩, c7⟩, c8⟩, c9⟩, c10⟩, c11⟩, c12⟩, c13⟩⟩⟩
theorem rchk_r4 (k : Int) (n a b c d : List UInt8) (v : Nat) (ph : Int) (c0 : (!rrow_6 k) = false) (c1 : (!rname_1 n) = false) (c2 : (!decide (rname_0 n = k)) = false) (c3 : (!rnode_0 a) = false) (c4 : (!rnode_0 b) = false) (c5 : rrow_5 k = true) (c6 : (!rnode_0 c) = false) (c7 : (!rnode_0 d) = false) (c8 : (a == b) = false) (c9 : (!rrow_5 k) = false) (c10 : (!rrow_4 k) = false) (c11 : decide ((2 : Int) < rkind_0 v) = false) (c12 : rrow_3 k = false) : Sx.PureP (Sx.AV.int false .i64 0) (call3 46 [.agg [.int true .u8 k, .str true n, .str true a, .str true b, .str true c, .str true d, .raw true v, .int true .i64 ph]] (Sx.G.on [false, false, false, false, false, true, false, false, false, false, false, false, false])) := by
 have e : Sx.pureP (Sx.AV.int false .i64 0) (call3 46 [.agg [.int true .u8 k, .str true n, .str true a, .str true b, .str true c, .str true d, .raw true v, .int true .i64 ph]] (Sx.G.on [false, false, false, false, false, true, false, false, false, false, false, false, false])) = ((Sx.AV.int false .i64 0) = (Sx.AV.int false .i64 0) ∧ (((((((((((((True ∧ ((!rrow_6 k) = false)) ∧ ((!rname_1 n) = false)) ∧ ((!decide (rname_0 n = k)) = false)) ∧ ((!rnode_0 a) = false)) ∧ ((!rnode_0 b) = false)) ∧ (rrow_5 k = true)) ∧ ((!rnode_0 c) = false)) ∧ ((!rnode_0 d) = false)) ∧ ((a == b) = false)) ∧ ((!rrow_5 k) = false)) ∧ ((!rrow_4 k) = false)) ∧ (decide ((2 : Int) < rkind_0 v) = false)) ∧ (rrow_3 k = false))) := by kernel_rfl
 exact ⟨by rw [e]; exact ⟨rfl, ⟨⟨⟨⟨⟨⟨⟨⟨⟨⟨⟨⟨⟨trivial, c0⟩, c1⟩, c2⟩, c3⟩, c4⟩, c5⟩, c6⟩, c7⟩, c8⟩, c9⟩, c10⟩, c11⟩, c12⟩⟩⟩
theorem rchk_r5 (k : Int) (n a b c d : List UInt8) (v : Nat) (ph : Int) (c0 : (!rrow_6 k) = false) (c1 : (!rname_1 n) = false) (c2 : (!decide (rname_0 n = k)) = false) (c3 : (!rnode_0 a) = false) (c4 : (!rnode_0 b) = false) (c5 : rrow_5 k = true) (c6 : (!rnode_0 c) = false) (c7 : (!rnode_0 d) = false) (c8 : (a == b) = false) (c9 : (!rrow_5 k) = false) (c10 : (!rrow_4 k) = true) (c11 : (!decide (ph = (0 : Int))) = false) (c12 : decide ((2 : Int) < rkind_0 v) = true) : Sx.PureP (Sx.AV.int false .i64 5) (call3 46 [.agg [.int true .u8 k, .str true n, .str true a, .str true b, .str true c, .str true d, .raw true v, .int true .i64 ph]] (Sx.G.on [false, false, false, false, false, true, false, false, false, false, true, false, true])) := by
 have e : Sx.pureP (Sx.AV.int false .i64 5) (call3 46 [.agg [.int true .u8 k, .str true n, .str true a, .str true b, .str true c, .str true d, .raw true v, .int true .i64 ph]] (Sx.G.on [false, false, false, false, false, true, false, false, false, false, true, false, true])) = ((Sx.AV.int false .i64 5) = (Sx.AV.int false .i64 5) ∧ (((((((((((((True ∧ ((!rrow_6 k) = false)) ∧ ((!rname_1 n) = false)) ∧ ((!decide (rname_0 n = k)) = false)) ∧ ((!rnode_0 a) = false)) ∧ ((!rnode_0 b) = false)) ∧ (rrow_5 k = true)) ∧ ((!rnode_0 c) = false)) ∧ ((!rnode_0 d) = false)) ∧ ((a == b) = false)) ∧ ((!rrow_5 k) = false)) ∧ ((!rrow_4 k) = true)) ∧ ((!decide (ph = (0 : Int))) = false)) ∧ (decide ((2 : Int) < rkind_0 v) = true))) := by kernel_rfl
 exact ⟨by rw [e]; exact ⟨rfl, ⟨⟨⟨⟨⟨⟨⟨⟨⟨⟨⟨⟨⟨trivial, c0⟩, c1⟩, c2⟩, c3⟩, c4⟩, c5⟩, c6⟩, c7⟩, c8⟩, c9⟩, c10⟩, c11⟩, c12⟩⟩⟩
theorem rchk_r6 (k : Int) (n a b c d : List UInt8) (v : Nat) (ph : Int) (c0 : (!rrow_6 k) = false) (c1 : (!rname_1 n) = false) (c2 : (!decide (rname_0 n = k)) = false) (c3 : (!rnode_0 a) = false) (c4 : (!rnode_0 b) = false) (c5 : rrow_5 k = true) (c6 : (!rnode_0 c) = false) (c7 : (!rnode_0 d) = false) (c8 : (a == b) = false) (c9 : (!rrow_5 k) = false) (c10 : (!rrow_4 k) = true) (c11 : (!decide (ph = (0 : Int))) = false) (c12 : decide ((2 : Int) < rkind_0 v) = false) (c13 : rrow_3 k = true) (c14 : (!Sx.fgt (Sx.cn v) (Sx.cn (0 : Nat))) = false) : Sx.PureP (Sx.AV.int false .i64 0) (call3 46 [.agg [.int true .u8 k, .str true n, .str true a, .str true b, .str true c, .str true d, .raw true v, .int true .i64 ph]] (Sx.G.on [false, false, false, false, false, true, false, false, false, false, true, false, false, true, false])) := by
 have e : Sx.pureP (Sx.AV.int false .i64 0) (call3 46 [.agg [.int true .u8 k, .str true n, .str true a, .str true b, .str true c, .str true d, .raw true v, .int true .i64 ph]] (Sx.G.on [false, false, false, false, false, true, false, false, false, false, true, false, false, true, false])) = ((Sx.AV.int false .i64 0) = (Sx.AV.int false .i64 0) ∧ (((((((((((((((True ∧ ((!rrow_6 k) = false)) ∧ ((!rname_1 n) = false)) ∧ ((!decide (rname_0 n = k)) = false)) ∧ ((!rnode_0 a) = false)) ∧ ((!rnode_0 b) = false)) ∧ (rrow_5 k = true)) ∧ ((!rnode_0 c) = false)) ∧ ((!rnode_0 d) = false)) ∧ ((a == b) = false)) ∧ ((!rrow_5 k) = false)) ∧ ((!rrow_4 k) = true)) ∧ ((!decide (ph = (0 : Int))) = false)) ∧ (decide ((2 : Int) < rkind_0 v) = false)) ∧ (rrow_3 k = true)) ∧ ((!Sx.fgt (Sx.cn v) (Sx.cn (0 : Nat))) = false))) := by kernel_rfl
 exact ⟨by rw [e]; exact ⟨rfl, ⟨⟨⟨⟨⟨⟨⟨⟨⟨⟨⟨⟨⟨⟨⟨trivial, c0⟩, c1⟩, c2⟩, c3⟩, c4⟩, c5⟩, c6⟩, c7⟩, c8⟩, c9⟩, c10⟩, c11⟩, c12⟩, c13⟩, c14⟩⟩⟩
theorem rchk_r7 (k : Int) (n a b c d : List UInt8) (v : Nat) (ph : Int) (c0 : (!rrow_6 k) = false) (c1 : (!rname_1 n) = false) (c2 : (!decide (rname_0 n = k)) = false) (c3 : (!rnode_0 a) = false) (c4 : (!rnode_0 b) = false) (c5 : rrow_5 k = true) (c6 : (!rnode_0 c) = false) (c7 : (!rnode_0 d) = false) (c8 : (a == b) = false) (c9 : (!rrow_5 k) = false) (c10 : (!rrow_4 k) = true) (c11 : (!decide (ph = (0 : Int))) = false) (c12 : decide ((2 : Int) < rkind_0 v) = false) (c13 : rrow_3 k = true) (c14 : (!Sx.fgt (Sx.cn v) (Sx.cn (0 : Nat))) = true) : Sx.PureP (Sx.AV.int false .i64 2) (call3 46 [.agg [.int true .u8 k, .str true n, .str true a, .str true b, .str true c, .str true d, .raw true v, .int true .i64 ph]] (Sx.G.on [false, false, false, false, false, true, false, false, false, false, true, false, false, true, true])) := by
 have e : Sx.pureP (Sx.AV.int false .i64 2) (call3 46 [.agg [.int true .u8 k, .str true n, .str true a, .str true b, .str true c, .str true d, .raw true v, .int true .i64 ph]] (Sx.G.on [false, false, false, false, false, true, false, false, false, false, true, false, false, true, true])) = ((Sx.AV.int false .i64 2) = (Sx.AV.int false .i64 2) ∧ (((((((((((((((True ∧ ((!rrow_6 k) = false)) ∧ ((!rname_1 n) = false)) ∧ ((!decide (rname_0 n = k)) = false)) ∧ ((!rnode_0 a) = false)) ∧ ((!rnode_0 b) = false)) ∧ (rrow_5 k = true)) ∧ ((!rnode_0 c) = false)) ∧ ((!rnode_0 d) = false)) ∧ ((a == b) = false)) ∧ ((!rrow_5 k) = false)) ∧ ((!rrow_4 k) = true)) ∧ ((!decide (ph = (0 : Int))) = false)) ∧ (decide ((2 : Int) < rkind_0 v) = false)) ∧ (rrow_3 k = true)) ∧ ((!Sx.fgt (Sx.cn v) (Sx.cn (0 : Nat))) = true))) := by kernel_rfl
 exact ⟨by rw [e]; exact ⟨rfl, ⟨⟨⟨⟨⟨⟨⟨⟨⟨⟨⟨⟨⟨⟨⟨trivial, c0⟩, c1⟩, c2⟩, c3⟩, c4⟩, c5⟩, c6⟩, c7⟩, c8⟩, c9⟩, c10⟩, c11⟩, c12⟩, c13⟩, c14⟩⟩⟩
theorem rchk_r8 (k : Int) (n a b c d : List UInt8) (v : Nat) (ph : Int) (c0 : (!rrow_6 k) = false) (c1 : (!rname_1 n) = false) (c2 : (!decide (rname_0 n = k)) = false) (c3 : (!rnode_0 a) = false) (c4 : (!rnode_0 b) = false) (c5 : rrow_5 k = true) (c6 : (!rnode_0 c) = false) (c7 : (!rnode_0 d) = false) (c8 : (a == b) = false) (c9 : (!rrow_5 k) = false) (c10 : (!rrow_4 k) = true) (c11 : (!decide (ph = (0 : Int))) = false) (c12 : decide ((2 : Int) < rkind_0 v) = false) (c13 : rrow_3 k = false) : Sx.PureP (Sx.AV.int false .i64 0) (call3 46 [.agg [.int true .u8 k, .str true n, .str true a, .str true b, .str true c, .str true d, .raw true v, .int true .i64 ph]] (Sx.G.on [false, false, false, false, false, true, false, false, false, false, true, false, false, false])) := by
 have e : Sx.pureP (Sx.AV.int false .i64 0) (call3 46 [.agg [.int true .u8 k, .str true n, .str true a, .str true b, .str true c, .str true d, .raw true v, .int true .i64 ph]] (Sx.G.on [false, false, false, false, false, true, false, false, false, false, true, false, false, false])) = ((Sx.AV.int false .i64 0) = (Sx.AV.int false .i64 0) ∧ ((((((((((((((True ∧ ((!rrow_6 k) = false)) ∧ ((!rname_1 n) = false)) ∧ ((!decide (rname_0 n = k)) = false)) ∧ ((!rnode_0 a) = false)) ∧ ((!rnode_0 b) = false)) ∧ (rrow_5 k = true)) ∧ ((!rnode_0 c) = false)) ∧ ((!rnode_0 d) = false)) ∧ ((a == b) = false)) ∧ ((!rrow_5 k) = false)) ∧ ((!rrow_4 k) = true)) ∧ ((!decide (ph = (0 : Int))) = false)) ∧ (decide ((2 : Int) < rkind_0 v) = false)) ∧ (rrow_3 k = false))) := by kernel_rfl
 exact ⟨by rw [e]; exact ⟨rfl, ⟨⟨⟨⟨⟨⟨⟨⟨⟨⟨⟨⟨⟨⟨trivial, c0⟩, c1⟩, c2⟩, c3⟩, c4⟩, c5⟩, c6⟩, c7⟩, c8⟩, c9⟩, c10⟩, c11⟩, c12⟩, c13⟩⟩⟩
theorem rchk_r9 (k : Int) (n a b c d : List UInt8) (v : Nat) (ph : Int) (c0 : (!rrow_6 k) = false) (c1 : (!rname_1 n) = false) (c2 : (!decide (rname_0 n = k)) = false) (c3 : (!rnode_0 a) = false) (c4 : (!rnode_0 b) = false) (c5 : rrow_5 k = true) (c6 : (!rnode_0 c) = false) (c7 : (!rnode_0 d) = false) (c8 : (a == b) = false) (c9 : (!rrow_5 k) = false) (c10 : (!rrow_4 k) = true) (c11 : (!decide (ph = (0 : Int))) = true) : Sx.PureP (Sx.AV.int false .i64 2) (call3 46 [.agg [.int true .u8 k, .str true n, .str true a, .str true b, .str true c, .str true d, .raw true v, .int true .i64 ph]] (Sx.G.on [false, false, false, false, false, true, false, false, false, false, true, true])) := by
 have e : Sx.pureP (Sx.AV.int false .i64 2) (call3 46 [.agg [.int true .u8 k, .str true n, .str true a, .str true b, .str true c, .str true d, .raw true v, .int true .i64 ph]] (Sx.G.on [false, false, false, false, false, true, false, false, false, false, true, true])) = ((Sx.AV.int false .i64 2) = (Sx.AV.int false .i64 2) ∧ ((((((((((((True ∧ ((!rrow_6 k) = false)) ∧ ((!rname_1 n) = false)) ∧ ((!decide (rname_0 n = k)) = false)) ∧ ((!rnode_0 a) = false)) ∧ ((!rnode_0 b) = false)) ∧ (rrow_5 k = true)) ∧ ((!rnode_0 c) = false)) ∧ ((!rnode_0 d) = false)) ∧ ((a == b) = false)) ∧ ((!rrow_5 k) = false)) ∧ ((!rrow_4 k) = true)) ∧ ((!decide (ph = (0 : Int))) = true))) := by kernel_rfl
 exact ⟨by rw [e]; exact ⟨rfl, ⟨⟨⟨⟨⟨⟨⟨⟨⟨⟨⟨⟨trivial, c0⟩, c1⟩, c2⟩, c3⟩, c4⟩, c5⟩, c6⟩, c7⟩, c8⟩, c9⟩, c10⟩, c11⟩⟩⟩
theorem rchk_r10 (k : Int) (n a b c d : List UInt8) (v : Nat) (ph : Int) (c0 : (!rrow_6 k) = false) (c1 : (!rname_1 n) = false) (c2 : (!decide (rname_0 n = k)) = false) (c3 : (!rnode_0 a) = false) (c4 : (!rnode_0 b) = false) (c5 : rrow_5 k = true) (c6 : (!rnode_0 c) = false) (c7 : (!rnode_0 d) = true) : Sx.PureP (Sx.AV.int false .i64 8) (call3 46 [.agg [.int true .u8 k, .str true n, .str true a, .str true b, .str true c, .str true d, .raw true v, .int true .i64 ph]] (Sx.G.on [false, false, false, false, false, true, false, true])) := by
 have e : Sx.pureP (Sx.AV.int false .i64 8) (call3 46 [.agg [.int true .u8 k, .str true n, .str true a, .str true b, .str true c, .str true d, .raw true v, .int true .i64 ph]] (Sx.G.on [false, false, false, false, false, true, false, true])) = ((Sx.AV.int false .i64 8) = (Sx.AV.int false .i64 8) ∧ ((((((((True ∧ ((!rrow_6 k) = false)) ∧ ((!rname_1 n) = false)) ∧ ((!decide (rname_0 n = k)) = false)) ∧ ((!rnode_0 a) = false)) ∧ ((!rnode_0 b) = false)) ∧ (rrow_5 k = true)) ∧ ((!rnode_0 c) = false)) ∧ ((!rnode_0 d) = true))) := by kernel_rfl
 exact ⟨by rw [e]; exact ⟨rfl, ⟨⟨⟨⟨⟨⟨⟨⟨trivial, c0⟩, c1⟩, c2⟩, c3⟩, c4⟩, c5⟩, c6⟩, c7⟩⟩⟩
theorem rchk_r11 (k : Int) (n a b c d : List UInt8) (v : Nat) (ph : Int) (c0 : (!rrow_6 k) = false) (c1 : (!rname_1 n) = false) (c2 : (!decide (rname_0 n = k)) = false) (c3 : (!rnode_0 a) = false) (c4 : (!rnode_0 b) = false) (c5 : rrow_5 k = true) (c6 : (!rnode_0 c) = true) : Sx.PureP (Sx.AV.int false .i64 8) (call3 46 [.agg [.int true .u8 k, .str true n, .str true a, .str true b, .str true c, .str true d, .raw true v, .int true .i64 ph]] (Sx.G.on [false, false, false, false, false, true, true])) := by
 have e : Sx.pureP (Sx.AV.int false .i64 8) (call3 46 [.agg [.int true .u8 k, .str true n, .str true a, .str true b, .str true c, .str true d, .raw true v, .int true .i64 ph]] (Sx.G.on [false, false, false, false, false, true, true])) = ((Sx.AV.int false .i64 8) = (Sx.AV.int false .i64 8) ∧ (((((((True ∧ ((!rrow_6 k) = false)) ∧ ((!rname_1 n) = false)) ∧ ((!decide (rname_0 n = k)) = false)) ∧ ((!rnode_0 a) = false)) ∧ ((!rnode_0 b) = false)) ∧ (rrow_5 k = true)) ∧ ((!rnode_0 c) = true))) := by kernel_rfl
 exact ⟨by rw [e]; exact ⟨rfl, ⟨⟨⟨⟨⟨⟨⟨trivial, c0⟩, c1⟩, c2⟩, c3⟩, c4⟩, c5⟩, c6⟩⟩⟩
theorem rchk_r12 (k : Int) (n a b c d : List UInt8) (v : Nat) (ph : Int) (c0 : (!rrow_6 k) = false) (c1 : (!rname_1 n) = false) (c2 : (!decide (rname_0 n = k)) = false) (c3 : (!rnode_0 a) = false) (c4 : (!rnode_0 b) = false) (c5 : rrow_5 k = false) (c6 : (a == b) = true) : Sx.PureP (Sx.AV.int false .i64 2) (call3 46 [.agg [.int true .u8 k, .str true n, .str true a, .str true b, .str true c, .str true d, .raw true v, .int true .i64 ph]] (Sx.G.on [false, false, false, false, false, false, true])) := by
 have e : Sx.pureP (Sx.AV.int false .i64 2) (call3 46 [.agg [.int true .u8 k, .str true n, .str true a, .str true b, .str true c, .str true d, .raw true v, .int true .i64 ph]] (Sx.G.on [false, false, false, false, false, false, true])) = ((Sx.AV.int false .i64 2) = (Sx.AV.int false .i64 2) ∧ (((((((True ∧ ((!rrow_6 k) = false)) ∧ ((!rname_1 n) = false)) ∧ ((!decide (rname_0 n = k)) = false)) ∧ ((!rnode_0 a) = false)) ∧ ((!rnode_0 b) = false)) ∧ (rrow_5 k = false)) ∧ ((a == b) = true))) := by kernel_rfl
 exact ⟨by rw [e]; exact ⟨rfl, ⟨⟨⟨⟨⟨⟨⟨trivial, c0⟩, c1⟩, c2⟩, c3⟩, c4⟩, c5⟩, c6⟩⟩⟩
theorem rchk_r13 (k : Int) (n a b c d : List UInt8) (v : Nat) (ph : Int) (c0 : (!rrow_6 k) = false) (c1 : (!rname_1 n) = false) (c2 : (!decide (rname_0 n = k)) = false) (c3 : (!rnode_0 a) = false) (c4 : (!rnode_0 b) = false) (c5 : rrow_5 k = false) (c6 : (a == b) = false) (c7 : (!rrow_5 k) = true) (c8 : (!c == []) = false) (c9 : (!d == []) = false) (c10 : (!rrow_4 k) = false) (c11 : decide ((2 : Int) < rkind_0 v) = true) : Sx.PureP (Sx.AV.int false .i64 5) (call3 46 [.agg [.int true .u8 k, .str true n, .str true a, .str true b, .str true c, .str true d, .raw true v, .int true .i64 ph]] (Sx.G.on [false, false, false, false, false, false, false, true, false, false, false, true])) := by
 have e : Sx.pureP (Sx.AV.int false .i64 5) (call3 46 [.agg [.int true .u8 k, .str true n, .str true a, .str true b, .str true c, .str true d, .raw true v, .int true .i64 ph]] (Sx.G.on [false, false, false, false, false, false, false, true, false, false, false, true])) = ((Sx.AV.int false .i64 5) = (Sx.AV.int false .i64 5) ∧ ((((((((((((True ∧ ((!rrow_6 k) = false)) ∧ ((!rname_1 n) = false)) ∧ ((!decide (rname_0 n = k)) = false)) ∧ ((!rnode_0 a) = false)) ∧ ((!rnode_0 b) = false)) ∧ (rrow_5 k = false)) ∧ ((a == b) = false)) ∧ ((!rrow_5 k) = true)) ∧ ((!c == []) = false)) ∧ ((!d == []) = false)) ∧ ((!rrow_4 k) = false)) ∧ (decide ((2 : Int) < rkind_0 v) = true))) := by kernel_rfl
 exact ⟨by rw [e]; exact ⟨rfl, ⟨⟨⟨⟨⟨⟨⟨⟨⟨⟨⟨⟨trivial, c0⟩, c1⟩, c2⟩, c3⟩, c4⟩, c5⟩, c6⟩, c7⟩, c8⟩, c9⟩, c10⟩, c11⟩⟩⟩
theorem rchk_r14 (k : Int) (n a b c d : List UInt8) (v : Nat) (ph : Int) (c0 : (!rrow_6 k) = false) (c1 : (!rname_1 n) = false) (c2 : (!decide (rname_0 n = k)) = false) (c3 : (!rnode_0 a) = false) (c4 : (!rnode_0 b) = false) (c5 : rrow_5 k = false) (c6 : (a == b) = false) (c7 : (!rrow_5 k) = true) (c8 : (!c == []) = false) (c9 : (!d == []) = false) (c10 : (!rrow_4 k) = false) (c11 : decide ((2 : Int) < rkind_0 v) = false) (c12 : rrow_3 k = true) (c13 : (!Sx.fgt (Sx.cn v) (Sx.cn (0 : Nat))) = false) : Sx.PureP (Sx.AV.int false .i64 0) (call3 46 [.agg [.int true .u8 k, .str true n, .str true a, .str true b, .str true c, .str true d, .raw true v, .int true .i64 ph]] (Sx.G.on [false, false, false, false, false, false, false, true, false, false, false, false, true, false])) := by
 have e : Sx.pureP (Sx.AV.int false .i64 0) (call3 46 [.agg [.int true .u8 k, .str true n, .str true a, .str true b, .str true c, .str true d, .raw true v, .int true .i64 ph]] (Sx.G.on [false, false, false, false, false, false, false, true, false, false, false, false, true, false])) = ((Sx.AV.int false .i64 0) = (Sx.AV.int false .i64 0) ∧ ((((((((((((((True ∧ ((!rrow_6 k) = false)) ∧ ((!rname_1 n) = false)) ∧ ((!decide (rname_0 n = k)) = false)) ∧ ((!rnode_0 a) = false)) ∧ ((!rnode_0 b) = false)) ∧ (rrow_5 k = false)) ∧ ((a == b) = false)) ∧ ((!rrow_5 k) = true)) ∧ ((!c == []) = false)) ∧ ((!d == []) = false)) ∧ ((!rrow_4 k) = false)) ∧ (decide ((2 : Int) < rkind_0 v) = false)) ∧ (rrow_3 k = true)) ∧ ((!Sx.fgt (Sx.cn v) (Sx.cn (0 : Nat))) = false))) := by kernel_rfl
 exact ⟨by rw [e]; exact ⟨rfl, ⟨⟨⟨⟨⟨⟨⟨⟨⟨⟨⟨⟨⟨⟨trivial, c0⟩, c1⟩, c2⟩, c3⟩, c4⟩, c5⟩, c6⟩, c7⟩, c8⟩, c9⟩, c10⟩, c11⟩, c12⟩, c13⟩⟩⟩
theorem rchk_r15 (k : Int) (n a b c d : List UInt8) (v : Nat) (ph : Int) (c0 : (!rrow_6 k) = false) (c1 : (!rname_1 n) = false) (c2 : (!decide (rname_0 n = k)) = false) (c3 : (!rnode_0 a) = false) (c4 : (!rnode_0 b) = false) (c5 : rrow_5 k = false) (c6 : (a == b) = false) (c7 : (!rrow_5 k) = true) (c8 : (!c == []) = false) (c9 : (!d == []) = false) (c10 : (!rrow_4 k) = false) (c11 : decide ((2 : Int) < rkind_0 v) = false) (c12 : rrow_3 k = true) (c13 : (!Sx.fgt (Sx.cn v) (Sx.cn (0 : Nat))) = true) : Sx.PureP (Sx.AV.int false .i64 2) (call3 46 [.agg [.int true .u8 k, .str true n, .str true a, .str true b, .str true c, .str true d, .raw true v, .int true .i64 ph]] (Sx.G.on [false, false, false, false, false, false, false, true, false, false, false, false, true, true])) := by
 have e : Sx.pureP (Sx.AV.int false .i64 2) (call3 46 [.agg [.int true .u8 k, .str true n, .str true a, .str true b, .str true c, .str true d, .raw true v, .int true .i64 ph]] (Sx.G.on [false, false, false, false, false, false, false, true, false, false, false, false, true, true])) = ((Sx.AV.int false .i64 2) = (Sx.AV.int false .i64 2) ∧ ((((((((((((((True ∧ ((!rrow_6 k) = false)) ∧ ((!rname_1 n) = false)) ∧ ((!decide (rname_0 n = k)) = false)) ∧ ((!rnode_0 a) = false)) ∧ ((!rnode_0 b) = false)) ∧ (rrow_5 k = false)) ∧ ((a == b) = false)) ∧ ((!rrow_5 k) = true)) ∧ ((!c == []) = false)) ∧ ((!d == []) = false)) ∧ ((!rrow_4 k) = false)) ∧ (decide ((2 : Int) < rkind_0 v) = false)) ∧ (rrow_3 k = true)) ∧ ((!Sx.fgt (Sx.cn v) (Sx.cn (0 : Nat))) = true))) := by kernel_rfl
 exact ⟨by rw [e]; exact ⟨rfl, ⟨⟨⟨⟨⟨⟨⟨⟨⟨⟨⟨⟨⟨⟨trivial, c0⟩, c1⟩, c2⟩, c3⟩, c4⟩, c5⟩, c6⟩, c7⟩, c8⟩, c9⟩, c10⟩, c11⟩, c12⟩, c13⟩⟩⟩
theorem rchk_r16 (k : Int) (n a b c d : List UInt8) (v : Nat) (ph : Int) (c0 : (!rrow_6 k) = false) (c1 : (!rname_1 n) = false) (c2 : (!decide (rname_0 n = k)) = false) (c3 : (!rnode_0 a) = false) (c4 : (!rnode_0 b) = false) (c5 : rrow_5 k = false) (c6 : (a == b) = false) (c7 : (!rrow_5 k) = true) (c8 : (!c == []) = false) (c9 : (!d == []) = false) (c10 : (!rrow_4 k) = false) (c11 : decide ((2 : Int) < rkind_0 v) = false) (c12 : rrow_3 k = false) : Sx.PureP (Sx.AV.int false .i64 0) (call3 46 [.agg [.int true .u8 k, .str true n, .str true a, .str true b, .str true c, .str true d, .raw true v, .int true .i64 ph]] (Sx.G.on [false, false, false, false, false, false, false, true, false, false, false, false, false])) := by
 have e : Sx.pureP (Sx.AV.int false .i64 0) (call3 46 [.agg [.int true .u8 k, .str true n, .str true a, .str true b, .str true c, .str true d, .raw true v, .int true .i64 ph]] (Sx.G.on [false, false, false, false, false, false, false, true, false, false, false, false, false])) = ((Sx.AV.int false .i64 0) = (Sx.AV.int false .i64 0) ∧ (((((((((((((True ∧ ((!rrow_6 k) = false)) ∧ ((!rname_1 n) = false)) ∧ ((!decide (rname_0 n = k)) = false)) ∧ ((!rnode_0 a) = false)) ∧ ((!rnode_0 b) = false)) ∧ (rrow_5 k = false)) ∧ ((a == b) = false)) ∧ ((!rrow_5 k) = true)) ∧ ((!c == []) = false)) ∧ ((!d == []) = false)) ∧ ((!rrow_4 k) = false)) ∧ (decide ((2 : Int) < rkind_0 v) = false)) ∧ (rrow_3 k = false))) := by kernel_rfl
 exact ⟨by rw [e]; exact ⟨rfl, ⟨⟨⟨⟨⟨⟨⟨⟨⟨⟨⟨⟨⟨trivial, c0⟩, c1⟩, c2⟩, c3⟩, c4⟩, c5⟩, c6⟩, c7⟩, c8⟩, c9⟩, c10⟩, c11⟩, c12⟩⟩⟩
theorem rchk_r17 (k : Int) (n a b c d : List UInt8) (v : Nat) (ph : Int) (c0 : (!rrow_6 k) = false) (c1 : (!rname_1 n) = false) (c2 : (!decide (rname_0 n = k)) = false) (c3 : (!rnode_0 a) = false) (c4 : (!rnode_0 b) = false) (c5 : rrow_5 k = false) (c6 : (a == b) = false) (c7 : (!rrow_5 k) = true) (c8 : (!c == []) = false) (c9 : (!d == []) = false) (c10 : (!rrow_4 k) = true) (c11 : (!decide (ph = (0 : Int))) = false) (c12 : decide ((2 : Int) < rkind_0 v) = true) : Sx.PureP (Sx.AV.int false .i64 5) (call3 46 [.agg [.int true .u8 k, .str true n, .str true a, .str true b, .str true c, .str true d, .raw true v, .int true .i64 ph]] (Sx.G.on [false, false, false, false, false, false, false, true, false, false, true, false, true])) := by
 have e : Sx.pureP (Sx.AV.int false .i64 5) (call3 46 [.agg [.int true .u8 k, .str true n, .str true a, .str true b, .str true c, .str true d, .raw true v, .int true .i64 ph]] (Sx.G.on [false, false, false, false, false, false, false, true, false, false, true, false, true])) = ((Sx.AV.int false .i64 5) = (Sx.AV.int false .i64 5) ∧ (((((((((((((True ∧ ((!rrow_6 k) = false)) ∧ ((!rname_1 n) = false)) ∧ ((!decide (rname_0 n = k)) = false)) ∧ ((!rnode_0 a) = false)) ∧ ((!rnode_0 b) = false)) ∧ (rrow_5 k = false)) ∧ ((a == b) = false)) ∧ ((!rrow_5 k) = true)) ∧ ((!c == []) = false)) ∧ ((!d == []) = false)) ∧ ((!rrow_4 k) = true)) ∧ ((!decide (ph = (0 : Int))) = false)) ∧ (decide ((2 : Int) < rkind_0 v) = true))) := by kernel_rfl
 exact ⟨by rw [e]; exact ⟨rfl, ⟨⟨⟨⟨⟨⟨⟨⟨⟨⟨⟨⟨⟨trivial, c0⟩, c1⟩, c2⟩, c3⟩, c4⟩, c5⟩, c6⟩, c7⟩, c8⟩, c9⟩, c10⟩, c11⟩, c12⟩⟩⟩
theorem rchk_r18 (k : Int) (n a b c d : List UInt8) (v : Nat) (ph : Int) (c0 : (!rrow_6 k) = false) (c1 : (!rname_1 n) = false) (c2 : (!decide (rname_0 n = k)) = false) (c3 : (!rnode_0 a) = false) (c4 : (!rnode_0 b) = false) (c5 : rrow_5 k = false) (c6 : (a == b) = false) (c7 : (!rrow_5 k) = true) (c8 : (!c == []) = false) (c9 : (!d == []) = false) (c10 : (!rrow_4 k) = true) (c11 : (!decide (ph = (0 : Int))) = false) (c12 : decide ((2 : Int) < rkind_0 v) = false) (c13 : rrow_3 k = true) (c14 : (!Sx.fgt (Sx.cn v) (Sx.cn (0 : Nat))) = false) : Sx.PureP (Sx.AV.int false .i64 0) (call3 46 [.agg [.int true .u8 k, .str true n, .str true a, .str true b, .str true c, .str true d, .raw true v, .int true .i64 ph]] (Sx.G.on [false, false, false, false, false, false, false, true, false, false, true, false, false, true, false])) := by
 have e : Sx.pureP (Sx.AV.int false .i64 0) (call3 46 [.agg [.int true .u8 k, .str true n, .str true a, .str true b, .str true c, .str true d, .raw true v, .int true .i64 ph]] (Sx.G.on [false, false, false, false, false, false, false, true, false, false, true, false, false, true, false])) = ((Sx.AV.int false .i64 0) = (Sx.AV.int false .i64 0) ∧ (((((((((((((((True ∧ ((!rrow_6 k) = false)) ∧ ((!rname_1 n) = false)) ∧ ((!decide (rname_0 n = k)) = false)) ∧ ((!rnode_0 a) = false)) ∧ ((!rnode_0 b) = false)) ∧ (rrow_5 k = false)) ∧ ((a == b) = false)) ∧ ((!rrow_5 k) = true)) ∧ ((!c == []) = false)) ∧ ((!d == []) = false)) ∧ ((!rrow_4 k) = true)) ∧ ((!decide (ph = (0 : Int))) = false)) ∧ (decide ((2 : Int) < rkind_0 v) = false)) ∧ (rrow_3 k = true)) ∧ ((!Sx.fgt (Sx.cn v) (Sx.cn (0 : Nat))) = false))) := by kernel_rfl
 exact ⟨by rw [e]; exact ⟨rfl, ⟨⟨⟨⟨⟨⟨⟨⟨⟨⟨⟨⟨⟨⟨⟨trivial, c0⟩, c1⟩, c2⟩, c3⟩, c4⟩, c5⟩, c6⟩, c7⟩, c8⟩, c9⟩, c10⟩, c11⟩, c12⟩, c13⟩, c14⟩⟩⟩
theorem rchk_r19 (k : Int) (n a b c d : List UInt8) (v : Nat) (ph : Int) (c0 : (!rrow_6 k) = false) (c1 : (!rname_1 n) = false) (c2 : (!decide (rname_0 n = k)) = false) (c3 : (!rnode_0 a) = false) (c4 : (!rnode_0 b) = false) (c5 : rrow_5 k = false) (c6 : (a == b) = false) (c7 : (!rrow_5 k) = true) (c8 : (!c == []) = false) (c9 : (!d == []) = false) (c10 : (!rrow_4 k) = true) (c11 : (!decide (ph = (0 : Int))) = false) (c12 : decide ((2 : Int) < rkind_0 v) = false) (c13 : rrow_3 k = true) (c14 : (!Sx.fgt (Sx.cn v) (Sx.cn (0 : Nat))) = true) : Sx.PureP (Sx.AV.int false .i64 2) (call3 46 [.agg [.int true .u8 k, .str true n, .str true a, .str true b, .str true c, .str true d, .raw true v, .int true .i64 ph]] (Sx.G.on [false, false, false, false, false, false, false, true, false, false, true, false, false, true, true])) := by
 have e : Sx.pureP (Sx.AV.int false .i64 2) (call3 46 [.agg [.int true .u8 k, .str true n, .str true a, .str true b, .str true c, .str true d, .raw true v, .int true .i64 ph]] (Sx.G.on [false, false, false, false, false, false, false, true, false, false, true, false, false, true, true])) = ((Sx.AV.int false .i64 2) = (Sx.AV.int false .i64 2) ∧ (((((((((((((((True ∧ ((!rrow_6 k) = false)) ∧ ((!rname_1 n) = false)) ∧ ((!decide (rname_0 n = k)) = false)) ∧ ((!rnode_0 a) = false)) ∧ ((!rnode_0 b) = false)) ∧ (rrow_5 k = false)) ∧ ((a == b) = false)) ∧ ((!rrow_5 k) = true)) ∧ ((!c == []) = false)) ∧ ((!d == []) = false)) ∧ ((!rrow_4 k) = true)) ∧ ((!decide (ph = (0 : Int))) = false)) ∧ (decide ((2 : Int) < rkind_0 v) = false)) ∧ (rrow_3 k = true)) ∧ ((!Sx.fgt (Sx.cn v) (Sx.cn (0 : Nat))) = true))) := by kernel_rfl
 exact ⟨by rw [e]; exact ⟨rfl, ⟨⟨⟨⟨⟨⟨⟨⟨⟨⟨⟨⟨⟨⟨⟨trivial, c0⟩, c1⟩, c2⟩, c3⟩, c4⟩, c5⟩, c6⟩, c7⟩, c8⟩, c9⟩, c10⟩, c11⟩, c12⟩, c13⟩, c14⟩⟩⟩
theorem rchk_r20 (k : Int) (n a b c d : List UInt8) (v : Nat) (ph : Int) (c0 : (!rrow_6 k) = false) (c1 : (!rname_1 n) = false) (c2 : (!decide (rname_0 n = k)) = false) (c3 : (!rnode_0 a) = false) (c4 : (!rnode_0 b) = false) (c5 : rrow_5 k = false) (c6 : (a == b) = false) (c7 : (!rrow_5 k) = true) (c8 : (!c == []) = false) (c9 : (!d == []) = false) (c10 : (!rrow_4 k) = true) (c11 : (!decide (ph = (0 : Int))) = false) (c12 : decide ((2 : Int) < rkind_0 v) = false) (c13 : rrow_3 k = false) : Sx.PureP (Sx.AV.int false .i64 0) (call3 46 [.agg [.int true .u8 k, .str true n, .str true a, .str true b, .str true c, .str true d, .raw true v, .int true .i64 ph]] (Sx.G.on [false, false, false, false, false, false, false, true, false, false, true, false, false, false])) := by
 have e : Sx.pureP (Sx.AV.int false .i64 0) (call3 46 [.agg [.int true .u8 k, .str true n, .str true a, .str true b, .str true c, .str true d, .raw true v, .int true .i64 ph]] (Sx.G.on [false, false, false, false, false, false, false, true, false, false, true, false, false, false])) = ((Sx.AV.int false .i64 0) = (Sx.AV.int false .i64 0) ∧ ((((((((((((((True ∧ ((!rrow_6 k) = false)) ∧ ((!rname_1 n) = false)) ∧ ((!decide (rname_0 n = k)) = false)) ∧ ((!rnode_0 a) = false)) ∧ ((!rnode_0 b) = false)) ∧ (rrow_5 k = false)) ∧ ((a == b) = false)) ∧ ((!rrow_5 k) = true)) ∧ ((!c == []) = false)) ∧ ((!d == []) = false)) ∧ ((!rrow_4 k) = true)) ∧ ((!decide (ph = (0 : Int))) = false)) ∧ (decide ((2 : Int) < rkind_0 v) = false)) ∧ (rrow_3 k = false))) := by kernel_rfl
 exact ⟨by rw [e]; exact ⟨rfl, ⟨⟨⟨⟨⟨⟨⟨⟨⟨⟨⟨⟨⟨⟨trivial, c0⟩, c1⟩, c2⟩, c3⟩, c4⟩, c5⟩, c6⟩, c7⟩, c8⟩, c9⟩, c10⟩, c11⟩, c12⟩, c13⟩⟩⟩
theorem rchk_r21 (k : Int) (n a b c d : List UInt8) (v : Nat) (ph : Int) (c0 : (!rrow_6 k) = false) (c1 : (!rname_1 n) = false) (c2 : (!decide (rname_0 n = k)) = false) (c3 : (!rnode_0 a) = false) (c4 : (!rnode_0 b) = false) (c5 : rrow_5 k = false) (c6 : (a == b) = false) (c7 : (!rrow_5 k) = true) (c8 : (!c == []) = false) (c9 : (!d == []) = false) (c10 : (!rrow_4 k) = true) (c11 : (!decide (ph = (0 : Int))) = true) : Sx.PureP (Sx.AV.int false .i64 2) (call3 46 [.agg [.int true .u8 k, .str true n, .str true a, .str true b, .str true c, .str true d, .raw true v, .int true .i64 ph]] (Sx.G.on [false, false, false, false, false, false, false, true, false, false, true, true])) := by
 have e : Sx.pureP (Sx.AV.int false .i64 2) (call3 46 [.agg [.int true .u8 k, .str true n, .str true a, .str true b, .str true c, .str true d, .raw true v, .int true .i64 ph]] (Sx.G.on [false, false, false, false, false, false, false, true, false, false, true, true])) = ((Sx.AV.int false .i64 2) = (Sx.AV.int false .i64 2) ∧ ((((((((((((True ∧ ((!rrow_6 k) = false)) ∧ ((!rname_1 n) = false)) ∧ ((!decide (rname_0 n = k)) = false)) ∧ ((!rnode_0 a) = false)) ∧ ((!rnode_0 b) = false)) ∧ (rrow_5 k = false)) ∧ ((a == b) = false)) ∧ ((!rrow_5 k) = true)) ∧ ((!c == []) = false)) ∧ ((!d == []) = false)) ∧ ((!rrow_4 k) = true)) ∧ ((!decide (ph = (0 : Int))) = true))) := by kernel_rfl
 exact ⟨by rw [e]; exact ⟨rfl, ⟨⟨⟨⟨⟨⟨⟨⟨⟨⟨⟨⟨trivial, c0⟩, c1⟩, c2⟩, c3⟩, c4⟩, c5⟩, c6⟩, c7⟩, c8⟩, c9⟩, c10⟩, c11⟩⟩⟩
theorem rchk_r22 (k : Int) (n a b c d : List UInt8) (v : Nat) (ph : Int) (c0 : (!rrow_6 k) = false) (c1 : (!rname_1 n) = false) (c2 : (!decide (rname_0 n = k)) = false) (c3 : (!rnode_0 a) = false) (c4 : (!rnode_0 b) = false) (c5 : rrow_5 k = false) (c6 : (a == b) = false) (c7 : (!rrow_5 k) = true) (c8 : (!c == []) = false) (c9 : (!d == []) = true) : Sx.PureP (Sx.AV.int false .i64 2) (call3 46 [.agg [.int true .u8 k, .str true n, .str true a, .str true b, .str true c, .str true d, .raw true v, .int true .i64 ph]] (Sx.G.on [false, false, false, false, false, false, false, true, false, true])) := by
 have e : Sx.pureP (Sx.AV.int false .i64 2) (call3 46 [.agg [.int true .u8 k, .str true n, .str true a, .str true b, .str true c, .str true d, .raw true v, .int true .i64 ph]] (Sx.G.on [false, false, false, false, false, false, false, true, false, true])) = ((Sx.AV.int false .i64 2) = (Sx.AV.int false .i64 2) ∧ ((((((((((True ∧ ((!rrow_6 k) = false)) ∧ ((!rname_1 n) = false)) ∧ ((!decide (rname_0 n = k)) = false)) ∧ ((!rnode_0 a) = false)) ∧ ((!rnode_0 b) = false)) ∧ (rrow_5 k = false)) ∧ ((a == b) = false)) ∧ ((!rrow_5 k) = true)) ∧ ((!c == []) = false)) ∧ ((!d == []) = true))) := by kernel_rfl
 exact ⟨by rw [e]; exact ⟨rfl, ⟨⟨⟨⟨⟨⟨⟨⟨⟨⟨trivial, c0⟩, c1⟩, c2⟩, c3⟩, c4⟩, c5⟩, c6⟩, c7⟩, c8⟩, c9⟩⟩⟩
theorem rchk_r23 (k : Int) (n a b c d : List UInt8) (v : Nat) (ph : Int) (c0 : (!rrow_6 k) = false) (c1 : (!rname_1 n) = false) (c2 : (!decide (rname_0 n = k)) = false) (c3 : (!rnode_0 a) = false) (c4 : (!rnode_0 b) = false) (c5 : rrow_5 k = false) (c6 : (a == b) = false) (c7 : (!rrow_5 k) = true) (c8 : (!c == []) = true) : Sx.PureP (Sx.AV.int false .i64 2) (call3 46 [.agg [.int true .u8 k, .str true n, .str true a, .str true b, .str true c, .str true d, .raw true v, .int true .i64 ph]] (Sx.G.on [false, false, false, false, false, false, false, true, true])) := by
 have e : Sx.pureP (Sx.AV.int false .i64 2) (call3 46 [.agg [.int true .u8 k, .str true n, .str true a, .str true b, .str true c, .str true d, .raw true v, .int true .i64 ph]] (Sx.G.on [false, false, false, false, false, false, false, true, true])) = ((Sx.AV.int false .i64 2) = (Sx.AV.int false .i64 2) ∧ (((((((((True ∧ ((!rrow_6 k) = false)) ∧ ((!rname_1 n) = false)) ∧ ((!decide (rname_0 n = k)) = false)) ∧ ((!rnode_0 a) = false)) ∧ ((!rnode_0 b) = false)) ∧ (rrow_5 k = false)) ∧ ((a == b) = false)) ∧ ((!rrow_5 k) = true)) ∧ ((!c == []) = true))) := by kernel_rfl
 exact ⟨by rw [e]; exact ⟨rfl, ⟨⟨⟨⟨⟨⟨⟨⟨⟨trivial, c0⟩, c1⟩, c2⟩, c3⟩, c4⟩, c5⟩, c6⟩, c7⟩, c8⟩⟩⟩
theorem rchk_r24 (k : Int) (n a b c d : List UInt8) (v : Nat) (ph : Int) (c0 : (!rrow_6 k) = false) (c1 : (!rname_1 n) = false) (c2 : (!decide (rname_0 n = k)) = false) (c3 : (!rnode_0 a) = false) (c4 : (!rnode_0 b) = true) : Sx.PureP (Sx.AV.int false .i64 8) (call3 46 [.agg [.int true .u8 k, .str true n, .str true a, .str true b, .str true c, .str true d, .raw true v, .int true .i64 ph]] (Sx.G.on [false, false, false, false, true])) := by
 have e : Sx.pureP (Sx.AV.int false .i64 8) (call3 46 [.agg [.int true .u8 k, .str true n, .str true a, .str true b, .str true c, .str true d, .raw true v, .int true .i64 ph]] (Sx.G.on [false, false, false, false, true])) = ((Sx.AV.int false .i64 8) = (Sx.AV.int false .i64 8) ∧ (((((True ∧ ((!rrow_6 k) = false)) ∧ ((!rname_1 n) = false)) ∧ ((!decide (rname_0 n = k)) = false)) ∧ ((!rnode_0 a) = false)) ∧ ((!rnode_0 b) = true))) := by kernel_rfl
 exact ⟨by rw [e]; exact ⟨rfl, ⟨⟨⟨⟨⟨trivial, c0⟩, c1⟩, c2⟩, c3⟩, c4⟩⟩⟩
theorem rchk_r25 (k : Int) (n a b c d : List UInt8) (v : Nat) (ph : Int) (c0 : (!rrow_6 k) = false) (c1 : (!rname_1 n) = false) (c2 : (!decide (rname_0 n = k)) = false) (c3 : (!rnode_0 a) = true) : Sx.PureP (Sx.AV.int false .i64 8) (call3 46 [.agg [.int true .u8 k, .str true n, .str true a, .str true b, .str true c, .str true d, .raw true v, .int true .i64 ph]] (Sx.G.on [false, false, false, true])) := by
 have e : Sx.pureP (Sx.AV.int false .i64 8) (call3 46 [.agg [.int true .u8 k, .str true n, .str true a, .str true b, .str true c, .str true d, .raw true v, .int true .i64 ph]] (Sx.G.on [false, false, false, true])) = ((Sx.AV.int false .i64 8) = (Sx.AV.int false .i64 8) ∧ ((((True ∧ ((!rrow_6 k) = false)) ∧ ((!rname_1 n) = false)) ∧ ((!decide (rname_0 n = k)) = false)) ∧ ((!rnode_0 a) = true))) := by kernel_rfl
 exact ⟨by rw [e]; exact ⟨rfl, ⟨⟨⟨⟨trivial, c0⟩, c1⟩, c2⟩, c3⟩⟩⟩
theorem rchk_r26 (k : Int) (n a b c d : List UInt8) (v : Nat) (ph : Int) (c0 : (!rrow_6 k) = false) (c1 : (!rname_1 n) = false) (c2 : (!decide (rname_0 n = k)) = true) : Sx.PureP (Sx.AV.int false .i64 8) (call3 46 [.agg [.int true .u8 k, .str true n, .str true a, .str true b, .str true c, .str true d, .raw true v, .int true .i64 ph]] (Sx.G.on [false, false, true])) := by
 have e : Sx.pureP (Sx.AV.int false .i64 8) (call3 46 [.agg [.int true .u8 k, .str true n, .str true a, .str true b, .str true c, .str true d, .raw true v, .int true .i64 ph]] (Sx.G.on [false, false, true])) = ((Sx.AV.int false .i64 8) = (Sx.AV.int false .i64 8) ∧ (((True ∧ ((!rrow_6 k) = false)) ∧ ((!rname_1 n) = false)) ∧ ((!decide (rname_0 n = k)) = true))) := by kernel_rfl
 exact ⟨by rw [e]; exact ⟨rfl, ⟨⟨⟨trivial, c0⟩, c1⟩, c2⟩⟩⟩
theorem rchk_r27 (k : Int) (n a b c d : List UInt8) (v : Nat) (ph : Int) (c0 : (!rrow_6 k) = false) (c1 : (!rname_1 n) = true) : Sx.PureP (Sx.AV.int false .i64 8) (call3 46 [.agg [.int true .u8 k, .str true n, .str true a, .str true b, .str true c, .str true d, .raw true v, .int true .i64 ph]] (Sx.G.on [false, true])) := by
 have e : Sx.pureP (Sx.AV.int false .i64 8) (call3 46 [.agg [.int true .u8 k, .str true n, .str true a, .str true b, .str true c, .str true d, .raw true v, .int true .i64 ph]] (Sx.G.on [false, true])) = ((Sx.AV.int false .i64 8) = (Sx.AV.int false .i64 8) ∧ ((True ∧ ((!rrow_6 k) = false)) ∧ ((!rname_1 n) = true))) := by kernel_rfl
 exact ⟨by rw [e]; exact ⟨rfl, ⟨⟨trivial, c0⟩, c1⟩⟩⟩
theorem rchk_r28 (k : Int) (n a b c d : List UInt8) (v : Nat) (ph : Int) (c0 : (!rrow_6 k) = true) : Sx.PureP (Sx.AV.int false .i64 2) (call3 46 [.agg [.int true .u8 k, .str true n, .str true a, .str true b, .str true c, .str true d, .raw true v, .int true .i64 ph]] (Sx.G.on [true])) := by
 have e : Sx.pureP (Sx.AV.int false .i64 2) (call3 46 [.agg [.int true .u8 k, .str true n, .str true a, .str true b, .str true c, .str true d, .raw true v, .int true .i64 ph]] (Sx.G.on [true])) = ((Sx.AV.int false .i64 2) = (Sx.AV.int false .i64 2) ∧ (True ∧ ((!rrow_6 k) = true))) := by kernel_rfl
 exact ⟨by rw [e]; exact ⟨rfl, ⟨trivial, c0⟩⟩⟩
noncomputable def rchk_0 (k : Int) (n a b c d : List UInt8) (v : Nat) (ph : Int) : Int := (bif rrow_6 k then (bif rname_1 n then (bif decide (rname_0 n = k) then (bif rnode_0 a then (bif rnode_0 b then (bif rrow_5 k then (bif rnode_0 c then (bif rnode_0 d then (bif a == b then ((2 : Int)) else (bif rrow_4 k then (bif decide ((2 : Int) < rkind_0 v) then ((5 : Int)) else (bif rrow_3 k then (bif Sx.fgt (Sx.cn v) (Sx.cn (0 : Nat)) then ((0 : Int)) else ((2 : Int))) else ((0 : Int)))) else (bif decide (ph = (0 : Int)) then (bif decide ((2 : Int) < rkind_0 v) then ((5 : Int)) else (bif rrow_3 k then (bif Sx.fgt (Sx.cn v) (Sx.cn (0 : Nat)) then ((0 : Int)) else ((2 : Int))) else ((0 : Int)))) else ((2 : Int))))) else ((8 : Int))) else ((8 : Int))) else (bif a == b then ((2 : Int)) else (bif c == [] then (bif d == [] then (bif rrow_4 k then (bif decide ((2 : Int) < rkind_0 v) then ((5 : Int)) else (bif rrow_3 k then (bif Sx.fgt (Sx.cn v) (Sx.cn (0 : Nat)) then ((0 : Int)) else ((2 : Int))) else ((0 : Int)))) else (bif decide (ph = (0 : Int)) then (bif decide ((2 : Int) < rkind_0 v) then ((5 : Int)) else (bif rrow_3 k then (bif Sx.fgt (Sx.cn v) (Sx.cn (0 : Nat)) then ((0 : Int)) else ((2 : Int))) else ((0 : Int)))) else ((2 : Int)))) else ((2 : Int))) else ((2 : Int))))) else ((8 : Int))) else ((8 : Int))) else ((8 : Int))) else ((8 : Int))) else ((2 : Int)))
noncomputable def rchkS : List Sx.AV → Sx.M Sx.AV
 | [.agg [.int s0 .u8 k, .str s1 n, .str s2 a, .str s3 b, .str s4 c, .str s5 d, .raw s6 v, .int s7 .i64 ph]] => Sx.M.ret (Sx.AV.int (Bool.or s0 (Bool.or s1 (Bool.or s2 (Bool.or s3 (Bool.or s4 (Bool.or s5 (Bool.or s6 s7))))))) (IntKind.i64) (rchk_0 k n a b c d v ph))
 | args => call3 46 args
theorem rchkS_ok : ∀ args v g g', rchkS args g = .done v g' → Sx.CallIs Try.prog 46 args v g g' := by
 intro args v g g' h
 unfold rchkS at h
 split at h
 ·rename_i s0 k s1 n s2 a s3 b s4 c s5 d s6 v s7 ph
  obtain ⟨rfl, rfl⟩ := Sx.ret_done h
  refine Sx.scal call3_ok fun μ cargs ha => ?_
  have ha' : Sx.Reps 0 Sx.MM.none [.agg [.int true .u8 k, .str true n, .str true a, .str true b, .str true c, .str true d, .raw true v, .int true .i64 ph]] cargs.toList := by simpa only [Sx.Reps, Sx.Rep] using ha
  cases t0 : rrow_6 k with
  | true =>
   cases t1 : rname_1 n with
   | true =>
    cases t2 : decide (rname_0 n = k) with
    | true =>
     cases t3 : rnode_0 a with
     | true =>
      cases t4 : rnode_0 b with
      | true =>
       cases t5 : rrow_5 k with
       | true =>
        cases t6 : rnode_0 c with
        | true =>
         cases t7 : rnode_0 d with
         | true =>
          cases t8 : a == b with
          | true =>
           exact ⟨_, _, _, ha', rchk_r0 k n a b c d v ph (by rw [t0]; rfl) (by rw [t1]; rfl) (by rw [t2]; rfl) (by rw [t3]; rfl) (by rw [t4]; rfl) t5 (by rw [t6]; rfl) (by rw [t7]; rfl) t8, rfl, fun cv hc => by have := hc g.nx μ; have e0 : rchk_0 k n a b c d v ph = ((2 : Int)) := (Sx.ct t0).trans ((Sx.ct t1).trans ((Sx.ct t2).trans ((Sx.ct t3).trans ((Sx.ct t4).trans ((Sx.ct t5).trans ((Sx.ct t6).trans ((Sx.ct t7).trans ((Sx.ct t8).trans (rfl))))))))); rw [e0]; simpa only [Sx.Rep, Sx.Reps, Sx.Rep_cmpB] using this⟩
          | false =>
           cases t9 : rrow_4 k with
           | true =>
            cases t10 : decide ((2 : Int) < rkind_0 v) with
            | true =>
             exact ⟨_, _, _, ha', rchk_r1 k n a b c d v ph (by rw [t0]; rfl) (by rw [t1]; rfl) (by rw [t2]; rfl) (by rw [t3]; rfl) (by rw [t4]; rfl) t5 (by rw [t6]; rfl) (by rw [t7]; rfl) t8 (by rw [t5]; rfl) (by rw [t9]; rfl) t10, rfl, fun cv hc => by have := hc g.nx μ; have e0 : rchk_0 k n a b c d v ph = ((5 : Int)) := (Sx.ct t0).trans ((Sx.ct t1).trans ((Sx.ct t2).trans ((Sx.ct t3).trans ((Sx.ct t4).trans ((Sx.ct t5).trans ((Sx.ct t6).trans ((Sx.ct t7).trans ((Sx.cf t8).trans ((Sx.ct t9).trans ((Sx.ct t10).trans (rfl))))))))))); rw [e0]; simpa only [Sx.Rep, Sx.Reps, Sx.Rep_cmpB] using this⟩
            | false =>
             cases t11 : rrow_3 k with
             | true =>
              cases t12 : Sx.fgt (Sx.cn v) (Sx.cn (0 : Nat)) with
              | true =>
               exact ⟨_, _, _, ha', rchk_r2 k n a b c d v ph (by rw [t0]; rfl) (by rw [t1]; rfl) (by rw [t2]; rfl) (by rw [t3]; rfl) (by rw [t4]; rfl) t5 (by rw [t6]; rfl) (by rw [t7]; rfl) t8 (by rw [t5]; rfl) (by rw [t9]; rfl) t10 t11 (by rw [t12]; rfl), rfl, fun cv hc => by have := hc g.nx μ; have e0 : rchk_0 k n a b c d v ph = ((0 : Int)) := (Sx.ct t0).trans ((Sx.ct t1).trans ((Sx.ct t2).trans ((Sx.ct t3).trans ((Sx.ct t4).trans ((Sx.ct t5).trans ((Sx.ct t6).trans ((Sx.ct t7).trans ((Sx.cf t8).trans ((Sx.ct t9).trans ((Sx.cf t10).trans ((Sx.ct t11).trans ((Sx.ct t12).trans (rfl))))))))))))); rw [e0]; simpa only [Sx.Rep, Sx.Reps, Sx.Rep_cmpB] using this⟩
              | false =>
               exact ⟨_, _, _, ha', rchk_r3 k n a b c d v ph (by rw [t0]; rfl) (by rw [t1]; rfl) (by rw [t2]; rfl) (by rw [t3]; rfl) (by rw [t4]; rfl) t5 (by rw [t6]; rfl) (by rw [t7]; rfl) t8 (by rw [t5]; rfl) (by rw [t9]; rfl) t10 t11 (by rw [t12]; rfl), rfl, fun cv hc => by have := hc g.nx μ; have e0 : rchk_0 k n a b c d v ph = ((2 : Int)) := (Sx.ct t0).trans ((Sx.ct t1).trans ((Sx.ct t2).trans ((Sx.ct t3).trans ((Sx.ct t4).trans ((Sx.ct t5).trans ((Sx.ct t6).trans ((Sx.ct t7).trans ((Sx.cf t8).trans ((Sx.ct t9).trans ((Sx.cf t10).trans ((Sx.ct t11).trans ((Sx.cf t12).trans (rfl))))))))))))); rw [e0]; simpa only [Sx.Rep, Sx.Reps, Sx.Rep_cmpB] using this⟩
             | false =>
              exact ⟨_, _, _, ha', rchk_r4 k n a b c d v ph (by rw [t0]; rfl) (by rw [t1]; rfl) (by rw [t2]; rfl) (by rw [t3]; rfl) (by rw [t4]; rfl) t5 (by rw [t6]; rfl) (by rw [t7]; rfl) t8 (by rw [t5]; rfl) (by rw [t9]; rfl) t10 t11, rfl, fun cv hc => by have := hc g.nx μ; have e0 : rchk_0 k n a b c d v ph = ((0 : Int)) := (Sx.ct t0).trans ((Sx.ct t1).trans ((Sx.ct t2).trans ((Sx.ct t3).trans ((Sx.ct t4).trans ((Sx.ct t5).trans ((Sx.ct t6).trans ((Sx.ct t7).trans ((Sx.cf t8).trans ((Sx.ct t9).trans ((Sx.cf t10).trans ((Sx.cf t11).trans (rfl)))))))))))); rw [e0]; simpa only [Sx.Rep, Sx.Reps, Sx.Rep_cmpB] using this⟩
           | false =>
            cases t10 : decide (ph = (0 : Int)) with
            | true =>
             cases t11 : decide ((2 : Int) < rkind_0 v) with
             | true =>
              exact ⟨_, _, _, ha', rchk_r5 k n a b c d v ph (by rw [t0]; rfl) (by rw [t1]; rfl) (by rw [t2]; rfl) (by rw [t3]; rfl) (by rw [t4]; rfl) t5 (by rw [t6]; rfl) (by rw [t7]; rfl) t8 (by rw [t5]; rfl) (by rw [t9]; rfl) (by rw [t10]; rfl) t11, rfl, fun cv hc => by have := hc g.nx μ; have e0 : rchk_0 k n a b c d v ph = ((5 : Int)) := (Sx.ct t0).trans ((Sx.ct t1).trans ((Sx.ct t2).trans ((Sx.ct t3).trans ((Sx.ct t4).trans ((Sx.ct t5).trans ((Sx.ct t6).trans ((Sx.ct t7).trans ((Sx.cf t8).trans ((Sx.cf t9).trans ((Sx.ct t10).trans ((Sx.ct t11).trans (rfl)))))))))))); rw [e0]; simpa only [Sx.Rep, Sx.Reps, Sx.Rep_cmpB] using this⟩
             | false =>
              cases t12 : rrow_3 k with
              | true =>
               cases t13 : Sx.fgt (Sx.cn v) (Sx.cn (0 : Nat)) with
               | true =>
                exact ⟨_, _, _, ha', rchk_r6 k n a b c d v ph (by rw [t0]; rfl) (by rw [t1]; rfl) (by rw [t2]; rfl) (by rw [t3]; rfl) (by rw [t4]; rfl) t5 (by rw [t6]; rfl) (by rw [t7]; rfl) t8 (by rw [t5]; rfl) (by rw [t9]; rfl) (by rw [t10]; rfl) t11 t12 (by rw [t13]; rfl), rfl, fun cv hc => by have := hc g.nx μ; have e0 : rchk_0 k n a b c d v ph = ((0 : Int)) := (Sx.ct t0).trans ((Sx.ct t1).trans ((Sx.ct t2).trans ((Sx.ct t3).trans ((Sx.ct t4).trans ((Sx.ct t5).trans ((Sx.ct t6).trans ((Sx.ct t7).trans ((Sx.cf t8).trans ((Sx.cf t9).trans ((Sx.ct t10).trans ((Sx.cf t11).trans ((Sx.ct t12).trans ((Sx.ct t13).trans (rfl)))))))))))))); rw [e0]; simpa only [Sx.Rep, Sx.Reps, Sx.Rep_cmpB] using this⟩
               | false =>
                exact ⟨_, _, _, ha', rchk_r7 k n a b c d v ph (by rw [t0]; rfl) (by rw [t1]; rfl) (by rw [t2]; rfl) (by rw [t3]; rfl) (by rw [t4]; rfl) t5 (by rw [t6]; rfl) (by rw [t7]; rfl) t8 (by rw [t5]; rfl) (by rw [t9]; rfl) (by rw [t10]; rfl) t11 t12 (by rw [t13]; rfl), rfl, fun cv hc => by have := hc g.nx μ; have e0 : rchk_0 k n a b c d v ph = ((2 : Int)) := (Sx.ct t0).trans ((Sx.ct t1).trans ((Sx.ct t2).trans ((Sx.ct t3).trans ((Sx.ct t4).trans ((Sx.ct t5).trans ((Sx.ct t6).trans ((Sx.ct t7).trans ((Sx.cf t8).trans ((Sx.cf t9).trans ((Sx.ct t10).trans ((Sx.cf t11).trans ((Sx.ct t12).trans ((Sx.cf t13).trans (rfl)))))))))))))); rw [e0]; simpa only [Sx.Rep, Sx.Reps, Sx.Rep_cmpB] using this⟩
              | false =>
               exact ⟨_, _, _, ha', rchk_r8 k n a b c d v ph (by rw [t0]; rfl) (by rw [t1]; rfl) (by rw [t2]; rfl) (by rw [t3]; rfl) (by rw [t4]; rfl) t5 (by rw [t6]; rfl) (by rw [t7]; rfl) t8 (by rw [t5]; rfl) (by rw [t9]; rfl) (by rw [t10]; rfl) t11 t12, rfl, fun cv hc => by have := hc g.nx μ; have e0 : rchk_0 k n a b c d v ph = ((0 : Int)) := (Sx.ct t0).trans ((Sx.ct t1).trans ((Sx.ct t2).trans ((Sx.ct t3).trans ((Sx.ct t4).trans ((Sx.ct t5).trans ((Sx.ct t6).trans ((Sx.ct t7).trans ((Sx.cf t8).trans ((Sx.cf t9).trans ((Sx.ct t10).trans ((Sx.cf t11).trans ((Sx.cf t12).trans (rfl))))))))))))); rw [e0]; simpa only [Sx.Rep, Sx.Reps, Sx.Rep_cmpB] using this⟩
            | false =>
             exact ⟨_, _, _, ha', rchk_r9 k n a b c d v ph (by rw [t0]; rfl) (by rw [t1]; rfl) (by rw [t2]; rfl) (by rw [t3]; rfl) (by rw [t4]; rfl) t5 (by rw [t6]; rfl) (by rw [t7]; rfl) t8 (by rw [t5]; rfl) (by rw [t9]; rfl) (by rw [t10]; rfl), rfl, fun cv hc => by have := hc g.nx μ; have e0 : rchk_0 k n a b c d v ph = ((2 : Int)) := (Sx.ct t0).trans ((Sx.ct t1).trans ((Sx.ct t2).trans ((Sx.ct t3).trans ((Sx.ct t4).trans ((Sx.ct t5).trans ((Sx.ct t6).trans ((Sx.ct t7).trans ((Sx.cf t8).trans ((Sx.cf t9).trans ((Sx.cf t10).trans (rfl))))))))))); rw [e0]; simpa only [Sx.Rep, Sx.Reps, Sx.Rep_cmpB] using this⟩
         | false =>
          exact ⟨_, _, _, ha', rchk_r10 k n a b c d v ph (by rw [t0]; rfl) (by rw [t1]; rfl) (by rw [t2]; rfl) (by rw [t3]; rfl) (by rw [t4]; rfl) t5 (by rw [t6]; rfl) (by rw [t7]; rfl), rfl, fun cv hc => by have := hc g.nx μ; have e0 : rchk_0 k n a b c d v ph = ((8 : Int)) := (Sx.ct t0).trans ((Sx.ct t1).trans ((Sx.ct t2).trans ((Sx.ct t3).trans ((Sx.ct t4).trans ((Sx.ct t5).trans ((Sx.ct t6).trans ((Sx.cf t7).trans (rfl)))))))); rw [e0]; simpa only [Sx.Rep, Sx.Reps, Sx.Rep_cmpB] using this⟩
        | false =>
         exact ⟨_, _, _, ha', rchk_r11 k n a b c d v ph (by rw [t0]; rfl) (by rw [t1]; rfl) (by rw [t2]; rfl) (by rw [t3]; rfl) (by rw [t4]; rfl) t5 (by rw [t6]; rfl), rfl, fun cv hc => by have := hc g.nx μ; have e0 : rchk_0 k n a b c d v ph = ((8 : Int)) := (Sx.ct t0).trans ((Sx.ct t1).trans ((Sx.ct t2).trans ((Sx.ct t3).trans ((Sx.ct t4).trans ((Sx.ct t5).trans ((Sx.cf t6).trans (rfl))))))); rw [e0]; simpa only [Sx.Rep, Sx.Reps, Sx.Rep_cmpB] using this⟩
       | false =>
        cases t6 : a == b with
        | true =>
         exact ⟨_, _, _, ha', rchk_r12 k n a b c d v ph (by rw [t0]; rfl) (by rw [t1]; rfl) (by rw [t2]; rfl) (by rw [t3]; rfl) (by rw [t4]; rfl) t5 t6, rfl, fun cv hc => by have := hc g.nx μ; have e0 : rchk_0 k n a b c d v ph = ((2 : Int)) := (Sx.ct t0).trans ((Sx.ct t1).trans ((Sx.ct t2).trans ((Sx.ct t3).trans ((Sx.ct t4).trans ((Sx.cf t5).trans ((Sx.ct t6).trans (rfl))))))); rw [e0]; simpa only [Sx.Rep, Sx.Reps, Sx.Rep_cmpB] using this⟩
        | false =>
         cases t7 : c == [] with
         | true =>
          cases t8 : d == [] with
          | true =>
           cases t9 : rrow_4 k with
           | true =>
            cases t10 : decide ((2 : Int) < rkind_0 v) with
            | true =>
             exact ⟨_, _, _, ha', rchk_r13 k n a b c d v ph (by rw [t0]; rfl) (by rw [t1]; rfl) (by rw [t2]; rfl) (by rw [t3]; rfl) (by rw [t4]; rfl) t5 t6 (by rw [t5]; rfl) (by rw [t7]; rfl) (by rw [t8]; rfl) (by rw [t9]; rfl) t10, rfl, fun cv hc => by have := hc g.nx μ; have e0 : rchk_0 k n a b c d v ph = ((5 : Int)) := (Sx.ct t0).trans ((Sx.ct t1).trans ((Sx.ct t2).trans ((Sx.ct t3).trans ((Sx.ct t4).trans ((Sx.cf t5).trans ((Sx.cf t6).trans ((Sx.ct t7).trans ((Sx.ct t8).trans ((Sx.ct t9).trans ((Sx.ct t10).trans (rfl))))))))))); rw [e0]; simpa only [Sx.Rep, Sx.Reps, Sx.Rep_cmpB] using this⟩
            | false =>
             cases t11 : rrow_3 k with
             | true =>
              cases t12 : Sx.fgt (Sx.cn v) (Sx.cn (0 : Nat)) with
              | true =>
               exact ⟨_, _, _, ha', rchk_r14 k n a b c d v ph (by rw [t0]; rfl) (by rw [t1]; rfl) (by rw [t2]; rfl) (by rw [t3]; rfl) (by rw [t4]; rfl) t5 t6 (by rw [t5]; rfl) (by rw [t7]; rfl) (by rw [t8]; rfl) (by rw [t9]; rfl) t10 t11 (by rw [t12]; rfl), rfl, fun cv hc => by have := hc g.nx μ; have e0 : rchk_0 k n a b c d v ph = ((0 : Int)) := (Sx.ct t0).trans ((Sx.ct t1).trans ((Sx.ct t2).trans ((Sx.ct t3).trans ((Sx.ct t4).trans ((Sx.cf t5).trans ((Sx.cf t6).trans ((Sx.ct t7).trans ((Sx.ct t8).trans ((Sx.ct t9).trans ((Sx.cf t10).trans ((Sx.ct t11).trans ((Sx.ct t12).trans (rfl))))))))))))); rw [e0]; simpa only [Sx.Rep, Sx.Reps, Sx.Rep_cmpB] using this⟩
              | false =>
               exact ⟨_, _, _, ha', rchk_r15 k n a b c d v ph (by rw [t0]; rfl) (by rw [t1]; rfl) (by rw [t2]; rfl) (by rw [t3]; rfl) (by rw [t4]; rfl) t5 t6 (by rw [t5]; rfl) (by rw [t7]; rfl) (by rw [t8]; rfl) (by rw [t9]; rfl) t10 t11 (by rw [t12]; rfl), rfl, fun cv hc => by have := hc g.nx μ; have e0 : rchk_0 k n a b c d v ph = ((2 : Int)) := (Sx.ct t0).trans ((Sx.ct t1).trans ((Sx.ct t2).trans ((Sx.ct t3).trans ((Sx.ct t4).trans ((Sx.cf t5).trans ((Sx.cf t6).trans ((Sx.ct t7).trans ((Sx.ct t8).trans ((Sx.ct t9).trans ((Sx.cf t10).trans ((Sx.ct t11).trans ((Sx.cf t12).trans (rfl))))))))))))); rw [e0]; simpa only [Sx.Rep, Sx.Reps, Sx.Rep_cmpB] using this⟩
             | false =>
              exact ⟨_, _, _, ha', rchk_r16 k n a b c d v ph (by rw [t0]; rfl) (by rw [t1]; rfl) (by rw [t2]; rfl) (by rw [t3]; rfl) (by rw [t4]; rfl) t5 t6 (by rw [t5]; rfl) (by rw [t7]; rfl) (by rw [t8]; rfl) (by rw [t9]; rfl) t10 t11, rfl, fun cv hc => by have := hc g.nx μ; have e0 : rchk_0 k n a b c d v ph = ((0 : Int)) := (Sx.ct t0).trans ((Sx.ct t1).trans ((Sx.ct t2).trans ((Sx.ct t3).trans ((Sx.ct t4).trans ((Sx.cf t5).trans ((Sx.cf t6).trans ((Sx.ct t7).trans ((Sx.ct t8).trans ((Sx.ct t9).trans ((Sx.cf t10).trans ((Sx.cf t11).trans (rfl)))))))))))); rw [e0]; simpa only [Sx.Rep, Sx.Reps, Sx.Rep_cmpB] using this⟩
           | false =>
            cases t10 : decide (ph = (0 : Int)) with
            | true =>
             cases t11 : decide ((2 : Int) < rkind_0 v) with
             | true =>
              exact ⟨_, _, _, ha', rchk_r17 k n a b c d v ph (by rw [t0]; rfl) (by rw [t1]; rfl) (by rw [t2]; rfl) (by rw [t3]; rfl) (by rw [t4]; rfl) t5 t6 (by rw [t5]; rfl) (by rw [t7]; rfl) (by rw [t8]; rfl) (by rw [t9]; rfl) (by rw [t10]; rfl) t11, rfl, fun cv hc => by have := hc g.nx μ; have e0 : rchk_0 k n a b c d v ph = ((5 : Int)) := (Sx.ct t0).trans ((Sx.ct t1).trans ((Sx.ct t2).trans ((Sx.ct t3).trans ((Sx.ct t4).trans ((Sx.cf t5).trans ((Sx.cf t6).trans ((Sx.ct t7).trans ((Sx.ct t8).trans ((Sx.cf t9).trans ((Sx.ct t10).trans ((Sx.ct t11).trans (rfl)))))))))))); rw [e0]; simpa only [Sx.Rep, Sx.Reps, Sx.Rep_cmpB] using this⟩
             | false =>
              cases t12 : rrow_3 k with
              | true =>
               cases t13 : Sx.fgt (Sx.cn v) (Sx.cn (0 : Nat)) with
               | true =>
                exact ⟨_, _, _, ha', rchk_r18 k n a b c d v ph (by rw [t0]; rfl) (by rw [t1]; rfl) (by rw [t2]; rfl) (by rw [t3]; rfl) (by rw [t4]; rfl) t5 t6 (by rw [t5]; rfl) (by rw [t7]; rfl) (by rw [t8]; rfl) (by rw [t9]; rfl) (by rw [t10]; rfl) t11 t12 (by rw [t13]; rfl), rfl, fun cv hc => by have := hc g.nx μ; have e0 : rchk_0 k n a b c d v ph = ((0 : Int)) := (Sx.ct t0).trans ((Sx.ct t1).trans ((Sx.ct t2).trans ((Sx.ct t3).trans ((Sx.ct t4).trans ((Sx.cf t5).trans ((Sx.cf t6).trans ((Sx.ct t7).trans ((Sx.ct t8).trans ((Sx.cf t9).trans ((Sx.ct t10).trans ((Sx.cf t11).trans ((Sx.ct t12).trans ((Sx.ct t13).trans (rfl)))))))))))))); rw [e0]; simpa only [Sx.Rep, Sx.Reps, Sx.Rep_cmpB] using this⟩
               | false =>
                exact ⟨_, _, _, ha', rchk_r19 k n a b c d v ph (by rw [t0]; rfl) (by rw [t1]; rfl) (by rw [t2]; rfl) (by rw [t3]; rfl) (by rw [t4]; rfl) t5 t6 (by rw [t5]; rfl) (by rw [t7]; rfl) (by rw [t8]; rfl) (by rw [t9]; rfl) (by rw [t10]; rfl) t11 t12 (by rw [t13]; rfl), rfl, fun cv hc => by have := hc g.nx μ; have e0 : rchk_0 k n a b c d v ph = ((2 : Int)) := (Sx.ct t0).trans ((Sx.ct t1).trans ((Sx.ct t2).trans ((Sx.ct t3).trans ((Sx.ct t4).trans ((Sx.cf t5).trans ((Sx.cf t6).trans ((Sx.ct t7).trans ((Sx.ct t8).trans ((Sx.cf t9).trans ((Sx.ct t10).trans ((Sx.cf t11).trans ((Sx.ct t12).trans ((Sx.cf t13).trans (rfl)))))))))))))); rw [e0]; simpa only [Sx.Rep, Sx.Reps, Sx.Rep_cmpB] using this⟩
              | false =>
               exact ⟨_, _, _, ha', rchk_r20 k n a b c d v ph (by rw [t0]; rfl) (by rw [t1]; rfl) (by rw [t2]; rfl) (by rw [t3]; rfl) (by rw [t4]; rfl) t5 t6 (by rw [t5]; rfl) (by rw [t7]; rfl) (by rw [t8]; rfl) (by rw [t9]; rfl) (by rw [t10]; rfl) t11 t12, rfl, fun cv hc => by have := hc g.nx μ; have e0 : rchk_0 k n a b c d v ph = ((0 : Int)) := (Sx.ct t0).trans ((Sx.ct t1).trans ((Sx.ct t2).trans ((Sx.ct t3).trans ((Sx.ct t4).trans ((Sx.cf t5).trans ((Sx.cf t6).trans ((Sx.ct t7).trans ((Sx.ct t8).trans ((Sx.cf t9).trans ((Sx.ct t10).trans ((Sx.cf t11).trans ((Sx.cf t12).trans (rfl))))))))))))); rw [e0]; simpa only [Sx.Rep, Sx.Reps, Sx.Rep_cmpB] using this⟩
            | false =>
             exact ⟨_, _, _, ha', rchk_r21 k n a b c d v ph (by rw [t0]; rfl) (by rw [t1]; rfl) (by rw [t2]; rfl) (by rw [t3]; rfl) (by rw [t4]; rfl) t5 t6 (by rw [t5]; rfl) (by rw [t7]; rfl) (by rw [t8]; rfl) (by rw [t9]; rfl) (by rw [t10]; rfl), rfl, fun cv hc => by have := hc g.nx μ; have e0 : rchk_0 k n a b c d v ph = ((2 : Int)) := (Sx.ct t0).trans ((Sx.ct t1).trans ((Sx.ct t2).trans ((Sx.ct t3).trans ((Sx.ct t4).trans ((Sx.cf t5).trans ((Sx.cf t6).trans ((Sx.ct t7).trans ((Sx.ct t8).trans ((Sx.cf t9).trans ((Sx.cf t10).trans (rfl))))))))))); rw [e0]; simpa only [Sx.Rep, Sx.Reps, Sx.Rep_cmpB] using this⟩
          | false =>
           exact ⟨_, _, _, ha', rchk_r22 k n a b c d v ph (by rw [t0]; rfl) (by rw [t1]; rfl) (by rw [t2]; rfl) (by rw [t3]; rfl) (by rw [t4]; rfl) t5 t6 (by rw [t5]; rfl) (by rw [t7]; rfl) (by rw [t8]; rfl), rfl, fun cv hc => by have := hc g.nx μ; have e0 : rchk_0 k n a b c d v ph = ((2 : Int)) := (Sx.ct t0).trans ((Sx.ct t1).trans ((Sx.ct t2).trans ((Sx.ct t3).trans ((Sx.ct t4).trans ((Sx.cf t5).trans ((Sx.cf t6).trans ((Sx.ct t7).trans ((Sx.cf t8).trans (rfl))))))))); rw [e0]; simpa only [Sx.Rep, Sx.Reps, Sx.Rep_cmpB] using this⟩
         | false =>
          exact ⟨_, _, _, ha', rchk_r23 k n a b c d v ph (by rw [t0]; rfl) (by rw [t1]; rfl) (by rw [t2]; rfl) (by rw [t3]; rfl) (by rw [t4]; rfl) t5 t6 (by rw [t5]; rfl) (by rw [t7]; rfl), rfl, fun cv hc => by have := hc g.nx μ; have e0 : rchk_0 k n a b c d v ph = ((2 : Int)) := (Sx.ct t0).trans ((Sx.ct t1).trans ((Sx.ct t2).trans ((Sx.ct t3).trans ((Sx.ct t4).trans ((Sx.cf t5).trans ((Sx.cf t6).trans ((Sx.cf t7).trans (rfl)))))))); rw [e0]; simpa only [Sx.Rep, Sx.Reps, Sx.Rep_cmpB] using this⟩
      | false =>
       exact ⟨_, _, _, ha', rchk_r24 k n a b c d v ph (by rw [t0]; rfl) (by rw [t1]; rfl) (by rw [t2]; rfl) (by rw [t3]; rfl) (by rw [t4]; rfl), rfl, fun cv hc => by have := hc g.nx μ; have e0 : rchk_0 k n a b c d v ph = ((8 : Int)) := (Sx.ct t0).trans ((Sx.ct t1).trans ((Sx.ct t2).trans ((Sx.ct t3).trans ((Sx.cf t4).trans (rfl))))); rw [e0]; simpa only [Sx.Rep, Sx.Reps, Sx.Rep_cmpB] using this⟩
     | false =>
      exact ⟨_, _, _, ha', rchk_r25 k n a b c d v ph (by rw [t0]; rfl) (by rw [t1]; rfl) (by rw [t2]; rfl) (by rw [t3]; rfl), rfl, fun cv hc => by have := hc g.nx μ; have e0 : rchk_0 k n a b c d v ph = ((8 : Int)) := (Sx.ct t0).trans ((Sx.ct t1).trans ((Sx.ct t2).trans ((Sx.cf t3).trans (rfl)))); rw [e0]; simpa only [Sx.Rep, Sx.Reps, Sx.Rep_cmpB] using this⟩
    | false =>
     exact ⟨_, _, _, ha', rchk_r26 k n a b c d v ph (by rw [t0]; rfl) (by rw [t1]; rfl) (by rw [t2]; rfl), rfl, fun cv hc => by have := hc g.nx μ; have e0 : rchk_0 k n a b c d v ph = ((8 : Int)) := (Sx.ct t0).trans ((Sx.ct t1).trans ((Sx.cf t2).trans (rfl))); rw [e0]; simpa only [Sx.Rep, Sx.Reps, Sx.Rep_cmpB] using this⟩
   | false =>
    exact ⟨_, _, _, ha', rchk_r27 k n a b c d v ph (by rw [t0]; rfl) (by rw [t1]; rfl), rfl, fun cv hc => by have := hc g.nx μ; have e0 : rchk_0 k n a b c d v ph = ((8 : Int)) := (Sx.ct t0).trans ((Sx.cf t1).trans (rfl)); rw [e0]; simpa only [Sx.Rep, Sx.Reps, Sx.Rep_cmpB] using this⟩
  | false =>
   exact ⟨_, _, _, ha', rchk_r28 k n a b c d v ph (by rw [t0]; rfl), rfl, fun cv hc => by have := hc g.nx μ; have e0 : rchk_0 k n a b c d v ph = ((2 : Int)) := (Sx.cf t0).trans (rfl); rw [e0]; simpa only [Sx.Rep, Sx.Reps, Sx.Rep_cmpB] using this⟩
 ·exact call3_ok _ _ _ _ _ h
theorem rchkS_tch : ∀ args, Sx.Tch (rchkS args) := by
 intro args
 unfold rchkS
 split
 ·exact Sx.Tch.ret _
 ·exact call3_tch _ _
noncomputable def gamE : Sx.Known := fun f => bif Nat.beq f 8 then some Sx.ofBits else (bif Nat.beq f 14 then some Sx.toBits else (bif Nat.beq f 50 then some smallS else (bif Nat.beq f 62 then some bytesS else (bif Nat.beq f 42 then some kindS else (bif Nat.beq f 59 then some rkindS else (bif Nat.beq f 39 then some rowOfS else (bif Nat.beq f 56 then some rrowS else (bif Nat.beq f 51 then some ofS else (bif Nat.beq f 63 then some rofS else (bif Nat.beq f 40 then some nameS else (bif Nat.beq f 57 then some rnameS else (bif Nat.beq f 41 then some nodeS else (bif Nat.beq f 58 then some rnodeS else (bif Nat.beq f 29 then some chkS else (bif Nat.beq f 46 then some rchkS else (none))))))))))))))))
theorem gamE_ok : Sx.KnownOk Try.prog gamE := by
 intro f s h
 unfold gamE at h
 cases h1 : Nat.beq f 8 with
 | true =>
  rw [h1] at h
  cases h
  cases Nat.eq_of_beq_eq_true h1
  exact (Sx.ofBits_is Try.prog).callIs Try.func8 (by kernel_rfl) (by kernel_rfl) (by kernel_rfl) (by kernel_rfl)
 | false =>
  rw [h1, cond_false] at h
  clear h1
  cases h1 : Nat.beq f 14 with
  | true =>
   rw [h1] at h
   cases h
   cases Nat.eq_of_beq_eq_true h1
   exact (Sx.toBits_is Try.prog).callIs Try.func14 (by kernel_rfl) (by kernel_rfl) (by kernel_rfl) (by kernel_rfl)
  | false =>
   rw [h1, cond_false] at h
   clear h1
   cases h1 : Nat.beq f 50 with
   | true =>
    rw [h1] at h
    cases h
    cases Nat.eq_of_beq_eq_true h1
    exact smallS_ok
   | false =>
    rw [h1, cond_false] at h
    clear h1
    cases h1 : Nat.beq f 62 with
    | true =>
     rw [h1] at h
     cases h
     cases Nat.eq_of_beq_eq_true h1
     exact bytesS_ok
    | false =>
     rw [h1, cond_false] at h
     clear h1
     cases h1 : Nat.beq f 42 with
     | true =>
      rw [h1] at h
      cases h
      cases Nat.eq_of_beq_eq_true h1
      exact kindS_ok
     | false =>
      rw [h1, cond_false] at h
      clear h1
      cases h1 : Nat.beq f 59 with
      | true =>
       rw [h1] at h
       cases h
       cases Nat.eq_of_beq_eq_true h1
       exact rkindS_ok
      | false =>
       rw [h1, cond_false] at h
       clear h1
       cases h1 : Nat.beq f 39 with
       | true =>
        rw [h1] at h
        cases h
        cases Nat.eq_of_beq_eq_true h1
        exact rowOfS_ok
       | false =>
        rw [h1, cond_false] at h
        clear h1
        cases h1 : Nat.beq f 56 with
        | true =>
         rw [h1] at h
         cases h
         cases Nat.eq_of_beq_eq_true h1
         exact rrowS_ok
        | false =>
         rw [h1, cond_false] at h
         clear h1
         cases h1 : Nat.beq f 51 with
         | true =>
          rw [h1] at h
          cases h
          cases Nat.eq_of_beq_eq_true h1
          exact ofS_ok
         | false =>
          rw [h1, cond_false] at h
          clear h1
          cases h1 : Nat.beq f 63 with
          | true =>
           rw [h1] at h
           cases h
           cases Nat.eq_of_beq_eq_true h1
           exact rofS_ok
          | false =>
           rw [h1, cond_false] at h
           clear h1
           cases h1 : Nat.beq f 40 with
           | true =>
            rw [h1] at h
            cases h
            cases Nat.eq_of_beq_eq_true h1
            exact nameS_ok
           | false =>
            rw [h1, cond_false] at h
            clear h1
            cases h1 : Nat.beq f 57 with
            | true =>
             rw [h1] at h
             cases h
             cases Nat.eq_of_beq_eq_true h1
             exact rnameS_ok
            | false =>
             rw [h1, cond_false] at h
             clear h1
             cases h1 : Nat.beq f 41 with
             | true =>
              rw [h1] at h
              cases h
              cases Nat.eq_of_beq_eq_true h1
              exact nodeS_ok
             | false =>
              rw [h1, cond_false] at h
              clear h1
              cases h1 : Nat.beq f 58 with
              | true =>
               rw [h1] at h
               cases h
               cases Nat.eq_of_beq_eq_true h1
               exact rnodeS_ok
              | false =>
               rw [h1, cond_false] at h
               clear h1
               cases h1 : Nat.beq f 29 with
               | true =>
                rw [h1] at h
                cases h
                cases Nat.eq_of_beq_eq_true h1
                exact chkS_ok
               | false =>
                rw [h1, cond_false] at h
                clear h1
                cases h1 : Nat.beq f 46 with
                | true =>
                 rw [h1] at h
                 cases h
                 cases Nat.eq_of_beq_eq_true h1
                 exact rchkS_ok
                | false =>
                 rw [h1, cond_false] at h
                 clear h1
                 cases h
theorem gamE_tch : Sx.KnownT gamE := by
 intro f s h
 unfold gamE at h
 cases h1 : Nat.beq f 8 with
 | true => rw [h1] at h; cases h; exact Sx.Tch.ofBits
 | false =>
  rw [h1, cond_false] at h
  clear h1
  cases h1 : Nat.beq f 14 with
  | true => rw [h1] at h; cases h; exact Sx.Tch.toBits
  | false =>
   rw [h1, cond_false] at h
   clear h1
   cases h1 : Nat.beq f 50 with
   | true => rw [h1] at h; cases h; exact smallS_tch
   | false =>
    rw [h1, cond_false] at h
    clear h1
    cases h1 : Nat.beq f 62 with
    | true => rw [h1] at h; cases h; exact bytesS_tch
    | false =>
     rw [h1, cond_false] at h
     clear h1
     cases h1 : Nat.beq f 42 with
     | true => rw [h1] at h; cases h; exact kindS_tch
     | false =>
      rw [h1, cond_false] at h
      clear h1
      cases h1 : Nat.beq f 59 with
      | true => rw [h1] at h; cases h; exact rkindS_tch
      | false =>
       rw [h1, cond_false] at h
       clear h1
       cases h1 : Nat.beq f 39 with
       | true => rw [h1] at h; cases h; exact rowOfS_tch
       | false =>
        rw [h1, cond_false] at h
        clear h1
        cases h1 : Nat.beq f 56 with
        | true => rw [h1] at h; cases h; exact rrowS_tch
        | false =>
         rw [h1, cond_false] at h
         clear h1
         cases h1 : Nat.beq f 51 with
         | true => rw [h1] at h; cases h; exact ofS_tch
         | false =>
          rw [h1, cond_false] at h
          clear h1
          cases h1 : Nat.beq f 63 with
          | true => rw [h1] at h; cases h; exact rofS_tch
          | false =>
           rw [h1, cond_false] at h
           clear h1
           cases h1 : Nat.beq f 40 with
           | true => rw [h1] at h; cases h; exact nameS_tch
           | false =>
            rw [h1, cond_false] at h
            clear h1
            cases h1 : Nat.beq f 57 with
            | true => rw [h1] at h; cases h; exact rnameS_tch
            | false =>
             rw [h1, cond_false] at h
             clear h1
             cases h1 : Nat.beq f 41 with
             | true => rw [h1] at h; cases h; exact nodeS_tch
             | false =>
              rw [h1, cond_false] at h
              clear h1
              cases h1 : Nat.beq f 58 with
              | true => rw [h1] at h; cases h; exact rnodeS_tch
              | false =>
               rw [h1, cond_false] at h
               clear h1
               cases h1 : Nat.beq f 29 with
               | true => rw [h1] at h; cases h; exact chkS_tch
               | false =>
                rw [h1, cond_false] at h
                clear h1
                cases h1 : Nat.beq f 46 with
                | true => rw [h1] at h; cases h; exact rchkS_tch
                | false =>
                 rw [h1, cond_false] at h
                 clear h1
                 cases h
noncomputable def callE : Sx.Calls' := Sx.runN Try.prog gamE (Sx.regionC Try.prog) 1000 50
theorem callE_ok : Sx.CallOk Try.prog callE := Sx.engineC gamE_ok gamE_tch (by kernel_rfl) (by kernel_rfl) 1000 50
theorem callE_tch : Sx.CallT callE := Sx.runA_tch gamE_tch (fun _ _ _ h => by cases h) (fun call hc n l fr => Sx.regionC_tch hc n l fr) 50
theorem lives_run : Sx.pureP (.bool true) (callE 13 [] (Sx.G.on [])) = (Sx.AV.bool true = Sx.AV.bool true ∧ True) := by kernel_rfl
noncomputable def livesS : List Sx.AV → Sx.M Sx.AV
 | [] => Sx.M.ret (.bool true)
 | args => callE 13 args
theorem livesS_ok : ∀ args v g g', livesS args g = .done v g' → Sx.CallIs Try.prog 13 args v g g' := by
 intro args v g g' h
 unfold livesS at h
 split at h
 ·obtain ⟨rfl, rfl⟩ := Sx.ret_done h
  refine Sx.scal callE_ok fun μ cargs ha => ?_
  have ha' : Sx.Reps 0 Sx.MM.none [] cargs.toList := by simpa only [Sx.Reps] using ha
  exact ⟨[], [], _, ha', ⟨by rw [lives_run]; exact ⟨rfl, trivial⟩⟩, rfl, fun c hc => by have := hc g.nx μ; simpa only [Sx.Rep] using this⟩
 ·exact callE_ok _ _ _ _ _ h
theorem livesS_tch : ∀ args, Sx.Tch (livesS args) := by
 intro args
 unfold livesS
 split
 ·exact Sx.Tch.ret _
 ·exact callE_tch _ _
theorem of_0_eq (c : Int) : of_0 c = rof_0 c := by unfold of_0 rof_0; rfl
theorem of_1_eq (c : Int) : of_1 c = rof_1 c := by unfold of_1 rof_1; rfl
theorem row_2_eq (k : Int) : rowOf_2 k = rrow_3 k := by unfold rowOf_2 rrow_3; simp only [show ∀ a : Int, decide (a = k) = decide (k = a) from fun a => decide_eq_decide.2 ⟨Eq.symm, Eq.symm⟩]
theorem row_3_eq (k : Int) : rowOf_3 k = rrow_5 k := by unfold rowOf_3 rrow_5; simp only [show ∀ a : Int, decide (a = k) = decide (k = a) from fun a => decide_eq_decide.2 ⟨Eq.symm, Eq.symm⟩]
theorem row_4_eq (k : Int) : rowOf_4 k = rrow_4 k := by unfold rowOf_4 rrow_4; simp only [show ∀ a : Int, decide (a = k) = decide (k = a) from fun a => decide_eq_decide.2 ⟨Eq.symm, Eq.symm⟩]
theorem row_5_eq (k : Int) : rowOf_5 k = rrow_6 k := by unfold rowOf_5 rrow_6; simp only [show ∀ a : Int, decide (a = k) = decide (k = a) from fun a => decide_eq_decide.2 ⟨Eq.symm, Eq.symm⟩]
theorem name_0_eq (l : List UInt8) : name_0 l = rname_0 l := by unfold name_0 rname_0; rw [of_0_eq]
theorem name_1_eq (l : List UInt8) : name_1 l = rname_1 l := by unfold name_1 rname_1; rw [of_1_eq]
theorem node_0_eq (l : List UInt8) : node_0 l = rnode_0 l := by
 unfold node_0 rnode_0
 have e : decide ((0 : Int) < (l.length : Int)) = decide ((1 : Int) ≤ (l.length : Int)) := decide_eq_decide.2 (by omega)
 rw [e]
theorem rkind_eq {n : Nat} (h : n < 18446744073709551616) : rkind_0 n = Sx.kindDef n := by
 unfold rkind_0 Sx.kindDef
 rw [Sx.kE_is h, Sx.kR_is h]
 simp only [Bool.cond_decide]
 have e : Int.tmod (n : Int) 9223372036854775808 = ((n % 9223372036854775808 : Nat) : Int) := by rw [Int.tmod_eq_emod_of_nonneg (by omega)]; omega
 rw [e]
 repeat' split
 all_goals omega
theorem kind_fin {v : Nat} (h : v < 18446744073709551616) (hk : decide ((2 : Int) < Sx.kindDef v) = false) : Sx.isnan v = false := by
 cases hn : Sx.isnan v with
 | false => rfl
 | true => rw [Sx.kind_nan h hn] at hk; simp at hk
theorem fgt_not {v : Nat} (h : v < 18446744073709551616) (hn : Sx.isnan v = false) : Sx.fgt (Sx.cn v) (Sx.cn 0) = !Sx.fle (Sx.cn v) (Sx.cn 0) := by
 have e := Sx.order_rk (x := v) (y := 0) h (by omega) hn (by decide)
 unfold Sx.fgt Sx.fle
 rw [Sx.forder_cn, e]
 cases compare (Sx.rk v) (Sx.rk 0) <;> rfl
theorem chk_eq (k : Int) (n a b c d : List UInt8) (v : Nat) (hv : v < 18446744073709551616) (ph : Int) : chk_0 k n a b c d v ph = rchk_0 k n a b c d v ph := by
 unfold chk_0 rchk_0
 simp only [row_2_eq, row_3_eq, row_4_eq, row_5_eq, name_0_eq, name_1_eq, node_0_eq, rkind_eq hv]
 cases hk : decide ((2 : Int) < Sx.kindDef v) with
 | true => simp only [cond_true]
 | false =>
  rw [fgt_not hv (kind_fin hv hk)]
  simp only [Bool.cond_not]
noncomputable def rchk2S : List Sx.AV → Sx.M Sx.AV
 | [.agg [.int s0 .u8 k, .str s1 n, .str s2 a, .str s3 b, .str s4 c, .str s5 d, .raw s6 v, .int s7 .i64 ph]] => (Sx.M.req (v < 18446744073709551616)).andThen fun _ => Sx.M.ret (Sx.AV.int (Bool.or s0 (Bool.or s1 (Bool.or s2 (Bool.or s3 (Bool.or s4 (Bool.or s5 (Bool.or s6 s7))))))) .i64 (chk_0 k n a b c d v ph))
 | args => callE 46 args
theorem rchk2S_ok : ∀ args v g g', rchk2S args g = .done v g' → Sx.CallIs Try.prog 46 args v g g' := by
 intro args v g g' h
 unfold rchk2S at h
 split at h
 ·rename_i s0 k s1 n s2 a s3 b s4 c s5 d s6 v s7 ph
  obtain ⟨_, g1, a1, h1⟩ := Sx.done_of h
  obtain ⟨rfl, rfl⟩ := Sx.ret_done h1
  have kq := Sx.req_done a1
  have hS := rchkS_ok [.agg [.int s0 .u8 k, .str s1 n, .str s2 a, .str s3 b, .str s4 c, .str s5 d, .raw s6 v, .int s7 .i64 ph]] (Sx.AV.int (Bool.or s0 (Bool.or s1 (Bool.or s2 (Bool.or s3 (Bool.or s4 (Bool.or s5 (Bool.or s6 s7))))))) .i64 (rchk_0 k n a b c d v ph)) g g rfl
  refine ⟨fun hc => (kq.2.2 hc).1, fun hc μ w cargs hg ha => ?_⟩
  have hp := kq.2.2 hc
  refine (hS.2 hp.1 μ w cargs hg ha).mono fun cv w' hA => ?_
  rw [← chk_eq _ _ _ _ _ _ _ hp.2] at hA
  exact hA.keepR kq
 ·exact callE_ok _ _ _ _ _ h
theorem rchk2S_tch : ∀ args, Sx.Tch (rchk2S args) := by
 intro args
 unfold rchk2S
 split
 ·exact (Sx.Tch.req _).andThen fun _ => Sx.Tch.ret _
 ·exact callE_tch _ _
noncomputable def gamF : Sx.Known := fun f => bif Nat.beq f 8 then some Sx.ofBits else (bif Nat.beq f 14 then some Sx.toBits else (bif Nat.beq f 50 then some smallS else (bif Nat.beq f 62 then some bytesS else (bif Nat.beq f 42 then some kindS else (bif Nat.beq f 59 then some rkindS else (bif Nat.beq f 39 then some rowOfS else (bif Nat.beq f 56 then some rrowS else (bif Nat.beq f 51 then some ofS else (bif Nat.beq f 63 then some rofS else (bif Nat.beq f 40 then some nameS else (bif Nat.beq f 57 then some rnameS else (bif Nat.beq f 41 then some nodeS else (bif Nat.beq f 58 then some rnodeS else (bif Nat.beq f 29 then some chkS else (bif Nat.beq f 13 then some livesS else (bif Nat.beq f 46 then some rchk2S else (none)))))))))))))))))
theorem gamF_ok : Sx.KnownOk Try.prog gamF := by
 intro f s h
 unfold gamF at h
 cases h1 : Nat.beq f 8 with
 | true =>
  rw [h1] at h
  cases h
  cases Nat.eq_of_beq_eq_true h1
  exact (Sx.ofBits_is Try.prog).callIs Try.func8 (by kernel_rfl) (by kernel_rfl) (by kernel_rfl) (by kernel_rfl)
 | false =>
  rw [h1, cond_false] at h
  clear h1
  cases h1 : Nat.beq f 14 with
  | true =>
   rw [h1] at h
   cases h
   cases Nat.eq_of_beq_eq_true h1
   exact (Sx.toBits_is Try.prog).callIs Try.func14 (by kernel_rfl) (by kernel_rfl) (by kernel_rfl) (by kernel_rfl)
  | false =>
   rw [h1, cond_false] at h
   clear h1
   cases h1 : Nat.beq f 50 with
   | true =>
    rw [h1] at h
    cases h
    cases Nat.eq_of_beq_eq_true h1
    exact smallS_ok
   | false =>
    rw [h1, cond_false] at h
    clear h1
    cases h1 : Nat.beq f 62 with
    | true =>
     rw [h1] at h
     cases h
     cases Nat.eq_of_beq_eq_true h1
     exact bytesS_ok
    | false =>
     rw [h1, cond_false] at h
     clear h1
     cases h1 : Nat.beq f 42 with
     | true =>
      rw [h1] at h
      cases h
      cases Nat.eq_of_beq_eq_true h1
      exact kindS_ok
     | false =>
      rw [h1, cond_false] at h
      clear h1
      cases h1 : Nat.beq f 59 with
      | true =>
       rw [h1] at h
       cases h
       cases Nat.eq_of_beq_eq_true h1
       exact rkindS_ok
      | false =>
       rw [h1, cond_false] at h
       clear h1
       cases h1 : Nat.beq f 39 with
       | true =>
        rw [h1] at h
        cases h
        cases Nat.eq_of_beq_eq_true h1
        exact rowOfS_ok
       | false =>
        rw [h1, cond_false] at h
        clear h1
        cases h1 : Nat.beq f 56 with
        | true =>
         rw [h1] at h
         cases h
         cases Nat.eq_of_beq_eq_true h1
         exact rrowS_ok
        | false =>
         rw [h1, cond_false] at h
         clear h1
         cases h1 : Nat.beq f 51 with
         | true =>
          rw [h1] at h
          cases h
          cases Nat.eq_of_beq_eq_true h1
          exact ofS_ok
         | false =>
          rw [h1, cond_false] at h
          clear h1
          cases h1 : Nat.beq f 63 with
          | true =>
           rw [h1] at h
           cases h
           cases Nat.eq_of_beq_eq_true h1
           exact rofS_ok
          | false =>
           rw [h1, cond_false] at h
           clear h1
           cases h1 : Nat.beq f 40 with
           | true =>
            rw [h1] at h
            cases h
            cases Nat.eq_of_beq_eq_true h1
            exact nameS_ok
           | false =>
            rw [h1, cond_false] at h
            clear h1
            cases h1 : Nat.beq f 57 with
            | true =>
             rw [h1] at h
             cases h
             cases Nat.eq_of_beq_eq_true h1
             exact rnameS_ok
            | false =>
             rw [h1, cond_false] at h
             clear h1
             cases h1 : Nat.beq f 41 with
             | true =>
              rw [h1] at h
              cases h
              cases Nat.eq_of_beq_eq_true h1
              exact nodeS_ok
             | false =>
              rw [h1, cond_false] at h
              clear h1
              cases h1 : Nat.beq f 58 with
              | true =>
               rw [h1] at h
               cases h
               cases Nat.eq_of_beq_eq_true h1
               exact rnodeS_ok
              | false =>
               rw [h1, cond_false] at h
               clear h1
               cases h1 : Nat.beq f 29 with
               | true =>
                rw [h1] at h
                cases h
                cases Nat.eq_of_beq_eq_true h1
                exact chkS_ok
               | false =>
                rw [h1, cond_false] at h
                clear h1
                cases h1 : Nat.beq f 13 with
                | true =>
                 rw [h1] at h
                 cases h
                 cases Nat.eq_of_beq_eq_true h1
                 exact livesS_ok
                | false =>
                 rw [h1, cond_false] at h
                 clear h1
                 cases h1 : Nat.beq f 46 with
                 | true =>
                  rw [h1] at h
                  cases h
                  cases Nat.eq_of_beq_eq_true h1
                  exact rchk2S_ok
                 | false =>
                  rw [h1, cond_false] at h
                  clear h1
                  cases h


end Go.Proofs.Ytmlcakchmkdggaa
