/- SourcePhasors: a part: summaries of functions that the statement reaches, printed by program, checked by the kernel. -/
import Derived.ProofKit
import Derived.OpenShut
import Derived.KernelRfl
import Derived.SizedLaws
import Derived.Test.YtdagokpedjfepaaProg
import Derived.Test.YtdagokpedjfepaaSourcePhasorsPA
namespace Go.Proofs.Ytdagokpedjfepaa
open Go.ChangeShapes Go.WideShapes Go.ChangeAt Go.RowKit
set_option linter.unusedVariables false
set_option linter.unusedSimpArgs false

theorem of_r6 (k : Int) (c0 : decide ((82 : Int) = k) = false) (c1 : decide ((76 : Int) = k) = false) (c2 : decide ((67 : Int) = k) = false) (c3 : decide ((73 : Int) = k) = false) (c4 : decide ((86 : Int) = k) = false) (c5 : decide ((71 : Int) = k) = false) (c6 : decide ((69 : Int) = k) = true) : Sx.PureP (Sx.AV.tup [Sx.AV.int false IntKind.u8 (IntKind.wrap IntKind.u8 (IntKind.wrap IntKind.u8 (IntKind.wrap IntKind.u8 (IntKind.wrap IntKind.u8 (IntKind.wrap IntKind.u8 (IntKind.wrap IntKind.u8 ((1 : Int) + (1 : Int)) + (1 : Int)) + (1 : Int)) + (1 : Int)) + (1 : Int)) + (1 : Int))), Sx.AV.bool true]) (call1 82 [.int true .u8 k] (Sx.G.on [false, false, false, false, false, false, true])) := by
 have e : Sx.pureP (Sx.AV.tup [Sx.AV.int false IntKind.u8 (IntKind.wrap IntKind.u8 (IntKind.wrap IntKind.u8 (IntKind.wrap IntKind.u8 (IntKind.wrap IntKind.u8 (IntKind.wrap IntKind.u8 (IntKind.wrap IntKind.u8 ((1 : Int) + (1 : Int)) + (1 : Int)) + (1 : Int)) + (1 : Int)) + (1 : Int)) + (1 : Int))), Sx.AV.bool true]) (call1 82 [.int true .u8 k] (Sx.G.on [false, false, false, false, false, false, true])) = ((Sx.AV.tup [Sx.AV.int false IntKind.u8 (IntKind.wrap IntKind.u8 (IntKind.wrap IntKind.u8 (IntKind.wrap IntKind.u8 (IntKind.wrap IntKind.u8 (IntKind.wrap IntKind.u8 (IntKind.wrap IntKind.u8 ((1 : Int) + (1 : Int)) + (1 : Int)) + (1 : Int)) + (1 : Int)) + (1 : Int)) + (1 : Int))), Sx.AV.bool true]) = (Sx.AV.tup [Sx.AV.int false IntKind.u8 (IntKind.wrap IntKind.u8 (IntKind.wrap IntKind.u8 (IntKind.wrap IntKind.u8 (IntKind.wrap IntKind.u8 (IntKind.wrap IntKind.u8 (IntKind.wrap IntKind.u8 ((1 : Int) + (1 : Int)) + (1 : Int)) + (1 : Int)) + (1 : Int)) + (1 : Int)) + (1 : Int))), Sx.AV.bool true]) ∧ (((((((True ∧ (decide ((82 : Int) = k) = false)) ∧ (decide ((76 : Int) = k) = false)) ∧ (decide ((67 : Int) = k) = false)) ∧ (decide ((73 : Int) = k) = false)) ∧ (decide ((86 : Int) = k) = false)) ∧ (decide ((71 : Int) = k) = false)) ∧ (decide ((69 : Int) = k) = true))) := by kernel_rfl
 exact ⟨by rw [e]; exact ⟨rfl, ⟨⟨⟨⟨⟨⟨⟨trivial, c0⟩, c1⟩, c2⟩, c3⟩, c4⟩, c5⟩, c6⟩⟩⟩
theorem of_r7 (k : Int) (c0 : decide ((82 : Int) = k) = false) (c1 : decide ((76 : Int) = k) = false) (c2 : decide ((67 : Int) = k) = false) (c3 : decide ((73 : Int) = k) = false) (c4 : decide ((86 : Int) = k) = false) (c5 : decide ((71 : Int) = k) = false) (c6 : decide ((69 : Int) = k) = false) (c7 : decide ((80 : Int) = k) = true) : Sx.PureP (Sx.AV.tup [Sx.AV.int false IntKind.u8 (IntKind.wrap IntKind.u8 (IntKind.wrap IntKind.u8 (IntKind.wrap IntKind.u8 (IntKind.wrap IntKind.u8 (IntKind.wrap IntKind.u8 (IntKind.wrap IntKind.u8 (IntKind.wrap IntKind.u8 ((1 : Int) + (1 : Int)) + (1 : Int)) + (1 : Int)) + (1 : Int)) + (1 : Int)) + (1 : Int)) + (1 : Int))), Sx.AV.bool true]) (call1 82 [.int true .u8 k] (Sx.G.on [false, false, false, false, false, false, false, true])) := by
 have e : Sx.pureP (Sx.AV.tup [Sx.AV.int false IntKind.u8 (IntKind.wrap IntKind.u8 (IntKind.wrap IntKind.u8 (IntKind.wrap IntKind.u8 (IntKind.wrap IntKind.u8 (IntKind.wrap IntKind.u8 (IntKind.wrap IntKind.u8 (IntKind.wrap IntKind.u8 ((1 : Int) + (1 : Int)) + (1 : Int)) + (1 : Int)) + (1 : Int)) + (1 : Int)) + (1 : Int)) + (1 : Int))), Sx.AV.bool true]) (call1 82 [.int true .u8 k] (Sx.G.on [false, false, false, false, false, false, false, true])) = ((Sx.AV.tup [Sx.AV.int false IntKind.u8 (IntKind.wrap IntKind.u8 (IntKind.wrap IntKind.u8 (IntKind.wrap IntKind.u8 (IntKind.wrap IntKind.u8 (IntKind.wrap IntKind.u8 (IntKind.wrap IntKind.u8 (IntKind.wrap IntKind.u8 ((1 : Int) + (1 : Int)) + (1 : Int)) + (1 : Int)) + (1 : Int)) + (1 : Int)) + (1 : Int)) + (1 : Int))), Sx.AV.bool true]) = (Sx.AV.tup [Sx.AV.int false IntKind.u8 (IntKind.wrap IntKind.u8 (IntKind.wrap IntKind.u8 (IntKind.wrap IntKind.u8 (IntKind.wrap IntKind.u8 (IntKind.wrap IntKind.u8 (IntKind.wrap IntKind.u8 (IntKind.wrap IntKind.u8 ((1 : Int) + (1 : Int)) + (1 : Int)) + (1 : Int)) + (1 : Int)) + (1 : Int)) + (1 : Int)) + (1 : Int))), Sx.AV.bool true]) ∧ ((((((((True ∧ (decide ((82 : Int) = k) = false)) ∧ (decide ((76 : Int) = k) = false)) ∧ (decide ((67 : Int) = k) = false)) ∧ (decide ((73 : Int) = k) = false)) ∧ (decide ((86 : Int) = k) = false)) ∧ (decide ((71 : Int) = k) = false)) ∧ (decide ((69 : Int) = k) = false)) ∧ (decide ((80 : Int) = k) = true))) := by kernel_rfl
 exact ⟨by rw [e]; exact ⟨rfl, ⟨⟨⟨⟨⟨⟨⟨⟨trivial, c0⟩, c1⟩, c2⟩, c3⟩, c4⟩, c5⟩, c6⟩, c7⟩⟩⟩
theorem of_r8 (k : Int) (c0 : decide ((82 : Int) = k) = false) (c1 : decide ((76 : Int) = k) = false) (c2 : decide ((67 : Int) = k) = false) (c3 : decide ((73 : Int) = k) = false) (c4 : decide ((86 : Int) = k) = false) (c5 : decide ((71 : Int) = k) = false) (c6 : decide ((69 : Int) = k) = false) (c7 : decide ((80 : Int) = k) = false) : Sx.PureP (Sx.AV.tup [Sx.AV.int false IntKind.u8 (0 : Int), Sx.AV.bool false]) (call1 82 [.int true .u8 k] (Sx.G.on [false, false, false, false, false, false, false, false])) := by
 have e : Sx.pureP (Sx.AV.tup [Sx.AV.int false IntKind.u8 (0 : Int), Sx.AV.bool false]) (call1 82 [.int true .u8 k] (Sx.G.on [false, false, false, false, false, false, false, false])) = ((Sx.AV.tup [Sx.AV.int false IntKind.u8 (0 : Int), Sx.AV.bool false]) = (Sx.AV.tup [Sx.AV.int false IntKind.u8 (0 : Int), Sx.AV.bool false]) ∧ ((((((((True ∧ (decide ((82 : Int) = k) = false)) ∧ (decide ((76 : Int) = k) = false)) ∧ (decide ((67 : Int) = k) = false)) ∧ (decide ((73 : Int) = k) = false)) ∧ (decide ((86 : Int) = k) = false)) ∧ (decide ((71 : Int) = k) = false)) ∧ (decide ((69 : Int) = k) = false)) ∧ (decide ((80 : Int) = k) = false))) := by kernel_rfl
 exact ⟨by rw [e]; exact ⟨rfl, ⟨⟨⟨⟨⟨⟨⟨⟨trivial, c0⟩, c1⟩, c2⟩, c3⟩, c4⟩, c5⟩, c6⟩, c7⟩⟩⟩
noncomputable def of_0 (k : Int) : Int := (bif decide ((82 : Int) = k) then ((1 : Int)) else (bif decide ((76 : Int) = k) then (IntKind.wrap IntKind.u8 ((1 : Int) + (1 : Int))) else (bif decide ((67 : Int) = k) then (IntKind.wrap IntKind.u8 (IntKind.wrap IntKind.u8 ((1 : Int) + (1 : Int)) + (1 : Int))) else (bif decide ((73 : Int) = k) then (IntKind.wrap IntKind.u8 (IntKind.wrap IntKind.u8 (IntKind.wrap IntKind.u8 ((1 : Int) + (1 : Int)) + (1 : Int)) + (1 : Int))) else (bif decide ((86 : Int) = k) then (IntKind.wrap IntKind.u8 (IntKind.wrap IntKind.u8 (IntKind.wrap IntKind.u8 (IntKind.wrap IntKind.u8 ((1 : Int) + (1 : Int)) + (1 : Int)) + (1 : Int)) + (1 : Int))) else (bif decide ((71 : Int) = k) then (IntKind.wrap IntKind.u8 (IntKind.wrap IntKind.u8 (IntKind.wrap IntKind.u8 (IntKind.wrap IntKind.u8 (IntKind.wrap IntKind.u8 ((1 : Int) + (1 : Int)) + (1 : Int)) + (1 : Int)) + (1 : Int)) + (1 : Int))) else (bif decide ((69 : Int) = k) then (IntKind.wrap IntKind.u8 (IntKind.wrap IntKind.u8 (IntKind.wrap IntKind.u8 (IntKind.wrap IntKind.u8 (IntKind.wrap IntKind.u8 (IntKind.wrap IntKind.u8 ((1 : Int) + (1 : Int)) + (1 : Int)) + (1 : Int)) + (1 : Int)) + (1 : Int)) + (1 : Int))) else (bif decide ((80 : Int) = k) then (IntKind.wrap IntKind.u8 (IntKind.wrap IntKind.u8 (IntKind.wrap IntKind.u8 (IntKind.wrap IntKind.u8 (IntKind.wrap IntKind.u8 (IntKind.wrap IntKind.u8 (IntKind.wrap IntKind.u8 ((1 : Int) + (1 : Int)) + (1 : Int)) + (1 : Int)) + (1 : Int)) + (1 : Int)) + (1 : Int)) + (1 : Int))) else ((0 : Int))))))))))
noncomputable def of_1 (k : Int) : Bool := (bif decide ((82 : Int) = k) then (true) else (bif decide ((76 : Int) = k) then (true) else (bif decide ((67 : Int) = k) then (true) else (bif decide ((73 : Int) = k) then (true) else (bif decide ((86 : Int) = k) then (true) else (bif decide ((71 : Int) = k) then (true) else (bif decide ((69 : Int) = k) then (true) else (bif decide ((80 : Int) = k) then (true) else (false)))))))))
noncomputable def ofS : List Sx.AV → Sx.M Sx.AV
 | [.int s0 .u8 k] => Sx.M.ret (Sx.AV.tup [Sx.AV.int s0 (IntKind.u8) (of_0 k), Sx.cmpB s0 (of_1 k)])
 | args => call1 82 args
theorem ofS_ok : ∀ args v g g', ofS args g = .done v g' → Sx.CallIs Try.prog 82 args v g g' := by
 intro args v g g' h
 unfold ofS at h
 split at h
 ·rename_i s0 k
  obtain ⟨rfl, rfl⟩ := Sx.ret_done h
  refine Sx.scal call1_ok fun μ cargs ha => ?_
  have ha' : Sx.Reps 0 Sx.MM.none [.int true .u8 k] cargs.toList := by simpa only [Sx.Reps, Sx.Rep] using ha
  cases t0 : decide ((82 : Int) = k) with
  | true =>
   exact ⟨_, _, _, ha', of_r0 k t0, rfl, fun cv hc => by have := hc g.nx μ; have e0 : of_0 k = ((1 : Int)) := (Sx.ct t0).trans (rfl); have e1 : of_1 k = (true) := (Sx.ct t0).trans (rfl); rw [e0, e1]; simpa only [Sx.Rep, Sx.Reps, Sx.Rep_cmpB] using this⟩
  | false =>
   cases t1 : decide ((76 : Int) = k) with
   | true =>
    exact ⟨_, _, _, ha', of_r1 k t0 t1, rfl, fun cv hc => by have := hc g.nx μ; have e0 : of_0 k = (IntKind.wrap IntKind.u8 ((1 : Int) + (1 : Int))) := (Sx.cf t0).trans ((Sx.ct t1).trans (rfl)); have e1 : of_1 k = (true) := (Sx.cf t0).trans ((Sx.ct t1).trans (rfl)); rw [e0, e1]; simpa only [Sx.Rep, Sx.Reps, Sx.Rep_cmpB] using this⟩
   | false =>
    cases t2 : decide ((67 : Int) = k) with
    | true =>
     exact ⟨_, _, _, ha', of_r2 k t0 t1 t2, rfl, fun cv hc => by have := hc g.nx μ; have e0 : of_0 k = (IntKind.wrap IntKind.u8 (IntKind.wrap IntKind.u8 ((1 : Int) + (1 : Int)) + (1 : Int))) := (Sx.cf t0).trans ((Sx.cf t1).trans ((Sx.ct t2).trans (rfl))); have e1 : of_1 k = (true) := (Sx.cf t0).trans ((Sx.cf t1).trans ((Sx.ct t2).trans (rfl))); rw [e0, e1]; simpa only [Sx.Rep, Sx.Reps, Sx.Rep_cmpB] using this⟩
    | false =>
     cases t3 : decide ((73 : Int) = k) with
     | true =>
      exact ⟨_, _, _, ha', of_r3 k t0 t1 t2 t3, rfl, fun cv hc => by have := hc g.nx μ; have e0 : of_0 k = (IntKind.wrap IntKind.u8 (IntKind.wrap IntKind.u8 (IntKind.wrap IntKind.u8 ((1 : Int) + (1 : Int)) + (1 : Int)) + (1 : Int))) := (Sx.cf t0).trans ((Sx.cf t1).trans ((Sx.cf t2).trans ((Sx.ct t3).trans (rfl)))); have e1 : of_1 k = (true) := (Sx.cf t0).trans ((Sx.cf t1).trans ((Sx.cf t2).trans ((Sx.ct t3).trans (rfl)))); rw [e0, e1]; simpa only [Sx.Rep, Sx.Reps, Sx.Rep_cmpB] using this⟩
     | false =>
      cases t4 : decide ((86 : Int) = k) with
      | true =>
       exact ⟨_, _, _, ha', of_r4 k t0 t1 t2 t3 t4, rfl, fun cv hc => by have := hc g.nx μ; have e0 : of_0 k = (IntKind.wrap IntKind.u8 (IntKind.wrap IntKind.u8 (IntKind.wrap IntKind.u8 (IntKind.wrap IntKind.u8 ((1 : Int) + (1 : Int)) + (1 : Int)) + (1 : Int)) + (1 : Int))) := (Sx.cf t0).trans ((Sx.cf t1).trans ((Sx.cf t2).trans ((Sx.cf t3).trans ((Sx.ct t4).trans (rfl))))); have e1 : of_1 k = (true) := (Sx.cf t0).trans ((Sx.cf t1).trans ((Sx.cf t2).trans ((Sx.cf t3).trans ((Sx.ct t4).trans (rfl))))); rw [e0, e1]; simpa only [Sx.Rep, Sx.Reps, Sx.Rep_cmpB] using this⟩
      | false =>
       cases t5 : decide ((71 : Int) = k) with
       | true =>
        exact ⟨_, _, _, ha', of_r5 k t0 t1 t2 t3 t4 t5, rfl, fun cv hc => by have := hc g.nx μ; have e0 : of_0 k = (IntKind.wrap IntKind.u8 (IntKind.wrap IntKind.u8 (IntKind.wrap IntKind.u8 (IntKind.wrap IntKind.u8 (IntKind.wrap IntKind.u8 ((1 : Int) + (1 : Int)) + (1 : Int)) + (1 : Int)) + (1 : Int)) + (1 : Int))) := (Sx.cf t0).trans ((Sx.cf t1).trans ((Sx.cf t2).trans ((Sx.cf t3).trans ((Sx.cf t4).trans ((Sx.ct t5).trans (rfl)))))); have e1 : of_1 k = (true) := (Sx.cf t0).trans ((Sx.cf t1).trans ((Sx.cf t2).trans ((Sx.cf t3).trans ((Sx.cf t4).trans ((Sx.ct t5).trans (rfl)))))); rw [e0, e1]; simpa only [Sx.Rep, Sx.Reps, Sx.Rep_cmpB] using this⟩
       | false =>
        cases t6 : decide ((69 : Int) = k) with
        | true =>
         exact ⟨_, _, _, ha', of_r6 k t0 t1 t2 t3 t4 t5 t6, rfl, fun cv hc => by have := hc g.nx μ; have e0 : of_0 k = (IntKind.wrap IntKind.u8 (IntKind.wrap IntKind.u8 (IntKind.wrap IntKind.u8 (IntKind.wrap IntKind.u8 (IntKind.wrap IntKind.u8 (IntKind.wrap IntKind.u8 ((1 : Int) + (1 : Int)) + (1 : Int)) + (1 : Int)) + (1 : Int)) + (1 : Int)) + (1 : Int))) := (Sx.cf t0).trans ((Sx.cf t1).trans ((Sx.cf t2).trans ((Sx.cf t3).trans ((Sx.cf t4).trans ((Sx.cf t5).trans ((Sx.ct t6).trans (rfl))))))); have e1 : of_1 k = (true) := (Sx.cf t0).trans ((Sx.cf t1).trans ((Sx.cf t2).trans ((Sx.cf t3).trans ((Sx.cf t4).trans ((Sx.cf t5).trans ((Sx.ct t6).trans (rfl))))))); rw [e0, e1]; simpa only [Sx.Rep, Sx.Reps, Sx.Rep_cmpB] using this⟩
        | false =>
         cases t7 : decide ((80 : Int) = k) with
         | true =>
          exact ⟨_, _, _, ha', of_r7 k t0 t1 t2 t3 t4 t5 t6 t7, rfl, fun cv hc => by have := hc g.nx μ; have e0 : of_0 k = (IntKind.wrap IntKind.u8 (IntKind.wrap IntKind.u8 (IntKind.wrap IntKind.u8 (IntKind.wrap IntKind.u8 (IntKind.wrap IntKind.u8 (IntKind.wrap IntKind.u8 (IntKind.wrap IntKind.u8 ((1 : Int) + (1 : Int)) + (1 : Int)) + (1 : Int)) + (1 : Int)) + (1 : Int)) + (1 : Int)) + (1 : Int))) := (Sx.cf t0).trans ((Sx.cf t1).trans ((Sx.cf t2).trans ((Sx.cf t3).trans ((Sx.cf t4).trans ((Sx.cf t5).trans ((Sx.cf t6).trans ((Sx.ct t7).trans (rfl)))))))); have e1 : of_1 k = (true) := (Sx.cf t0).trans ((Sx.cf t1).trans ((Sx.cf t2).trans ((Sx.cf t3).trans ((Sx.cf t4).trans ((Sx.cf t5).trans ((Sx.cf t6).trans ((Sx.ct t7).trans (rfl)))))))); rw [e0, e1]; simpa only [Sx.Rep, Sx.Reps, Sx.Rep_cmpB] using this⟩
         | false =>
          exact ⟨_, _, _, ha', of_r8 k t0 t1 t2 t3 t4 t5 t6 t7, rfl, fun cv hc => by have := hc g.nx μ; have e0 : of_0 k = ((0 : Int)) := (Sx.cf t0).trans ((Sx.cf t1).trans ((Sx.cf t2).trans ((Sx.cf t3).trans ((Sx.cf t4).trans ((Sx.cf t5).trans ((Sx.cf t6).trans ((Sx.cf t7).trans (rfl)))))))); have e1 : of_1 k = (false) := (Sx.cf t0).trans ((Sx.cf t1).trans ((Sx.cf t2).trans ((Sx.cf t3).trans ((Sx.cf t4).trans ((Sx.cf t5).trans ((Sx.cf t6).trans ((Sx.cf t7).trans (rfl)))))))); rw [e0, e1]; simpa only [Sx.Rep, Sx.Reps, Sx.Rep_cmpB] using this⟩
 ·exact call1_ok _ _ _ _ _ h
theorem ofS_tch : ∀ args, Sx.Tch (ofS args) := by
 intro args
 unfold ofS
 split
 ·exact Sx.Tch.ret _
 ·exact call1_tch _ _
theorem rof_r0 (k : Int) (c0 : decide ((82 : Int) = k) = true) : Sx.PureP (Sx.AV.tup [Sx.AV.int false IntKind.u8 (1 : Int), Sx.AV.bool true]) (call1 86 [.int true .u8 k] (Sx.G.on [true])) := by
 have e : Sx.pureP (Sx.AV.tup [Sx.AV.int false IntKind.u8 (1 : Int), Sx.AV.bool true]) (call1 86 [.int true .u8 k] (Sx.G.on [true])) = ((Sx.AV.tup [Sx.AV.int false IntKind.u8 (1 : Int), Sx.AV.bool true]) = (Sx.AV.tup [Sx.AV.int false IntKind.u8 (1 : Int), Sx.AV.bool true]) ∧ (True ∧ (decide ((82 : Int) = k) = true))) := by kernel_rfl
 exact ⟨by rw [e]; exact ⟨rfl, ⟨trivial, c0⟩⟩⟩
theorem rof_r1 (k : Int) (c0 : decide ((82 : Int) = k) = false) (c1 : decide ((76 : Int) = k) = true) : Sx.PureP (Sx.AV.tup [Sx.AV.int false IntKind.u8 (2 : Int), Sx.AV.bool true]) (call1 86 [.int true .u8 k] (Sx.G.on [false, true])) := by
 have e : Sx.pureP (Sx.AV.tup [Sx.AV.int false IntKind.u8 (2 : Int), Sx.AV.bool true]) (call1 86 [.int true .u8 k] (Sx.G.on [false, true])) = ((Sx.AV.tup [Sx.AV.int false IntKind.u8 (2 : Int), Sx.AV.bool true]) = (Sx.AV.tup [Sx.AV.int false IntKind.u8 (2 : Int), Sx.AV.bool true]) ∧ ((True ∧ (decide ((82 : Int) = k) = false)) ∧ (decide ((76 : Int) = k) = true))) := by kernel_rfl
 exact ⟨by rw [e]; exact ⟨rfl, ⟨⟨trivial, c0⟩, c1⟩⟩⟩
theorem rof_r2 (k : Int) (c0 : decide ((82 : Int) = k) = false) (c1 : decide ((76 : Int) = k) = false) (c2 : decide ((67 : Int) = k) = true) : Sx.PureP (Sx.AV.tup [Sx.AV.int false IntKind.u8 (3 : Int), Sx.AV.bool true]) (call1 86 [.int true .u8 k] (Sx.G.on [false, false, true])) := by
 have e : Sx.pureP (Sx.AV.tup [Sx.AV.int false IntKind.u8 (3 : Int), Sx.AV.bool true]) (call1 86 [.int true .u8 k] (Sx.G.on [false, false, true])) = ((Sx.AV.tup [Sx.AV.int false IntKind.u8 (3 : Int), Sx.AV.bool true]) = (Sx.AV.tup [Sx.AV.int false IntKind.u8 (3 : Int), Sx.AV.bool true]) ∧ (((True ∧ (decide ((82 : Int) = k) = false)) ∧ (decide ((76 : Int) = k) = false)) ∧ (decide ((67 : Int) = k) = true))) := by kernel_rfl
 exact ⟨by rw [e]; exact ⟨rfl, ⟨⟨⟨trivial, c0⟩, c1⟩, c2⟩⟩⟩
theorem rof_r3 (k : Int) (c0 : decide ((82 : Int) = k) = false) (c1 : decide ((76 : Int) = k) = false) (c2 : decide ((67 : Int) = k) = false) (c3 : decide ((73 : Int) = k) = true) : Sx.PureP (Sx.AV.tup [Sx.AV.int false IntKind.u8 (4 : Int), Sx.AV.bool true]) (call1 86 [.int true .u8 k] (Sx.G.on [false, false, false, true])) := by
 have e : Sx.pureP (Sx.AV.tup [Sx.AV.int false IntKind.u8 (4 : Int), Sx.AV.bool true]) (call1 86 [.int true .u8 k] (Sx.G.on [false, false, false, true])) = ((Sx.AV.tup [Sx.AV.int false IntKind.u8 (4 : Int), Sx.AV.bool true]) = (Sx.AV.tup [Sx.AV.int false IntKind.u8 (4 : Int), Sx.AV.bool true]) ∧ ((((True ∧ (decide ((82 : Int) = k) = false)) ∧ (decide ((76 : Int) = k) = false)) ∧ (decide ((67 : Int) = k) = false)) ∧ (decide ((73 : Int) = k) = true))) := by kernel_rfl
 exact ⟨by rw [e]; exact ⟨rfl, ⟨⟨⟨⟨trivial, c0⟩, c1⟩, c2⟩, c3⟩⟩⟩
theorem rof_r4 (k : Int) (c0 : decide ((82 : Int) = k) = false) (c1 : decide ((76 : Int) = k) = false) (c2 : decide ((67 : Int) = k) = false) (c3 : decide ((73 : Int) = k) = false) (c4 : decide ((86 : Int) = k) = true) : Sx.PureP (Sx.AV.tup [Sx.AV.int false IntKind.u8 (5 : Int), Sx.AV.bool true]) (call1 86 [.int true .u8 k] (Sx.G.on [false, false, false, false, true])) := by
 have e : Sx.pureP (Sx.AV.tup [Sx.AV.int false IntKind.u8 (5 : Int), Sx.AV.bool true]) (call1 86 [.int true .u8 k] (Sx.G.on [false, false, false, false, true])) = ((Sx.AV.tup [Sx.AV.int false IntKind.u8 (5 : Int), Sx.AV.bool true]) = (Sx.AV.tup [Sx.AV.int false IntKind.u8 (5 : Int), Sx.AV.bool true]) ∧ (((((True ∧ (decide ((82 : Int) = k) = false)) ∧ (decide ((76 : Int) = k) = false)) ∧ (decide ((67 : Int) = k) = false)) ∧ (decide ((73 : Int) = k) = false)) ∧ (decide ((86 : Int) = k) = true))) := by kernel_rfl
 exact ⟨by rw [e]; exact ⟨rfl, ⟨⟨⟨⟨⟨trivial, c0⟩, c1⟩, c2⟩, c3⟩, c4⟩⟩⟩
theorem rof_r5 (k : Int) (c0 : decide ((82 : Int) = k) = false) (c1 : decide ((76 : Int) = k) = false) (c2 : decide ((67 : Int) = k) = false) (c3 : decide ((73 : Int) = k) = false) (c4 : decide ((86 : Int) = k) = false) (c5 : decide ((71 : Int) = k) = true) : Sx.PureP (Sx.AV.tup [Sx.AV.int false IntKind.u8 (6 : Int), Sx.AV.bool true]) (call1 86 [.int true .u8 k] (Sx.G.on [false, false, false, false, false, true])) := by
 have e : Sx.pureP (Sx.AV.tup [Sx.AV.int false IntKind.u8 (6 : Int), Sx.AV.bool true]) (call1 86 [.int true .u8 k] (Sx.G.on [false, false, false, false, false, true])) = ((Sx.AV.tup [Sx.AV.int false IntKind.u8 (6 : Int), Sx.AV.bool true]) = (Sx.AV.tup [Sx.AV.int false IntKind.u8 (6 : Int), Sx.AV.bool true]) ∧ ((((((True ∧ (decide ((82 : Int) = k) = false)) ∧ (decide ((76 : Int) = k) = false)) ∧ (decide ((67 : Int) = k) = false)) ∧ (decide ((73 : Int) = k) = false)) ∧ (decide ((86 : Int) = k) = false)) ∧ (decide ((71 : Int) = k) = true))) := by kernel_rfl
 exact ⟨by rw [e]; exact ⟨rfl, ⟨⟨⟨⟨⟨⟨trivial, c0⟩, c1⟩, c2⟩, c3⟩, c4⟩, c5⟩⟩⟩
theorem rof_r6 (k : Int) (c0 : decide ((82 : Int) = k) = false) (c1 : decide ((76 : Int) = k) = false) (c2 : decide ((67 : Int) = k) = false) (c3 : decide ((73 : Int) = k) = false) (c4 : decide ((86 : Int) = k) = false) (c5 : decide ((71 : Int) = k) = false) (c6 : decide ((69 : Int) = k) = true) : Sx.PureP (Sx.AV.tup [Sx.AV.int false IntKind.u8 (7 : Int), Sx.AV.bool true]) (call1 86 [.int true .u8 k] (Sx.G.on [false, false, false, false, false, false, true])) := by
 have e : Sx.pureP (Sx.AV.tup [Sx.AV.int false IntKind.u8 (7 : Int), Sx.AV.bool true]) (call1 86 [.int true .u8 k] (Sx.G.on [false, false, false, false, false, false, true])) = ((Sx.AV.tup [Sx.AV.int false IntKind.u8 (7 : Int), Sx.AV.bool true]) = (Sx.AV.tup [Sx.AV.int false IntKind.u8 (7 : Int), Sx.AV.bool true]) ∧ (((((((True ∧ (decide ((82 : Int) = k) = false)) ∧ (decide ((76 : Int) = k) = false)) ∧ (decide ((67 : Int) = k) = false)) ∧ (decide ((73 : Int) = k) = false)) ∧ (decide ((86 : Int) = k) = false)) ∧ (decide ((71 : Int) = k) = false)) ∧ (decide ((69 : Int) = k) = true))) := by kernel_rfl
 exact ⟨by rw [e]; exact ⟨rfl, ⟨⟨⟨⟨⟨⟨⟨trivial, c0⟩, c1⟩, c2⟩, c3⟩, c4⟩, c5⟩, c6⟩⟩⟩
theorem rof_r7 (k : Int) (c0 : decide ((82 : Int) = k) = false) (c1 : decide ((76 : Int) = k) = false) (c2 : decide ((67 : Int) = k) = false) (c3 : decide ((73 : Int) = k) = false) (c4 : decide ((86 : Int) = k) = false) (c5 : decide ((71 : Int) = k) = false) (c6 : decide ((69 : Int) = k) = false) (c7 : decide ((80 : Int) = k) = true) : Sx.PureP (Sx.AV.tup [Sx.AV.int false IntKind.u8 (8 : Int), Sx.AV.bool true]) (call1 86 [.int true .u8 k] (Sx.G.on [false, false, false, false, false, false, false, true])) := by
 have e : Sx.pureP (Sx.AV.tup [Sx.AV.int false IntKind.u8 (8 : Int), Sx.AV.bool true]) (call1 86 [.int true .u8 k] (Sx.G.on [false, false, false, false, false, false, false, true])) = ((Sx.AV.tup [Sx.AV.int false IntKind.u8 (8 : Int), Sx.AV.bool true]) = (Sx.AV.tup [Sx.AV.int false IntKind.u8 (8 : Int), Sx.AV.bool true]) ∧ ((((((((True ∧ (decide ((82 : Int) = k) = false)) ∧ (decide ((76 : Int) = k) = false)) ∧ (decide ((67 : Int) = k) = false)) ∧ (decide ((73 : Int) = k) = false)) ∧ (decide ((86 : Int) = k) = false)) ∧ (decide ((71 : Int) = k) = false)) ∧ (decide ((69 : Int) = k) = false)) ∧ (decide ((80 : Int) = k) = true))) := by kernel_rfl
 exact ⟨by rw [e]; exact ⟨rfl, ⟨⟨⟨⟨⟨⟨⟨⟨trivial, c0⟩, c1⟩, c2⟩, c3⟩, c4⟩, c5⟩, c6⟩, c7⟩⟩⟩
theorem rof_r8 (k : Int) (c0 : decide ((82 : Int) = k) = false) (c1 : decide ((76 : Int) = k) = false) (c2 : decide ((67 : Int) = k) = false) (c3 : decide ((73 : Int) = k) = false) (c4 : decide ((86 : Int) = k) = false) (c5 : decide ((71 : Int) = k) = false) (c6 : decide ((69 : Int) = k) = false) (c7 : decide ((80 : Int) = k) = false) : Sx.PureP (Sx.AV.tup [Sx.AV.int false IntKind.u8 (0 : Int), Sx.AV.bool false]) (call1 86 [.int true .u8 k] (Sx.G.on [false, false, false, false, false, false, false, false])) := by
 have e : Sx.pureP (Sx.AV.tup [Sx.AV.int false IntKind.u8 (0 : Int), Sx.AV.bool false]) (call1 86 [.int true .u8 k] (Sx.G.on [false, false, false, false, false, false, false, false])) = ((Sx.AV.tup [Sx.AV.int false IntKind.u8 (0 : Int), Sx.AV.bool false]) = (Sx.AV.tup [Sx.AV.int false IntKind.u8 (0 : Int), Sx.AV.bool false]) ∧ ((((((((True ∧ (decide ((82 : Int) = k) = false)) ∧ (decide ((76 : Int) = k) = false)) ∧ (decide ((67 : Int) = k) = false)) ∧ (decide ((73 : Int) = k) = false)) ∧ (decide ((86 : Int) = k) = false)) ∧ (decide ((71 : Int) = k) = false)) ∧ (decide ((69 : Int) = k) = false)) ∧ (decide ((80 : Int) = k) = false))) := by kernel_rfl
 exact ⟨by rw [e]; exact ⟨rfl, ⟨⟨⟨⟨⟨⟨⟨⟨trivial, c0⟩, c1⟩, c2⟩, c3⟩, c4⟩, c5⟩, c6⟩, c7⟩⟩⟩
noncomputable def rof_0 (k : Int) : Int := (bif decide ((82 : Int) = k) then ((1 : Int)) else (bif decide ((76 : Int) = k) then ((2 : Int)) else (bif decide ((67 : Int) = k) then ((3 : Int)) else (bif decide ((73 : Int) = k) then ((4 : Int)) else (bif decide ((86 : Int) = k) then ((5 : Int)) else (bif decide ((71 : Int) = k) then ((6 : Int)) else (bif decide ((69 : Int) = k) then ((7 : Int)) else (bif decide ((80 : Int) = k) then ((8 : Int)) else ((0 : Int))))))))))
noncomputable def rof_1 (k : Int) : Bool := (bif decide ((82 : Int) = k) then (true) else (bif decide ((76 : Int) = k) then (true) else (bif decide ((67 : Int) = k) then (true) else (bif decide ((73 : Int) = k) then (true) else (bif decide ((86 : Int) = k) then (true) else (bif decide ((71 : Int) = k) then (true) else (bif decide ((69 : Int) = k) then (true) else (bif decide ((80 : Int) = k) then (true) else (false)))))))))
noncomputable def rofS : List Sx.AV → Sx.M Sx.AV
 | [.int s0 .u8 k] => Sx.M.ret (Sx.AV.tup [Sx.AV.int s0 (IntKind.u8) (rof_0 k), Sx.cmpB s0 (rof_1 k)])
 | args => call1 86 args
theorem rofS_ok : ∀ args v g g', rofS args g = .done v g' → Sx.CallIs Try.prog 86 args v g g' := by
 intro args v g g' h
 unfold rofS at h
 split at h
 ·rename_i s0 k
  obtain ⟨rfl, rfl⟩ := Sx.ret_done h
  refine Sx.scal call1_ok fun μ cargs ha => ?_
  have ha' : Sx.Reps 0 Sx.MM.none [.int true .u8 k] cargs.toList := by simpa only [Sx.Reps, Sx.Rep] using ha
  cases t0 : decide ((82 : Int) = k) with
  | true =>
   exact ⟨_, _, _, ha', rof_r0 k t0, rfl, fun cv hc => by have := hc g.nx μ; have e0 : rof_0 k = ((1 : Int)) := (Sx.ct t0).trans (rfl); have e1 : rof_1 k = (true) := (Sx.ct t0).trans (rfl); rw [e0, e1]; simpa only [Sx.Rep, Sx.Reps, Sx.Rep_cmpB] using this⟩
  | false =>
   cases t1 : decide ((76 : Int) = k) with
   | true =>
    exact ⟨_, _, _, ha', rof_r1 k t0 t1, rfl, fun cv hc => by have := hc g.nx μ; have e0 : rof_0 k = ((2 : Int)) := (Sx.cf t0).trans ((Sx.ct t1).trans (rfl)); have e1 : rof_1 k = (true) := (Sx.cf t0).trans ((Sx.ct t1).trans (rfl)); rw [e0, e1]; simpa only [Sx.Rep, Sx.Reps, Sx.Rep_cmpB] using this⟩
   | false =>
    cases t2 : decide ((67 : Int) = k) with
    | true =>
     exact ⟨_, _, _, ha', rof_r2 k t0 t1 t2, rfl, fun cv hc => by have := hc g.nx μ; have e0 : rof_0 k = ((3 : Int)) := (Sx.cf t0).trans ((Sx.cf t1).trans ((Sx.ct t2).trans (rfl))); have e1 : rof_1 k = (true) := (Sx.cf t0).trans ((Sx.cf t1).trans ((Sx.ct t2).trans (rfl))); rw [e0, e1]; simpa only [Sx.Rep, Sx.Reps, Sx.Rep_cmpB] using this⟩
    | false =>
     cases t3 : decide ((73 : Int) = k) with
     | true =>
      exact ⟨_, _, _, ha', rof_r3 k t0 t1 t2 t3, rfl, fun cv hc => by have := hc g.nx μ; have e0 : rof_0 k = ((4 : Int)) := (Sx.cf t0).trans ((Sx.cf t1).trans ((Sx.cf t2).trans ((Sx.ct t3).trans (rfl)))); have e1 : rof_1 k = (true) := (Sx.cf t0).trans ((Sx.cf t1).trans ((Sx.cf t2).trans ((Sx.ct t3).trans (rfl)))); rw [e0, e1]; simpa only [Sx.Rep, Sx.Reps, Sx.Rep_cmpB] using this⟩
     | false =>
      cases t4 : decide ((86 : Int) = k) with
      | true =>
       exact ⟨_, _, _, ha', rof_r4 k t0 t1 t2 t3 t4, rfl, fun cv hc => by have := hc g.nx μ; have e0 : rof_0 k = ((5 : Int)) := (Sx.cf t0).trans ((Sx.cf t1).trans ((Sx.cf t2).trans ((Sx.cf t3).trans ((Sx.ct t4).trans (rfl))))); have e1 : rof_1 k = (true) := (Sx.cf t0).trans ((Sx.cf t1).trans ((Sx.cf t2).trans ((Sx.cf t3).trans ((Sx.ct t4).trans (rfl))))); rw [e0, e1]; simpa only [Sx.Rep, Sx.Reps, Sx.Rep_cmpB] using this⟩
      | false =>
       cases t5 : decide ((71 : Int) = k) with
       | true =>
        exact ⟨_, _, _, ha', rof_r5 k t0 t1 t2 t3 t4 t5, rfl, fun cv hc => by have := hc g.nx μ; have e0 : rof_0 k = ((6 : Int)) := (Sx.cf t0).trans ((Sx.cf t1).trans ((Sx.cf t2).trans ((Sx.cf t3).trans ((Sx.cf t4).trans ((Sx.ct t5).trans (rfl)))))); have e1 : rof_1 k = (true) := (Sx.cf t0).trans ((Sx.cf t1).trans ((Sx.cf t2).trans ((Sx.cf t3).trans ((Sx.cf t4).trans ((Sx.ct t5).trans (rfl)))))); rw [e0, e1]; simpa only [Sx.Rep, Sx.Reps, Sx.Rep_cmpB] using this⟩
       | false =>
        cases t6 : decide ((69 : Int) = k) with
        | true =>
         exact ⟨_, _, _, ha', rof_r6 k t0 t1 t2 t3 t4 t5 t6, rfl, fun cv hc => by have := hc g.nx μ; have e0 : rof_0 k = ((7 : Int)) := (Sx.cf t0).trans ((Sx.cf t1).trans ((Sx.cf t2).trans ((Sx.cf t3).trans ((Sx.cf t4).trans ((Sx.cf t5).trans ((Sx.ct t6).trans (rfl))))))); have e1 : rof_1 k = (true) := (Sx.cf t0).trans ((Sx.cf t1).trans ((Sx.cf t2).trans ((Sx.cf t3).trans ((Sx.cf t4).trans ((Sx.cf t5).trans ((Sx.ct t6).trans (rfl))))))); rw [e0, e1]; simpa only [Sx.Rep, Sx.Reps, Sx.Rep_cmpB] using this⟩
        | false =>
         cases t7 : decide ((80 : Int) = k) with
         | true =>
          exact ⟨_, _, _, ha', rof_r7 k t0 t1 t2 t3 t4 t5 t6 t7, rfl, fun cv hc => by have := hc g.nx μ; have e0 : rof_0 k = ((8 : Int)) := (Sx.cf t0).trans ((Sx.cf t1).trans ((Sx.cf t2).trans ((Sx.cf t3).trans ((Sx.cf t4).trans ((Sx.cf t5).trans ((Sx.cf t6).trans ((Sx.ct t7).trans (rfl)))))))); have e1 : rof_1 k = (true) := (Sx.cf t0).trans ((Sx.cf t1).trans ((Sx.cf t2).trans ((Sx.cf t3).trans ((Sx.cf t4).trans ((Sx.cf t5).trans ((Sx.cf t6).trans ((Sx.ct t7).trans (rfl)))))))); rw [e0, e1]; simpa only [Sx.Rep, Sx.Reps, Sx.Rep_cmpB] using this⟩
         | false =>
          exact ⟨_, _, _, ha', rof_r8 k t0 t1 t2 t3 t4 t5 t6 t7, rfl, fun cv hc => by have := hc g.nx μ; have e0 : rof_0 k = ((0 : Int)) := (Sx.cf t0).trans ((Sx.cf t1).trans ((Sx.cf t2).trans ((Sx.cf t3).trans ((Sx.cf t4).trans ((Sx.cf t5).trans ((Sx.cf t6).trans ((Sx.cf t7).trans (rfl)))))))); have e1 : rof_1 k = (false) := (Sx.cf t0).trans ((Sx.cf t1).trans ((Sx.cf t2).trans ((Sx.cf t3).trans ((Sx.cf t4).trans ((Sx.cf t5).trans ((Sx.cf t6).trans ((Sx.cf t7).trans (rfl)))))))); rw [e0, e1]; simpa only [Sx.Rep, Sx.Reps, Sx.Rep_cmpB] using this⟩
 ·exact call1_ok _ _ _ _ _ h
theorem rofS_tch : ∀ args, Sx.Tch (rofS args) := by
 intro args
 unfold rofS
 split
 ·exact Sx.Tch.ret _
 ·exact call1_tch _ _
noncomputable def gam2 : Sx.Known := fun f => bif Nat.beq f 36 then some Sx.ofBits else (bif Nat.beq f 62 then some Sx.toBits else (bif Nat.beq f 81 then some smallS else (bif Nat.beq f 85 then some bytesS else (bif Nat.beq f 66 then some kindS else (bif Nat.beq f 72 then some rkindS else (bif Nat.beq f 63 then some rowOfS else (bif Nat.beq f 69 then some rrowS else (bif Nat.beq f 82 then some ofS else (bif Nat.beq f 86 then some rofS else (none))))))))))
theorem gam2_ok : Sx.KnownOk Try.prog gam2 := by
 intro f s h
 unfold gam2 at h
 cases h1 : Nat.beq f 36 with
 | true =>
  rw [h1] at h
  cases h
  cases Nat.eq_of_beq_eq_true h1
  exact (Sx.ofBits_is Try.prog).callIs Try.func36 (by kernel_rfl) (by kernel_rfl) (by kernel_rfl) (by kernel_rfl)
 | false =>
  rw [h1, cond_false] at h
  clear h1
  cases h1 : Nat.beq f 62 with
  | true =>
   rw [h1] at h
   cases h
   cases Nat.eq_of_beq_eq_true h1
   exact (Sx.toBits_is Try.prog).callIs Try.func62 (by kernel_rfl) (by kernel_rfl) (by kernel_rfl) (by kernel_rfl)
  | false =>
   rw [h1, cond_false] at h
   clear h1
   cases h1 : Nat.beq f 81 with
   | true =>
    rw [h1] at h
    cases h
    cases Nat.eq_of_beq_eq_true h1
    exact smallS_ok
   | false =>
    rw [h1, cond_false] at h
    clear h1
    cases h1 : Nat.beq f 85 with
    | true =>
     rw [h1] at h
     cases h
     cases Nat.eq_of_beq_eq_true h1
     exact bytesS_ok
    | false =>
     rw [h1, cond_false] at h
     clear h1
     cases h1 : Nat.beq f 66 with
     | true =>
      rw [h1] at h
      cases h
      cases Nat.eq_of_beq_eq_true h1
      exact kindS_ok
     | false =>
      rw [h1, cond_false] at h
      clear h1
      cases h1 : Nat.beq f 72 with
      | true =>
       rw [h1] at h
       cases h
       cases Nat.eq_of_beq_eq_true h1
       exact rkindS_ok
      | false =>
       rw [h1, cond_false] at h
       clear h1
       cases h1 : Nat.beq f 63 with
       | true =>
        rw [h1] at h
        cases h
        cases Nat.eq_of_beq_eq_true h1
        exact rowOfS_ok
       | false =>
        rw [h1, cond_false] at h
        clear h1
        cases h1 : Nat.beq f 69 with
        | true =>
         rw [h1] at h
         cases h
         cases Nat.eq_of_beq_eq_true h1
         exact rrowS_ok
        | false =>
         rw [h1, cond_false] at h
         clear h1
         cases h1 : Nat.beq f 82 with
         | true =>
          rw [h1] at h
          cases h
          cases Nat.eq_of_beq_eq_true h1
          exact ofS_ok
         | false =>
          rw [h1, cond_false] at h
          clear h1
          cases h1 : Nat.beq f 86 with
          | true =>
           rw [h1] at h
           cases h
           cases Nat.eq_of_beq_eq_true h1
           exact rofS_ok
          | false =>
           rw [h1, cond_false] at h
           clear h1
           cases h
theorem gam2_tch : Sx.KnownT gam2 := by
 intro f s h
 unfold gam2 at h
 cases h1 : Nat.beq f 36 with
 | true => rw [h1] at h; cases h; exact Sx.Tch.ofBits
 | false =>
  rw [h1, cond_false] at h
  clear h1
  cases h1 : Nat.beq f 62 with
  | true => rw [h1] at h; cases h; exact Sx.Tch.toBits
  | false =>
   rw [h1, cond_false] at h
   clear h1
   cases h1 : Nat.beq f 81 with
   | true => rw [h1] at h; cases h; exact smallS_tch
   | false =>
    rw [h1, cond_false] at h
    clear h1
    cases h1 : Nat.beq f 85 with
    | true => rw [h1] at h; cases h; exact bytesS_tch
    | false =>
     rw [h1, cond_false] at h
     clear h1
     cases h1 : Nat.beq f 66 with
     | true => rw [h1] at h; cases h; exact kindS_tch
     | false =>
      rw [h1, cond_false] at h
      clear h1
      cases h1 : Nat.beq f 72 with
      | true => rw [h1] at h; cases h; exact rkindS_tch
      | false =>
       rw [h1, cond_false] at h
       clear h1
       cases h1 : Nat.beq f 63 with
       | true => rw [h1] at h; cases h; exact rowOfS_tch
       | false =>
        rw [h1, cond_false] at h
        clear h1
        cases h1 : Nat.beq f 69 with
        | true => rw [h1] at h; cases h; exact rrowS_tch
        | false =>
         rw [h1, cond_false] at h
         clear h1
         cases h1 : Nat.beq f 82 with
         | true => rw [h1] at h; cases h; exact ofS_tch
         | false =>
          rw [h1, cond_false] at h
          clear h1
          cases h1 : Nat.beq f 86 with
          | true => rw [h1] at h; cases h; exact rofS_tch
          | false =>
           rw [h1, cond_false] at h
           clear h1
           cases h
noncomputable def call2 : Sx.Calls' := Sx.runN Try.prog gam2 (Sx.regionC Try.prog) 1000 50
theorem call2_ok : Sx.CallOk Try.prog call2 := Sx.engineC gam2_ok gam2_tch (by kernel_rfl) (by kernel_rfl) 1000 50
theorem call2_tch : Sx.CallT call2 := Sx.runA_tch gam2_tch (fun _ _ _ h => by cases h) (fun call hc n l fr => Sx.regionC_tch hc n l fr) 50
theorem call2_reg (n : Nat) : Sx.RegionOk Try.prog (Sx.regionC Try.prog call2 n) n := Sx.runN_regionC gam2_ok gam2_tch (by kernel_rfl) (by kernel_rfl) 1000 50 n
theorem name_r0 (l : List UInt8) (c0 : decide ((↑(List.length l) : Int) < (2 : Int)) = true) : Sx.PureP (Sx.AV.tup [Sx.AV.int false IntKind.u8 (0 : Int), Sx.AV.bool false]) (call2 64 [.str true l] (Sx.G.on [true])) := by
 have e : Sx.pureP (Sx.AV.tup [Sx.AV.int false IntKind.u8 (0 : Int), Sx.AV.bool false]) (call2 64 [.str true l] (Sx.G.on [true])) = ((Sx.AV.tup [Sx.AV.int false IntKind.u8 (0 : Int), Sx.AV.bool false]) = (Sx.AV.tup [Sx.AV.int false IntKind.u8 (0 : Int), Sx.AV.bool false]) ∧ (True ∧ (decide ((↑(List.length l) : Int) < (2 : Int)) = true))) := by kernel_rfl
 exact ⟨by rw [e]; exact ⟨rfl, ⟨trivial, c0⟩⟩⟩
theorem name_r1 (l : List UInt8) (c0 : decide ((↑(List.length l) : Int) < (2 : Int)) = false) (c1 : decide ((16 : Int) < (↑(List.length l) : Int)) = true) : Sx.PureP (Sx.AV.tup [Sx.AV.int false IntKind.u8 (0 : Int), Sx.AV.bool false]) (call2 64 [.str true l] (Sx.G.on [false, true])) := by
 have e : Sx.pureP (Sx.AV.tup [Sx.AV.int false IntKind.u8 (0 : Int), Sx.AV.bool false]) (call2 64 [.str true l] (Sx.G.on [false, true])) = ((Sx.AV.tup [Sx.AV.int false IntKind.u8 (0 : Int), Sx.AV.bool false]) = (Sx.AV.tup [Sx.AV.int false IntKind.u8 (0 : Int), Sx.AV.bool false]) ∧ ((True ∧ (decide ((↑(List.length l) : Int) < (2 : Int)) = false)) ∧ (decide ((16 : Int) < (↑(List.length l) : Int)) = true))) := by kernel_rfl
 exact ⟨by rw [e]; exact ⟨rfl, ⟨⟨trivial, c0⟩, c1⟩⟩⟩
theorem name_r2 (l : List UInt8) (c0 : decide ((↑(List.length l) : Int) < (2 : Int)) = false) (c1 : decide ((16 : Int) < (↑(List.length l) : Int)) = false) (c2 : (0 : Int) ≤ (1 : Int)) (c3 : (1 : Int) ≤ (↑(List.length l) : Int)) (c4 : (↑(List.length l) : Int) ≤ (↑(List.length l) : Int)) (c5 : (!List.all (List.take (Int.toNat (↑(List.length l) : Int) - Int.toNat (1 : Int)) (List.drop (Int.toNat (1 : Int)) l)) okB) = false) (c6 : (0 : Int) ≤ (0 : Int)) (c7 : (0 : Int) < (↑(List.length l) : Int)) : Sx.PureP (Sx.AV.tup [Sx.AV.int true IntKind.u8 (of_0 (↑(UInt8.toNat (List.getD l (Int.toNat (0 : Int)) (0 : UInt8))) : Int)), Sx.AV.sbool (of_1 (↑(UInt8.toNat (List.getD l (Int.toNat (0 : Int)) (0 : UInt8))) : Int))]) (call2 64 [.str true l] (Sx.G.on [false, false, false])) := by
 have e : Sx.pureP (Sx.AV.tup [Sx.AV.int true IntKind.u8 (of_0 (↑(UInt8.toNat (List.getD l (Int.toNat (0 : Int)) (0 : UInt8))) : Int)), Sx.AV.sbool (of_1 (↑(UInt8.toNat (List.getD l (Int.toNat (0 : Int)) (0 : UInt8))) : Int))]) (call2 64 [.str true l] (Sx.G.on [false, false, false])) = ((Sx.AV.tup [Sx.AV.int true IntKind.u8 (of_0 (↑(UInt8.toNat (List.getD l (Int.toNat (0 : Int)) (0 : UInt8))) : Int)), Sx.AV.sbool (of_1 (↑(UInt8.toNat (List.getD l (Int.toNat (0 : Int)) (0 : UInt8))) : Int))]) = (Sx.AV.tup [Sx.AV.int true IntKind.u8 (of_0 (↑(UInt8.toNat (List.getD l (Int.toNat (0 : Int)) (0 : UInt8))) : Int)), Sx.AV.sbool (of_1 (↑(UInt8.toNat (List.getD l (Int.toNat (0 : Int)) (0 : UInt8))) : Int))]) ∧ (((((True ∧ (decide ((↑(List.length l) : Int) < (2 : Int)) = false)) ∧ (decide ((16 : Int) < (↑(List.length l) : Int)) = false)) ∧ (((0 : Int) ≤ (1 : Int)) ∧ (((1 : Int) ≤ (↑(List.length l) : Int)) ∧ ((↑(List.length l) : Int) ≤ (↑(List.length l) : Int))))) ∧ ((!List.all (List.take (Int.toNat (↑(List.length l) : Int) - Int.toNat (1 : Int)) (List.drop (Int.toNat (1 : Int)) l)) okB) = false)) ∧ (((0 : Int) ≤ (0 : Int)) ∧ ((0 : Int) < (↑(List.length l) : Int))))) := by kernel_rfl
 exact ⟨by rw [e]; exact ⟨rfl, ⟨⟨⟨⟨⟨trivial, c0⟩, c1⟩, ⟨c2, ⟨c3, c4⟩⟩⟩, c5⟩, ⟨c6, c7⟩⟩⟩⟩
theorem name_r3 (l : List UInt8) (c0 : decide ((↑(List.length l) : Int) < (2 : Int)) = false) (c1 : decide ((16 : Int) < (↑(List.length l) : Int)) = false) (c2 : (0 : Int) ≤ (1 : Int)) (c3 : (1 : Int) ≤ (↑(List.length l) : Int)) (c4 : (↑(List.length l) : Int) ≤ (↑(List.length l) : Int)) (c5 : (!List.all (List.take (Int.toNat (↑(List.length l) : Int) - Int.toNat (1 : Int)) (List.drop (Int.toNat (1 : Int)) l)) okB) = true) : Sx.PureP (Sx.AV.tup [Sx.AV.int false IntKind.u8 (0 : Int), Sx.AV.bool false]) (call2 64 [.str true l] (Sx.G.on [false, false, true])) := by
 have e : Sx.pureP (Sx.AV.tup [Sx.AV.int false IntKind.u8 (0 : Int), Sx.AV.bool false]) (call2 64 [.str true l] (Sx.G.on [false, false, true])) = ((Sx.AV.tup [Sx.AV.int false IntKind.u8 (0 : Int), Sx.AV.bool false]) = (Sx.AV.tup [Sx.AV.int false IntKind.u8 (0 : Int), Sx.AV.bool false]) ∧ ((((True ∧ (decide ((↑(List.length l) : Int) < (2 : Int)) = false)) ∧ (decide ((16 : Int) < (↑(List.length l) : Int)) = false)) ∧ (((0 : Int) ≤ (1 : Int)) ∧ (((1 : Int) ≤ (↑(List.length l) : Int)) ∧ ((↑(List.length l) : Int) ≤ (↑(List.length l) : Int))))) ∧ ((!List.all (List.take (Int.toNat (↑(List.length l) : Int) - Int.toNat (1 : Int)) (List.drop (Int.toNat (1 : Int)) l)) okB) = true))) := by kernel_rfl
 exact ⟨by rw [e]; exact ⟨rfl, ⟨⟨⟨⟨trivial, c0⟩, c1⟩, ⟨c2, ⟨c3, c4⟩⟩⟩, c5⟩⟩⟩
noncomputable def name_0 (l : List UInt8) : Int := (bif decide ((↑(List.length l) : Int) < (2 : Int)) then ((0 : Int)) else (bif decide ((16 : Int) < (↑(List.length l) : Int)) then ((0 : Int)) else (bif List.all (List.take (Int.toNat (↑(List.length l) : Int) - Int.toNat (1 : Int)) (List.drop (Int.toNat (1 : Int)) l)) okB then (of_0 (↑(UInt8.toNat (List.getD l (Int.toNat (0 : Int)) (0 : UInt8))) : Int)) else ((0 : Int)))))
noncomputable def name_1 (l : List UInt8) : Bool := (bif decide ((↑(List.length l) : Int) < (2 : Int)) then (false) else (bif decide ((16 : Int) < (↑(List.length l) : Int)) then (false) else (bif List.all (List.take (Int.toNat (↑(List.length l) : Int) - Int.toNat (1 : Int)) (List.drop (Int.toNat (1 : Int)) l)) okB then (of_1 (↑(UInt8.toNat (List.getD l (Int.toNat (0 : Int)) (0 : UInt8))) : Int)) else (false))))
noncomputable def nameS : List Sx.AV → Sx.M Sx.AV
 | [.str s0 l] => Sx.M.ret (Sx.AV.tup [Sx.AV.int s0 (IntKind.u8) (name_0 l), Sx.cmpB s0 (name_1 l)])
 | args => call2 64 args
theorem nameS_ok : ∀ args v g g', nameS args g = .done v g' → Sx.CallIs Try.prog 64 args v g g' := by
 intro args v g g' h
 unfold nameS at h
 split at h
 ·rename_i s0 l
  obtain ⟨rfl, rfl⟩ := Sx.ret_done h
  refine Sx.scal call2_ok fun μ cargs ha => ?_
  have ha' : Sx.Reps 0 Sx.MM.none [.str true l] cargs.toList := by simpa only [Sx.Reps, Sx.Rep] using ha
  cases t0 : decide ((↑(List.length l) : Int) < (2 : Int)) with
  | true =>
   exact ⟨_, _, _, ha', name_r0 l t0, rfl, fun cv hc => by have := hc g.nx μ; have e0 : name_0 l = ((0 : Int)) := (Sx.ct t0).trans (rfl); have e1 : name_1 l = (false) := (Sx.ct t0).trans (rfl); rw [e0, e1]; simpa only [Sx.Rep, Sx.Reps, Sx.Rep_cmpB] using this⟩
  | false =>
   cases t1 : decide ((16 : Int) < (↑(List.length l) : Int)) with
   | true =>
    exact ⟨_, _, _, ha', name_r1 l t0 t1, rfl, fun cv hc => by have := hc g.nx μ; have e0 : name_0 l = ((0 : Int)) := (Sx.cf t0).trans ((Sx.ct t1).trans (rfl)); have e1 : name_1 l = (false) := (Sx.cf t0).trans ((Sx.ct t1).trans (rfl)); rw [e0, e1]; simpa only [Sx.Rep, Sx.Reps, Sx.Rep_cmpB] using this⟩
   | false =>
    cases t2 : List.all (List.take (Int.toNat (↑(List.length l) : Int) - Int.toNat (1 : Int)) (List.drop (Int.toNat (1 : Int)) l)) okB with
    | true =>
     exact ⟨_, _, _, ha', name_r2 l t0 t1 (by first | ((try simp only [decide_eq_true_eq, decide_eq_false_iff_not] at t0 t1 t2); (try simp only [List.length_take, List.length_drop]); omega) | decide | (have hp' := hp; simp_all; try omega)) (by first | ((try simp only [decide_eq_true_eq, decide_eq_false_iff_not] at t0 t1 t2); (try simp only [List.length_take, List.length_drop]); omega) | decide | (have hp' := hp; simp_all; try omega)) (by first | ((try simp only [decide_eq_true_eq, decide_eq_false_iff_not] at t0 t1 t2); (try simp only [List.length_take, List.length_drop]); omega) | decide | (have hp' := hp; simp_all; try omega)) (by rw [t2]; rfl) (by first | ((try simp only [decide_eq_true_eq, decide_eq_false_iff_not] at t0 t1 t2); (try simp only [List.length_take, List.length_drop]); omega) | decide | (have hp' := hp; simp_all; try omega)) (by first | ((try simp only [decide_eq_true_eq, decide_eq_false_iff_not] at t0 t1 t2); (try simp only [List.length_take, List.length_drop]); omega) | decide | (have hp' := hp; simp_all; try omega)), rfl, fun cv hc => by have := hc g.nx μ; have e0 : name_0 l = (of_0 (↑(UInt8.toNat (List.getD l (Int.toNat (0 : Int)) (0 : UInt8))) : Int)) := (Sx.cf t0).trans ((Sx.cf t1).trans ((Sx.ct t2).trans (rfl))); have e1 : name_1 l = (of_1 (↑(UInt8.toNat (List.getD l (Int.toNat (0 : Int)) (0 : UInt8))) : Int)) := (Sx.cf t0).trans ((Sx.cf t1).trans ((Sx.ct t2).trans (rfl))); rw [e0, e1]; simpa only [Sx.Rep, Sx.Reps, Sx.Rep_cmpB] using this⟩
    | false =>
     exact ⟨_, _, _, ha', name_r3 l t0 t1 (by first | ((try simp only [decide_eq_true_eq, decide_eq_false_iff_not] at t0 t1 t2); (try simp only [List.length_take, List.length_drop]); omega) | decide | (have hp' := hp; simp_all; try omega)) (by first | ((try simp only [decide_eq_true_eq, decide_eq_false_iff_not] at t0 t1 t2); (try simp only [List.length_take, List.length_drop]); omega) | decide | (have hp' := hp; simp_all; try omega)) (by first | ((try simp only [decide_eq_true_eq, decide_eq_false_iff_not] at t0 t1 t2); (try simp only [List.length_take, List.length_drop]); omega) | decide | (have hp' := hp; simp_all; try omega)) (by rw [t2]; rfl), rfl, fun cv hc => by have := hc g.nx μ; have e0 : name_0 l = ((0 : Int)) := (Sx.cf t0).trans ((Sx.cf t1).trans ((Sx.cf t2).trans (rfl))); have e1 : name_1 l = (false) := (Sx.cf t0).trans ((Sx.cf t1).trans ((Sx.cf t2).trans (rfl))); rw [e0, e1]; simpa only [Sx.Rep, Sx.Reps, Sx.Rep_cmpB] using this⟩
 ·exact call2_ok _ _ _ _ _ h
theorem nameS_tch : ∀ args, Sx.Tch (nameS args) := by
 intro args
 unfold nameS
 split
 ·exact Sx.Tch.ret _
 ·exact call2_tch _ _
theorem rname_r0 (l : List UInt8) (c0 : decide ((↑(List.length l) : Int) < (2 : Int)) = true) : Sx.PureP (Sx.AV.tup [Sx.AV.int false IntKind.u8 (0 : Int), Sx.AV.bool false]) (call2 70 [.str true l] (Sx.G.on [true])) := by
 have e : Sx.pureP (Sx.AV.tup [Sx.AV.int false IntKind.u8 (0 : Int), Sx.AV.bool false]) (call2 70 [.str true l] (Sx.G.on [true])) = ((Sx.AV.tup [Sx.AV.int false IntKind.u8 (0 : Int), Sx.AV.bool false]) = (Sx.AV.tup [Sx.AV.int false IntKind.u8 (0 : Int), Sx.AV.bool false]) ∧ (True ∧ (decide ((↑(List.length l) : Int) < (2 : Int)) = true))) := by kernel_rfl
 exact ⟨by rw [e]; exact ⟨rfl, ⟨trivial, c0⟩⟩⟩
theorem rname_r1 (l : List UInt8) (c0 : decide ((↑(List.length l) : Int) < (2 : Int)) = false) (c1 : decide ((16 : Int) < (↑(List.length l) : Int)) = true) : Sx.PureP (Sx.AV.tup [Sx.AV.int false IntKind.u8 (0 : Int), Sx.AV.bool false]) (call2 70 [.str true l] (Sx.G.on [false, true])) := by
 have e : Sx.pureP (Sx.AV.tup [Sx.AV.int false IntKind.u8 (0 : Int), Sx.AV.bool false]) (call2 70 [.str true l] (Sx.G.on [false, true])) = ((Sx.AV.tup [Sx.AV.int false IntKind.u8 (0 : Int), Sx.AV.bool false]) = (Sx.AV.tup [Sx.AV.int false IntKind.u8 (0 : Int), Sx.AV.bool false]) ∧ ((True ∧ (decide ((↑(List.length l) : Int) < (2 : Int)) = false)) ∧ (decide ((16 : Int) < (↑(List.length l) : Int)) = true))) := by kernel_rfl
 exact ⟨by rw [e]; exact ⟨rfl, ⟨⟨trivial, c0⟩, c1⟩⟩⟩
theorem rname_r2 (l : List UInt8) (c0 : decide ((↑(List.length l) : Int) < (2 : Int)) = false) (c1 : decide ((16 : Int) < (↑(List.length l) : Int)) = false) (c2 : (0 : Int) ≤ (1 : Int)) (c3 : (1 : Int) ≤ (↑(List.length l) : Int)) (c4 : (↑(List.length l) : Int) ≤ (↑(List.length l) : Int)) (c5 : List.length (List.take (Int.toNat (↑(List.length l) : Int) - Int.toNat (1 : Int)) (List.drop (Int.toNat (1 : Int)) l)) ≤ (9223372036854775807 : Nat)) (c6 : (!List.all (List.take (Int.toNat (↑(List.length l) : Int) - Int.toNat (1 : Int)) (List.drop (Int.toNat (1 : Int)) l)) okB) = false) (c7 : (0 : Int) ≤ (0 : Int)) (c8 : (0 : Int) < (↑(List.length l) : Int)) : Sx.PureP (Sx.AV.tup [Sx.AV.int true IntKind.u8 (rof_0 (↑(UInt8.toNat (List.getD l (Int.toNat (0 : Int)) (0 : UInt8))) : Int)), Sx.AV.sbool (rof_1 (↑(UInt8.toNat (List.getD l (Int.toNat (0 : Int)) (0 : UInt8))) : Int))]) (call2 70 [.str true l] (Sx.G.on [false, false, false])) := by
 have e : Sx.pureP (Sx.AV.tup [Sx.AV.int true IntKind.u8 (rof_0 (↑(UInt8.toNat (List.getD l (Int.toNat (0 : Int)) (0 : UInt8))) : Int)), Sx.AV.sbool (rof_1 (↑(UInt8.toNat (List.getD l (Int.toNat (0 : Int)) (0 : UInt8))) : Int))]) (call2 70 [.str true l] (Sx.G.on [false, false, false])) = ((Sx.AV.tup [Sx.AV.int true IntKind.u8 (rof_0 (↑(UInt8.toNat (List.getD l (Int.toNat (0 : Int)) (0 : UInt8))) : Int)), Sx.AV.sbool (rof_1 (↑(UInt8.toNat (List.getD l (Int.toNat (0 : Int)) (0 : UInt8))) : Int))]) = (Sx.AV.tup [Sx.AV.int true IntKind.u8 (rof_0 (↑(UInt8.toNat (List.getD l (Int.toNat (0 : Int)) (0 : UInt8))) : Int)), Sx.AV.sbool (rof_1 (↑(UInt8.toNat (List.getD l (Int.toNat (0 : Int)) (0 : UInt8))) : Int))]) ∧ ((((((True ∧ (decide ((↑(List.length l) : Int) < (2 : Int)) = false)) ∧ (decide ((16 : Int) < (↑(List.length l) : Int)) = false)) ∧ (((0 : Int) ≤ (1 : Int)) ∧ (((1 : Int) ≤ (↑(List.length l) : Int)) ∧ ((↑(List.length l) : Int) ≤ (↑(List.length l) : Int))))) ∧ (List.length (List.take (Int.toNat (↑(List.length l) : Int) - Int.toNat (1 : Int)) (List.drop (Int.toNat (1 : Int)) l)) ≤ (9223372036854775807 : Nat))) ∧ ((!List.all (List.take (Int.toNat (↑(List.length l) : Int) - Int.toNat (1 : Int)) (List.drop (Int.toNat (1 : Int)) l)) okB) = false)) ∧ (((0 : Int) ≤ (0 : Int)) ∧ ((0 : Int) < (↑(List.length l) : Int))))) := by kernel_rfl
 exact ⟨by rw [e]; exact ⟨rfl, ⟨⟨⟨⟨⟨⟨trivial, c0⟩, c1⟩, ⟨c2, ⟨c3, c4⟩⟩⟩, c5⟩, c6⟩, ⟨c7, c8⟩⟩⟩⟩
theorem rname_r3 (l : List UInt8) (c0 : decide ((↑(List.length l) : Int) < (2 : Int)) = false) (c1 : decide ((16 : Int) < (↑(List.length l) : Int)) = false) (c2 : (0 : Int) ≤ (1 : Int)) (c3 : (1 : Int) ≤ (↑(List.length l) : Int)) (c4 : (↑(List.length l) : Int) ≤ (↑(List.length l) : Int)) (c5 : List.length (List.take (Int.toNat (↑(List.length l) : Int) - Int.toNat (1 : Int)) (List.drop (Int.toNat (1 : Int)) l)) ≤ (9223372036854775807 : Nat)) (c6 : (!List.all (List.take (Int.toNat (↑(List.length l) : Int) - Int.toNat (1 : Int)) (List.drop (Int.toNat (1 : Int)) l)) okB) = true) : Sx.PureP (Sx.AV.tup [Sx.AV.int false IntKind.u8 (0 : Int), Sx.AV.bool false]) (call2 70 [.str true l] (Sx.G.on [false, false, true])) := by
 have e : Sx.pureP (Sx.AV.tup [Sx.AV.int false IntKind.u8 (0 : Int), Sx.AV.bool false]) (call2 70 [.str true l] (Sx.G.on [false, false, true])) = ((Sx.AV.tup [Sx.AV.int false IntKind.u8 (0 : Int), Sx.AV.bool false]) = (Sx.AV.tup [Sx.AV.int false IntKind.u8 (0 : Int), Sx.AV.bool false]) ∧ (((((True ∧ (decide ((↑(List.length l) : Int) < (2 : Int)) = false)) ∧ (decide ((16 : Int) < (↑(List.length l) : Int)) = false)) ∧ (((0 : Int) ≤ (1 : Int)) ∧ (((1 : Int) ≤ (↑(List.length l) : Int)) ∧ ((↑(List.length l) : Int) ≤ (↑(List.length l) : Int))))) ∧ (List.length (List.take (Int.toNat (↑(List.length l) : Int) - Int.toNat (1 : Int)) (List.drop (Int.toNat (1 : Int)) l)) ≤ (9223372036854775807 : Nat))) ∧ ((!List.all (List.take (Int.toNat (↑(List.length l) : Int) - Int.toNat (1 : Int)) (List.drop (Int.toNat (1 : Int)) l)) okB) = true))) := by kernel_rfl
 exact ⟨by rw [e]; exact ⟨rfl, ⟨⟨⟨⟨⟨trivial, c0⟩, c1⟩, ⟨c2, ⟨c3, c4⟩⟩⟩, c5⟩, c6⟩⟩⟩
noncomputable def rname_0 (l : List UInt8) : Int := (bif decide ((↑(List.length l) : Int) < (2 : Int)) then ((0 : Int)) else (bif decide ((16 : Int) < (↑(List.length l) : Int)) then ((0 : Int)) else (bif List.all (List.take (Int.toNat (↑(List.length l) : Int) - Int.toNat (1 : Int)) (List.drop (Int.toNat (1 : Int)) l)) okB then (rof_0 (↑(UInt8.toNat (List.getD l (Int.toNat (0 : Int)) (0 : UInt8))) : Int)) else ((0 : Int)))))
noncomputable def rname_1 (l : List UInt8) : Bool := (bif decide ((↑(List.length l) : Int) < (2 : Int)) then (false) else (bif decide ((16 : Int) < (↑(List.length l) : Int)) then (false) else (bif List.all (List.take (Int.toNat (↑(List.length l) : Int) - Int.toNat (1 : Int)) (List.drop (Int.toNat (1 : Int)) l)) okB then (rof_1 (↑(UInt8.toNat (List.getD l (Int.toNat (0 : Int)) (0 : UInt8))) : Int)) else (false))))
noncomputable def rnameS : List Sx.AV → Sx.M Sx.AV
 | [.str s0 l] => Sx.M.ret (Sx.AV.tup [Sx.AV.int s0 (IntKind.u8) (rname_0 l), Sx.cmpB s0 (rname_1 l)])
 | args => call2 70 args
theorem rnameS_ok : ∀ args v g g', rnameS args g = .done v g' → Sx.CallIs Try.prog 70 args v g g' := by
 intro args v g g' h
 unfold rnameS at h
 split at h
 ·rename_i s0 l
  obtain ⟨rfl, rfl⟩ := Sx.ret_done h
  refine Sx.scal call2_ok fun μ cargs ha => ?_
  have ha' : Sx.Reps 0 Sx.MM.none [.str true l] cargs.toList := by simpa only [Sx.Reps, Sx.Rep] using ha
  cases t0 : decide ((↑(List.length l) : Int) < (2 : Int)) with
  | true =>
   exact ⟨_, _, _, ha', rname_r0 l t0, rfl, fun cv hc => by have := hc g.nx μ; have e0 : rname_0 l = ((0 : Int)) := (Sx.ct t0).trans (rfl); have e1 : rname_1 l = (false) := (Sx.ct t0).trans (rfl); rw [e0, e1]; simpa only [Sx.Rep, Sx.Reps, Sx.Rep_cmpB] using this⟩
  | false =>
   cases t1 : decide ((16 : Int) < (↑(List.length l) : Int)) with
   | true =>
    exact ⟨_, _, _, ha', rname_r1 l t0 t1, rfl, fun cv hc => by have := hc g.nx μ; have e0 : rname_0 l = ((0 : Int)) := (Sx.cf t0).trans ((Sx.ct t1).trans (rfl)); have e1 : rname_1 l = (false) := (Sx.cf t0).trans ((Sx.ct t1).trans (rfl)); rw [e0, e1]; simpa only [Sx.Rep, Sx.Reps, Sx.Rep_cmpB] using this⟩
   | false =>
    cases t2 : List.all (List.take (Int.toNat (↑(List.length l) : Int) - Int.toNat (1 : Int)) (List.drop (Int.toNat (1 : Int)) l)) okB with
    | true =>
     exact ⟨_, _, _, ha', rname_r2 l t0 t1 (by first | ((try simp only [decide_eq_true_eq, decide_eq_false_iff_not] at t0 t1 t2); (try simp only [List.length_take, List.length_drop]); omega) | decide | (have hp' := hp; simp_all; try omega)) (by first | ((try simp only [decide_eq_true_eq, decide_eq_false_iff_not] at t0 t1 t2); (try simp only [List.length_take, List.length_drop]); omega) | decide | (have hp' := hp; simp_all; try omega)) (by first | ((try simp only [decide_eq_true_eq, decide_eq_false_iff_not] at t0 t1 t2); (try simp only [List.length_take, List.length_drop]); omega) | decide | (have hp' := hp; simp_all; try omega)) (by first | ((try simp only [decide_eq_true_eq, decide_eq_false_iff_not] at t0 t1 t2); (try simp only [List.length_take, List.length_drop]); omega) | decide | (have hp' := hp; simp_all; try omega)) (by rw [t2]; rfl) (by first | ((try simp only [decide_eq_true_eq, decide_eq_false_iff_not] at t0 t1 t2); (try simp only [List.length_take, List.length_drop]); omega) | decide | (have hp' := hp; simp_all; try omega)) (by first | ((try simp only [decide_eq_true_eq, decide_eq_false_iff_not] at t0 t1 t2); (try simp only [List.length_take, List.length_drop]); omega) | decide | (have hp' := hp; simp_all; try omega)), rfl, fun cv hc => by have := hc g.nx μ; have e0 : rname_0 l = (rof_0 (↑(UInt8.toNat (List.getD l (Int.toNat (0 : Int)) (0 : UInt8))) : Int)) := (Sx.cf t0).trans ((Sx.cf t1).trans ((Sx.ct t2).trans (rfl))); have e1 : rname_1 l = (rof_1 (↑(UInt8.toNat (List.getD l (Int.toNat (0 : Int)) (0 : UInt8))) : Int)) := (Sx.cf t0).trans ((Sx.cf t1).trans ((Sx.ct t2).trans (rfl))); rw [e0, e1]; simpa only [Sx.Rep, Sx.Reps, Sx.Rep_cmpB] using this⟩
    | false =>
     exact ⟨_, _, _, ha', rname_r3 l t0 t1 (by first | ((try simp only [decide_eq_true_eq, decide_eq_false_iff_not] at t0 t1 t2); (try simp only [List.length_take, List.length_drop]); omega) | decide | (have hp' := hp; simp_all; try omega)) (by first | ((try simp only [decide_eq_true_eq, decide_eq_false_iff_not] at t0 t1 t2); (try simp only [List.length_take, List.length_drop]); omega) | decide | (have hp' := hp; simp_all; try omega)) (by first | ((try simp only [decide_eq_true_eq, decide_eq_false_iff_not] at t0 t1 t2); (try simp only [List.length_take, List.length_drop]); omega) | decide | (have hp' := hp; simp_all; try omega)) (by first | ((try simp only [decide_eq_true_eq, decide_eq_false_iff_not] at t0 t1 t2); (try simp only [List.length_take, List.length_drop]); omega) | decide | (have hp' := hp; simp_all; try omega)) (by rw [t2]; rfl), rfl, fun cv hc => by have := hc g.nx μ; have e0 : rname_0 l = ((0 : Int)) := (Sx.cf t0).trans ((Sx.cf t1).trans ((Sx.cf t2).trans (rfl))); have e1 : rname_1 l = (false) := (Sx.cf t0).trans ((Sx.cf t1).trans ((Sx.cf t2).trans (rfl))); rw [e0, e1]; simpa only [Sx.Rep, Sx.Reps, Sx.Rep_cmpB] using this⟩
 ·exact call2_ok _ _ _ _ _ h
theorem rnameS_tch : ∀ args, Sx.Tch (rnameS args) := by
 intro args
 unfold rnameS
 split
 ·exact Sx.Tch.ret _
 ·exact call2_tch _ _
theorem node_r0 (l : List UInt8) (c0 : decide ((0 : Int) < (↑(List.length l) : Int)) = true) (c1 : decide ((↑(List.length l) : Int) ≤ (16 : Int)) = true) : Sx.PureP (Sx.AV.sbool (List.all l okB)) (call2 65 [.str true l] (Sx.G.on [true, true])) := by
 have e : Sx.pureP (Sx.AV.sbool (List.all l okB)) (call2 65 [.str true l] (Sx.G.on [true, true])) = ((Sx.AV.sbool (List.all l okB)) = (Sx.AV.sbool (List.all l okB)) ∧ ((True ∧ (decide ((0 : Int) < (↑(List.length l) : Int)) = true)) ∧ (decide ((↑(List.length l) : Int) ≤ (16 : Int)) = true))) := by kernel_rfl
 exact ⟨by rw [e]; exact ⟨rfl, ⟨⟨trivial, c0⟩, c1⟩⟩⟩
theorem node_r1 (l : List UInt8) (c0 : decide ((0 : Int) < (↑(List.length l) : Int)) = true) (c1 : decide ((↑(List.length l) : Int) ≤ (16 : Int)) = false) : Sx.PureP (Sx.AV.bool false) (call2 65 [.str true l] (Sx.G.on [true, false])) := by
 have e : Sx.pureP (Sx.AV.bool false) (call2 65 [.str true l] (Sx.G.on [true, false])) = ((Sx.AV.bool false) = (Sx.AV.bool false) ∧ ((True ∧ (decide ((0 : Int) < (↑(List.length l) : Int)) = true)) ∧ (decide ((↑(List.length l) : Int) ≤ (16 : Int)) = false))) := by kernel_rfl
 exact ⟨by rw [e]; exact ⟨rfl, ⟨⟨trivial, c0⟩, c1⟩⟩⟩
theorem node_r2 (l : List UInt8) (c0 : decide ((0 : Int) < (↑(List.length l) : Int)) = false) : Sx.PureP (Sx.AV.bool false) (call2 65 [.str true l] (Sx.G.on [false])) := by
 have e : Sx.pureP (Sx.AV.bool false) (call2 65 [.str true l] (Sx.G.on [false])) = ((Sx.AV.bool false) = (Sx.AV.bool false) ∧ (True ∧ (decide ((0 : Int) < (↑(List.length l) : Int)) = false))) := by kernel_rfl
 exact ⟨by rw [e]; exact ⟨rfl, ⟨trivial, c0⟩⟩⟩
noncomputable def node_0 (l : List UInt8) : Bool := (bif decide ((0 : Int) < (↑(List.length l) : Int)) then (bif decide ((↑(List.length l) : Int) ≤ (16 : Int)) then (List.all l okB) else (false)) else (false))
noncomputable def nodeS : List Sx.AV → Sx.M Sx.AV
 | [.str s0 l] => Sx.M.ret (Sx.cmpB s0 (node_0 l))
 | args => call2 65 args
theorem nodeS_ok : ∀ args v g g', nodeS args g = .done v g' → Sx.CallIs Try.prog 65 args v g g' := by
 intro args v g g' h
 unfold nodeS at h
 split at h
 ·rename_i s0 l
  obtain ⟨rfl, rfl⟩ := Sx.ret_done h
  refine Sx.scal call2_ok fun μ cargs ha => ?_
  have ha' : Sx.Reps 0 Sx.MM.none [.str true l] cargs.toList := by simpa only [Sx.Reps, Sx.Rep] using ha
  cases t0 : decide ((0 : Int) < (↑(List.length l) : Int)) with
  | true =>
   cases t1 : decide ((↑(List.length l) : Int) ≤ (16 : Int)) with
   | true =>
    exact ⟨_, _, _, ha', node_r0 l t0 t1, rfl, fun cv hc => by have := hc g.nx μ; have e0 : node_0 l = (List.all l okB) := (Sx.ct t0).trans ((Sx.ct t1).trans (rfl)); rw [e0]; simpa only [Sx.Rep, Sx.Reps, Sx.Rep_cmpB] using this⟩
   | false =>
    exact ⟨_, _, _, ha', node_r1 l t0 t1, rfl, fun cv hc => by have := hc g.nx μ; have e0 : node_0 l = (false) := (Sx.ct t0).trans ((Sx.cf t1).trans (rfl)); rw [e0]; simpa only [Sx.Rep, Sx.Reps, Sx.Rep_cmpB] using this⟩
  | false =>
   exact ⟨_, _, _, ha', node_r2 l t0, rfl, fun cv hc => by have := hc g.nx μ; have e0 : node_0 l = (false) := (Sx.cf t0).trans (rfl); rw [e0]; simpa only [Sx.Rep, Sx.Reps, Sx.Rep_cmpB] using this⟩
 ·exact call2_ok _ _ _ _ _ h
theorem nodeS_tch : ∀ args, Sx.Tch (nodeS args) := by
 intro args
 unfold nodeS
 split
 ·exact Sx.Tch.ret _
 ·exact call2_tch _ _
theorem rnode_r0 (l : List UInt8) (c0 : decide ((1 : Int) ≤ (↑(List.length l) : Int)) = true) (c1 : decide ((↑(List.length l) : Int) ≤ (16 : Int)) = true) (c2 : List.length l ≤ (9223372036854775807 : Nat)) : Sx.PureP (Sx.AV.sbool (List.all l okB)) (call2 71 [.str true l] (Sx.G.on [true, true])) := by
 have e : Sx.pureP (Sx.AV.sbool (List.all l okB)) (call2 71 [.str true l] (Sx.G.on [true, true])) = ((Sx.AV.sbool (List.all l okB)) = (Sx.AV.sbool (List.all l okB)) ∧ (((True ∧ (decide ((1 : Int) ≤ (↑(List.length l) : Int)) = true)) ∧ (decide ((↑(List.length l) : Int) ≤ (16 : Int)) = true)) ∧ (List.length l ≤ (9223372036854775807 : Nat)))) := by kernel_rfl
 exact ⟨by rw [e]; exact ⟨rfl, ⟨⟨⟨trivial, c0⟩, c1⟩, c2⟩⟩⟩
theorem rnode_r1 (l : List UInt8) (c0 : decide ((1 : Int) ≤ (↑(List.length l) : Int)) = true) (c1 : decide ((↑(List.length l) : Int) ≤ (16 : Int)) = false) : Sx.PureP (Sx.AV.bool false) (call2 71 [.str true l] (Sx.G.on [true, false])) := by
 have e : Sx.pureP (Sx.AV.bool false) (call2 71 [.str true l] (Sx.G.on [true, false])) = ((Sx.AV.bool false) = (Sx.AV.bool false) ∧ ((True ∧ (decide ((1 : Int) ≤ (↑(List.length l) : Int)) = true)) ∧ (decide ((↑(List.length l) : Int) ≤ (16 : Int)) = false))) := by kernel_rfl
 exact ⟨by rw [e]; exact ⟨rfl, ⟨⟨trivial, c0⟩, c1⟩⟩⟩
theorem rnode_r2 (l : List UInt8) (c0 : decide ((1 : Int) ≤ (↑(List.length l) : Int)) = false) : Sx.PureP (Sx.AV.bool false) (call2 71 [.str true l] (Sx.G.on [false])) := by
 have e : Sx.pureP (Sx.AV.bool false) (call2 71 [.str true l] (Sx.G.on [false])) = ((Sx.AV.bool false) = (Sx.AV.bool false) ∧ (True ∧ (decide ((1 : Int) ≤ (↑(List.length l) : Int)) = false))) := by kernel_rfl
 exact ⟨by rw [e]; exact ⟨rfl, ⟨trivial, c0⟩⟩⟩
noncomputable def rnode_0 (l : List UInt8) : Bool := (bif decide ((1 : Int) ≤ (↑(List.length l) : Int)) then (bif decide ((↑(List.length l) : Int) ≤ (16 : Int)) then (List.all l okB) else (false)) else (false))
noncomputable def rnodeS : List Sx.AV → Sx.M Sx.AV
 | [.str s0 l] => Sx.M.ret (Sx.cmpB s0 (rnode_0 l))
 | args => call2 71 args
theorem rnodeS_ok : ∀ args v g g', rnodeS args g = .done v g' → Sx.CallIs Try.prog 71 args v g g' := by
 intro args v g g' h
 unfold rnodeS at h
 split at h
 ·rename_i s0 l
  obtain ⟨rfl, rfl⟩ := Sx.ret_done h
  refine Sx.scal call2_ok fun μ cargs ha => ?_
  have ha' : Sx.Reps 0 Sx.MM.none [.str true l] cargs.toList := by simpa only [Sx.Reps, Sx.Rep] using ha
  cases t0 : decide ((1 : Int) ≤ (↑(List.length l) : Int)) with
  | true =>
   cases t1 : decide ((↑(List.length l) : Int) ≤ (16 : Int)) with
   | true =>
    exact ⟨_, _, _, ha', rnode_r0 l t0 t1 (by first | ((try simp only [decide_eq_true_eq, decide_eq_false_iff_not] at t0 t1); (try simp only [List.length_take, List.length_drop]); omega) | decide | (have hp' := hp; simp_all; try omega)), rfl, fun cv hc => by have := hc g.nx μ; have e0 : rnode_0 l = (List.all l okB) := (Sx.ct t0).trans ((Sx.ct t1).trans (rfl)); rw [e0]; simpa only [Sx.Rep, Sx.Reps, Sx.Rep_cmpB] using this⟩
   | false =>
    exact ⟨_, _, _, ha', rnode_r1 l t0 t1, rfl, fun cv hc => by have := hc g.nx μ; have e0 : rnode_0 l = (false) := (Sx.ct t0).trans ((Sx.cf t1).trans (rfl)); rw [e0]; simpa only [Sx.Rep, Sx.Reps, Sx.Rep_cmpB] using this⟩
  | false =>
   exact ⟨_, _, _, ha', rnode_r2 l t0, rfl, fun cv hc => by have := hc g.nx μ; have e0 : rnode_0 l = (false) := (Sx.cf t0).trans (rfl); rw [e0]; simpa only [Sx.Rep, Sx.Reps, Sx.Rep_cmpB] using this⟩
 ·exact call2_ok _ _ _ _ _ h
theorem rnodeS_tch : ∀ args, Sx.Tch (rnodeS args) := by
 intro args
 unfold rnodeS
 split
 ·exact Sx.Tch.ret _
 ·exact call2_tch _ _
noncomputable def gam3 : Sx.Known := fun f => bif Nat.beq f 36 then some Sx.ofBits else (bif Nat.beq f 62 then some Sx.toBits else (bif Nat.beq f 81 then some smallS else (bif Nat.beq f 85 then some bytesS else (bif Nat.beq f 66 then some kindS else (bif Nat.beq f 72 then some rkindS else (bif Nat.beq f 63 then some rowOfS else (bif Nat.beq f 69 then some rrowS else (bif Nat.beq f 82 then some ofS else (bif Nat.beq f 86 then some rofS else (bif Nat.beq f 64 then some nameS else (bif Nat.beq f 70 then some rnameS else (bif Nat.beq f 65 then some nodeS else (bif Nat.beq f 71 then some rnodeS else (none))))))))))))))
theorem gam3_ok : Sx.KnownOk Try.prog gam3 := by
 intro f s h
 unfold gam3 at h
 cases h1 : Nat.beq f 36 with
 | true =>
  rw [h1] at h
  cases h
  cases Nat.eq_of_beq_eq_true h1
  exact (Sx.ofBits_is Try.prog).callIs Try.func36 (by kernel_rfl) (by kernel_rfl) (by kernel_rfl) (by kernel_rfl)
 | false =>
  rw [h1, cond_false] at h
  clear h1
  cases h1 : Nat.beq f 62 with
  | true =>
   rw [h1] at h
   cases h
   cases Nat.eq_of_beq_eq_true h1
   exact (Sx.toBits_is Try.prog).callIs Try.func62 (by kernel_rfl) (by kernel_rfl) (by kernel_rfl) (by kernel_rfl)
  | false =>
   rw [h1, cond_false] at h
   clear h1
   cases h1 : Nat.beq f 81 with
   | true =>
    rw [h1] at h
    cases h
    cases Nat.eq_of_beq_eq_true h1
    exact smallS_ok
   | false =>
    rw [h1, cond_false] at h
    clear h1
    cases h1 : Nat.beq f 85 with
    | true =>
     rw [h1] at h
     cases h
     cases Nat.eq_of_beq_eq_true h1
     exact bytesS_ok
    | false =>
     rw [h1, cond_false] at h
     clear h1
     cases h1 : Nat.beq f 66 with
     | true =>
      rw [h1] at h
      cases h
      cases Nat.eq_of_beq_eq_true h1
      exact kindS_ok
     | false =>
      rw [h1, cond_false] at h
      clear h1
      cases h1 : Nat.beq f 72 with
      | true =>
       rw [h1] at h
       cases h
       cases Nat.eq_of_beq_eq_true h1
       exact rkindS_ok
      | false =>
       rw [h1, cond_false] at h
       clear h1
       cases h1 : Nat.beq f 63 with
       | true =>
        rw [h1] at h
        cases h
        cases Nat.eq_of_beq_eq_true h1
        exact rowOfS_ok
       | false =>
        rw [h1, cond_false] at h
        clear h1
        cases h1 : Nat.beq f 69 with
        | true =>
         rw [h1] at h
         cases h
         cases Nat.eq_of_beq_eq_true h1
         exact rrowS_ok
        | false =>
         rw [h1, cond_false] at h
         clear h1
         cases h1 : Nat.beq f 82 with
         | true =>
          rw [h1] at h
          cases h
          cases Nat.eq_of_beq_eq_true h1
          exact ofS_ok
         | false =>
          rw [h1, cond_false] at h
          clear h1
          cases h1 : Nat.beq f 86 with
          | true =>
           rw [h1] at h
           cases h
           cases Nat.eq_of_beq_eq_true h1
           exact rofS_ok
          | false =>
           rw [h1, cond_false] at h
           clear h1
           cases h1 : Nat.beq f 64 with
           | true =>
            rw [h1] at h
            cases h
            cases Nat.eq_of_beq_eq_true h1
            exact nameS_ok
           | false =>
            rw [h1, cond_false] at h
            clear h1
            cases h1 : Nat.beq f 70 with
            | true =>
             rw [h1] at h
             cases h
             cases Nat.eq_of_beq_eq_true h1
             exact rnameS_ok
            | false =>
             rw [h1, cond_false] at h
             clear h1
             cases h1 : Nat.beq f 65 with
             | true =>
              rw [h1] at h
              cases h
              cases Nat.eq_of_beq_eq_true h1
              exact nodeS_ok
             | false =>
              rw [h1, cond_false] at h
              clear h1
              cases h1 : Nat.beq f 71 with
              | true =>
               rw [h1] at h
               cases h
               cases Nat.eq_of_beq_eq_true h1
               exact rnodeS_ok
              | false =>
               rw [h1, cond_false] at h
               clear h1
               cases h
theorem gam3_tch : Sx.KnownT gam3 := by
 intro f s h
 unfold gam3 at h
 cases h1 : Nat.beq f 36 with
 | true => rw [h1] at h; cases h; exact Sx.Tch.ofBits
 | false =>
  rw [h1, cond_false] at h
  clear h1
  cases h1 : Nat.beq f 62 with
  | true => rw [h1] at h; cases h; exact Sx.Tch.toBits
  | false =>
   rw [h1, cond_false] at h
   clear h1
   cases h1 : Nat.beq f 81 with
   | true => rw [h1] at h; cases h; exact smallS_tch
   | false =>
    rw [h1, cond_false] at h
    clear h1
    cases h1 : Nat.beq f 85 with
    | true => rw [h1] at h; cases h; exact bytesS_tch
    | false =>
     rw [h1, cond_false] at h
     clear h1
     cases h1 : Nat.beq f 66 with
     | true => rw [h1] at h; cases h; exact kindS_tch
     | false =>
      rw [h1, cond_false] at h
      clear h1
      cases h1 : Nat.beq f 72 with
      | true => rw [h1] at h; cases h; exact rkindS_tch
      | false =>
       rw [h1, cond_false] at h
       clear h1
       cases h1 : Nat.beq f 63 with
       | true => rw [h1] at h; cases h; exact rowOfS_tch
       | false =>
        rw [h1, cond_false] at h
        clear h1
        cases h1 : Nat.beq f 69 with
        | true => rw [h1] at h; cases h; exact rrowS_tch
        | false =>
         rw [h1, cond_false] at h
         clear h1
         cases h1 : Nat.beq f 82 with
         | true => rw [h1] at h; cases h; exact ofS_tch
         | false =>
          rw [h1, cond_false] at h
          clear h1
          cases h1 : Nat.beq f 86 with
          | true => rw [h1] at h; cases h; exact rofS_tch
          | false =>
           rw [h1, cond_false] at h
           clear h1
           cases h1 : Nat.beq f 64 with
           | true => rw [h1] at h; cases h; exact nameS_tch
           | false =>
            rw [h1, cond_false] at h
            clear h1
            cases h1 : Nat.beq f 70 with
            | true => rw [h1] at h; cases h; exact rnameS_tch
            | false =>
             rw [h1, cond_false] at h
             clear h1
             cases h1 : Nat.beq f 65 with
             | true => rw [h1] at h; cases h; exact nodeS_tch
             | false =>
              rw [h1, cond_false] at h
              clear h1
              cases h1 : Nat.beq f 71 with
              | true => rw [h1] at h; cases h; exact rnodeS_tch
              | false =>
               rw [h1, cond_false] at h
               clear h1
               cases h
noncomputable def call3 : Sx.Calls' := Sx.runN Try.prog gam3 (Sx.regionC Try.prog) 1000 50
theorem call3_ok : Sx.CallOk Try.prog call3 := Sx.engineC gam3_ok gam3_tch (by kernel_rfl) (by kernel_rfl) 1000 50
theorem call3_tch : Sx.CallT call3 := Sx.runA_tch gam3_tch (fun _ _ _ h => by cases h) (fun call hc n l fr => Sx.regionC_tch hc n l fr) 50
theorem call3_reg (n : Nat) : Sx.RegionOk Try.prog (Sx.regionC Try.prog call3 n) n := Sx.runN_regionC gam3_ok gam3_tch (by kernel_rfl) (by kernel_rfl) 1000 50 n
theorem chk_r0 (k : Int) (n a b c d : List UInt8) (v : Nat) (ph : Int) (c0 : (!rowOf_5 k) = false) (c1 : (!name_1 n) = false) (c2 : (!decide (name_0 n = k)) = false) (c3 : (!node_0 a) = false) (c4 : (!node_0 b) = false) (c5 : rowOf_3 k = true) (c6 : (!node_0 c) = false) (c7 : (!node_0 d) = false) (c8 : (a == b) = true) : Sx.PureP (Sx.AV.int false IntKind.i64 (2 : Int)) (call3 37 [.agg [.int true .u8 k, .str true n, .str true a, .str true b, .str true c, .str true d, .raw true v, .int true .i64 ph]] (Sx.G.on [false, false, false, false, false, true, false, false, true])) := by
 have e : Sx.pureP (Sx.AV.int false IntKind.i64 (2 : Int)) (call3 37 [.agg [.int true .u8 k, .str true n, .str true a, .str true b, .str true c, .str true d, .raw true v, .int true .i64 ph]] (Sx.G.on [false, false, false, false, false, true, false, false, true])) = ((Sx.AV.int false IntKind.i64 (2 : Int)) = (Sx.AV.int false IntKind.i64 (2 : Int)) ∧ (((((((((True ∧ ((!rowOf_5 k) = false)) ∧ ((!name_1 n) = false)) ∧ ((!decide (name_0 n = k)) = false)) ∧ ((!node_0 a) = false)) ∧ ((!node_0 b) = false)) ∧ (rowOf_3 k = true)) ∧ ((!node_0 c) = false)) ∧ ((!node_0 d) = false)) ∧ ((a == b) = true))) := by kernel_rfl
 exact ⟨by rw [e]; exact ⟨rfl, ⟨⟨⟨⟨⟨⟨⟨⟨⟨trivial, c0⟩, c1⟩, c2⟩, c3⟩, c4⟩, c5⟩, c6⟩, c7⟩, c8⟩⟩⟩
theorem chk_r1 (k : Int) (n a b c d : List UInt8) (v : Nat) (ph : Int) (c0 : (!rowOf_5 k) = false) (c1 : (!name_1 n) = false) (c2 : (!decide (name_0 n = k)) = false) (c3 : (!node_0 a) = false) (c4 : (!node_0 b) = false) (c5 : rowOf_3 k = true) (c6 : (!node_0 c) = false) (c7 : (!node_0 d) = false) (c8 : (a == b) = false) (c9 : (!rowOf_3 k) = false) (c10 : (!rowOf_4 k) = false) (c11 : decide ((2 : Int) < Sx.kindDef v) = true) : Sx.PureP (Sx.AV.int false IntKind.i64 (5 : Int)) (call3 37 [.agg [.int true .u8 k, .str true n, .str true a, .str true b, .str true c, .str true d, .raw true v, .int true .i64 ph]] (Sx.G.on [false, false, false, false, false, true, false, false, false, false, false, true])) := by
 have e : Sx.pureP (Sx.AV.int false IntKind.i64 (5 : Int)) (call3 37 [.agg [.int true .u8 k, .str true n, .str true a, .str true b, .str true c, .str true d, .raw true v, .int true .i64 ph]] (Sx.G.on [false, false, false, false, false, true, false, false, false, false, false, true])) = ((Sx.AV.int false IntKind.i64 (5 : Int)) = (Sx.AV.int false IntKind.i64 (5 : Int)) ∧ ((((((((((((True ∧ ((!rowOf_5 k) = false)) ∧ ((!name_1 n) = false)) ∧ ((!decide (name_0 n = k)) = false)) ∧ ((!node_0 a) = false)) ∧ ((!node_0 b) = false)) ∧ (rowOf_3 k = true)) ∧ ((!node_0 c) = false)) ∧ ((!node_0 d) = false)) ∧ ((a == b) = false)) ∧ ((!rowOf_3 k) = false)) ∧ ((!rowOf_4 k) = false)) ∧ (decide ((2 : Int) < Sx.kindDef v) = true))) := by kernel_rfl
 exact ⟨by rw [e]; exact ⟨rfl, ⟨⟨⟨⟨⟨⟨⟨⟨⟨⟨⟨⟨trivial, c0⟩, c1⟩, c2⟩, c3⟩, c4⟩, c5⟩, c6⟩, c7⟩, c8⟩, c9⟩, c10⟩, c11⟩⟩⟩
theorem chk_r2 (k : Int) (n a b c d : List UInt8) (v : Nat) (ph : Int) (c0 : (!rowOf_5 k) = false) (c1 : (!name_1 n) = false) (c2 : (!decide (name_0 n = k)) = false) (c3 : (!node_0 a) = false) (c4 : (!node_0 b) = false) (c5 : rowOf_3 k = true) (c6 : (!node_0 c) = false) (c7 : (!node_0 d) = false) (c8 : (a == b) = false) (c9 : (!rowOf_3 k) = false) (c10 : (!rowOf_4 k) = false) (c11 : decide ((2 : Int) < Sx.kindDef v) = false) (c12 : rowOf_2 k = true) (c13 : Sx.fle (Sx.cn v) (Sx.cn (0 : Nat)) = true) : Sx.PureP (Sx.AV.int false IntKind.i64 (2 : Int)) (call3 37 [.agg [.int true .u8 k, .str true n, .str true a, .str true b, .str true c, .str true d, .raw true v, .int true .i64 ph]] (Sx.G.on [false, false, false, false, false, true, false, false, false, false, false, false, true, true])) := by
 have e : Sx.pureP (Sx.AV.int false IntKind.i64 (2 : Int)) (call3 37 [.agg [.int true .u8 k, .str true n, .str true a, .str true b, .str true c, .str true d, .raw true v, .int true .i64 ph]] (Sx.G.on [false, false, false, false, false, true, false, false, false, false, false, false, true, true])) = ((Sx.AV.int false IntKind.i64 (2 : Int)) = (Sx.AV.int false IntKind.i64 (2 : Int)) ∧ ((((((((((((((True ∧ ((!rowOf_5 k) = false)) ∧ ((!name_1 n) = false)) ∧ ((!decide (name_0 n = k)) = false)) ∧ ((!node_0 a) = false)) ∧ ((!node_0 b) = false)) ∧ (rowOf_3 k = true)) ∧ ((!node_0 c) = false)) ∧ ((!node_0 d) = false)) ∧ ((a == b) = false)) ∧ ((!rowOf_3 k) = false)) ∧ ((!rowOf_4 k) = false)) ∧ (decide ((2 : Int) < Sx.kindDef v) = false)) ∧ (rowOf_2 k = true)) ∧ (Sx.fle (Sx.cn v) (Sx.cn (0 : Nat)) = true))) := by kernel_rfl
 exact ⟨by rw [e]; exact ⟨rfl, ⟨⟨⟨⟨⟨⟨⟨⟨⟨⟨⟨⟨⟨⟨trivial, c0⟩, c1⟩, c2⟩, c3⟩, c4⟩, c5⟩, c6⟩, c7⟩, c8⟩, c9⟩, c10⟩, c11⟩, c12⟩, c13⟩⟩⟩
theorem chk_r3 (k : Int) (n a b c d : List UInt8) (v : Nat) (ph : Int) (c0 : (!rowOf_5 k) = false) (c1 : (!name_1 n) = false) (c2 : (!decide (name_0 n = k)) = false) (c3 : (!node_0 a) = false) (c4 : (!node_0 b) = false) (c5 : rowOf_3 k = true) (c6 : (!node_0 c) = false) (c7 : (!node_0 d) = false) (c8 : (a == b) = false) (c9 : (!rowOf_3 k) = false) (c10 : (!rowOf_4 k) = false) (c11 : decide ((2 : Int) < Sx.kindDef v) = false) (c12 : rowOf_2 k = true) (c13 : Sx.fle (Sx.cn v) (Sx.cn (0 : Nat)) = false) : Sx.PureP (Sx.AV.int false IntKind.i64 (0 : Int)) (call3 37 [.agg [.int true .u8 k, .str true n, .str true a, .str true b, .str true c, .str true d, .raw true v, .int true .i64 ph]] (Sx.G.on [false, false, false, false, false, true, false, false, false, false, false, false, true, false])) := by
 have e : Sx.pureP (Sx.AV.int false IntKind.i64 (0 : Int)) (call3 37 [.agg [.int true .u8 k, .str true n, .str true a, .str true b, .str true c, .str true d, .raw true v, .int true .i64 ph]] (Sx.G.on [false, false, false, false, false, true, false, false, false, false, false, false, true, false])) = ((Sx.AV.int false IntKind.i64 (0 : Int)) = (Sx.AV.int false IntKind.i64 (0 : Int)) ∧ ((((((((((((((True ∧ ((!rowOf_5 k) = false)) ∧ ((!name_1 n) = false)) ∧ ((!decide (name_0 n = k)) = false)) ∧ ((!node_0 a) = false)) ∧ ((!node_0 b) = false)) ∧ (rowOf_3 k = true)) ∧ ((!node_0 c) = false)) ∧ ((!node_0 d) = false)) ∧ ((a == b) = false)) ∧ ((!rowOf_3 k) = false)) ∧ ((!rowOf_4 k) = false)) ∧ (decide ((2 : Int) < Sx.kindDef v) = false)) ∧ (rowOf_2 k = true)) ∧ (Sx.fle (Sx.cn v) (Sx.cn (0 : Nat)) = false))) := by kernel_rfl
 exact ⟨by rw [e]; exact ⟨rfl, ⟨⟨⟨⟨⟨⟨⟨⟨⟨⟨⟨⟨⟨⟨trivial, c0⟩, c1⟩, c2⟩, c3⟩, c4⟩, c5⟩, c6⟩, c7⟩, c8⟩, c9⟩, c10⟩, c11⟩, c12⟩, c13⟩⟩⟩
theorem chk_r4 (k : Int) (n a b c d : List UInt8) (v : Nat) (ph : Int) (c0 : (!rowOf_5 k) = false) (c1 : (!name_1 n) = false) (c2 : (!decide (name_0 n = k)) = false) (c3 : (!node_0 a) = false) (c4 : (!node_0 b) = false) (c5 : rowOf_3 k = true) (c6 : (!node_0 c) = false) (c7 : (!node_0 d) = false) (c8 : (a == b) = false) (c9 : (!rowOf_3 k) = false) (c10 : (!rowOf_4 k) = false) (c11 : decide ((2 : Int) < Sx.kindDef v) = false) (c12 : rowOf_2 k = false) : Sx.PureP (Sx.AV.int false IntKind.i64 (0 : Int)) (call3 37 [.agg [.int true .u8 k, .str true n, .str true a, .str true b, .str true c, .str true d, .raw true v, .int true .i64 ph]] (Sx.G.on [false, false, false, false, false, true, false, false, false, false, false, false, false])) := by
 have e : Sx.pureP (Sx.AV.int false IntKind.i64 (0 : Int)) (call3 37 [.agg [.int true .u8 k, .str true n, .str true a, .str true b, .str true c, .str true d, .raw true v, .int true .i64 ph]] (Sx.G.on [false, false, false, false, false, true, false, false, false, false, false, false, false])) = ((Sx.AV.int false IntKind.i64 (0 : Int)) = (Sx.AV.int false IntKind.i64 (0 : Int)) ∧ (((((((((((((True ∧ ((!rowOf_5 k) = false)) ∧ ((!name_1 n) = false)) ∧ ((!decide (name_0 n = k)) = false)) ∧ ((!node_0 a) = false)) ∧ ((!node_0 b) = false)) ∧ (rowOf_3 k = true)) ∧ ((!node_0 c) = false)) ∧ ((!node_0 d) = false)) ∧ ((a == b) = false)) ∧ ((!rowOf_3 k) = false)) ∧ ((!rowOf_4 k) = false)) ∧ (decide ((2 : Int) < Sx.kindDef v) = false)) ∧ (rowOf_2 k = false))) := by kernel_rfl
 exact ⟨by rw [e]; exact ⟨rfl, ⟨⟨⟨⟨⟨⟨⟨⟨⟨⟨⟨⟨⟨trivial, c0⟩, c1⟩, c2⟩, c3⟩, c4⟩, c5⟩, c6⟩, c7⟩, c8⟩, c9⟩, c10⟩, c11⟩, c12⟩⟩⟩
theorem chk_r5 (k : Int) (n a b c d : List UInt8) (v : Nat) (ph : Int) (c0 : (!rowOf_5 k) = false) (c1 : (!name_1 n) = false) (c2 : (!decide (name_0 n = k)) = false) (c3 : (!node_0 a) = false) (c4 : (!node_0 b) = false) (c5 : rowOf_3 k = true) (c6 : (!node_0 c) = false) (c7 : (!node_0 d) = false) (c8 : (a == b) = false) (c9 : (!rowOf_3 k) = false) (c10 : (!rowOf_4 k) = true) (c11 : (!decide (ph = (0 : Int))) = false) (c12 : decide ((2 : Int) < Sx.kindDef v) = true) : Sx.PureP (Sx.AV.int false IntKind.i64 (5 : Int)) (call3 37 [.agg [.int true .u8 k, .str true n, .str true a, .str true b, .str true c, .str true d, .raw true v, .int true .i64 ph]] (Sx.G.on [false, false, false, false, false, true, false, false, false, false, true, false, true])) := by
 have e : Sx.pureP (Sx.AV.int false IntKind.i64 (5 : Int)) (call3 37 [.agg [.int true .u8 k, .str true n, .str true a, .str true b, .str true c, .str true d, .raw true v, .int true .i64 ph]] (Sx.G.on [false, false, false, false, false, true, false, false, false, false, true, false, true])) = ((Sx.AV.int false IntKind.i64 (5 : Int)) = (Sx.AV.int false IntKind.i64 (5 : Int)) ∧ (((((((((((((True ∧ ((!rowOf_5 k) = false)) ∧ ((!name_1 n) = false)) ∧ ((!decide (name_0 n = k)) = false)) ∧ ((!node_0 a) = false)) ∧ ((!node_0 b) = false)) ∧ (rowOf_3 k = true)) ∧ ((!node_0 c) = false)) ∧ ((!node_0 d) = false)) ∧ ((a == b) = false)) ∧ ((!rowOf_3 k) = false)) ∧ ((!rowOf_4 k) = true)) ∧ ((!decide (ph = (0 : Int))) = false)) ∧ (decide ((2 : Int) < Sx.kindDef v) = true))) := by kernel_rfl
 exact ⟨by rw [e]; exact ⟨rfl, ⟨⟨⟨⟨⟨⟨⟨⟨⟨⟨⟨⟨⟨trivial, c0⟩, c1⟩, c2⟩, c3⟩, c4⟩, c5⟩, c6⟩, c7⟩, c8⟩, c9⟩, c10⟩, c11⟩, c12⟩⟩⟩
theorem chk_r6 (k : Int) (n a b c d : List UInt8) (v : Nat) (ph : Int) (c0 : (!rowOf_5 k) = false) (c1 : (!name_1 n) = false) (c2 : (!decide (name_0 n = k)) = false) (c3 : (!node_0 a) = false) (c4 : (!node_0 b) = false) (c5 : rowOf_3 k = true) (c6 : (!node_0 c) = false) (c7 : (!node_0 d) = false) (c8 : (a == b) = false) (c9 : (!rowOf_3 k) = false) (c10 : (!rowOf_4 k) = true) (c11 : (!decide (ph = (0 : Int))) = false) (c12 : decide ((2 : Int) < Sx.kindDef v) = false) (c13 : rowOf_2 k = true) (c14 : Sx.fle (Sx.cn v) (Sx.cn (0 : Nat)) = true) : Sx.PureP (Sx.AV.int false IntKind.i64 (2 : Int)) (call3 37 [.agg [.int true .u8 k, .str true n, .str true a, .str true b, .str true c, .str true d, .raw true v, .int true .i64 ph]] (Sx.G.on [false, false, false, false, false, true, false, false, false, false, true, false, false, true, true])) := by
 have e : Sx.pureP (Sx.AV.int false IntKind.i64 (2 : Int)) (call3 37 [.agg [.int true .u8 k, .str true n, .str true a, .str true b, .str true c, .str true d, .raw true v, .int true .i64 ph]] (Sx.G.on [false, false, false, false, false, true, false, false, false, false, true, false, false, true, true])) = ((Sx.AV.int false IntKind.i64 (2 : Int)) = (Sx.AV.int false IntKind.i64 (2 : Int)) ∧ (((((((((((((((True ∧ ((!rowOf_5 k) = false)) ∧ ((!name_1 n) = false)) ∧ ((!decide (name_0 n = k)) = false)) ∧ ((!node_0 a) = false)) ∧ ((!node_0 b) = false)) ∧ (rowOf_3 k = true)) ∧ ((!node_0 c) = false)) ∧ ((!node_0 d) = false)) ∧ ((a == b) = false)) ∧ ((!rowOf_3 k) = false)) ∧ ((!rowOf_4 k) = true)) ∧ ((!decide (ph = (0 : Int))) = false)) ∧ (decide ((2 : Int) < Sx.kindDef v) = false)) ∧ (rowOf_2 k = true)) ∧ (Sx.fle (Sx.cn v) (Sx.cn (0 : Nat)) = true))) := by kernel_rfl
 exact ⟨by rw [e]; exact ⟨rfl, ⟨⟨⟨⟨⟨⟨⟨⟨⟨⟨⟨⟨⟨⟨⟨trivial, c0⟩, c1⟩, c2⟩, c3⟩, c4⟩, c5⟩, c6⟩, c7⟩, c8⟩, c9⟩, c10⟩, c11⟩, c12⟩, c13⟩, c14⟩⟩⟩
theorem chk_r7 (k : Int) (n a b c d : List UInt8) (v : Nat) (ph : Int) (c0 : (!rowOf_5 k) = false) (c1 : (!name_1 n) = false) (c2 : (!decide (name_0 n = k)) = false) (c3 : (!node_0 a) = false) (c4 : (!node_0 b) = false) (c5 : rowOf_3 k = true) (c6 : (!node_0 c) = false) (c7 : (!node_0 d) = false) (c8 : (a == b) = false) (c9 : (!rowOf_3 k) = false) (c10 : (!rowOf_4 k) = true) (c11 : (!decide (ph = (0 : Int))) = false) (c12 : decide ((2 : Int) < Sx.kindDef v) = false) (c13 : rowOf_2 k = true) (c14 : Sx.fle (Sx.cn v) (Sx.cn (0 : Nat)) = false) : Sx.PureP (Sx.AV.int false IntKind.i64 (0 : Int)) (call3 37 [.agg [.int true .u8 k, .str true n, .str true a, .str true b, .str true c, .str true d, .raw true v, .int true .i64 ph]] (Sx.G.on [false, false, false, false, false, true, false, false, false, false, true, false, false, true, false])) := by
 have e : Sx.pureP (Sx.AV.int false IntKind.i64 (0 : Int)) (call3 37 [.agg [.int true .u8 k, .str true n, .str true a, .str true b, .str true c, .str true d, .raw true v, .int true .i64 ph]] (Sx.G.on [false, false, false, false, false, true, false, false, false, false, true, false, false, true, false])) = ((Sx.AV.int false IntKind.i64 (0 : Int)) = (Sx.AV.int false IntKind.i64 (0 : Int)) ∧ (((((((((((((((True ∧ ((!rowOf_5 k) = false)) ∧ ((!name_1 n) = false)) ∧ ((!decide (name_0 n = k)) = false)) ∧ ((!node_0 a) = false)) ∧ ((!node_0 b) = false)) ∧ (rowOf_3 k = true)) ∧ ((!node_0 c) = false)) ∧ ((!node_0 d) = false)) ∧ ((a == b) = false)) ∧ ((!rowOf_3 k) = false)) ∧ ((!rowOf_4 k) = true)) ∧ ((!decide (ph = (0 : Int))) = false)) ∧ (decide ((2 : Int) < Sx.kindDef v) = false)) ∧ (rowOf_2 k = true)) ∧ (Sx.fle (Sx.cn v) (Sx.cn (0 : Nat)) = false))) := by kernel_rfl
 exact ⟨by rw [e]; exact ⟨rfl, ⟨⟨⟨⟨⟨⟨⟨⟨⟨⟨⟨⟨⟨⟨⟨trivial, c0⟩, c1⟩, c2⟩, c3⟩, c4⟩, c5⟩, c6⟩, c7⟩, c8⟩, c9⟩, c10⟩, c11⟩, c12⟩, c13⟩, c14⟩⟩⟩
theorem chk_r8 (k : Int) (n a b c d : List UInt8) (v : Nat) (ph : Int) (c0 : (!rowOf_5 k) = false) (c1 : (!name_1 n) = false) (c2 : (!decide (name_0 n = k)) = false) (c3 : (!node_0 a) = false) (c4 : (!node_0 b) = false) (c5 : rowOf_3 k = true) (c6 : (!node_0 c) = false) (c7 : (!node_0 d) = false) (c8 : (a == b) = false) (c9 : (!rowOf_3 k) = false) (c10 : (!rowOf_4 k) = true) (c11 : (!decide (ph = (0 : Int))) = false) (c12 : decide ((2 : Int) < Sx.kindDef v) = false) (c13 : rowOf_2 k = false) : Sx.PureP (Sx.AV.int false IntKind.i64 (0 : Int)) (call3 37 [.agg [.int true .u8 k, .str true n, .str true a, .str true b, .str true c, .str true d, .raw true v, .int true .i64 ph]] (Sx.G.on [false, false, false, false, false, true, false, false, false, false, true, false, false, false])) := by
 have e : Sx.pureP (Sx.AV.int false IntKind.i64 (0 : Int)) (call3 37 [.agg [.int true .u8 k, .str true n, .str true a, .str true b, .str true c, .str true d, .raw true v, .int true .i64 ph]] (Sx.G.on [false, false, false, false, false, true, false, false, false, false, true, false, false, false])) = ((Sx.AV.int false IntKind.i64 (0 : Int)) = (Sx.AV.int false IntKind.i64 (0 : Int)) ∧ ((((((((((((((True ∧ ((!rowOf_5 k) = false)) ∧ ((!name_1 n) = false)) ∧ ((!decide (name_0 n = k)) = false)) ∧ ((!node_0 a) = false)) ∧ ((!node_0 b) = false)) ∧ (rowOf_3 k = true)) ∧ ((!node_0 c) = false)) ∧ ((!node_0 d) = false)) ∧ ((a == b) = false)) ∧ ((!rowOf_3 k) = false)) ∧ ((!rowOf_4 k) = true)) ∧ ((!decide (ph = (0 : Int))) = false)) ∧ (decide ((2 : Int) < Sx.kindDef v) = false)) ∧ (rowOf_2 k = false))) := by kernel_rfl
 exact ⟨by rw [e]; exact ⟨rfl, ⟨⟨⟨⟨⟨⟨⟨⟨⟨⟨⟨⟨⟨⟨trivial, c0⟩, c1⟩, c2⟩, c3⟩, c4⟩, c5⟩, c6⟩, c7⟩, c8⟩, c9⟩, c10⟩, c11⟩, c12⟩, c13⟩⟩⟩
theorem chk_r9 (k : Int) (n a b c d : List UInt8) (v : Nat) (ph : Int) (c0 : (!rowOf_5 k) = false) (c1 : (!name_1 n) = false) (c2 : (!decide (name_0 n = k)) = false) (c3 : (!node_0 a) = false) (c4 : (!node_0 b) = false) (c5 : rowOf_3 k = true) (c6 : (!node_0 c) = false) (c7 : (!node_0 d) = false) (c8 : (a == b) = false) (c9 : (!rowOf_3 k) = false) (c10 : (!rowOf_4 k) = true) (c11 : (!decide (ph = (0 : Int))) = true) : Sx.PureP (Sx.AV.int false IntKind.i64 (2 : Int)) (call3 37 [.agg [.int true .u8 k, .str true n, .str true a, .str true b, .str true c, .str true d, .raw true v, .int true .i64 ph]] (Sx.G.on [false, false, false, false, false, true, false, false, false, false, true, true])) := by
 have e : Sx.pureP (Sx.AV.int false IntKind.i64 (2 : Int)) (call3 37 [.agg [.int true .u8 k, .str true n, .str true a, .str true b, .str true c, .str true d, .raw true v, .int true .i64 ph]] (Sx.G.on [false, false, false, false, false, true, false, false, false, false, true, true])) = ((Sx.AV.int false IntKind.i64 (2 : Int)) = (Sx.AV.int false IntKind.i64 (2 : Int)) ∧ ((((((((((((True ∧ ((!rowOf_5 k) = false)) ∧ ((!name_1 n) = false)) ∧ ((!decide (name_0 n = k)) = false)) ∧ ((!node_0 a) = false)) ∧ ((!node_0 b) = false)) ∧ (rowOf_3 k = true)) ∧ ((!node_0 c) = false)) ∧ ((!node_0 d) = false)) ∧ ((a == b) = false)) ∧ ((!rowOf_3 k) = false)) ∧ ((!rowOf_4 k) = true)) ∧ ((!decide (ph = (0 : Int))) = true))) := by kernel_rfl
 exact ⟨by rw [e]; exact ⟨rfl, ⟨⟨⟨⟨⟨⟨⟨⟨⟨⟨⟨⟨trivial, c0⟩, c1⟩, c2⟩, c3⟩, c4⟩, c5⟩, c6⟩, c7⟩, c8⟩, c9⟩, c10⟩, c11⟩⟩⟩
theorem chk_r10 (k : Int) (n a b c d : List UInt8) (v : Nat) (ph : Int) (c0 : (!rowOf_5 k) = false) (c1 : (!name_1 n) = false) (c2 : (!decide (name_0 n = k)) = false) (c3 : (!node_0 a) = false) (c4 : (!node_0 b) = false) (c5 : rowOf_3 k = true) (c6 : (!node_0 c) = false) (c7 : (!node_0 d) = true) : Sx.PureP (Sx.AV.int false IntKind.i64 (8 : Int)) (call3 37 [.agg [.int true .u8 k, .str true n, .str true a, .str true b, .str true c, .str true d, .raw true v, .int true .i64 ph]] (Sx.G.on [false, false, false, false, false, true, false, true])) := by
 have e : Sx.pureP (Sx.AV.int false IntKind.i64 (8 : Int)) (call3 37 [.agg [.int true .u8 k, .str true n, .str true a, .str true b, .str true c, .str true d, .raw true v, .int true .i64 ph]] (Sx.G.on [false, false, false, false, false, true, false, true])) = ((Sx.AV.int false IntKind.i64 (8 : Int)) = (Sx.AV.int false IntKind.i64 (8 : Int)) ∧ ((((((((True ∧ ((!rowOf_5 k) = false)) ∧ ((!name_1 n) = false)) ∧ ((!decide (name_0 n = k)) = false)) ∧ ((!node_0 a) = false)) ∧ ((!node_0 b) = false)) ∧ (rowOf_3 k = true)) ∧ ((!node_0 c) = false)) ∧ ((!node_0 d) = true))) := by kernel_rfl
 exact ⟨by rw [e]; exact ⟨rfl, ⟨⟨⟨⟨⟨⟨⟨⟨trivial, c0⟩, c1⟩, c2⟩, c3⟩, c4⟩, c5⟩, c6⟩, c7⟩⟩⟩
theorem chk_r11 (k : Int) (n a b c d : List UInt8) (v : Nat) (ph : Int) (c0 : (!rowOf_5 k) = false) (c1 : (!name_1 n) = false) (c2 : (!decide (name_0 n = k)) = false) (c3 : (!node_0 a) = false) (c4 : (!node_0 b) = false) (c5 : rowOf_3 k = true) (c6 : (!node_0 c) = true) : Sx.PureP (Sx.AV.int false IntKind.i64 (8 : Int)) (call3 37 [.agg [.int true .u8 k, .str true n, .str true a, .str true b, .str true c, .str true d, .raw true v, .int true .i64 ph]] (Sx.G.on [false, false, false, false, false, true, true])) := by
 have e : Sx.pureP (Sx.AV.int false IntKind.i64 (8 : Int)) (call3 37 [.agg [.int true .u8 k, .str true n, .str true a, .str true b, .str true c, .str true d, .raw true v, .int true .i64 ph]] (Sx.G.on [false, false, false, false, false, true, true])) = ((Sx.AV.int false IntKind.i64 (8 : Int)) = (Sx.AV.int false IntKind.i64 (8 : Int)) ∧ (((((((True ∧ ((!rowOf_5 k) = false)) ∧ ((!name_1 n) = false)) ∧ ((!decide (name_0 n = k)) = false)) ∧ ((!node_0 a) = false)) ∧ ((!node_0 b) = false)) ∧ (rowOf_3 k = true)) ∧ ((!node_0 c) = true))) := by kernel_rfl
 exact ⟨by rw [e]; exact ⟨rfl, ⟨⟨⟨⟨⟨⟨⟨trivial, c0⟩, c1⟩, c2⟩, c3⟩, c4⟩, c5⟩, c6⟩⟩⟩
theorem chk_r12 (k : Int) (n a b c d : List UInt8) (v : Nat) (ph : Int) (c0 : (!rowOf_5 k) = false) (c1 : (!name_1 n) = false) (c2 : (!decide (name_0 n = k)) = false) (c3 : (!node_0 a) = false) (c4 : (!node_0 b) = false) (c5 : rowOf_3 k = false) (c6 : (a == b) = true) : Sx.PureP (Sx.AV.int false IntKind.i64 (2 : Int)) (call3 37 [.agg [.int true .u8 k, .str true n, .str true a, .str true b, .str true c, .str true d, .raw true v, .int true .i64 ph]] (Sx.G.on [false, false, false, false, false, false, true])) := by
 have e : Sx.pureP (Sx.AV.int false IntKind.i64 (2 : Int)) (call3 37 [.agg [.int true .u8 k, .str true n, .str true a, .str true b, .str true c, .str true d, .raw true v, .int true .i64 ph]] (Sx.G.on [false, false, false, false, false, false, true])) = ((Sx.AV.int false IntKind.i64 (2 : Int)) = (Sx.AV.int false IntKind.i64 (2 : Int)) ∧ (((((((True ∧ ((!rowOf_5 k) = false)) ∧ ((!name_1 n) = false)) ∧ ((!decide (name_0 n = k)) = false)) ∧ ((!node_0 a) = false)) ∧ ((!node_0 b) = false)) ∧ (rowOf_3 k = false)) ∧ ((a == b) = true))) := by kernel_rfl
 exact ⟨by rw [e]; exact ⟨rfl, ⟨⟨⟨⟨⟨⟨⟨trivial, c0⟩, c1⟩, c2⟩, c3⟩, c4⟩, c5⟩, c6⟩⟩⟩
theorem chk_r13 (k : Int) (n a b c d : List UInt8) (v : Nat) (ph : Int) (c0 : (!rowOf_5 k) = false) (c1 : (!name_1 n) = false) (c2 : (!decide (name_0 n = k)) = false) (c3 : (!node_0 a) = false) (c4 : (!node_0 b) = false) (c5 : rowOf_3 k = false) (c6 : (a == b) = false) (c7 : (!rowOf_3 k) = true) (c8 : (!c == []) = false) (c9 : (!d == []) = false) (c10 : (!rowOf_4 k) = false) (c11 : decide ((2 : Int) < Sx.kindDef v) = true) : Sx.PureP (Sx.AV.int false IntKind.i64 (5 : Int)) (call3 37 [.agg [.int true .u8 k, .str true n, .str true a, .str true b, .str true c, .str true d, .raw true v, .int true .i64 ph]] (Sx.G.on [false, false, false, false, false, false, false, true, false, false, false, true])) := by
 have e : Sx.pureP (Sx.AV.int false IntKind.i64 (5 : Int)) (call3 37 [.agg [.int true .u8 k, .str true n, .str true a, .str true b, .str true c, .str true d, .raw true v, .int true .i64 ph]] (Sx.G.on [false, false, false, false, false, false, false, true, false, false, false, true])) = ((Sx.AV.int false IntKind.i64 (5 : Int)) = (Sx.AV.int false IntKind.i64 (5 : Int)) ∧ ((((((((((((True ∧ ((!rowOf_5 k) = false)) ∧ ((!name_1 n) = false)) ∧ ((!decide (name_0 n = k)) = false)) ∧ ((!node_0 a) = false)) ∧ ((!node_0 b) = false)) ∧ (rowOf_3 k = false)) ∧ ((a == b) = false)) ∧ ((!rowOf_3 k) = true)) ∧ ((!c == []) = false)) ∧ ((!d == []) = false)) ∧ ((!rowOf_4 k) = false)) ∧ (decide ((2 : Int) < Sx.kindDef v) = true))) := by kernel_rfl
 exact ⟨by rw [e]; exact ⟨rfl, ⟨⟨⟨⟨⟨⟨⟨⟨⟨⟨⟨⟨trivial, c0⟩, c1⟩, c2⟩, c3⟩, c4⟩, c5⟩, c6⟩, c7⟩, c8⟩, c9⟩, c10⟩, c11⟩⟩⟩
theorem chk_r14 (k : Int) (n a b c d : List UInt8) (v : Nat) (ph : Int) (c0 : (!rowOf_5 k) = false) (c1 : (!name_1 n) = false) (c2 : (!decide (name_0 n = k)) = false) (c3 : (!node_0 a) = false) (c4 : (!node_0 b) = false) (c5 : rowOf_3 k = false) (c6 : (a == b) = false) (c7 : (!rowOf_3 k) = true) (c8 : (!c == []) = false) (c9 : (!d == []) = false) (c10 : (!rowOf_4 k) = false) (c11 : decide ((2 : Int) < Sx.kindDef v) = false) (c12 : rowOf_2 k = true) (c13 : Sx.fle (Sx.cn v) (Sx.cn (0 : Nat)) = true) : Sx.PureP (Sx.AV.int false IntKind.i64 (2 : Int)) (call3 37 [.agg [.int true .u8 k, .str true n, .str true a, .str true b, .str true c, .str true d, .raw true v, .int true .i64 ph]] (Sx.G.on [false, false, false, false, false, false, false, true, false, false, false, false, true, true])) := by
 have e : Sx.pureP (Sx.AV.int false IntKind.i64 (2 : Int)) (call3 37 [.agg [.int true .u8 k, .str true n, .str true a, .str true b, .str true c, .str true d, .raw true v, .int true .i64 ph]] (Sx.G.on [false, false, false, false, false, false, false, true, false, false, false, false, true, true])) = ((Sx.AV.int false IntKind.i64 (2 : Int)) = (Sx.AV.int false IntKind.i64 (2 : Int)) ∧ ((((((((((((((True ∧ ((!rowOf_5 k) = false)) ∧ ((!name_1 n) = false)) ∧ ((!decide (name_0 n = k)) = false)) ∧ ((!node_0 a) = false)) ∧ ((!node_0 b) = false)) ∧ (rowOf_3 k = false)) ∧ ((a == b) = false)) ∧ ((!rowOf_3 k) = true)) ∧ ((!c == []) = false)) ∧ ((!d == []) = false)) ∧ ((!rowOf_4 k) = false)) ∧ (decide ((2 : Int) < Sx.kindDef v) = false)) ∧ (rowOf_2 k = true)) ∧ (Sx.fle (Sx.cn v) (Sx.cn (0 : Nat)) = true))) := by kernel_rfl
 exact ⟨by rw [e]; exact ⟨rfl, ⟨⟨⟨⟨⟨⟨⟨⟨⟨⟨⟨⟨⟨⟨trivial, c0⟩, c1⟩, c2⟩, c3⟩, c4⟩, c5⟩, c6⟩, c7⟩, c8⟩, c9⟩, c10⟩, c11⟩, c12⟩, c13⟩⟩⟩
theorem chk_r15 (k : Int) (n a b c d : List UInt8) (v : Nat) (ph : Int) (c0 : (!rowOf_5 k) = false) (c1 : (!name_1 n) = false) (c2 : (!decide (name_0 n = k)) = false) (c3 : (!node_0 a) = false) (c4 : (!node_0 b) = false) (c5 : rowOf_3 k = false) (c6 : (a == b) = false) (c7 : (!rowOf_3 k) = true) (c8 : (!c == []) = false) (c9 : (!d == []) = false) (c10 : (!rowOf_4 k) = false) (c11 : decide ((2 : Int) < Sx.kindDef v) = false) (c12 : rowOf_2 k = true) (c13 : Sx.fle (Sx.cn v) (Sx.cn (0 : Nat)) = false) : Sx.PureP (Sx.AV.int false IntKind.i64 (0 : Int)) (call3 37 [.agg [.int true .u8 k, .str true n, .str true a, .str true b, .str true c, .str true d, .raw true v, .int true .i64 ph]] (Sx.G.on [false, false, false, false, false, false, false, true, false, false, false, false, true, false])) := by
 have e : Sx.pureP (Sx.AV.int false IntKind.i64 (0 : Int)) (call3 37 [.agg [.int true .u8 k, .str true n, .str true a, .str true b, .str true c, .str true d, .raw true v, .int true .i64 ph]] (Sx.G.on [false, false, false, false, false, false, false, true, false, false, false, false, true, false])) = ((Sx.AV.int false IntKind.i64 (0 : Int)) = (Sx.AV.int false IntKind.i64 (0 : Int)) ∧ ((((((((((((((True ∧ ((!rowOf_5 k) = false)) ∧ ((!name_1 n) = false)) ∧ ((!decide (name_0 n = k)) = false)) ∧ ((!node_0 a) = false)) ∧ ((!node_0 b) = false)) ∧ (rowOf_3 k = false)) ∧ ((a == b) = false)) ∧ ((!rowOf_3 k) = true)) ∧ ((!c == []) = false)) ∧ ((!d == []) = false)) ∧ ((!rowOf_4 k) = false)) ∧ (decide ((2 : Int) < Sx.kindDef v) = false)) ∧ (rowOf_2 k = true)) ∧ (Sx.fle (Sx.cn v) (Sx.cn (0 : Nat)) = false))) := by kernel_rfl
 exact ⟨by rw [e]; exact ⟨rfl, ⟨⟨⟨⟨⟨⟨⟨⟨⟨⟨⟨⟨⟨⟨trivial, c0⟩, c1⟩, c2⟩, c3⟩, c4⟩, c5⟩, c6⟩, c7⟩, c8⟩, c9⟩, c10⟩, c11⟩, c12⟩, c13⟩⟩⟩
theorem chk_r16 (k : Int) (n a b c d : List UInt8) (v : Nat) (ph : Int) (c0 : (!rowOf_5 k) = false) (c1 : (!name_1 n) = false) (c2 : (!decide (name_0 n = k)) = false) (c3 : (!node_0 a) = false) (c4 : (!node_0 b) = false) (c5 : rowOf_3 k = false) (c6 : (a == b) = false) (c7 : (!rowOf_3 k) = true) (c8 : (!c == []) = false) (c9 : (!d == []) = false) (c10 : (!rowOf_4 k) = false) (c11 : decide ((2 : Int) < Sx.kindDef v) = false) (c12 : rowOf_2 k = false) : Sx.PureP (Sx.AV.int false IntKind.i64 (0 : Int)) (call3 37 [.agg [.int true .u8 k, .str true n, .str true a, .str true b, .str true c, .str true d, .raw true v, .int true .i64 ph]] (Sx.G.on [false, false, false, false, false, false, false, true, false, false, false, false, false])) := by
 have e : Sx.pureP (Sx.AV.int false IntKind.i64 (0 : Int)) (call3 37 [.agg [.int true .u8 k, .str true n, .str true a, .str true b, .str true c, .str true d, .raw true v, .int true .i64 ph]] (Sx.G.on [false, false, false, false, false, false, false, true, false, false, false, false, false])) = ((Sx.AV.int false IntKind.i64 (0 : Int)) = (Sx.AV.int false IntKind.i64 (0 : Int)) ∧ (((((((((((((True ∧ ((!rowOf_5 k) = false)) ∧ ((!name_1 n) = false)) ∧ ((!decide (name_0 n = k)) = false)) ∧ ((!node_0 a) = false)) ∧ ((!node_0 b) = false)) ∧ (rowOf_3 k = false)) ∧ ((a == b) = false)) ∧ ((!rowOf_3 k) = true)) ∧ ((!c == []) = false)) ∧ ((!d == []) = false)) ∧ ((!rowOf_4 k) = false)) ∧ (decide ((2 : Int) < Sx.kindDef v) = false)) ∧ (rowOf_2 k = false))) := by kernel_rfl
 exact ⟨by rw [e]; exact ⟨rfl, ⟨⟨⟨⟨⟨⟨⟨⟨⟨⟨⟨⟨⟨trivial, c0⟩, c1⟩, c2⟩, c3⟩, c4⟩, c5⟩, c6⟩, c7⟩, c8⟩, c9⟩, c10⟩, c11⟩, c12⟩⟩⟩
theorem chk_r17 (k : Int) (n a b c d : List UInt8) (v : Nat) (ph : Int) (c0 : (!rowOf_5 k) = false) (c1 : (!name_1 n) = false) (c2 : (!decide (name_0 n = k)) = false) (c3 : (!node_0 a) = false) (c4 : (!node_0 b) = false) (c5 : rowOf_3 k = false) (c6 : (a == b) = false) (c7 : (!rowOf_3 k) = true) (c8 : (!c == []) = false) (c9 : (!d == []) = false) (c10 : (!rowOf_4 k) = true) (c11 : (!decide (ph = (0 : Int))) = false) (c12 : decide ((2 : Int) < Sx.kindDef v) = true) : Sx.PureP (Sx.AV.int false IntKind.i64 (5 : Int)) (call3 37 [.agg [.int true .u8 k, .str true n, .str true a, .str true b, .str true c, .str true d, .raw true v, .int true .i64 ph]] (Sx.G.on [false, false, false, false, false, false, false, true, false, false, true, false, true])) := by
 have e : Sx.pureP (Sx.AV.int false IntKind.i64 (5 : Int)) (call3 37 [.agg [.int true .u8 k, .str true n, .str true a, .str true b, .str true c, .str true d, .raw true v, .int true .i64 ph]] (Sx.G.on [false, false, false, false, false, false, false, true, false, false, true, false, true])) = ((Sx.AV.int false IntKind.i64 (5 : Int)) = (Sx.AV.int false IntKind.i64 (5 : Int)) ∧ (((((((((((((True ∧ ((!rowOf_5 k) = false)) ∧ ((!name_1 n) = false)) ∧ ((!decide (name_0 n = k)) = false)) ∧ ((!node_0 a) = false)) ∧ ((!node_0 b) = false)) ∧ (rowOf_3 k = false)) ∧ ((a == b) = false)) ∧ ((!rowOf_3 k) = true)) ∧ ((!c == []) = false)) ∧ ((!d == []) = false)) ∧ ((!rowOf_4 k) = true)) ∧ ((!decide (ph = (0 : Int))) = false)) ∧ (decide ((2 : Int) < Sx.kindDef v) = true))) := by kernel_rfl
 exact ⟨by rw [e]; exact ⟨rfl, ⟨⟨⟨⟨⟨⟨⟨⟨⟨⟨⟨⟨⟨trivial, c0⟩, c1⟩, c2⟩, c3⟩, c4⟩, c5⟩, c6⟩, c7⟩, c8⟩, c9⟩, c10⟩, c11⟩, c12⟩⟩⟩
theorem chk_r18 (k : Int) (n a b c d : List UInt8) (v : Nat) (ph : Int) (c0 : (!rowOf_5 k) = false) (c1 : (!name_1 n) = false) (c2 : (!decide (name_0 n = k)) = false) (c3 : (!node_0 a) = false) (c4 : (!node_0 b) = false) (c5 : rowOf_3 k = false) (c6 : (a == b) = false) (c7 : (!rowOf_3 k) = true) (c8 : (!c == []) = false) (c9 : (!d == []) = false) (c10 : (!rowOf_4 k) = true) (c11 : (!decide (ph = (0 : Int))) = false) (c12 : decide ((2 : Int) < Sx.kindDef v) = false) (c13 : rowOf_2 k = true) (c14 : Sx.fle (Sx.cn v) (Sx.cn (0 : Nat)) = true) : Sx.PureP (Sx.AV.int false IntKind.i64 (2 : Int)) (call3 37 [.agg [.int true .u8 k, .str true n, .str true a, .str true b, .str true c, .str true d, .raw true v, .int true .i64 ph]] (Sx.G.on [false, false, false, false, false, false, false, true, false, false, true, false, false, true, true])) := by
 have e : Sx.pureP (Sx.AV.int false IntKind.i64 (2 : Int)) (call3 37 [.agg [.int true .u8 k, .str true n, .str true a, .str true b, .str true c, .str true d, .raw true v, .int true .i64 ph]] (Sx.G.on [false, false, false, false, false, false, false, true, false, false, true, false, false, true, true])) = ((Sx.AV.int false IntKind.i64 (2 : Int)) = (Sx.AV.int false IntKind.i64 (2 : Int)) ∧ (((((((((((((((True ∧ ((!rowOf_5 k) = false)) ∧ ((!name_1 n) = false)) ∧ ((!decide (name_0 n = k)) = false)) ∧ ((!node_0 a) = false)) ∧ ((!node_0 b) = false)) ∧ (rowOf_3 k = false)) ∧ ((a == b) = false)) ∧ ((!rowOf_3 k) = true)) ∧ ((!c == []) = false)) ∧ ((!d == []) = false)) ∧ ((!rowOf_4 k) = true)) ∧ ((!decide (ph = (0 : Int))) = false)) ∧ (decide ((2 : Int) < Sx.kindDef v) = false)) ∧ (rowOf_2 k = true)) ∧ (Sx.fle (Sx.cn v) (Sx.cn (0 : Nat)) = true))) := by kernel_rfl
 exact ⟨by rw [e]; exact ⟨rfl, ⟨⟨⟨⟨⟨⟨⟨⟨⟨⟨⟨⟨⟨⟨⟨trivial, c0⟩, c1⟩, c2⟩, c3⟩, c4⟩, c5⟩, c6⟩, c7⟩, c8⟩, c9⟩, c10⟩, c11⟩, c12⟩, c13⟩, c14⟩⟩⟩
theorem chk_r19 (k : Int) (n a b c d : List UInt8) (v : Nat) (ph : Int) (c0 : (!rowOf_5 k) = false) (c1 : (!name_1 n) = false) (c2 : (!decide (name_0 n = k)) = false) (c3 : (!node_0 a) = false) (c4 : (!node_0 b) = false) (c5 : rowOf_3 k = false) (c6 : (a == b) = false) (c7 : (!rowOf_3 k) = true) (c8 : (!c == []) = false) (c9 : (!d == []) = false) (c10 : (!rowOf_4 k) = true) (c11 : (!decide (ph = (0 : Int))) = false) (c12 : decide ((2 : Int) < Sx.kindDef v) = false) (c13 : rowOf_2 k = true) (c14 : Sx.fle (Sx.cn v) (Sx.cn (0 : Nat)) = false) : Sx.PureP (Sx.AV.int false IntKind.i64 (0 : Int)) (call3 37 [.agg [.int true .u8 k, .str true n, .str true a, .str true b, .str true c, .str true d, .raw true v, .int true .i64 ph]] (Sx.G.on [false, false, false, false, false, false, false, true, false, false, true, false, false, true, false])) := by
 have e : Sx.pureP (Sx.AV.int false IntKind.i64 (0 : Int)) (call3 37 [.agg [.int true .u8 k, .str true n, .str true a, .str true b, .str true c, .str true d, .raw true v, .int true .i64 ph]] (Sx.G.on [false, false, false, false, false, false, false, true, false, false, true, false, false, true, false])) = ((Sx.AV.int false IntKind.i64 (0 : Int)) = (Sx.AV.int false IntKind.i64 (0 : Int)) ∧ (((((((((((((((True ∧ ((!rowOf_5 k) = false)) ∧ ((!name_1 n) = false)) ∧ ((!decide (name_0 n = k)) = false)) ∧ ((!node_0 a) = false)) ∧ ((!node_0 b) = false)) ∧ (rowOf_3 k = false)) ∧ ((a == b) = false)) ∧ ((!rowOf_3 k) = true)) ∧ ((!c == []) = false)) ∧ ((!d == []) = false)) ∧ ((!rowOf_4 k) = true)) ∧ ((!decide (ph = (0 : Int))) = false)) ∧ (decide ((2 : Int) < Sx.kindDef v) = false)) ∧ (rowOf_2 k = true)) ∧ (Sx.fle (Sx.cn v) (Sx.cn (0 : Nat)) = false))) := by kernel_rfl
 exact ⟨by rw [e]; exact ⟨rfl, ⟨⟨⟨⟨⟨⟨⟨⟨⟨⟨⟨⟨⟨⟨⟨trivial, c0⟩, c1⟩, c2⟩, c3⟩, c4⟩, c5⟩, c6⟩, c7⟩, c8⟩, c9⟩, c10⟩, c11⟩, c12⟩, c13⟩, c14⟩⟩⟩
theorem chk_r20 (k : Int) (n a b c d : List UInt8) (v : Nat) (ph : Int) (c0 : (!rowOf_5 k) = false) (c1 : (!name_1 n) = false) (c2 : (!decide (name_0 n = k)) = false) (c3 : (!node_0 a) = false) (c4 : (!node_0 b) = false) (c5 : rowOf_3 k = false) (c6 : (a == b) = false) (c7 : (!rowOf_3 k) = true) (c8 : (!c == []) = false) (c9 : (!d == []) = false) (c10 : (!rowOf_4 k) = true) (c11 : (!decide (ph = (0 : Int))) = false) (c12 : decide ((2 : Int) < Sx.kindDef v) = false) (c13 : rowOf_2 k = false) : Sx.PureP (Sx.AV.int false IntKind.i64 (0 : Int)) (call3 37 [.agg [.int true .u8 k, .str true n, .str true a, .str true b, .str true c, .str true d, .raw true v, .int true .i64 ph]] (Sx.G.on [false, false, false, false, false, false, false, true, false, false, true, false, false, false])) := by
 have e : Sx.pureP (Sx.AV.int false IntKind.i64 (0 : Int)) (call3 37 [.agg [.int true .u8 k, .str true n, .str true a, .str true b, .str true c, .str true d, .raw true v, .int true .i64 ph]] (Sx.G.on [false, false, false, false, false, false, false, true, false, false, true, false, false, false])) = ((Sx.AV.int false IntKind.i64 (0 : Int)) = (Sx.AV.int false IntKind.i64 (0 : Int)) ∧ ((((((((((((((True ∧ ((!rowOf_5 k) = false)) ∧ ((!name_1 n) = false)) ∧ ((!decide (name_0 n = k)) = false)) ∧ ((!node_0 a) = false)) ∧ ((!node_0 b) = false)) ∧ (rowOf_3 k = false)) ∧ ((a == b) = false)) ∧ ((!rowOf_3 k) = true)) ∧ ((!c == []) = false)) ∧ ((!d == []) = false)) ∧ ((!rowOf_4 k) = true)) ∧ ((!decide (ph = (0 : Int))) = false)) ∧ (decide ((2 : Int) < Sx.kindDef v) = false)) ∧ (rowOf_2 k = false))) := by kernel_rfl
 exact ⟨by rw [e]; exact ⟨rfl, ⟨⟨⟨⟨⟨⟨⟨⟨⟨⟨⟨⟨⟨⟨trivial, c0⟩, c1⟩, c2⟩, c3⟩, c4⟩, c5⟩, c6⟩, c7⟩, c8⟩, c9⟩, c10⟩, c11⟩, c12⟩, c13⟩⟩⟩
theorem chk_r21 (k : Int) (n a b c d : List UInt8) (v : Nat) (ph : Int) (c0 : (!rowOf_5 k) = false) (c1 : (!name_1 n) = false) (c2 : (!decide (name_0 n = k)) = false) (c3 : (!node_0 a) = false) (c4 : (!node_0 b) = false) (c5 : rowOf_3 k = false) (c6 : (a == b) = false) (c7 : (!rowOf_3 k) = true) (c8 : (!c == []) = false) (c9 : (!d == []) = false) (c10 : (!rowOf_4 k) = true) (c11 : (!decide (ph = (0 : Int))) = true) : Sx.PureP (Sx.AV.int false IntKind.i64 (2 : Int)) (call3 37 [.agg [.int true .u8 k, .str true n, .str true a, .str true b, .str true c, .str true d, .raw true v, .int true .i64 ph]] (Sx.G.on [false, false, false, false, false, false, false, true, false, false, true, true])) := by
 have e : Sx.pureP (Sx.AV.int false IntKind.i64 (2 : Int)) (call3 37 [.agg [.int true .u8 k, .str true n, .str true a, .str true b, .str true c, .str true d, .raw true v, .int true .i64 ph]] (Sx.G.on [false, false, false, false, false, false, false, true, false, false, true, true])) = ((Sx.AV.int false IntKind.i64 (2 : Int)) = (Sx.AV.int false IntKind.i64 (2 : Int)) ∧ ((((((((((((True ∧ ((!rowOf_5 k) = false)) ∧ ((!name_1 n) = false)) ∧ ((!decide (name_0 n = k)) = false)) ∧ ((!node_0 a) = false)) ∧ ((!node_0 b) = false)) ∧ (rowOf_3 k = false)) ∧ ((a == b) = false)) ∧ ((!rowOf_3 k) = true)) ∧ ((!c == []) = false)) ∧ ((!d == []) = false)) ∧ ((!rowOf_4 k) = true)) ∧ ((!decide (ph = (0 : Int))) = true))) := by kernel_rfl
 exact ⟨by rw [e]; exact ⟨rfl, ⟨⟨⟨⟨⟨⟨⟨⟨⟨⟨⟨⟨trivial, c0⟩, c1⟩, c2⟩, c3⟩, c4⟩, c5⟩, c6⟩, c7⟩, c8⟩, c9⟩, c10⟩, c11⟩⟩⟩
theorem chk_r22 (k : Int) (n a b c d : List UInt8) (v : Nat) (ph : Int) (c0 : (!rowOf_5 k) = false) (c1 : (!name_1 n) = false) (c2 : (!decide (name_0 n = k)) = false) (c3 : (!node_0 a) = false) (c4 : (!node_0 b) = false) (c5 : rowOf_3 k = false) (c6 : (a == b) = false) (c7 : (!rowOf_3 k) = true) (c8 : (!c == []) = false) (c9 : (!d == []) = true) : Sx.PureP (Sx.AV.int false IntKind.i64 (2 : Int)) (call3 37 [.agg [.int true .u8 k, .str true n, .str true a, .str true b, .str true c, .str true d, .raw true v, .int true .i64 ph]] (Sx.G.on [false, false, false, false, false, false, false, true, false, true])) := by
 have e : Sx.pureP (Sx.AV.int false IntKind.i64 (2 : Int)) (call3 37 [.agg [.int true .u8 k, .str true n, .str true a, .str true b, .str true c, .str true d, .raw true v, .int true .i64 ph]] (Sx.G.on [false, false, false, false, false, false, false, true, false, true])) = ((Sx.AV.int false IntKind.i64 (2 : Int)) = (Sx.AV.int false IntKind.i64 (2 : Int)) ∧ ((((((((((True ∧ ((!rowOf_5 k) = false)) ∧ ((!name_1 n) = false)) ∧ ((!decide (name_0 n = k)) = false)) ∧ ((!node_0 a) = false)) ∧ ((!node_0 b) = false)) ∧ (rowOf_3 k = false)) ∧ ((a == b) = false)) ∧ ((!rowOf_3 k) = true)) ∧ ((!c == []) = false)) ∧ ((!d == []) = true))) := by kernel_rfl
 exact ⟨by rw [e]; exact ⟨rfl, ⟨⟨⟨⟨⟨⟨⟨⟨⟨⟨trivial, c0⟩, c1⟩, c2⟩, c3⟩, c4⟩, c5⟩, c6⟩, c7⟩, c8⟩, c9⟩⟩⟩
theorem chk_r23 (k : Int) (n a b c d : List UInt8) (v : Nat) (ph : Int) (c0 : (!rowOf_5 k) = false) (c1 : (!name_1 n) = false) (c2 : (!decide (name_0 n = k)) = false) (c3 : (!node_0 a) = false) (c4 : (!node_0 b) = false) (c5 : rowOf_3 k = false) (c6 : (a == b) = false) (c7 : (!rowOf_3 k) = true) (c8 : (!c == []) = true) : Sx.PureP (Sx.AV.int false IntKind.i64 (2 : Int)) (call3 37 [.agg [.int true .u8 k, .str true n, .str true a, .str true b, .str true c, .str true d, .raw true v, .int true .i64 ph]] (Sx.G.on [false, false, false, false, false, false, false, true, true])) := by
 have e : Sx.pureP (Sx.AV.int false IntKind.i64 (2 : Int)) (call3 37 [.agg [.int true .u8 k, .str true n, .str true a, .str true b, .str true c, .str true d, .raw true v, .int true .i64 ph]] (Sx.G.on [false, false, false, false, false, false, false, true, true])) = ((Sx.AV.int false IntKind.i64 (2 : Int)) = (Sx.AV.int false IntKind.i64 (2 : Int)) ∧ (((((((((True ∧ ((!rowOf_5 k) = false)) ∧ ((!name_1 n) = false)) ∧ ((!decide (name_0 n = k)) = false)) ∧ ((!node_0 a) = false)) ∧ ((!node_0 b) = false)) ∧ (rowOf_3 k = false)) ∧ ((a == b) = false)) ∧ ((!rowOf_3 k) = true)) ∧ ((!c == []) = true))) := by kernel_rfl
 exact ⟨by rw [e]; exact ⟨rfl, ⟨⟨⟨⟨⟨⟨⟨⟨⟨trivial, c0⟩, c1⟩, c2⟩, c3⟩, c4⟩, c5⟩, c6⟩, c7⟩, c8⟩⟩⟩
theorem chk_r24 (k : Int) (n a b c d : List UInt8) (v : Nat) (ph : Int) (c0 : (!rowOf_5 k) = false) (c1 : (!name_1 n) = false) (c2 : (!decide (name_0 n = k)) = false) (c3 : (!node_0 a) = false) (c4 : (!node_0 b) = true) : Sx.PureP (Sx.AV.int false IntKind.i64 (8 : Int)) (call3 37 [.agg [.int true .u8 k, .str true n, .str true a, .str true b, .str true c, .str true d, .raw true v, .int true .i64 ph]] (Sx.G.on [false, false, false, false, true])) := by
 have e : Sx.pureP (Sx.AV.int false IntKind.i64 (8 : Int)) (call3 37 [.agg [.int true .u8 k, .str true n, .str true a, .str true b, .str true c, .str true d, .raw true v, .int true .i64 ph]] (Sx.G.on [false, false, false, false, true])) = ((Sx.AV.int false IntKind.i64 (8 : Int)) = (Sx.AV.int false IntKind.i64 (8 : Int)) ∧ (((((True ∧ ((!rowOf_5 k) = false)) ∧ ((!name_1 n) = false)) ∧ ((!decide (name_0 n = k)) = false)) ∧ ((!node_0 a) = false)) ∧ ((!node_0 b) = true))) := by kernel_rfl
 exact ⟨by rw [e]; exact ⟨rfl, ⟨⟨⟨⟨⟨trivial, c0⟩, c1⟩, c2⟩, c3⟩, c4⟩⟩⟩
theorem chk_r25 (k : Int) (n a b c d : List UInt8) (v : Nat) (ph : Int) (c0 : (!rowOf_5 k) = false) (c1 : (!name_1 n) = false) (c2 : (!decide (name_0 n = k)) = false) (c3 : (!node_0 a) = true) : Sx.PureP (Sx.AV.int false IntKind.i64 (8 : Int)) (call3 37 [.agg [.int true .u8 k, .str true n, .str true a, .str true b, .str true c, .str true d, .raw true v, .int true .i64 ph]] (Sx.G.on [false, false, false, true])) := by
 have e : Sx.pureP (Sx.AV.int false IntKind.i64 (8 : Int)) (call3 37 [.agg [.int true .u8 k, .str true n, .str true a, .str true b, .str true c, .str true d, .raw true v, .int true .i64 ph]] (Sx.G.on [false, false, false, true])) = ((Sx.AV.int false IntKind.i64 (8 : Int)) = (Sx.AV.int false IntKind.i64 (8 : Int)) ∧ ((((True ∧ ((!rowOf_5 k) = false)) ∧ ((!name_1 n) = false)) ∧ ((!decide (name_0 n = k)) = false)) ∧ ((!node_0 a) = true))) := by kernel_rfl
 exact ⟨by rw [e]; exact ⟨rfl, ⟨⟨⟨⟨trivial, c0⟩, c1⟩, c2⟩, c3⟩⟩⟩
theorem chk_r26 (k : Int) (n a b c d : List UInt8) (v : Nat) (ph : Int) (c0 : (!rowOf_5 k) = false) (c1 : (!name_1 n) = false) (c2 : (!decide (name_0 n = k)) = true) : Sx.PureP (Sx.AV.int false IntKind.i64 (8 : Int)) (call3 37 [.agg [.int true .u8 k, .str true n, .str true a, .str true b, .str true c, .str true d, .raw true v, .int true .i64 ph]] (Sx.G.on [false, false, true])) := by
 have e : Sx.pureP (Sx.AV.int false IntKind.i64 (8 : Int)) (call3 37 [.agg [.int true .u8 k, .str true n, .str true a, .str true b, .str true c, .str true d, .raw true v, .int true .i64 ph]] (Sx.G.on [false, false, true])) = ((Sx.AV.int false IntKind.i64 (8 : Int)) = (Sx.AV.int false IntKind.i64 (8 : Int)) ∧ (((True ∧ ((!rowOf_5 k) = false)) ∧ ((!name_1 n) = false)) ∧ ((!decide (name_0 n = k)) = true))) := by kernel_rfl
 exact ⟨by rw [e]; exact ⟨rfl, ⟨⟨⟨trivial, c0⟩, c1⟩, c2⟩⟩⟩
theorem chk_r27 (k : Int) (n a b c d : List UInt8) (v : Nat) (ph : Int) (c0 : (!rowOf_5 k) = false) (c1 : (!name_1 n) = true) : Sx.PureP (Sx.AV.int false IntKind.i64 (8 : Int)) (call3 37 [.agg [.int true .u8 k, .str true n, .str true a, .str true b, .str true c, .str true d, .raw true v, .int true .i64 ph]] (Sx.G.on [false, true])) := by
 have e : Sx.pureP (Sx.AV.int false IntKind.i64 (8 : Int)) (call3 37 [.agg [.int true .u8 k, .str true n, .str true a, .str true b, .str true c, .str true d, .raw true v, .int true .i64 ph]] (Sx.G.on [false, true])) = ((Sx.AV.int false IntKind.i64 (8 : Int)) = (Sx.AV.int false IntKind.i64 (8 : Int)) ∧ ((True ∧ ((!rowOf_5 k) = false)) ∧ ((!name_1 n) = true))) := by kernel_rfl
 exact ⟨by rw [e]; exact ⟨rfl, ⟨⟨trivial, c0⟩, c1⟩⟩⟩
theorem chk_r28 (k : Int) (n a b c d : List UInt8) (v : Nat) (ph : Int) (c0 : (!rowOf_5 k) = true) : Sx.PureP (Sx.AV.int false IntKind.i64 (2 : Int)) (call3 37 [.agg [.int true .u8 k, .str true n, .str true a, .str true b, .str true c, .str true d, .raw true v, .int true .i64 ph]] (Sx.G.on [true])) := by
 have e : Sx.pureP (Sx.AV.int false IntKind.i64 (2 : Int)) (call3 37 [.agg [.int true .u8 k, .str true n, .str true a, .str true b, .str true c, .str true d, .raw true v, .int true .i64 ph]] (Sx.G.on [true])) = ((Sx.AV.int false IntKind.i64 (2 : Int)) = (Sx.AV.int false IntKind.i64 (2 : Int)) ∧ (True ∧ ((!rowOf_5 k) = true))) := by kernel_rfl
 exact ⟨by rw [e]; exact ⟨rfl, ⟨trivial, c0⟩⟩⟩
noncomputable def chk_0 (k : Int) (n a b c d : List UInt8) (v : Nat) (ph : Int) : Int := (bif rowOf_5 k then (bif name_1 n then (bif decide (name_0 n = k) then (bif node_0 a then (bif node_0 b then (bif rowOf_3 k then (bif node_0 c then (bif node_0 d then (bif a == b then ((2 : Int)) else (bif rowOf_4 k then (bif decide ((2 : Int) < Sx.kindDef v) then ((5 : Int)) else (bif rowOf_2 k then (bif Sx.fle (Sx.cn v) (Sx.cn (0 : Nat)) then ((2 : Int)) else ((0 : Int))) else ((0 : Int)))) else (bif decide (ph = (0 : Int)) then (bif decide ((2 : Int) < Sx.kindDef v) then ((5 : Int)) else (bif rowOf_2 k then (bif Sx.fle (Sx.cn v) (Sx.cn (0 : Nat)) then ((2 : Int)) else ((0 : Int))) else ((0 : Int)))) else ((2 : Int))))) else ((8 : Int))) else ((8 : Int))) else (bif a == b then ((2 : Int)) else (bif c == [] then (bif d == [] then (bif rowOf_4 k then (bif decide ((2 : Int) < Sx.kindDef v) then ((5 : Int)) else (bif rowOf_2 k then (bif Sx.fle (Sx.cn v) (Sx.cn (0 : Nat)) then ((2 : Int)) else ((0 : Int))) else ((0 : Int)))) else (bif decide (ph = (0 : Int)) then (bif decide ((2 : Int) < Sx.kindDef v) then ((5 : Int)) else (bif rowOf_2 k then (bif Sx.fle (Sx.cn v) (Sx.cn (0 : Nat)) then ((2 : Int)) else ((0 : Int))) else ((0 : Int)))) else ((2 : Int)))) else ((2 : Int))) else ((2 : Int))))) else ((8 : Int))) else ((8 : Int))) else ((8 : Int))) else ((8 : Int))) else ((2 : Int)))
noncomputable def chkS : List Sx.AV → Sx.M Sx.AV
 | [.agg [.int s0 .u8 k, .str s1 n, .str s2 a, .str s3 b, .str s4 c, .str s5 d, .raw s6 v, .int s7 .i64 ph]] => Sx.M.ret (Sx.AV.int (Bool.or s0 (Bool.or s1 (Bool.or s2 (Bool.or s3 (Bool.or s4 (Bool.or s5 (Bool.or s6 s7))))))) (IntKind.i64) (chk_0 k n a b c d v ph))
 | args => call3 37 args
theorem chkS_ok : ∀ args v g g', chkS args g = .done v g' → Sx.CallIs Try.prog 37 args v g g' := by
 intro args v g g' h
 unfold chkS at h
 split at h
 ·rename_i s0 k s1 n s2 a s3 b s4 c s5 d s6 v s7 ph
  obtain ⟨rfl, rfl⟩ := Sx.ret_done h
  refine Sx.scal call3_ok fun μ cargs ha => ?_
  have ha' : Sx.Reps 0 Sx.MM.none [.agg [.int true .u8 k, .str true n, .str true a, .str true b, .str true c, .str true d, .raw true v, .int true .i64 ph]] cargs.toList := by simpa only [Sx.Reps, Sx.Rep] using ha
  cases t0 : rowOf_5 k with
  | true =>
   cases t1 : name_1 n with
   | true =>
    cases t2 : decide (name_0 n = k) with
    | true =>
     cases t3 : node_0 a with
     | true =>
      cases t4 : node_0 b with
      | true =>
       cases t5 : rowOf_3 k with
       | true =>
        cases t6 : node_0 c with
        | true =>
         cases t7 : node_0 d with
         | true =>
          cases t8 : a == b with
          | true =>
           exact ⟨_, _, _, ha', chk_r0 k n a b c d v ph (by rw [t0]; rfl) (by rw [t1]; rfl) (by rw [t2]; rfl) (by rw [t3]; rfl) (by rw [t4]; rfl) t5 (by rw [t6]; rfl) (by rw [t7]; rfl) t8, rfl, fun cv hc => by have := hc g.nx μ; have e0 : chk_0 k n a b c d v ph = ((2 : Int)) := (Sx.ct t0).trans ((Sx.ct t1).trans ((Sx.ct t2).trans ((Sx.ct t3).trans ((Sx.ct t4).trans ((Sx.ct t5).trans ((Sx.ct t6).trans ((Sx.ct t7).trans ((Sx.ct t8).trans (rfl))))))))); rw [e0]; simpa only [Sx.Rep, Sx.Reps, Sx.Rep_cmpB] using this⟩
          | false =>
           cases t9 : rowOf_4 k with
           | true =>
            cases t10 : decide ((2 : Int) < Sx.kindDef v) with
            | true =>
             exact ⟨_, _, _, ha', chk_r1 k n a b c d v ph (by rw [t0]; rfl) (by rw [t1]; rfl) (by rw [t2]; rfl) (by rw [t3]; rfl) (by rw [t4]; rfl) t5 (by rw [t6]; rfl) (by rw [t7]; rfl) t8 (by rw [t5]; rfl) (by rw [t9]; rfl) t10, rfl, fun cv hc => by have := hc g.nx μ; have e0 : chk_0 k n a b c d v ph = ((5 : Int)) := (Sx.ct t0).trans ((Sx.ct t1).trans ((Sx.ct t2).trans ((Sx.ct t3).trans ((Sx.ct t4).trans ((Sx.ct t5).trans ((Sx.ct t6).trans ((Sx.ct t7).trans ((Sx.cf t8).trans ((Sx.ct t9).trans ((Sx.ct t10).trans (rfl))))))))))); rw [e0]; simpa only [Sx.Rep, Sx.Reps, Sx.Rep_cmpB] using this⟩
            | false =>
             cases t11 : rowOf_2 k with
             | true =>
              cases t12 : Sx.fle (Sx.cn v) (Sx.cn (0 : Nat)) with
              | true =>
               exact ⟨_, _, _, ha', chk_r2 k n a b c d v ph (by rw [t0]; rfl) (by rw [t1]; rfl) (by rw [t2]; rfl) (by rw [t3]; rfl) (by rw [t4]; rfl) t5 (by rw [t6]; rfl) (by rw [t7]; rfl) t8 (by rw [t5]; rfl) (by rw [t9]; rfl) t10 t11 t12, rfl, fun cv hc => by have := hc g.nx μ; have e0 : chk_0 k n a b c d v ph = ((2 : Int)) := (Sx.ct t0).trans ((Sx.ct t1).trans ((Sx.ct t2).trans ((Sx.ct t3).trans ((Sx.ct t4).trans ((Sx.ct t5).trans ((Sx.ct t6).trans ((Sx.ct t7).trans ((Sx.cf t8).trans ((Sx.ct t9).trans ((Sx.cf t10).trans ((Sx.ct t11).trans ((Sx.ct t12).trans (rfl))))))))))))); rw [e0]; simpa only [Sx.Rep, Sx.Reps, Sx.Rep_cmpB] using this⟩
              | false =>
               exact ⟨_, _, _, ha', chk_r3 k n a b c d v ph (by rw [t0]; rfl) (by rw [t1]; rfl) (by rw [t2]; rfl) (by rw [t3]; rfl) (by rw [t4]; rfl) t5 (by rw [t6]; rfl) (by rw [t7]; rfl) t8 (by rw [t5]; rfl) (by rw [t9]; rfl) t10 t11 t12, rfl, fun cv hc => by have := hc g.nx μ; have e0 : chk_0 k n a b c d v ph = ((0 : Int)) := (Sx.ct t0).trans ((Sx.ct t1).trans ((Sx.ct t2).trans ((Sx.ct t3).trans ((Sx.ct t4).trans ((Sx.ct t5).trans ((Sx.ct t6).trans ((Sx.ct t7).trans ((Sx.cf t8).trans ((Sx.ct t9).trans ((Sx.cf t10).trans ((Sx.ct t11).trans ((Sx.cf t12).trans (rfl))))))))))))); rw [e0]; simpa only [Sx.Rep, Sx.Reps, Sx.Rep_cmpB] using this⟩
             | false =>
              exact ⟨_, _, _, ha', chk_r4 k n a b c d v ph (by rw [t0]; rfl) (by rw [t1]; rfl) (by rw [t2]; rfl) (by rw [t3]; rfl) (by rw [t4]; rfl) t5 (by rw [t6]; rfl) (by rw [t7]; rfl) t8 (by rw [t5]; rfl) (by rw [t9]; rfl) t10 t11, rfl, fun cv hc => by have := hc g.nx μ; have e0 : chk_0 k n a b c d v ph = ((0 : Int)) := (Sx.ct t0).trans ((Sx.ct t1).trans ((Sx.ct t2).trans ((Sx.ct t3).trans ((Sx.ct t4).trans ((Sx.ct t5).trans ((Sx.ct t6).trans ((Sx.ct t7).trans ((Sx.cf t8).trans ((Sx.ct t9).trans ((Sx.cf t10).trans ((Sx.cf t11).trans (rfl)))))))))))); rw [e0]; simpa only [Sx.Rep, Sx.Reps, Sx.Rep_cmpB] using this⟩
           | false =>
            cases t10 : decide (ph = (0 : Int)) with
            | true =>
             cases t11 : decide ((2 : Int) < Sx.kindDef v) with
             | true =>
              exact ⟨_, _, _, ha', chk_r5 k n a b c d v ph (by rw [t0]; rfl) (by rw [t1]; rfl) (by rw [t2]; rfl) (by rw [t3]; rfl) (by rw [t4]; rfl) t5 (by rw [t6]; rfl) (by rw [t7]; rfl) t8 (by rw [t5]; rfl) (by rw [t9]; rfl) (by rw [t10]; rfl) t11, rfl, fun cv hc => by have := hc g.nx μ; have e0 : chk_0 k n a b c d v ph = ((5 : Int)) := (Sx.ct t0).trans ((Sx.ct t1).trans ((Sx.ct t2).trans ((Sx.ct t3).trans ((Sx.ct t4).trans ((Sx.ct t5).trans ((Sx.ct t6).trans ((Sx.ct t7).trans ((Sx.cf t8).trans ((Sx.cf t9).trans ((Sx.ct t10).trans ((Sx.ct t11).trans (rfl)))))))))))); rw [e0]; simpa only [Sx.Rep, Sx.Reps, Sx.Rep_cmpB] using this⟩
             | false =>
              cases t12 : rowOf_2 k with
              | true =>
               cases t13 : Sx.fle (Sx.cn v) (Sx.cn (0 : Nat)) with
               | true =>
                exact ⟨_, _, _, ha', chk_r6 k n a b c d v ph (by rw [t0]; rfl) (by rw [t1]; rfl) (by rw [t2]; rfl) (by rw [t3]; rfl) (by rw [t4]; rfl) t5 (by rw [t6]; rfl) (by rw [t7]; rfl) t8 (by rw [t5]; rfl) (by rw [t9]; rfl) (by rw [t10]; rfl) t11 t12 t13, rfl, fun cv hc => by have := hc g.nx μ; have e0 : chk_0 k n a b c d v ph = ((2 : Int)) := (Sx.ct t0).trans ((Sx.ct t1).trans ((Sx.ct t2).trans ((Sx.ct t3).trans ((Sx.ct t4).trans ((Sx.ct t5).trans ((Sx.ct t6).trans ((Sx.ct t7).trans ((Sx.cf t8).trans ((Sx.cf t9).trans ((Sx.ct t10).trans ((Sx.cf t11).trans ((Sx.ct t12).trans ((Sx.ct t13).trans (rfl)))))))))))))); rw [e0]; simpa only [Sx.Rep, Sx.Reps, Sx.Rep_cmpB] using this⟩
               | false =>
                exact ⟨_, _, _, ha', chk_r7 k n a b c d v ph (by rw [t0]; rfl) (by rw [t1]; rfl) (by rw [t2]; rfl) (by rw [t3]; rfl) (by rw [t4]; rfl) t5 (by rw [t6]; rfl) (by rw [t7]; rfl) t8 (by rw [t5]; rfl) (by rw [t9]; rfl) (by rw [t10]; rfl) t11 t12 t13, rfl, fun cv hc => by have := hc g.nx μ; have e0 : chk_0 k n a b c d v ph = ((0 : Int)) := (Sx.ct t0).trans ((Sx.ct t1).trans ((Sx.ct t2).trans ((Sx.ct t3).trans ((Sx.ct t4).trans ((Sx.ct t5).trans ((Sx.ct t6).trans ((Sx.ct t7).trans ((Sx.cf t8).trans ((Sx.cf t9).trans ((Sx.ct t10).trans ((Sx.cf t11).trans ((Sx.ct t12).trans ((Sx.cf t13).trans (rfl)))))))))))))); rw [e0]; simpa only [Sx.Rep, Sx.Reps, Sx.Rep_cmpB] using this⟩
              | false =>
               exact ⟨_, _, _, ha', chk_r8 k n a b c d v ph (by rw [t0]; rfl) (by rw [t1]; rfl) (by rw [t2]; rfl) (by rw [t3]; rfl) (by rw [t4]; rfl) t5 (by rw [t6]; rfl) (by rw [t7]; rfl) t8 (by rw [t5]; rfl) (by rw [t9]; rfl) (by rw [t10]; rfl) t11 t12, rfl, fun cv hc => by have := hc g.nx μ; have e0 : chk_0 k n a b c d v ph = ((0 : Int)) := (Sx.ct t0).trans ((Sx.ct t1).trans ((Sx.ct t2).trans ((Sx.ct t3).trans ((Sx.ct t4).trans ((Sx.ct t5).trans ((Sx.ct t6).trans ((Sx.ct t7).trans ((Sx.cf t8).trans ((Sx.cf t9).trans ((Sx.ct t10).trans ((Sx.cf t11).trans ((Sx.cf t12).trans (rfl))))))))))))); rw [e0]; simpa only [Sx.Rep, Sx.Reps, Sx.Rep_cmpB] using this⟩
            | false =>
             exact ⟨_, _, _, ha', chk_r9 k n a b c d v ph (by rw [t0]; rfl) (by rw [t1]; rfl) (by rw [t2]; rfl) (by rw [t3]; rfl) (by rw [t4]; rfl) t5 (by rw [t6]; rfl) (by rw [t7]; rfl) t8 (by rw [t5]; rfl) (by rw [t9]; rfl) (by rw [t10]; rfl), rfl, fun cv hc => by have := hc g.nx μ; have e0 : chk_0 k n a b c d v ph = ((2 : Int)) := (Sx.ct t0).trans ((Sx.ct t1).trans ((Sx.ct t2).trans ((Sx.ct t3).trans ((Sx.ct t4).trans ((Sx.ct t5).trans ((Sx.ct t6).trans ((Sx.ct t7).trans ((Sx.cf t8).trans ((Sx.cf t9).trans ((Sx.cf t10).trans (rfl))))))))))); rw [e0]; simpa only [Sx.Rep, Sx.Reps, Sx.Rep_cmpB] using this⟩
         | false =>
          exact ⟨_, _, _, ha', chk_r10 k n a b c d v ph (by rw [t0]; rfl) (by rw [t1]; rfl) (by rw [t2]; rfl) (by rw [t3]; rfl) (by rw [t4]; rfl) t5 (by rw [t6]; rfl) (by rw [t7]; rfl), rfl, fun cv hc => by have := hc g.nx μ; have e0 : chk_0 k n a b c d v ph = ((8 : Int)) := (Sx.ct t0).trans ((Sx.ct t1).trans ((Sx.ct t2).trans ((Sx.ct t3).trans ((Sx.ct t4).trans ((Sx.ct t5).trans ((Sx.ct t6).trans ((Sx.cf t7).trans (rfl)))))))); rw [e0]; simpa only [Sx.Rep, Sx.Reps, Sx.Rep_cmpB] using this⟩
        | false =>
         exact ⟨_, _, _, ha', chk_r11 k n a b c d v ph (by rw [t0]; rfl) (by rw [t1]; rfl) (by rw [t2]; rfl) (by rw [t3]; rfl) (by rw [t4]; rfl) t5 (by rw [t6]; rfl), rfl, fun cv hc => by have := hc g.nx μ; have e0 : chk_0 k n a b c d v ph = ((8 : Int)) := (Sx.ct t0).trans ((Sx.ct t1).trans ((Sx.ct t2).trans ((Sx.ct t3).trans ((Sx.ct t4).trans ((Sx.ct t5).trans ((Sx.cf t6).trans (rfl))))))); rw [e0]; simpa only [Sx.Rep, Sx.Reps, Sx.Rep_cmpB] using this⟩
       | false =>
        cases t6 : a == b with
        | true =>
         exact ⟨_, _, _, ha', chk_r12 k n a b c d v ph (by rw [t0]; rfl) (by rw [t1]; rfl) (by rw [t2]; rfl) (by rw [t3]; rfl) (by rw [t4]; rfl) t5 t6, rfl, fun cv hc => by have := hc g.nx μ; have e0 : chk_0 k n a b c d v ph = ((2 : Int)) := (Sx.ct t0).trans ((Sx.ct t1).trans ((Sx.ct t2).trans ((Sx.ct t3).trans ((Sx.ct t4).trans ((Sx.cf t5).trans ((Sx.ct t6).trans (rfl))))))); rw [e0]; simpa only [Sx.Rep, Sx.Reps, Sx.Rep_cmpB] using this⟩
        | false =>
         cases t7 : c == [] with
         | true =>
          cases t8 : d == [] with
          | true =>
           cases t9 : rowOf_4 k with
           | true =>
            cases t10 : decide ((2 : Int) < Sx.kindDef v) with
            | true =>
             exact ⟨_, _, _, ha', chk_r13 k n a b c d v ph (by rw [t0]; rfl) (by rw [t1]; rfl) (by rw [t2]; rfl) (by rw [t3]; rfl) (by rw [t4]; rfl) t5 t6 (by rw [t5]; rfl) (by rw [t7]; rfl) (by rw [t8]; rfl) (by rw [t9]; rfl) t10, rfl, fun cv hc => by have := hc g.nx μ; have e0 : chk_0 k n a b c d v ph = ((5 : Int)) := (Sx.ct t0).trans ((Sx.ct t1).trans ((Sx.ct t2).trans ((Sx.ct t3).trans ((Sx.ct t4).trans ((Sx.cf t5).trans ((Sx.cf t6).trans ((Sx.ct t7).trans ((Sx.ct t8).trans ((Sx.ct t9).trans ((Sx.ct t10).trans (rfl))))))))))); rw [e0]; simpa only [Sx.Rep, Sx.Reps, Sx.Rep_cmpB] using this⟩
            | false =>
             cases t11 : rowOf_2 k with
             | true =>
              cases t12 : Sx.fle (Sx.cn v) (Sx.cn (0 : Nat)) with
              | true =>
               exact ⟨_, _, _, ha', chk_r14 k n a b c d v ph (by rw [t0]; rfl) (by rw [t1]; rfl) (by rw [t2]; rfl) (by rw [t3]; rfl) (by rw [t4]; rfl) t5 t6 (by rw [t5]; rfl) (by rw [t7]; rfl) (by rw [t8]; rfl) (by rw [t9]; rfl) t10 t11 t12, rfl, fun cv hc => by have := hc g.nx μ; have e0 : chk_0 k n a b c d v ph = ((2 : Int)) := (Sx.ct t0).trans ((Sx.ct t1).trans ((Sx.ct t2).trans ((Sx.ct t3).trans ((Sx.ct t4).trans ((Sx.cf t5).trans ((Sx.cf t6).trans ((Sx.ct t7).trans ((Sx.ct t8).trans ((Sx.ct t9).trans ((Sx.cf t10).trans ((Sx.ct t11).trans ((Sx.ct t12).trans (rfl))))))))))))); rw [e0]; simpa only [Sx.Rep, Sx.Reps, Sx.Rep_cmpB] using this⟩
              | false =>
               exact ⟨_, _, _, ha', chk_r15 k n a b c d v ph (by rw [t0]; rfl) (by rw [t1]; rfl) (by rw [t2]; rfl) (by rw [t3]; rfl) (by rw [t4]; rfl) t5 t6 (by rw [t5]; rfl) (by rw [t7]; rfl) (by rw [t8]; rfl) (by rw [t9]; rfl) t10 t11 t12, rfl, fun cv hc => by have := hc g.nx μ; have e0 : chk_0 k n a b c d v ph = ((0 : Int)) := (Sx.ct t0).trans ((Sx.ct t1).trans ((Sx.ct t2).trans ((Sx.ct t3).trans ((Sx.ct t4).trans ((Sx.cf t5).trans ((Sx.cf t6).trans ((Sx.ct t7).trans ((Sx.ct t8).trans ((Sx.ct t9).trans ((Sx.cf t10).trans ((Sx.ct t11).trans ((Sx.cf t12).trans (rfl))))))))))))); rw [e0]; simpa only [Sx.Rep, Sx.Reps, Sx.Rep_cmpB] using this⟩
             | false =>
              exact ⟨_, _, _, ha', chk_r16 k n a b c d v ph (by rw [t0]; rfl) (by rw [t1]; rfl) (by rw [t2]; rfl) (by rw [t3]; rfl) (by rw [t4]; rfl) t5 t6 (by rw [t5]; rfl) (by rw [t7]; rfl) (by rw [t8]; rfl) (by rw [t9]; rfl) t10 t11, rfl, fun cv hc => by have := hc g.nx μ; have e0 : chk_0 k n a b c d v ph = ((0 : Int)) := (Sx.ct t0).trans ((Sx.ct t1).trans ((Sx.ct t2).trans ((Sx.ct t3).trans ((Sx.ct t4).trans ((Sx.cf t5).trans ((Sx.cf t6).trans ((Sx.ct t7).trans ((Sx.ct t8).trans ((Sx.ct t9).trans ((Sx.cf t10).trans ((Sx.cf t11).trans (rfl)))))))))))); rw [e0]; simpa only [Sx.Rep, Sx.Reps, Sx.Rep_cmpB] using this⟩
           | false =>
            cases t10 : decide (ph = (0 : Int)) with
            | true =>
             cases t11 : decide ((2 : Int) < Sx.kindDef v) with
             | true =>
              exact ⟨_, _, _, ha', chk_r17 k n a b c d v ph (by rw [t0]; rfl) (by rw [t1]; rfl) (by rw [t2]; rfl) (by rw [t3]; rfl) (by rw [t4]; rfl) t5 t6 (by rw [t5]; rfl) (by rw [t7]; rfl) (by rw [t8]; rfl) (by rw [t9]; rfl) (by rw [t10]; rfl) t11, rfl, fun cv hc => by have := hc g.nx μ; have e0 : chk_0 k n a b c d v ph = ((5 : Int)) := (Sx.ct t0).trans ((Sx.ct t1).trans ((Sx.ct t2).trans ((Sx.ct t3).trans ((Sx.ct t4).trans ((Sx.cf t5).trans ((Sx.cf t6).trans ((Sx.ct t7).trans ((Sx.ct t8).trans ((Sx.cf t9).trans ((Sx.ct t10).trans ((Sx.ct t11).trans (rfl)))))))))))); rw [e0]; simpa only [Sx.Rep, Sx.Reps, Sx.Rep_cmpB] using this⟩
             | false =>
              cases t12 : rowOf_2 k with
              | true =>
               cases t13 : Sx.fle (Sx.cn v) (Sx.cn (0 : Nat)) with
               | true =>
                exact ⟨_, _, _, ha', chk_r18 k n a b c d v ph (by rw [t0]; rfl) (by rw [t1]; rfl) (by rw [t2]; rfl) (by rw [t3]; rfl) (by rw [t4]; rfl) t5 t6 (by rw [t5]; rfl) (by rw [t7]; rfl) (by rw [t8]; rfl) (by rw [t9]; rfl) (by rw [t10]; rfl) t11 t12 t13, rfl, fun cv hc => by have := hc g.nx μ; have e0 : chk_0 k n a b c d v ph = ((2 : Int)) := (Sx.ct t0).trans ((Sx.ct t1).trans ((Sx.ct t2).trans ((Sx.ct t3).trans ((Sx.ct t4).trans ((Sx.cf t5).trans ((Sx.cf t6).trans ((Sx.ct t7).trans ((Sx.ct t8).trans ((Sx.cf t9).trans ((Sx.ct t10).trans ((Sx.cf t11).trans ((Sx.ct t12).trans ((Sx.ct t13).trans (rfl)))))))))))))); rw [e0]; simpa only [Sx.Rep, Sx.Reps, Sx.Rep_cmpB] using this⟩
               | false =>
                exact ⟨_, _, _, ha', chk_r19 k n a b c d v ph (by rw [t0]; rfl) (by rw [t1]; rfl) (by rw [t2]; rfl) (by rw [t3]; rfl) (by rw [t4]; rfl) t5 t6 (by rw [t5]; rfl) (by rw [t7]; rfl) (by rw [t8]; rfl) (by rw [t9]; rfl) (by rw [t10]; rfl) t11 t12 t13, rfl, fun cv hc => by have := hc g.nx μ; have e0 : chk_0 k n a b c d v ph = ((0 : Int)) := (Sx.ct t0).trans ((Sx.ct t1).trans ((Sx.ct t2).trans ((Sx.ct t3).trans ((Sx.ct t4).trans ((Sx.cf t5).trans ((Sx.cf t6).trans ((Sx.ct t7).trans ((Sx.ct t8).trans ((Sx.cf t9).trans ((Sx.ct t10).trans ((Sx.cf t11).trans ((Sx.ct t12).trans ((Sx.cf t13).trans (rfl)))))))))))))); rw [e0]; simpa only [Sx.Rep, Sx.Reps, Sx.Rep_cmpB] using this⟩
              | false =>
               exact ⟨_, _, _, ha', chk_r20 k n a b c d v ph (by rw [t0]; rfl) (by rw [t1]; rfl) (by rw [t2]; rfl) (by rw [t3]; rfl) (by rw [t4]; rfl) t5 t6 (by rw [t5]; rfl) (by rw [t7]; rfl) (by rw [t8]; rfl) (by rw [t9]; rfl) (by rw [t10]; rfl) t11 t12, rfl, fun cv hc => by have := hc g.nx μ; have e0 : chk_0 k n a b c d v ph = ((0 : Int)) := (Sx.ct t0).trans ((Sx.ct t1).trans ((Sx.ct t2).trans ((Sx.ct t3).trans ((Sx.ct t4).trans ((Sx.cf t5).trans ((Sx.cf t6).trans ((Sx.ct t7).trans ((Sx.ct t8).trans ((Sx.cf t9).trans ((Sx.ct t10).trans ((Sx.cf t11).trans ((Sx.cf t12).trans (rfl))))))))))))); rw [e0]; simpa only [Sx.Rep, Sx.Reps, Sx.Rep_cmpB] using this⟩
            | false =>
             exact ⟨_, _, _, ha', chk_r21 k n a b c d v ph (by rw [t0]; rfl) (by rw [t1]; rfl) (by rw [t2]; rfl) (by rw [t3]; rfl) (by rw [t4]; rfl) t5 t6 (by rw [t5]; rfl) (by rw [t7]; rfl) (by rw [t8]; rfl) (by rw [t9]; rfl) (by rw [t10]; rfl), rfl, fun cv hc => by have := hc g.nx μ; have e0 : chk_0 k n a b c d v ph = ((2 : Int)) := (Sx.ct t0).trans ((Sx.ct t1).trans ((Sx.ct t2).trans ((Sx.ct t3).trans ((Sx.ct t4).trans ((Sx.cf t5).trans ((Sx.cf t6).trans ((Sx.ct t7).trans ((Sx.ct t8).trans ((Sx.cf t9).trans ((Sx.cf t10).trans (rfl))))))))))); rw [e0]; simpa only [Sx.Rep, Sx.Reps, Sx.Rep_cmpB] using this⟩
          | false =>
           exact ⟨_, _, _, ha', chk_r22 k n a b c d v ph (by rw [t0]; rfl) (by rw [t1]; rfl) (by rw [t2]; rfl) (by rw [t3]; rfl) (by rw [t4]; rfl) t5 t6 (by rw [t5]; rfl) (by rw [t7]; rfl) (by rw [t8]; rfl), rfl, fun cv hc => by have := hc g.nx μ; have e0 : chk_0 k n a b c d v ph = ((2 : Int)) := (Sx.ct t0).trans ((Sx.ct t1).trans ((Sx.ct t2).trans ((Sx.ct t3).trans ((Sx.ct t4).trans ((Sx.cf t5).trans ((Sx.cf t6).trans ((Sx.ct t7).trans ((Sx.cf t8).trans (rfl))))))))); rw [e0]; simpa only [Sx.Rep, Sx.Reps, Sx.Rep_cmpB] using this⟩
         | false =>
          exact ⟨_, _, _, ha', chk_r23 k n a b c d v ph (by rw [t0]; rfl) (by rw [t1]; rfl) (by rw [t2]; rfl) (by rw [t3]; rfl) (by rw [t4]; rfl) t5 t6 (by rw [t5]; rfl) (by rw [t7]; rfl), rfl, fun cv hc => by have := hc g.nx μ; have e0 : chk_0 k n a b c d v ph = ((2 : Int)) := (Sx.ct t0).trans ((Sx.ct t1).trans ((Sx.ct t2).trans ((Sx.ct t3).trans ((Sx.ct t4).trans ((Sx.cf t5).trans ((Sx.cf t6).trans ((Sx.cf t7).trans (rfl)))))))); rw [e0]; simpa only [Sx.Rep, Sx.Reps, Sx.Rep_cmpB] using this⟩
      | false =>
       exact ⟨_, _, _, ha', chk_r24 k n a b c d v ph (by rw [t0]; rfl) (by rw [t1]; rfl) (by rw [t2]; rfl) (by rw [t3]; rfl) (by rw [t4]; rfl), rfl, fun cv hc => by have := hc g.nx μ; have e0 : chk_0 k n a b c d v ph = ((8 : Int)) := (Sx.ct t0).trans ((Sx.ct t1).trans ((Sx.ct t2).trans ((Sx.ct t3).trans ((Sx.cf t4).trans (rfl))))); rw [e0]; simpa only [Sx.Rep, Sx.Reps, Sx.Rep_cmpB] using this⟩
     | false =>
      exact ⟨_, _, _, ha', chk_r25 k n a b c d v ph (by rw [t0]; rfl) (by rw [t1]; rfl) (by rw [t2]; rfl) (by rw [t3]; rfl), rfl, fun cv hc => by have := hc g.nx μ; have e0 : chk_0 k n a b c d v ph = ((8 : Int)) := (Sx.ct t0).trans ((Sx.ct t1).trans ((Sx.ct t2).trans ((Sx.cf t3).trans (rfl)))); rw [e0]; simpa only [Sx.Rep, Sx.Reps, Sx.Rep_cmpB] using this⟩
    | false =>
     exact ⟨_, _, _, ha', chk_r26 k n a b c d v ph (by rw [t0]; rfl) (by rw [t1]; rfl) (by rw [t2]; rfl), rfl, fun cv hc => by have := hc g.nx μ; have e0 : chk_0 k n a b c d v ph = ((8 : Int)) := (Sx.ct t0).trans ((Sx.ct t1).trans ((Sx.cf t2).trans (rfl))); rw [e0]; simpa only [Sx.Rep, Sx.Reps, Sx.Rep_cmpB] using this⟩
   | false =>
    exact ⟨_, _, _, ha', chk_r27 k n a b c d v ph (by rw [t0]; rfl) (by rw [t1]; rfl), rfl, fun cv hc => by have := hc g.nx μ; have e0 : chk_0 k n a b c d v ph = ((8 : Int)) := (Sx.ct t0).trans ((Sx.cf t1).trans (rfl)); rw [e0]; simpa only [Sx.Rep, Sx.Reps, Sx.Rep_cmpB] using this⟩
  | false =>
   exact ⟨_, _, _, ha', chk_r28 k n a b c d v ph (by rw [t0]; rfl), rfl, fun cv hc => by have := hc g.nx μ; have e0 : chk_0 k n a b c d v ph = ((2 : Int)) := (Sx.cf t0).trans (rfl); rw [e0]; simpa only [Sx.Rep, Sx.Reps, Sx.Rep_cmpB] using this⟩
 ·exact call3_ok _ _ _ _ _ h
theorem chkS_tch : ∀ args, Sx.Tch (chkS args) := by
 intro args
 unfold chkS
 split
 ·exact Sx.Tch.ret _
 ·exact call3_tch _ _
theorem rchk_r0 (k : Int) (n a b c d : List UInt8) (v : Nat) (ph : Int) (c0 : (!rrow_6 k) = false) (c1 : (!rname_1 n) = false) (c2 : (!decide (rname_0 n = k)) = false) (c3 : (!rnode_0 a) = false) (c4 : (!rnode_0 b) = false) (c5 : rrow_5 k = true) (c6 : (!rnode_0 c) = false) (c7 : (!rnode_0 d) = false) (c8 : (a == b) = true) : Sx.PureP (Sx.AV.int false IntKind.i64 (2 : Int)) (call3 39 [.agg [.int true .u8 k, .str true n, .str true a, .str true b, .str true c, .str true d, .raw true v, .int true .i64 ph]] (Sx.G.on [false, false, false, false, false, true, false, false, true])) := by
 have e : Sx.pureP (Sx.AV.int false IntKind.i64 (2 : Int)) (call3 39 [.agg [.int true .u8 k, .str true n, .str true a, .str true b, .str true c, .str true d, .raw true v, .int true .i64 ph]] (Sx.G.on [false, false, false, false, false, true, false, false, true])) = ((Sx.AV.int false IntKind.i64 (2 : Int)) = (Sx.AV.int false IntKind.i64 (2 : Int)) ∧ (((((((((True ∧ ((!rrow_6 k) = false)) ∧ ((!rname_1 n) = false)) ∧ ((!decide (rname_0 n = k)) = false)) ∧ ((!rnode_0 a) = false)) ∧ ((!rnode_0 b) = false)) ∧ (rrow_5 k = true)) ∧ ((!rnode_0 c) = false)) ∧ ((!rnode_0 d) = false)) ∧ ((a == b) = true))) := by kernel_rfl
 exact ⟨by rw [e]; exact ⟨rfl, ⟨⟨⟨⟨⟨⟨⟨⟨⟨trivial, c0⟩, c1⟩, c2⟩, c3⟩, c4⟩, c5⟩, c6⟩, c7⟩, c8⟩⟩⟩
theorem rchk_r1 (k : Int) (n a b c d : List UInt8) (v : Nat) (ph : Int) (c0 : (!rrow_6 k) = false) (c1 : (!rname_1 n) = false) (c2 : (!decide (rname_0 n = k)) = false) (c3 : (!rnode_0 a) = false) (c4 : (!rnode_0 b) = false) (c5 : rrow_5 k = true) (c6 : (!rnode_0 c) = false) (c7 : (!rnode_0 d) = false) (c8 : (a == b) = false) (c9 : (!rrow_5 k) = false) (c10 : (!rrow_4 k) = false) (c11 : decide ((2 : Int) < rkind_0 v) = true) : Sx.PureP (Sx.AV.int false IntKind.i64 (5 : Int)) (call3 39 [.agg [.int true .u8 k, .str true n, .str true a, .str true b, .str true c, .str true d, .raw true v, .int true .i64 ph]] (Sx.G.on [false, false, false, false, false, true, false, false, false, false, false, true])) := by
 have e : Sx.pureP (Sx.AV.int false IntKind.i64 (5 : Int)) (call3 39 [.agg [.int true .u8 k, .str true n, .str true a, .str true b, .str true c, .str true d, .raw true v, .int true .i64 ph]] (Sx.G.on [false, false, false, false, false, true, false, false, false, false, false, true])) = ((Sx.AV.int false IntKind.i64 (5 : Int)) = (Sx.AV.int false IntKind.i64 (5 : Int)) ∧ ((((((((((((True ∧ ((!rrow_6 k) = false)) ∧ ((!rname_1 n) = false)) ∧ ((!decide (rname_0 n = k)) = false)) ∧ ((!rnode_0 a) = false)) ∧ ((!rnode_0 b) = false)) ∧ (rrow_5 k = true)) ∧ ((!rnode_0 c) = false)) ∧ ((!rnode_0 d) = false)) ∧ ((a == b) = false)) ∧ ((!rrow_5 k) = false)) ∧ ((!rrow_4 k) = false)) ∧ (decide ((2 : Int) < rkind_0 v) = true))) := by kernel_rfl
 exact ⟨by rw [e]; exact ⟨rfl, ⟨⟨⟨⟨⟨⟨⟨⟨⟨⟨⟨⟨trivial, c0⟩, c1⟩, c2⟩, c3⟩, c4⟩, c5⟩, c6⟩, c7⟩, c8⟩, c9⟩, c10⟩, c11⟩⟩⟩
theorem rchk_r2 (k : Int) (n a b c d : List UInt8) (v : Nat) (ph : Int) (c0 : (!rrow_6 k) = false) (c1 : (!rname_1 n) = false) (c2 : (!decide (rname_0 n = k)) = false) (c3 : (!rnode_0 a) = false) (c4 : (!rnode_0 b) = false) (c5 : rrow_5 k = true) (c6 : (!rnode_0 c) = false) (c7 : (!rnode_0 d) = false) (c8 : (a == b) = false) (c9 : (!rrow_5 k) = false) (c10 : (!rrow_4 k) = false) (c11 : decide ((2 : Int) < rkind_0 v) = false) (c12 : rrow_3 k = true) (c13 : (!Sx.fgt (Sx.cn v) (Sx.cn (0 : Nat))) = false) : Sx.PureP (Sx.AV.int false IntKind.i64 (0 : Int)) (call3 39 [.agg [.int true .u8 k, .str true n, .str true a, .str true b, .str true c, .str true d, .raw true v, .int true .i64 ph]] (Sx.G.on [false, false, false, false, false, true, false, false, false, false, false, false, true, false])) := by
 have e : Sx.pureP (Sx.AV.int false IntKind.i64 (0 : Int)) (call3 39 [.agg [.int true .u8 k, .str true n, .str true a, .str true b, .str true c, .str true d, .raw true v, .int true .i64 ph]] (Sx.G.on [false, false, false, false, false, true, false, false, false, false, false, false, true, false])) = ((Sx.AV.int false IntKind.i64 (0 : Int)) = (Sx.AV.int false IntKind.i64 (0 : Int)) ∧ ((((((((((((((True ∧ ((!rrow_6 k) = false)) ∧ ((!rname_1 n) = false)) ∧ ((!decide (rname_0 n = k)) = false)) ∧ ((!rnode_0 a) = false)) ∧ ((!rnode_0 b) = false)) ∧ (rrow_5 k = true)) ∧ ((!rnode_0 c) = false)) ∧ ((!rnode_0 d) = false)) ∧ ((a == b) = false)) ∧ ((!rrow_5 k) = false)) ∧ ((!rrow_4 k) = false)) ∧ (decide ((2 : Int) < rkind_0 v) = false)) ∧ (rrow_3 k = true)) ∧ ((!Sx.fgt (Sx.cn v) (Sx.cn (0 : Nat))) = false))) := by kernel_rfl
 exact ⟨by rw [e]; exact ⟨rfl, ⟨⟨⟨⟨⟨⟨⟨⟨⟨⟨⟨⟨⟨⟨trivial, c0⟩, c1⟩, c2⟩, c3⟩, c4⟩, c5⟩, c6⟩, c7⟩, c8⟩, c9⟩, c10⟩, c11⟩, c12⟩, c13⟩⟩⟩
theorem rchk_r3 (k : Int) (n a b c d : List UInt8) (v : Nat) (ph : Int) (c0 : (!rrow_6 k) = false) (c1 : (!rname_1 n) = false) (c2 : (!decide (rname_0 n = k)) = false) (c3 : (!rnode_0 a) = false) (c4 : (!rnode_0 b) = false) (c5 : rrow_5 k = true) (c6 : (!rnode_0 c) = false) (c7 : (!rnode_0 d) = false) (c8 : (a == b) = false) (c9 : (!rrow_5 k) = false) (c10 : (!rrow_4 k) = false) (c11 : decide ((2 : Int) < rkind_0 v) = false) (c12 : rrow_3 k = true) (c13 : (!Sx.fgt (Sx.cn v) (Sx.cn (0 : Nat))) = true) : Sx.PureP (Sx.AV.int false IntKind.i64 (2 : Int)) (call3 39 [.agg [.int true .u8 k, .str true n, .str true a, .str true b, .str true c, .str true d, .raw true v, .int true .i64 ph]] (Sx.G.on [false, false, false, false, false, true, false, false, false, false, false, false, true, true])) := by
 have e : Sx.pureP (Sx.AV.int false IntKind.i64 (2 : Int)) (call3 39 [.agg [.int true .u8 k, .str true n, .str true a, .str true b, .str true c, .str true d, .raw true v, .int true .i64 ph]] (Sx.G.on [false, false, false, false, false, true, false, false, false, false, false, false, true, true])) = ((Sx.AV.int false IntKind.i64 (2 : Int)) = (Sx.AV.int false IntKind.i64 (2 : Int)) ∧ ((((((((((((((True ∧ ((!rrow_6 k) = false)) ∧ ((!rname_1 n) = false)) ∧ ((!decide (rname_0 n = k)) = false)) ∧ ((!rnode_0 a) = false)) ∧ ((!rnode_0 b) = false)) ∧ (rrow_5 k = true)) ∧ ((!rnode_0 c) = false)) ∧ ((!rnode_0 d) = false)) ∧ ((a == b) = false)) ∧ ((!rrow_5 k) = false)) ∧ ((!rrow_4 k) = false)) ∧ (decide ((2 : Int) < rkind_0 v) = false)) ∧ (rrow_3 k = true)) ∧ ((!Sx.fgt (Sx.cn v) (Sx.cn (0 : Nat))) = true))) := by kernel_rfl
 exact ⟨by rw [e]; exact ⟨rfl, ⟨⟨⟨⟨⟨⟨⟨⟨⟨⟨⟨⟨⟨⟨trivial, c0⟩, c1⟩, c2⟩, c3⟩, c4⟩, c5⟩, c6⟩, c7⟩, c8⟩, c9⟩, c10⟩, c11⟩, c12⟩, c13⟩⟩⟩
theorem rchk_r4 (k : Int) (n a b c d : List UInt8) (v : Nat) (ph : Int) (c0 : (!rrow_6 k) = false) (c1 : (!rname_1 n) = false) (c2 : (!decide (rname_0 n = k)) = false) (c3 : (!rnode_0 a) = false) (c4 : (!rnode_0 b) = false) (c5 : rrow_5 k = true) (c6 : (!rnode_0 c) = false) (c7 : (!rnode_0 d) = false) (c8 : (a == b) = false) (c9 : (!rrow_5 k) = false) (c10 : (!rrow_4 k) = false) (c11 : decide ((2 : Int) < rkind_0 v) = false) (c12 : rrow_3 k = false) : Sx.PureP (Sx.AV.int false IntKind.i64 (0 : Int)) (call3 39 [.agg [.int true .u8 k, .str true n, .str true a, .str true b, .str true c, .str true d, .raw true v, .int true .i64 ph]] (Sx.G.on [false, false, false, false, false, true, false, false, false, false, false, false, false])) := by
 have e : Sx.pureP (Sx.AV.int false IntKind.i64 (0 : Int)) (call3 39 [.agg [.int true .u8 k, .str true n, .str true a, .str true b, .str true c, .str true d, .raw true v, .int true .i64 ph]] (Sx.G.on [false, false, false, false, false, true, false, false, false, false, false, false, false])) = ((Sx.AV.int false IntKind.i64 (0 : Int)) = (Sx.AV.int false IntKind.i64 (0 : Int)) ∧ (((((((((((((True ∧ ((!rrow_6 k) = false)) ∧ ((!rname_1 n) = false)) ∧ ((!decide (rname_0 n = k)) = false)) ∧ ((!rnode_0 a) = false)) ∧ ((!rnode_0 b) = false)) ∧ (rrow_5 k = true)) ∧ ((!rnode_0 c) = false)) ∧ ((!rnode_0 d) = false)) ∧ ((a == b) = false)) ∧ ((!rrow_5 k) = false)) ∧ ((!rrow_4 k) = false)) ∧ (decide ((2 : Int) < rkind_0 v) = false)) ∧ (rrow_3 k = false))) := by kernel_rfl
 exact ⟨by rw [e]; exact ⟨rfl, ⟨⟨⟨⟨⟨⟨⟨⟨⟨⟨⟨⟨⟨trivial, c0⟩, c1⟩, c2⟩, c3⟩, c4⟩, c5⟩, c6⟩, c7⟩, c8⟩, c9⟩, c10⟩, c11⟩, c12⟩⟩⟩
theorem rchk_r5 (k : Int) (n a b c d : List UInt8) (v : Nat) (ph : Int) (c0 : (!rrow_6 k) = false) (c1 : (!rname_1 n) = false) (c2 : (!decide (rname_0 n = k)) = false) (c3 : (!rnode_0 a) = false) (c4 : (!rnode_0 b) = false) (c5 : rrow_5 k = true) (c6 : (!rnode_0 c) = false) (c7 : (!rnode_0 d) = false) (c8 : (a == b) = false) (c9 : (!rrow_5 k) = false) (c10 : (!rrow_4 k) = true) (c11 : (!decide (ph = (0 : Int))) = false) (c12 : decide ((2 : Int) < rkind_0 v) = true) : Sx.PureP (Sx.AV.int false IntKind.i64 (5 : Int)) (call3 39 [.agg [.int true .u8 k, .str true n, .str true a, .str true b, .str true c, .str true d, .raw true v, .int true .i64 ph]] (Sx.G.on [false, false, false, false, false, true, false, false, false, false, true, false, true])) := by
 have e : Sx.pureP (Sx.AV.int false IntKind.i64 (5 : Int)) (call3 39 [.agg [.int true .u8 k, .str true n, .str true a, .str true b, .str true c, .str true d, .raw true v, .int true .i64 ph]] (Sx.G.on [false, false, false, false, false, true, false, false, false, false, true, false, true])) = ((Sx.AV.int false IntKind.i64 (5 : Int)) = (Sx.AV.int false IntKind.i64 (5 : Int)) ∧ (((((((((((((True ∧ ((!rrow_6 k) = false)) ∧ ((!rname_1 n) = false)) ∧ ((!decide (rname_0 n = k)) = false)) ∧ ((!rnode_0 a) = false)) ∧ ((!rnode_0 b) = false)) ∧ (rrow_5 k = true)) ∧ ((!rnode_0 c) = false)) ∧ ((!rnode_0 d) = false)) ∧ ((a == b) = false)) ∧ ((!rrow_5 k) = false)) ∧ ((!rrow_4 k) = true)) ∧ ((!decide (ph = (0 : Int))) = false)) ∧ (decide ((2 : Int) < rkind_0 v) = true))) := by kernel_rfl
 exact ⟨by rw [e]; exact ⟨rfl, ⟨⟨⟨⟨⟨⟨⟨⟨⟨⟨⟨⟨⟨trivial, c0⟩, c1⟩, c2⟩, c3⟩, c4⟩, c5⟩, c6⟩, c7⟩, c8⟩, c9⟩, c10⟩, c11⟩, c12⟩⟩⟩
theorem rchk_r6 (k : Int) (n a b c d : List UInt8) (v : Nat) (ph : Int) (c0 : (!rrow_6 k) = false) (c1 : (!rname_1 n) = false) (c2 : (!decide (rname_0 n = k)) = false) (c3 : (!rnode_0 a) = false) (c4 : (!rnode_0 b) = false) (c5 : rrow_5 k = true) (c6 : (!rnode_0 c) = false) (c7 : (!rnode_0 d) = false) (c8 : (a == b) = false) (c9 : (!rrow_5 k) = false) (c10 : (!rrow_4 k) = true) (c11 : (!decide (ph = (0 : Int))) = false) (c12 : decide ((2 : Int) < rkind_0 v) = false) (c13 : rrow_3 k = true) (c14 : (!Sx.fgt (Sx.cn v) (Sx.cn (0 : Nat))) = false) : Sx.PureP (Sx.AV.int false IntKind.i64 (0 : Int)) (call3 39 [.agg [.int true .u8 k, .str true n, .str true a, .str true b, .str true c, .str true d, .raw true v, .int true .i64 ph]] (Sx.G.on [false, false, false, false, false, true, false, false, false, false, true, false, false, true, false])) := by
 have e : Sx.pureP (Sx.AV.int false IntKind.i64 (0 : Int)) (call3 39 [.agg [.int true .u8 k, .str true n, .str true a, .str true b, .str true c, .str true d, .raw true v, .int true .i64 ph]] (Sx.G.on [false, false, false, false, false, true, false, false, false, false, true, false, false, true, false])) = ((Sx.AV.int false IntKind.i64 (0 : Int)) = (Sx.AV.int false IntKind.i64 (0 : Int)) ∧ (((((((((((((((True ∧ ((!rrow_6 k) = false)) ∧ ((!rname_1 n) = false)) ∧ ((!decide (rname_0 n = k)) = false)) ∧ ((!rnode_0 a) = false)) ∧ ((!rnode_0 b) = false)) ∧ (rrow_5 k = true)) ∧ ((!rnode_0 c) = false)) ∧ ((!rnode_0 d) = false)) ∧ ((a == b) = false)) ∧ ((!rrow_5 k) = false)) ∧ ((!rrow_4 k) = true)) ∧ ((!decide (ph = (0 : Int))) = false)) ∧ (decide ((2 : Int) < rkind_0 v) = false)) ∧ (rrow_3 k = true)) ∧ ((!Sx.fgt (Sx.cn v) (Sx.cn (0 : Nat))) = false))) := by kernel_rfl
 exact ⟨by rw [e]; exact ⟨rfl, ⟨⟨⟨⟨⟨⟨⟨⟨⟨⟨⟨⟨⟨⟨⟨trivial, c0⟩, c1⟩, c2⟩, c3⟩, c4⟩, c5⟩, c6⟩, c7⟩, c8⟩, c9⟩, c10⟩, c11⟩, c12⟩, c13⟩, c14⟩⟩⟩
theorem rchk_r7 (k : Int) (n a b c d : List UInt8) (v : Nat) (ph : Int) (c0 : (!rrow_6 k) = false) (c1 : (!rname_1 n) = false) (c2 : (!decide (rname_0 n = k)) = false) (c3 : (!rnode_0 a) = false) (c4 : (!rnode_0 b) = false) (c5 : rrow_5 k = true) (c6 : (!rnode_0 c) = false) (c7 : (!rnode_0 d) = false) (c8 : (a == b) = false) (c9 : (!rrow_5 k) = false) (c10 : (!rrow_4 k) = true) (c11 : (!decide (ph = (0 : Int))) = false) (c12 : decide ((2 : Int) < rkind_0 v) = false) (c13 : rrow_3 k = true) (c14 : (!Sx.fgt (Sx.cn v) (Sx.cn (0 : Nat))) = true) : Sx.PureP (Sx.AV.int false IntKind.i64 (2 : Int)) (call3 39 [.agg [.int true .u8 k, .str true n, .str true a, .str true b, .str true c, .str true d, .raw true v, .int true .i64 ph]] (Sx.G.on [false, false, false, false, false, true, false, false, false, false, true, false, false, true, true])) := by
 have e : Sx.pureP (Sx.AV.int false IntKind.i64 (2 : Int)) (call3 39 [.agg [.int true .u8 k, .str true n, .str true a, .str true b, .str true c, .str true d, .raw true v, .int true .i64 ph]] (Sx.G.on [false, false, false, false, false, true, false, false, false, false, true, false, false, true, true])) = ((Sx.AV.int false IntKind.i64 (2 : Int)) = (Sx.AV.int false IntKind.i64 (2 : Int)) ∧ (((((((((((((((True ∧ ((!rrow_6 k) = false)) ∧ ((!rname_1 n) = false)) ∧ ((!decide (rname_0 n = k)) = false)) ∧ ((!rnode_0 a) = false)) ∧ ((!rnode_0 b) = false)) ∧ (rrow_5 k = true)) ∧ ((!rnode_0 c) = false)) ∧ ((!rnode_0 d) = false)) ∧ ((a == b) = false)) ∧ ((!rrow_5 k) = false)) ∧ ((!rrow_4 k) = true)) ∧ ((!decide (ph = (0 : Int))) = false)) ∧ (decide ((2 : Int) < rkind_0 v) = false)) ∧ (rrow_3 k = true)) ∧ ((!Sx.fgt (Sx.cn v) (Sx.cn (0 : Nat))) = true))) := by kernel_rfl
 exact ⟨by rw [e]; exact ⟨rfl, ⟨⟨⟨⟨⟨⟨⟨⟨⟨⟨⟨⟨⟨⟨⟨trivial, c0⟩, c1⟩, c2⟩, c3⟩, c4⟩, c5⟩, c6⟩, c7⟩, c8⟩, c9⟩, c10⟩, c11⟩, c12⟩, c13⟩, c14⟩⟩⟩
theorem rchk_r8 (k : Int) (n a b c d : List UInt8) (v : Nat) (ph : Int) (c0 : (!rrow_6 k) = false) (c1 : (!rname_1 n) = false) (c2 : (!decide (rname_0 n = k)) = false) (c3 : (!rnode_0 a) = false) (c4 : (!rnode_0 b) = false) (c5 : rrow_5 k = true) (c6 : (!rnode_0 c) = false) (c7 : (!rnode_0 d) = false) (c8 : (a == b) = false) (c9 : (!rrow_5 k) = false) (c10 : (!rrow_4 k) = true) (c11 : (!decide (ph = (0 : Int))) = false) (c12 : decide ((2 : Int) < rkind_0 v) = false) (c13 : rrow_3 k = false) : Sx.PureP (Sx.AV.int false IntKind.i64 (0 : Int)) (call3 39 [.agg [.int true .u8 k, .str true n, .str true a, .str true b, .str true c, .str true d, .raw true v, .int true .i64 ph]] (Sx.G.on [false, false, false, false, false, true, false, false, false, false, true, false, false, false])) := by
 have e : Sx.pureP (Sx.AV.int false IntKind.i64 (0 : Int)) (call3 39 [.agg [.int true .u8 k, .str true n, .str true a, .str true b, .str true c, .str true d, .raw true v, .int true .i64 ph]] (Sx.G.on [false, false, false, false, false, true, false, false, false, false, true, false, false, false])) = ((Sx.AV.int false IntKind.i64 (0 : Int)) = (Sx.AV.int false IntKind.i64 (0 : Int)) ∧ ((((((((((((((True ∧ ((!rrow_6 k) = false)) ∧ ((!rname_1 n) = false)) ∧ ((!decide (rname_0 n = k)) = false)) ∧ ((!rnode_0 a) = false)) ∧ ((!rnode_0 b) = false)) ∧ (rrow_5 k = true)) ∧ ((!rnode_0 c) = false)) ∧ ((!rnode_0 d) = false)) ∧ ((a == b) = false)) ∧ ((!rrow_5 k) = false)) ∧ ((!rrow_4 k) = true)) ∧ ((!decide (ph = (0 : Int))) = false)) ∧ (decide ((2 : Int) < rkind_0 v) = false)) ∧ (rrow_3 k = false))) := by kernel_rfl
 exact ⟨by rw [e]; exact ⟨rfl, ⟨⟨⟨⟨⟨⟨⟨⟨⟨⟨⟨⟨⟨⟨trivial, c0⟩, c1⟩, c2⟩, c3⟩, c4⟩, c5⟩, c6⟩, c7⟩, c8⟩, c9⟩, c10⟩, c11⟩, c12⟩, c13⟩⟩⟩
theorem rchk_r9 (k : Int) (n a b c d : List UInt8) (v : Nat) (ph : Int) (c0 : (!rrow_6 k) = false) (c1 : (!rname_1 n) = false) (c2 : (!decide (rname_0 n = k)) = false) (c3 : (!rnode_0 a) = false) (c4 : (!rnode_0 b) = false) (c5 : rrow_5 k = true) (c6 : (!rnode_0 c) = false) (c7 : (!rnode_0 d) = false) (c8 : (a == b) = false) (c9 : (!rrow_5 k) = false) (c10 : (!rrow_4 k) = true) (c11 : (!decide (ph = (0 : Int))) = true) : Sx.PureP (Sx.AV.int false IntKind.i64 (2 : Int)) (call3 39 [.agg [.int true .u8 k, .str true n, .str true a, .str true b, .str true c, .str true d, .raw true v, .int true .i64 ph]] (Sx.G.on [false, false, false, false, false, true, false, false, false, false, true, true])) := by
 have e : Sx.pureP (Sx.AV.int false IntKind.i64 (2 : Int)) (call3 39 [.agg [.int true .u8 k, .str true n, .str true a, .str true b, .str true c, .str true d, .raw true v, .int true .i64 ph]] (Sx.G.on [false, false, false, false, false, true, false, false, false, false, true, true])) = ((Sx.AV.int false IntKind.i64 (2 : Int)) = (Sx.AV.int false IntKind.i64 (2 : Int)) ∧ ((((((((((((True ∧ ((!rrow_6 k) = false)) ∧ ((!rname_1 n) = false)) ∧ ((!decide (rname_0 n = k)) = false)) ∧ ((!rnode_0 a) = false)) ∧ ((!rnode_0 b) = false)) ∧ (rrow_5 k = true)) ∧ ((!rnode_0 c) = false)) ∧ ((!rnode_0 d) = false)) ∧ ((a == b) = false)) ∧ ((!rrow_5 k) = false)) ∧ ((!rrow_4 k) = true)) ∧ ((!decide (ph = (0 : Int))) = true))) := by kernel_rfl
 exact ⟨by rw [e]; exact ⟨rfl, ⟨⟨⟨⟨⟨⟨⟨⟨⟨⟨⟨⟨trivial, c0⟩, c1⟩, c2⟩, c3⟩, c4⟩, c5⟩, c6⟩, c7⟩, c8⟩, c9⟩, c10⟩, c11⟩⟩⟩
theorem rchk_r10 (k : Int) (n a b c d : List UInt8) (v : Nat) (ph : Int) (c0 : (!rrow_6 k) = false) (c1 : (!rname_1 n) = false) (c2 : (!decide (rname_0 n = k)) = false) (c3 : (!rnode_0 a) = false) (c4 : (!rnode_0 b) = false) (c5 : rrow_5 k = true) (c6 : (!rnode_0 c) = false) (c7 : (!rnode_0 d) = true) : Sx.PureP (Sx.AV.int false IntKind.i64 (8 : Int)) (call3 39 [.agg [.int true .u8 k, .str true n, .str true a, .str true b, .str true c, .str true d, .raw true v, .int true .i64 ph]] (Sx.G.on [false, false, false, false, false, true, false, true])) := by
 have e : Sx.pureP (Sx.AV.int false IntKind.i64 (8 : Int)) (call3 39 [.agg [.int true .u8 k, .str true n, .str true a, .str true b, .str true c, .str true d, .raw true v, .int true .i64 ph]] (Sx.G.on [false, false, false, false, false, true, false, true])) = ((Sx.AV.int false IntKind.i64 (8 : Int)) = (Sx.AV.int false IntKind.i64 (8 : Int)) ∧ ((((((((True ∧ ((!rrow_6 k) = false)) ∧ ((!rname_1 n) = false)) ∧ ((!decide (rname_0 n = k)) = false)) ∧ ((!rnode_0 a) = false)) ∧ ((!rnode_0 b) = false)) ∧ (rrow_5 k = true)) ∧ ((!rnode_0 c) = false)) ∧ ((!rnode_0 d) = true))) := by kernel_rfl
 exact ⟨by rw [e]; exact ⟨rfl, ⟨⟨⟨⟨⟨⟨⟨⟨trivial, c0⟩, c1⟩, c2⟩, c3⟩, c4⟩, c5⟩, c6⟩, c7⟩⟩⟩
theorem rchk_r11 (k : Int) (n a b c d : List UInt8) (v : Nat) (ph : Int) (c0 : (!rrow_6 k) = false) (c1 : (!rname_1 n) = false) (c2 : (!decide (rname_0 n = k)) = false) (c3 : (!rnode_0 a) = false) (c4 : (!rnode_0 b) = false) (c5 : rrow_5 k = true) (c6 : (!rnode_0 c) = true) : Sx.PureP (Sx.AV.int false IntKind.i64 (8 : Int)) (call3 39 [.agg [.int true .u8 k, .str true n, .str true a, .str true b, .str true c, .str true d, .raw true v, .int true .i64 ph]] (Sx.G.on [false, false, false, false, false, true, true])) := by
 have e : Sx.pureP (Sx.AV.int false IntKind.i64 (8 : Int)) (call3 39 [.agg [.int true .u8 k, .str true n, .str true a, .str true b, .str true c, .str true d, .raw true v, .int true .i64 ph]] (Sx.G.on [false, false, false, false, false, true, true])) = ((Sx.AV.int false IntKind.i64 (8 : Int)) = (Sx.AV.int false IntKind.i64 (8 : Int)) ∧ (((((((True ∧ ((!rrow_6 k) = false)) ∧ ((!rname_1 n) = false)) ∧ ((!decide (rname_0 n = k)) = false)) ∧ ((!rnode_0 a) = false)) ∧ ((!rnode_0 b) = false)) ∧ (rrow_5 k = true)) ∧ ((!rnode_0 c) = true))) := by kernel_rfl
 exact ⟨by rw [e]; exact ⟨rfl, ⟨⟨⟨⟨⟨⟨⟨trivial, c0⟩, c1⟩, c2⟩, c3⟩, c4⟩, c5⟩, c6⟩⟩⟩
theorem rchk_r12 (k : Int) (n a b c d : List UInt8) (v : Nat) (ph : Int) (c0 : (!rrow_6 k) = false) (c1 : (!rname_1 n) = false) (c2 : (!decide (rname_0 n = k)) = false) (c3 : (!rnode_0 a) = false) (c4 : (!rnode_0 b) = false) (c5 : rrow_5 k = false) (c6 : (a == b) = true) : Sx.PureP (Sx.AV.int false IntKind.i64 (2 : Int)) (call3 39 [.agg [.int true .u8 k, .str true n, .str true a, .str true b, .str true c, .str true d, .raw true v, .int true .i64 ph]] (Sx.G.on [false, false, false, false, false, false, true])) := by
 have e : Sx.pureP (Sx.AV.int false IntKind.i64 (2 : Int)) (call3 39 [.agg [.int true .u8 k, .str true n, .str true a, .str true b, .str true c, .str true d, .raw true v, .int true .i64 ph]] (Sx.G.on [false, false, false, false, false, false, true])) = ((Sx.AV.int false IntKind.i64 (2 : Int)) = (Sx.AV.int false IntKind.i64 (2 : Int)) ∧ (((((((True ∧ ((!rrow_6 k) = false)) ∧ ((!rname_1 n) = false)) ∧ ((!decide (rname_0 n = k)) = false)) ∧ ((!rnode_0 a) = false)) ∧ ((!rnode_0 b) = false)) ∧ (rrow_5 k = false)) ∧ ((a == b) = true))) := by kernel_rfl
 exact ⟨by rw [e]; exact ⟨rfl, ⟨⟨⟨⟨⟨⟨⟨trivial, c0⟩, c1⟩, c2⟩, c3⟩, c4⟩, c5⟩, c6⟩⟩⟩
end Go.Proofs.Ytdagokpedjfepaa
