/- ValueLetters: the closed statement returns true, whatever the start; no conditions. By the engine's run, checked by the kernel. -/
import Derived.Test.YtmdcfmknjbeciaaRows
import Derived.ProofKit
import Derived.OpenShut
import Derived.KernelRfl
import Derived.Test.YtmdcfmknjbeciaaSyE
namespace Go.Proofs.Ytmdcfmknjbeciaa
open Go.ChangeShapes Go.WideShapes Go.ChangeAt Go.RowKit
set_option linter.unusedVariables false

theorem own : ownKnob Try.prog.godebug = none := by kernel_rfl
set_option linter.unusedSimpArgs false
noncomputable def gam0 : Sx.Known := fun f => bif Nat.beq f 24 then some Sx.ofBits else bif Nat.beq f 39 then some Sx.toBits else none
theorem gam0_ok : Sx.KnownOk Try.prog gam0 := by
  intro f s h
  unfold gam0 at h
  cases h1 : Nat.beq f 24 with
  | true =>
    rw [h1] at h
    cases h
    cases Nat.eq_of_beq_eq_true h1
    exact (Sx.ofBits_is Try.prog).callIs Try.func24 (by kernel_rfl) (by kernel_rfl) (by kernel_rfl) (by kernel_rfl)
  | false =>
    rw [h1, cond_false] at h
    cases h2 : Nat.beq f 39 with
    | true =>
      rw [h2] at h
      cases h
      cases Nat.eq_of_beq_eq_true h2
      exact (Sx.toBits_is Try.prog).callIs Try.func39 (by kernel_rfl) (by kernel_rfl) (by kernel_rfl) (by kernel_rfl)
    | false => rw [h2] at h; cases h
theorem gam0_tch : Sx.KnownT gam0 := by
  intro f s h
  unfold gam0 at h
  cases h1 : Nat.beq f 24 with
  | true => rw [h1] at h; cases h; exact Sx.Tch.ofBits
  | false =>
    rw [h1, cond_false] at h
    cases h2 : Nat.beq f 39 with
    | true => rw [h2] at h; cases h; exact Sx.Tch.toBits
    | false => rw [h2] at h; cases h
noncomputable def call0 : Sx.Calls' := Sx.runA Try.prog gam0 (Sx.regionA Try.prog) 1000 50
theorem sound0 : Sx.CallOk Try.prog call0 := Sx.engine gam0_ok gam0_tch (by kernel_rfl) (by kernel_rfl) 1000 50
theorem of_0 (n : Int) (h0 : decide ((82 : Int) = n) = true) : Sx.PureP (Sx.AV.tup [.int false .u8 1, .bool true]) (call0 10 [.int true .u8 n] (Sx.G.on [true])) := by
  have e : Sx.pureP (Sx.AV.tup [.int false .u8 1, .bool true]) (call0 10 [.int true .u8 n] (Sx.G.on [true])) = (Sx.AV.tup [.int false .u8 1, .bool true] = Sx.AV.tup [.int false .u8 1, .bool true] ∧ (True ∧ decide ((82 : Int) = n) = true)) := by kernel_rfl
  exact ⟨by rw [e]; exact ⟨rfl, ⟨trivial, h0⟩⟩⟩
theorem of_1 (n : Int) (h0 : decide ((82 : Int) = n) = false) (h1 : decide ((76 : Int) = n) = true) : Sx.PureP (Sx.AV.tup [.int false .u8 2, .bool true]) (call0 10 [.int true .u8 n] (Sx.G.on [false, true])) := by
  have e : Sx.pureP (Sx.AV.tup [.int false .u8 2, .bool true]) (call0 10 [.int true .u8 n] (Sx.G.on [false, true])) = (Sx.AV.tup [.int false .u8 2, .bool true] = Sx.AV.tup [.int false .u8 2, .bool true] ∧ ((True ∧ decide ((82 : Int) = n) = false) ∧ decide ((76 : Int) = n) = true)) := by kernel_rfl
  exact ⟨by rw [e]; exact ⟨rfl, ⟨⟨trivial, h0⟩, h1⟩⟩⟩
theorem of_2 (n : Int) (h0 : decide ((82 : Int) = n) = false) (h1 : decide ((76 : Int) = n) = false) (h2 : decide ((67 : Int) = n) = true) : Sx.PureP (Sx.AV.tup [.int false .u8 3, .bool true]) (call0 10 [.int true .u8 n] (Sx.G.on [false, false, true])) := by
  have e : Sx.pureP (Sx.AV.tup [.int false .u8 3, .bool true]) (call0 10 [.int true .u8 n] (Sx.G.on [false, false, true])) = (Sx.AV.tup [.int false .u8 3, .bool true] = Sx.AV.tup [.int false .u8 3, .bool true] ∧ (((True ∧ decide ((82 : Int) = n) = false) ∧ decide ((76 : Int) = n) = false) ∧ decide ((67 : Int) = n) = true)) := by kernel_rfl
  exact ⟨by rw [e]; exact ⟨rfl, ⟨⟨⟨trivial, h0⟩, h1⟩, h2⟩⟩⟩
theorem of_3 (n : Int) (h0 : decide ((82 : Int) = n) = false) (h1 : decide ((76 : Int) = n) = false) (h2 : decide ((67 : Int) = n) = false) (h3 : decide ((73 : Int) = n) = true) : Sx.PureP (Sx.AV.tup [.int false .u8 4, .bool true]) (call0 10 [.int true .u8 n] (Sx.G.on [false, false, false, true])) := by
  have e : Sx.pureP (Sx.AV.tup [.int false .u8 4, .bool true]) (call0 10 [.int true .u8 n] (Sx.G.on [false, false, false, true])) = (Sx.AV.tup [.int false .u8 4, .bool true] = Sx.AV.tup [.int false .u8 4, .bool true] ∧ ((((True ∧ decide ((82 : Int) = n) = false) ∧ decide ((76 : Int) = n) = false) ∧ decide ((67 : Int) = n) = false) ∧ decide ((73 : Int) = n) = true)) := by kernel_rfl
  exact ⟨by rw [e]; exact ⟨rfl, ⟨⟨⟨⟨trivial, h0⟩, h1⟩, h2⟩, h3⟩⟩⟩
theorem of_4 (n : Int) (h0 : decide ((82 : Int) = n) = false) (h1 : decide ((76 : Int) = n) = false) (h2 : decide ((67 : Int) = n) = false) (h3 : decide ((73 : Int) = n) = false) (h4 : decide ((86 : Int) = n) = true) : Sx.PureP (Sx.AV.tup [.int false .u8 5, .bool true]) (call0 10 [.int true .u8 n] (Sx.G.on [false, false, false, false, true])) := by
  have e : Sx.pureP (Sx.AV.tup [.int false .u8 5, .bool true]) (call0 10 [.int true .u8 n] (Sx.G.on [false, false, false, false, true])) = (Sx.AV.tup [.int false .u8 5, .bool true] = Sx.AV.tup [.int false .u8 5, .bool true] ∧ (((((True ∧ decide ((82 : Int) = n) = false) ∧ decide ((76 : Int) = n) = false) ∧ decide ((67 : Int) = n) = false) ∧ decide ((73 : Int) = n) = false) ∧ decide ((86 : Int) = n) = true)) := by kernel_rfl
  exact ⟨by rw [e]; exact ⟨rfl, ⟨⟨⟨⟨⟨trivial, h0⟩, h1⟩, h2⟩, h3⟩, h4⟩⟩⟩
theorem of_5 (n : Int) (h0 : decide ((82 : Int) = n) = false) (h1 : decide ((76 : Int) = n) = false) (h2 : decide ((67 : Int) = n) = false) (h3 : decide ((73 : Int) = n) = false) (h4 : decide ((86 : Int) = n) = false) (h5 : decide ((71 : Int) = n) = true) : Sx.PureP (Sx.AV.tup [.int false .u8 6, .bool true]) (call0 10 [.int true .u8 n] (Sx.G.on [false, false, false, false, false, true])) := by
  have e : Sx.pureP (Sx.AV.tup [.int false .u8 6, .bool true]) (call0 10 [.int true .u8 n] (Sx.G.on [false, false, false, false, false, true])) = (Sx.AV.tup [.int false .u8 6, .bool true] = Sx.AV.tup [.int false .u8 6, .bool true] ∧ ((((((True ∧ decide ((82 : Int) = n) = false) ∧ decide ((76 : Int) = n) = false) ∧ decide ((67 : Int) = n) = false) ∧ decide ((73 : Int) = n) = false) ∧ decide ((86 : Int) = n) = false) ∧ decide ((71 : Int) = n) = true)) := by kernel_rfl
  exact ⟨by rw [e]; exact ⟨rfl, ⟨⟨⟨⟨⟨⟨trivial, h0⟩, h1⟩, h2⟩, h3⟩, h4⟩, h5⟩⟩⟩
theorem of_6 (n : Int) (h0 : decide ((82 : Int) = n) = false) (h1 : decide ((76 : Int) = n) = false) (h2 : decide ((67 : Int) = n) = false) (h3 : decide ((73 : Int) = n) = false) (h4 : decide ((86 : Int) = n) = false) (h5 : decide ((71 : Int) = n) = false) (h6 : decide ((69 : Int) = n) = true) : Sx.PureP (Sx.AV.tup [.int false .u8 7, .bool true]) (call0 10 [.int true .u8 n] (Sx.G.on [false, false, false, false, false, false, true])) := by
  have e : Sx.pureP (Sx.AV.tup [.int false .u8 7, .bool true]) (call0 10 [.int true .u8 n] (Sx.G.on [false, false, false, false, false, false, true])) = (Sx.AV.tup [.int false .u8 7, .bool true] = Sx.AV.tup [.int false .u8 7, .bool true] ∧ (((((((True ∧ decide ((82 : Int) = n) = false) ∧ decide ((76 : Int) = n) = false) ∧ decide ((67 : Int) = n) = false) ∧ decide ((73 : Int) = n) = false) ∧ decide ((86 : Int) = n) = false) ∧ decide ((71 : Int) = n) = false) ∧ decide ((69 : Int) = n) = true)) := by kernel_rfl
  exact ⟨by rw [e]; exact ⟨rfl, ⟨⟨⟨⟨⟨⟨⟨trivial, h0⟩, h1⟩, h2⟩, h3⟩, h4⟩, h5⟩, h6⟩⟩⟩
theorem of_7 (n : Int) (h0 : decide ((82 : Int) = n) = false) (h1 : decide ((76 : Int) = n) = false) (h2 : decide ((67 : Int) = n) = false) (h3 : decide ((73 : Int) = n) = false) (h4 : decide ((86 : Int) = n) = false) (h5 : decide ((71 : Int) = n) = false) (h6 : decide ((69 : Int) = n) = false) (h7 : decide ((80 : Int) = n) = true) : Sx.PureP (Sx.AV.tup [.int false .u8 8, .bool true]) (call0 10 [.int true .u8 n] (Sx.G.on [false, false, false, false, false, false, false, true])) := by
  have e : Sx.pureP (Sx.AV.tup [.int false .u8 8, .bool true]) (call0 10 [.int true .u8 n] (Sx.G.on [false, false, false, false, false, false, false, true])) = (Sx.AV.tup [.int false .u8 8, .bool true] = Sx.AV.tup [.int false .u8 8, .bool true] ∧ ((((((((True ∧ decide ((82 : Int) = n) = false) ∧ decide ((76 : Int) = n) = false) ∧ decide ((67 : Int) = n) = false) ∧ decide ((73 : Int) = n) = false) ∧ decide ((86 : Int) = n) = false) ∧ decide ((71 : Int) = n) = false) ∧ decide ((69 : Int) = n) = false) ∧ decide ((80 : Int) = n) = true)) := by kernel_rfl
  exact ⟨by rw [e]; exact ⟨rfl, ⟨⟨⟨⟨⟨⟨⟨⟨trivial, h0⟩, h1⟩, h2⟩, h3⟩, h4⟩, h5⟩, h6⟩, h7⟩⟩⟩
theorem of_8 (n : Int) (h0 : decide ((82 : Int) = n) = false) (h1 : decide ((76 : Int) = n) = false) (h2 : decide ((67 : Int) = n) = false) (h3 : decide ((73 : Int) = n) = false) (h4 : decide ((86 : Int) = n) = false) (h5 : decide ((71 : Int) = n) = false) (h6 : decide ((69 : Int) = n) = false) (h7 : decide ((80 : Int) = n) = false) : Sx.PureP (Sx.AV.tup [.int false .u8 0, .bool false]) (call0 10 [.int true .u8 n] (Sx.G.on [false, false, false, false, false, false, false, false])) := by
  have e : Sx.pureP (Sx.AV.tup [.int false .u8 0, .bool false]) (call0 10 [.int true .u8 n] (Sx.G.on [false, false, false, false, false, false, false, false])) = (Sx.AV.tup [.int false .u8 0, .bool false] = Sx.AV.tup [.int false .u8 0, .bool false] ∧ ((((((((True ∧ decide ((82 : Int) = n) = false) ∧ decide ((76 : Int) = n) = false) ∧ decide ((67 : Int) = n) = false) ∧ decide ((73 : Int) = n) = false) ∧ decide ((86 : Int) = n) = false) ∧ decide ((71 : Int) = n) = false) ∧ decide ((69 : Int) = n) = false) ∧ decide ((80 : Int) = n) = false)) := by kernel_rfl
  exact ⟨by rw [e]; exact ⟨rfl, ⟨⟨⟨⟨⟨⟨⟨⟨trivial, h0⟩, h1⟩, h2⟩, h3⟩, h4⟩, h5⟩, h6⟩, h7⟩⟩⟩
def ofDef (n : Int) : Int × Bool := (bif decide (82 = n) then (1, true) else (bif decide (76 = n) then (2, true) else (bif decide (67 = n) then (3, true) else (bif decide (73 = n) then (4, true) else (bif decide (86 = n) then (5, true) else (bif decide (71 = n) then (6, true) else (bif decide (69 = n) then (7, true) else (bif decide (80 = n) then (8, true) else (0, false)))))))))
def ofS : List Sx.AV → Sx.M Sx.AV
  | [.int s .u8 n] => Sx.M.ret (.tup [.int s .u8 (ofDef n).1, Sx.cmpB s (ofDef n).2])
  | _ => Sx.M.no
theorem ofS_ok : ∀ args v g g', ofS args g = .done v g' → Sx.CallIs Try.prog 10 args v g g' := by
  intro args v g g' h
  unfold ofS at h
  split at h
  · rename_i s n
    obtain ⟨rfl, rfl⟩ := Sx.ret_done h
    refine Sx.scal sound0 fun μ cargs ha => ?_
    have ha' : Sx.Reps 0 Sx.MM.none [.int true .u8 n] cargs.toList := by simpa only [Sx.Reps, Sx.Rep] using ha
    cases h0 : decide ((82 : Int) = n) with
    | true =>
      exact ⟨_, [true], _, ha', of_0 n h0, rfl, fun c hc => by
          have := hc 0 Sx.MM.none
          simp only [ofDef, h0, cond_true, cond_false, Sx.Rep, Sx.Reps, Sx.Rep_cmpB] at this ⊢
          exact this⟩
    | false =>
      cases h1 : decide ((76 : Int) = n) with
      | true =>
        exact ⟨_, [false, true], _, ha', of_1 n h0 h1, rfl, fun c hc => by
            have := hc 0 Sx.MM.none
            simp only [ofDef, h0, h1, cond_true, cond_false, Sx.Rep, Sx.Reps, Sx.Rep_cmpB] at this ⊢
            exact this⟩
      | false =>
        cases h2 : decide ((67 : Int) = n) with
        | true =>
          exact ⟨_, [false, false, true], _, ha', of_2 n h0 h1 h2, rfl, fun c hc => by
              have := hc 0 Sx.MM.none
              simp only [ofDef, h0, h1, h2, cond_true, cond_false, Sx.Rep, Sx.Reps, Sx.Rep_cmpB] at this ⊢
              exact this⟩
        | false =>
          cases h3 : decide ((73 : Int) = n) with
          | true =>
            exact ⟨_, [false, false, false, true], _, ha', of_3 n h0 h1 h2 h3, rfl, fun c hc => by
                have := hc 0 Sx.MM.none
                simp only [ofDef, h0, h1, h2, h3, cond_true, cond_false, Sx.Rep, Sx.Reps, Sx.Rep_cmpB] at this ⊢
                exact this⟩
          | false =>
            cases h4 : decide ((86 : Int) = n) with
            | true =>
              exact ⟨_, [false, false, false, false, true], _, ha', of_4 n h0 h1 h2 h3 h4, rfl, fun c hc => by
                  have := hc 0 Sx.MM.none
                  simp only [ofDef, h0, h1, h2, h3, h4, cond_true, cond_false, Sx.Rep, Sx.Reps, Sx.Rep_cmpB] at this ⊢
                  exact this⟩
            | false =>
              cases h5 : decide ((71 : Int) = n) with
              | true =>
                exact ⟨_, [false, false, false, false, false, true], _, ha', of_5 n h0 h1 h2 h3 h4 h5, rfl, fun c hc => by
                    have := hc 0 Sx.MM.none
                    simp only [ofDef, h0, h1, h2, h3, h4, h5, cond_true, cond_false, Sx.Rep, Sx.Reps, Sx.Rep_cmpB] at this ⊢
                    exact this⟩
              | false =>
                cases h6 : decide ((69 : Int) = n) with
                | true =>
                  exact ⟨_, [false, false, false, false, false, false, true], _, ha', of_6 n h0 h1 h2 h3 h4 h5 h6, rfl, fun c hc => by
                      have := hc 0 Sx.MM.none
                      simp only [ofDef, h0, h1, h2, h3, h4, h5, h6, cond_true, cond_false, Sx.Rep, Sx.Reps, Sx.Rep_cmpB] at this ⊢
                      exact this⟩
                | false =>
                  cases h7 : decide ((80 : Int) = n) with
                  | true =>
                    exact ⟨_, [false, false, false, false, false, false, false, true], _, ha', of_7 n h0 h1 h2 h3 h4 h5 h6 h7, rfl, fun c hc => by
                        have := hc 0 Sx.MM.none
                        simp only [ofDef, h0, h1, h2, h3, h4, h5, h6, h7, cond_true, cond_false, Sx.Rep, Sx.Reps, Sx.Rep_cmpB] at this ⊢
                        exact this⟩
                  | false =>
                    exact ⟨_, [false, false, false, false, false, false, false, false], _, ha', of_8 n h0 h1 h2 h3 h4 h5 h6 h7, rfl, fun c hc => by
                          have := hc 0 Sx.MM.none
                          simp only [ofDef, h0, h1, h2, h3, h4, h5, h6, h7, cond_true, cond_false, Sx.Rep, Sx.Reps, Sx.Rep_cmpB] at this ⊢
                          exact this⟩
  · exact (Sx.no_done h).elim
theorem ofS_tch : ∀ args, Sx.Tch (ofS args) := by
  intro args
  unfold ofS
  split
  · exact Sx.Tch.ret _
  · exact Sx.Tch.no
theorem letter_0 (n : Int) (h0 : decide (n = 1) = true) : Sx.PureP (Sx.AV.int false .u8 82) (call0 14 [.int true .u8 n] (Sx.G.on [true])) := by
  have e : Sx.pureP (Sx.AV.int false .u8 82) (call0 14 [.int true .u8 n] (Sx.G.on [true])) = (Sx.AV.int false .u8 82 = Sx.AV.int false .u8 82 ∧ (True ∧ decide (n = 1) = true)) := by kernel_rfl
  exact ⟨by rw [e]; exact ⟨rfl, ⟨trivial, h0⟩⟩⟩
theorem letter_1 (n : Int) (h0 : decide (n = 1) = false) (h1 : decide (n = 2) = true) : Sx.PureP (Sx.AV.int false .u8 76) (call0 14 [.int true .u8 n] (Sx.G.on [false, true])) := by
  have e : Sx.pureP (Sx.AV.int false .u8 76) (call0 14 [.int true .u8 n] (Sx.G.on [false, true])) = (Sx.AV.int false .u8 76 = Sx.AV.int false .u8 76 ∧ ((True ∧ decide (n = 1) = false) ∧ decide (n = 2) = true)) := by kernel_rfl
  exact ⟨by rw [e]; exact ⟨rfl, ⟨⟨trivial, h0⟩, h1⟩⟩⟩
theorem letter_2 (n : Int) (h0 : decide (n = 1) = false) (h1 : decide (n = 2) = false) (h2 : decide (n = 3) = true) : Sx.PureP (Sx.AV.int false .u8 67) (call0 14 [.int true .u8 n] (Sx.G.on [false, false, true])) := by
  have e : Sx.pureP (Sx.AV.int false .u8 67) (call0 14 [.int true .u8 n] (Sx.G.on [false, false, true])) = (Sx.AV.int false .u8 67 = Sx.AV.int false .u8 67 ∧ (((True ∧ decide (n = 1) = false) ∧ decide (n = 2) = false) ∧ decide (n = 3) = true)) := by kernel_rfl
  exact ⟨by rw [e]; exact ⟨rfl, ⟨⟨⟨trivial, h0⟩, h1⟩, h2⟩⟩⟩
theorem letter_3 (n : Int) (h0 : decide (n = 1) = false) (h1 : decide (n = 2) = false) (h2 : decide (n = 3) = false) (h3 : decide (n = 4) = true) : Sx.PureP (Sx.AV.int false .u8 73) (call0 14 [.int true .u8 n] (Sx.G.on [false, false, false, true])) := by
  have e : Sx.pureP (Sx.AV.int false .u8 73) (call0 14 [.int true .u8 n] (Sx.G.on [false, false, false, true])) = (Sx.AV.int false .u8 73 = Sx.AV.int false .u8 73 ∧ ((((True ∧ decide (n = 1) = false) ∧ decide (n = 2) = false) ∧ decide (n = 3) = false) ∧ decide (n = 4) = true)) := by kernel_rfl
  exact ⟨by rw [e]; exact ⟨rfl, ⟨⟨⟨⟨trivial, h0⟩, h1⟩, h2⟩, h3⟩⟩⟩
theorem letter_4 (n : Int) (h0 : decide (n = 1) = false) (h1 : decide (n = 2) = false) (h2 : decide (n = 3) = false) (h3 : decide (n = 4) = false) (h4 : decide (n = 5) = true) : Sx.PureP (Sx.AV.int false .u8 86) (call0 14 [.int true .u8 n] (Sx.G.on [false, false, false, false, true])) := by
  have e : Sx.pureP (Sx.AV.int false .u8 86) (call0 14 [.int true .u8 n] (Sx.G.on [false, false, false, false, true])) = (Sx.AV.int false .u8 86 = Sx.AV.int false .u8 86 ∧ (((((True ∧ decide (n = 1) = false) ∧ decide (n = 2) = false) ∧ decide (n = 3) = false) ∧ decide (n = 4) = false) ∧ decide (n = 5) = true)) := by kernel_rfl
  exact ⟨by rw [e]; exact ⟨rfl, ⟨⟨⟨⟨⟨trivial, h0⟩, h1⟩, h2⟩, h3⟩, h4⟩⟩⟩
theorem letter_5 (n : Int) (h0 : decide (n = 1) = false) (h1 : decide (n = 2) = false) (h2 : decide (n = 3) = false) (h3 : decide (n = 4) = false) (h4 : decide (n = 5) = false) (h5 : decide (n = 6) = true) : Sx.PureP (Sx.AV.int false .u8 71) (call0 14 [.int true .u8 n] (Sx.G.on [false, false, false, false, false, true])) := by
  have e : Sx.pureP (Sx.AV.int false .u8 71) (call0 14 [.int true .u8 n] (Sx.G.on [false, false, false, false, false, true])) = (Sx.AV.int false .u8 71 = Sx.AV.int false .u8 71 ∧ ((((((True ∧ decide (n = 1) = false) ∧ decide (n = 2) = false) ∧ decide (n = 3) = false) ∧ decide (n = 4) = false) ∧ decide (n = 5) = false) ∧ decide (n = 6) = true)) := by kernel_rfl
  exact ⟨by rw [e]; exact ⟨rfl, ⟨⟨⟨⟨⟨⟨trivial, h0⟩, h1⟩, h2⟩, h3⟩, h4⟩, h5⟩⟩⟩
theorem letter_6 (n : Int) (h0 : decide (n = 1) = false) (h1 : decide (n = 2) = false) (h2 : decide (n = 3) = false) (h3 : decide (n = 4) = false) (h4 : decide (n = 5) = false) (h5 : decide (n = 6) = false) (h6 : decide (n = 7) = true) : Sx.PureP (Sx.AV.int false .u8 69) (call0 14 [.int true .u8 n] (Sx.G.on [false, false, false, false, false, false, true])) := by
  have e : Sx.pureP (Sx.AV.int false .u8 69) (call0 14 [.int true .u8 n] (Sx.G.on [false, false, false, false, false, false, true])) = (Sx.AV.int false .u8 69 = Sx.AV.int false .u8 69 ∧ (((((((True ∧ decide (n = 1) = false) ∧ decide (n = 2) = false) ∧ decide (n = 3) = false) ∧ decide (n = 4) = false) ∧ decide (n = 5) = false) ∧ decide (n = 6) = false) ∧ decide (n = 7) = true)) := by kernel_rfl
  exact ⟨by rw [e]; exact ⟨rfl, ⟨⟨⟨⟨⟨⟨⟨trivial, h0⟩, h1⟩, h2⟩, h3⟩, h4⟩, h5⟩, h6⟩⟩⟩
theorem letter_7 (n : Int) (h0 : decide (n = 1) = false) (h1 : decide (n = 2) = false) (h2 : decide (n = 3) = false) (h3 : decide (n = 4) = false) (h4 : decide (n = 5) = false) (h5 : decide (n = 6) = false) (h6 : decide (n = 7) = false) (h7 : decide (n = 8) = true) : Sx.PureP (Sx.AV.int false .u8 80) (call0 14 [.int true .u8 n] (Sx.G.on [false, false, false, false, false, false, false, true])) := by
  have e : Sx.pureP (Sx.AV.int false .u8 80) (call0 14 [.int true .u8 n] (Sx.G.on [false, false, false, false, false, false, false, true])) = (Sx.AV.int false .u8 80 = Sx.AV.int false .u8 80 ∧ ((((((((True ∧ decide (n = 1) = false) ∧ decide (n = 2) = false) ∧ decide (n = 3) = false) ∧ decide (n = 4) = false) ∧ decide (n = 5) = false) ∧ decide (n = 6) = false) ∧ decide (n = 7) = false) ∧ decide (n = 8) = true)) := by kernel_rfl
  exact ⟨by rw [e]; exact ⟨rfl, ⟨⟨⟨⟨⟨⟨⟨⟨trivial, h0⟩, h1⟩, h2⟩, h3⟩, h4⟩, h5⟩, h6⟩, h7⟩⟩⟩
theorem letter_8 (n : Int) (h0 : decide (n = 1) = false) (h1 : decide (n = 2) = false) (h2 : decide (n = 3) = false) (h3 : decide (n = 4) = false) (h4 : decide (n = 5) = false) (h5 : decide (n = 6) = false) (h6 : decide (n = 7) = false) (h7 : decide (n = 8) = false) : Sx.PureP (Sx.AV.int false .u8 0) (call0 14 [.int true .u8 n] (Sx.G.on [false, false, false, false, false, false, false, false])) := by
  have e : Sx.pureP (Sx.AV.int false .u8 0) (call0 14 [.int true .u8 n] (Sx.G.on [false, false, false, false, false, false, false, false])) = (Sx.AV.int false .u8 0 = Sx.AV.int false .u8 0 ∧ ((((((((True ∧ decide (n = 1) = false) ∧ decide (n = 2) = false) ∧ decide (n = 3) = false) ∧ decide (n = 4) = false) ∧ decide (n = 5) = false) ∧ decide (n = 6) = false) ∧ decide (n = 7) = false) ∧ decide (n = 8) = false)) := by kernel_rfl
  exact ⟨by rw [e]; exact ⟨rfl, ⟨⟨⟨⟨⟨⟨⟨⟨trivial, h0⟩, h1⟩, h2⟩, h3⟩, h4⟩, h5⟩, h6⟩, h7⟩⟩⟩
def letterDef (n : Int) : Int := (bif decide (n = 1) then 82 else (bif decide (n = 2) then 76 else (bif decide (n = 3) then 67 else (bif decide (n = 4) then 73 else (bif decide (n = 5) then 86 else (bif decide (n = 6) then 71 else (bif decide (n = 7) then 69 else (bif decide (n = 8) then 80 else 0))))))))
def letterS : List Sx.AV → Sx.M Sx.AV
  | [.int s .u8 n] => Sx.M.ret (.int s .u8 (letterDef n))
  | _ => Sx.M.no
theorem letterS_ok : ∀ args v g g', letterS args g = .done v g' → Sx.CallIs Try.prog 14 args v g g' := by
  intro args v g g' h
  unfold letterS at h
  split at h
  · rename_i s n
    obtain ⟨rfl, rfl⟩ := Sx.ret_done h
    refine Sx.scal sound0 fun μ cargs ha => ?_
    have ha' : Sx.Reps 0 Sx.MM.none [.int true .u8 n] cargs.toList := by simpa only [Sx.Reps, Sx.Rep] using ha
    cases h0 : decide (n = 1) with
    | true =>
      exact ⟨_, [true], _, ha', letter_0 n h0, rfl, fun c hc => by
          have := hc 0 Sx.MM.none
          simp only [letterDef, h0, cond_true, cond_false, Sx.Rep, Sx.Reps, Sx.Rep_cmpB] at this ⊢
          exact this⟩
    | false =>
      cases h1 : decide (n = 2) with
      | true =>
        exact ⟨_, [false, true], _, ha', letter_1 n h0 h1, rfl, fun c hc => by
            have := hc 0 Sx.MM.none
            simp only [letterDef, h0, h1, cond_true, cond_false, Sx.Rep, Sx.Reps, Sx.Rep_cmpB] at this ⊢
            exact this⟩
      | false =>
        cases h2 : decide (n = 3) with
        | true =>
          exact ⟨_, [false, false, true], _, ha', letter_2 n h0 h1 h2, rfl, fun c hc => by
              have := hc 0 Sx.MM.none
              simp only [letterDef, h0, h1, h2, cond_true, cond_false, Sx.Rep, Sx.Reps, Sx.Rep_cmpB] at this ⊢
              exact this⟩
        | false =>
          cases h3 : decide (n = 4) with
          | true =>
            exact ⟨_, [false, false, false, true], _, ha', letter_3 n h0 h1 h2 h3, rfl, fun c hc => by
                have := hc 0 Sx.MM.none
                simp only [letterDef, h0, h1, h2, h3, cond_true, cond_false, Sx.Rep, Sx.Reps, Sx.Rep_cmpB] at this ⊢
                exact this⟩
          | false =>
            cases h4 : decide (n = 5) with
            | true =>
              exact ⟨_, [false, false, false, false, true], _, ha', letter_4 n h0 h1 h2 h3 h4, rfl, fun c hc => by
                  have := hc 0 Sx.MM.none
                  simp only [letterDef, h0, h1, h2, h3, h4, cond_true, cond_false, Sx.Rep, Sx.Reps, Sx.Rep_cmpB] at this ⊢
                  exact this⟩
            | false =>
              cases h5 : decide (n = 6) with
              | true =>
                exact ⟨_, [false, false, false, false, false, true], _, ha', letter_5 n h0 h1 h2 h3 h4 h5, rfl, fun c hc => by
                    have := hc 0 Sx.MM.none
                    simp only [letterDef, h0, h1, h2, h3, h4, h5, cond_true, cond_false, Sx.Rep, Sx.Reps, Sx.Rep_cmpB] at this ⊢
                    exact this⟩
              | false =>
                cases h6 : decide (n = 7) with
                | true =>
                  exact ⟨_, [false, false, false, false, false, false, true], _, ha', letter_6 n h0 h1 h2 h3 h4 h5 h6, rfl, fun c hc => by
                      have := hc 0 Sx.MM.none
                      simp only [letterDef, h0, h1, h2, h3, h4, h5, h6, cond_true, cond_false, Sx.Rep, Sx.Reps, Sx.Rep_cmpB] at this ⊢
                      exact this⟩
                | false =>
                  cases h7 : decide (n = 8) with
                  | true =>
                    exact ⟨_, [false, false, false, false, false, false, false, true], _, ha', letter_7 n h0 h1 h2 h3 h4 h5 h6 h7, rfl, fun c hc => by
                        have := hc 0 Sx.MM.none
                        simp only [letterDef, h0, h1, h2, h3, h4, h5, h6, h7, cond_true, cond_false, Sx.Rep, Sx.Reps, Sx.Rep_cmpB] at this ⊢
                        exact this⟩
                  | false =>
                    exact ⟨_, [false, false, false, false, false, false, false, false], _, ha', letter_8 n h0 h1 h2 h3 h4 h5 h6 h7, rfl, fun c hc => by
                          have := hc 0 Sx.MM.none
                          simp only [letterDef, h0, h1, h2, h3, h4, h5, h6, h7, cond_true, cond_false, Sx.Rep, Sx.Reps, Sx.Rep_cmpB] at this ⊢
                          exact this⟩
  · exact (Sx.no_done h).elim
theorem letterS_tch : ∀ args, Sx.Tch (letterS args) := by
  intro args
  unfold letterS
  split
  · exact Sx.Tch.ret _
  · exact Sx.Tch.no
noncomputable def gam : Sx.Known := fun f => bif Nat.beq f 24 then some Sx.ofBits else (bif Nat.beq f 39 then some Sx.toBits else (bif Nat.beq f 10 then some ofS else (bif Nat.beq f 14 then some letterS else (none))))
theorem gam_ok : Sx.KnownOk Try.prog gam := by
  intro f s h
  unfold gam at h
  cases h1 : Nat.beq f 24 with
  | true =>
    rw [h1] at h
    cases h
    cases Nat.eq_of_beq_eq_true h1
    exact (Sx.ofBits_is Try.prog).callIs Try.func24 (by kernel_rfl) (by kernel_rfl) (by kernel_rfl) (by kernel_rfl)
  | false =>
    rw [h1, cond_false] at h
    clear h1
    cases h1 : Nat.beq f 39 with
    | true =>
      rw [h1] at h
      cases h
      cases Nat.eq_of_beq_eq_true h1
      exact (Sx.toBits_is Try.prog).callIs Try.func39 (by kernel_rfl) (by kernel_rfl) (by kernel_rfl) (by kernel_rfl)
    | false =>
      rw [h1, cond_false] at h
      clear h1
      cases h1 : Nat.beq f 10 with
      | true =>
        rw [h1] at h
        cases h
        cases Nat.eq_of_beq_eq_true h1
        exact ofS_ok
      | false =>
        rw [h1, cond_false] at h
        clear h1
        cases h1 : Nat.beq f 14 with
        | true =>
          rw [h1] at h
          cases h
          cases Nat.eq_of_beq_eq_true h1
          exact letterS_ok
        | false =>
          rw [h1, cond_false] at h
          clear h1
          cases h
theorem gam_tch : Sx.KnownT gam := by
  intro f s h
  unfold gam at h
  cases h1 : Nat.beq f 24 with
  | true => rw [h1] at h; cases h; exact Sx.Tch.ofBits
  | false =>
    rw [h1, cond_false] at h
    clear h1
    cases h1 : Nat.beq f 39 with
    | true => rw [h1] at h; cases h; exact Sx.Tch.toBits
    | false =>
      rw [h1, cond_false] at h
      clear h1
      cases h1 : Nat.beq f 10 with
      | true => rw [h1] at h; cases h; exact ofS_tch
      | false =>
        rw [h1, cond_false] at h
        clear h1
        cases h1 : Nat.beq f 14 with
        | true => rw [h1] at h; cases h; exact letterS_tch
        | false =>
          rw [h1, cond_false] at h
          clear h1
          cases h
theorem sound (rounds fuel : Nat) : Sx.CallOk Try.prog (Sx.runA Try.prog gam (Sx.regionA Try.prog) rounds fuel) :=
  Sx.engine gam_ok gam_tch (by kernel_rfl) (by kernel_rfl) rounds fuel
theorem law_run : Sx.isTrueP (Sx.runA Try.prog gam (Sx.regionA Try.prog) 1000 50 4 [] Sx.G.start) = True := by kernel_rfl
theorem law_walk (w : World) : Calls Try.prog 4 #[] w fun e w' => e = .returned (.bool true) ∧ Below w.heap.size w w' :=
  Sx.closed (sound 1000 50) Try.func4 rfl (by kernel_rfl) law_run w

set_option maxRecDepth 100000 in
theorem law_lifted (os : Os) (started : os.Started) (H : Type) (enc : TypeId × Value → H) :
    ReturnsInHanded {} Try.checked os 4 .any (Rows.valueLettersSpec.pre6 enc Try.prog Try.f4 Rows.valueLettersRow.domain false) (Rows.valueLettersSpec.post enc Try.prog Try.f4 false true false false) := by
  refine returnsInHanded_of_change (C := Try.checked) own started (by kernel_rfl) Try.func4
    (ChangeSpec.witness6 (enc := enc) (C := Try.checked) false ⟨#[], #[], []⟩ 8 (by kernel_rfl) (by kernel_rfl) (by kernel_rfl) (by kernel_rfl)) ?_
  intro W base args ds gs before hval0 hW hcnd _
  have hW' := hW
  obtain ⟨p, q, hA0, hV, rfl, hfz, hnd⟩ := hW
  have hA : DataW.TrodAll enc Try.prog W 0 (fun _ => true) true Try.f4.params.toList args.toList ds p := hA0
  rw [Try.params4] at hA
  obtain ⟨hargs, rfl, rfl⟩ := trodAll_nil hA
  obtain rfl : args = #[] := by cases args; simp_all
  obtain ⟨rfl, rfl⟩ := trodVars_none hV
  clear hA0 hval0
  refine (law_walk W).mono fun e W' ⟨he, bel⟩ => ?_
  subst he
  exact ⟨_, rfl, _, _, _, [], _, [], hW', trodAll_mk1 (shut_bool Try.underlying4 _), trodAll_mk0, rfl, bel.frame _, fun h => by cases h⟩
theorem law_over : Rows.valueLettersRow.holds Try.pinned (OpenSpec.ofChange Rows.valueLettersSpec) :=
  OpenClaim.holds_of_wide 4 Try.f4 rfl rfl rfl rfl rfl rfl rfl ⟨rfl, rfl, rfl, rfl, rfl⟩ rfl rfl rfl rfl rfl (by kernel_rfl) Try.func4 (by kernel_rfl)
    (of_decide_eq_true (by kernel_rfl)) (by unfold Func.isWrapper; first | (rw [if_pos (by decide +kernel)]; kernel_rfl) | (rw [if_neg (by decide +kernel)]; exact ⟨rfl, rfl⟩))
    (fun os started H enc _ => law_lifted os started H enc)
/-- THE STATEMENT -/
theorem valueLetters_proved : Rows.ValueLettersSaid := law_over
#print axioms valueLetters_proved
end Go.Proofs.Ytmdcfmknjbeciaa
