/- ValueKnown: the closed statement returns true, whatever the start; no conditions. By the engine's run, checked by the kernel. -/
import Derived.Test.YtmdcfmknjbeciaaRows
import Derived.ProofKit
import Derived.OpenShut
import Derived.KernelRfl
import Derived.Test.YtmdcfmknjbeciaaSyQ
namespace Go.Proofs.Ytmdcfmknjbeciaa
open Go.ChangeShapes Go.WideShapes Go.ChangeAt Go.RowKit
set_option linter.unusedVariables false

theorem own : ownKnob Try.prog.godebug = none := by kernel_rfl
set_option linter.unusedSimpArgs false
noncomputable def gam0 : Sx.Known := fun f => bif Nat.beq f 24 then some Sx.ofBits else bif Nat.beq f 39 then some Sx.toBits else none
theorem gam0_ok : Sx.KnownOk Try.prog gam0 := by
  intro f s h
  unfold gam0 at h
  cases h1 : Nat.beq f 24 with
  | true =>
    rw [h1] at h
    cases h
    cases Nat.eq_of_beq_eq_true h1
    exact (Sx.ofBits_is Try.prog).callIs Try.func24 (by kernel_rfl) (by kernel_rfl) (by kernel_rfl) (by kernel_rfl)
  | false =>
    rw [h1, cond_false] at h
    cases h2 : Nat.beq f 39 with
    | true =>
      rw [h2] at h
      cases h
      cases Nat.eq_of_beq_eq_true h2
      exact (Sx.toBits_is Try.prog).callIs Try.func39 (by kernel_rfl) (by kernel_rfl) (by kernel_rfl) (by kernel_rfl)
    | false => rw [h2] at h; cases h
theorem gam0_tch : Sx.KnownT gam0 := by
  intro f s h
  unfold gam0 at h
  cases h1 : Nat.beq f 24 with
  | true => rw [h1] at h; cases h; exact Sx.Tch.ofBits
  | false =>
    rw [h1, cond_false] at h
    cases h2 : Nat.beq f 39 with
    | true => rw [h2] at h; cases h; exact Sx.Tch.toBits
    | false => rw [h2] at h; cases h
noncomputable def call0 : Sx.Calls' := Sx.runN Try.prog gam0 (Sx.regionA Try.prog) 1000 50
theorem sound0 : Sx.CallOk Try.prog call0 := Sx.engine gam0_ok gam0_tch (by kernel_rfl) (by kernel_rfl) 1000 50
theorem kind_0 (n : Nat) (hE : decide (Sx.kE n = 0) = true) (hR : decide (Sx.kR n = 0) = true) : Sx.PureP (Sx.AV.int false .i64 0) (call0 34 [.raw true n] (Sx.G.on [true, true])) := by
  have e : Sx.pureP (Sx.AV.int false .i64 0) (call0 34 [.raw true n] (Sx.G.on [true, true])) = (Sx.AV.int false .i64 0 = Sx.AV.int false .i64 0 ∧ ((((True ∧ (0 : Int) ≤ 52) ∧ (0 : Int) ≤ 12) ∧ decide (Sx.kE n = 0) = true) ∧ decide (Sx.kR n = 0) = true)) := by kernel_rfl
  exact ⟨by rw [e]; exact ⟨rfl, ⟨⟨⟨⟨trivial, by decide⟩, by decide⟩, hE⟩, hR⟩⟩⟩
theorem kind_1 (n : Nat) (hE : decide (Sx.kE n = 0) = true) (hR : decide (Sx.kR n = 0) = false) : Sx.PureP (Sx.AV.int false .i64 1) (call0 34 [.raw true n] (Sx.G.on [true, false, true])) := by
  have e : Sx.pureP (Sx.AV.int false .i64 1) (call0 34 [.raw true n] (Sx.G.on [true, false, true])) = (Sx.AV.int false .i64 1 = Sx.AV.int false .i64 1 ∧ (((((True ∧ (0 : Int) ≤ 52) ∧ (0 : Int) ≤ 12) ∧ decide (Sx.kE n = 0) = true) ∧ decide (Sx.kR n = 0) = false) ∧ decide (Sx.kE n = 0) = true)) := by kernel_rfl
  exact ⟨by rw [e]; exact ⟨rfl, ⟨⟨⟨⟨⟨trivial, by decide⟩, by decide⟩, hE⟩, hR⟩, hE⟩⟩⟩
theorem kind_2 (n : Nat) (hE : decide (Sx.kE n = 0) = false) (hL : decide (Sx.kE n < 2047) = true) : Sx.PureP (Sx.AV.int false .i64 2) (call0 34 [.raw true n] (Sx.G.on [false, false, true])) := by
  have e : Sx.pureP (Sx.AV.int false .i64 2) (call0 34 [.raw true n] (Sx.G.on [false, false, true])) = (Sx.AV.int false .i64 2 = Sx.AV.int false .i64 2 ∧ (((((True ∧ (0 : Int) ≤ 52) ∧ (0 : Int) ≤ 12) ∧ decide (Sx.kE n = 0) = false) ∧ decide (Sx.kE n = 0) = false) ∧ decide (Sx.kE n < 2047) = true)) := by kernel_rfl
  exact ⟨by rw [e]; exact ⟨rfl, ⟨⟨⟨⟨⟨trivial, by decide⟩, by decide⟩, hE⟩, hE⟩, hL⟩⟩⟩
theorem kind_3 (n : Nat) (hE : decide (Sx.kE n = 0) = false) (hL : decide (Sx.kE n < 2047) = false) (hR : decide (Sx.kR n = 0) = true) : Sx.PureP (Sx.AV.int false .i64 3) (call0 34 [.raw true n] (Sx.G.on [false, false, false, true])) := by
  have e : Sx.pureP (Sx.AV.int false .i64 3) (call0 34 [.raw true n] (Sx.G.on [false, false, false, true])) = (Sx.AV.int false .i64 3 = Sx.AV.int false .i64 3 ∧ ((((((True ∧ (0 : Int) ≤ 52) ∧ (0 : Int) ≤ 12) ∧ decide (Sx.kE n = 0) = false) ∧ decide (Sx.kE n = 0) = false) ∧ decide (Sx.kE n < 2047) = false) ∧ decide (Sx.kR n = 0) = true)) := by kernel_rfl
  exact ⟨by rw [e]; exact ⟨rfl, ⟨⟨⟨⟨⟨⟨trivial, by decide⟩, by decide⟩, hE⟩, hE⟩, hL⟩, hR⟩⟩⟩
theorem kind_4 (n : Nat) (hE : decide (Sx.kE n = 0) = false) (hL : decide (Sx.kE n < 2047) = false) (hR : decide (Sx.kR n = 0) = false) : Sx.PureP (Sx.AV.int false .i64 4) (call0 34 [.raw true n] (Sx.G.on [false, false, false, false])) := by
  have e : Sx.pureP (Sx.AV.int false .i64 4) (call0 34 [.raw true n] (Sx.G.on [false, false, false, false])) = (Sx.AV.int false .i64 4 = Sx.AV.int false .i64 4 ∧ ((((((True ∧ (0 : Int) ≤ 52) ∧ (0 : Int) ≤ 12) ∧ decide (Sx.kE n = 0) = false) ∧ decide (Sx.kE n = 0) = false) ∧ decide (Sx.kE n < 2047) = false) ∧ decide (Sx.kR n = 0) = false)) := by kernel_rfl
  exact ⟨by rw [e]; exact ⟨rfl, ⟨⟨⟨⟨⟨⟨trivial, by decide⟩, by decide⟩, hE⟩, hE⟩, hL⟩, hR⟩⟩⟩
noncomputable def kindS : List Sx.AV → Sx.M Sx.AV
  | [.flt s n] => Sx.M.ret (.int s .i64 (Sx.kindDef n))
  | [.raw s n] => Sx.M.ret (.int s .i64 (Sx.kindDef n))
  | _ => Sx.M.no
theorem kind_road (n : Nat) : ∃ path lv, Sx.PureP lv (call0 34 [.raw true n] (Sx.G.on path)) ∧ lv = Sx.AV.int false .i64 (Sx.kindDef n) := by
  cases hE : decide (Sx.kE n = 0) with
  | true =>
    cases hR : decide (Sx.kR n = 0) with
    | true => exact ⟨_, _, kind_0 n hE hR, by simp only [Sx.kindDef, hE, hR, cond_true]⟩
    | false => exact ⟨_, _, kind_1 n hE hR, by simp only [Sx.kindDef, hE, hR, cond_true, cond_false]⟩
  | false =>
    cases hL : decide (Sx.kE n < 2047) with
    | true => exact ⟨_, _, kind_2 n hE hL, by simp only [Sx.kindDef, hE, hL, cond_true, cond_false]⟩
    | false =>
      cases hR : decide (Sx.kR n = 0) with
      | true => exact ⟨_, _, kind_3 n hE hL hR, by simp only [Sx.kindDef, hE, hL, hR, cond_true, cond_false]⟩
      | false => exact ⟨_, _, kind_4 n hE hL hR, by simp only [Sx.kindDef, hE, hL, hR, cond_true, cond_false]⟩
theorem kindS_ok : ∀ args v g g', kindS args g = .done v g' → Sx.CallIs Try.prog 34 args v g g' := by
  intro args v g g' h
  unfold kindS at h
  split at h
  · rename_i s n
    obtain ⟨rfl, rfl⟩ := Sx.ret_done h
    refine Sx.scal sound0 fun μ cargs ha => ?_
    obtain ⟨c, rfl, hx⟩ := ha.one
    simp only [Sx.Rep] at hx
    obtain ⟨b, rfl, hb⟩ := hx
    obtain ⟨path, lv, h1, rfl⟩ := kind_road b
    refine ⟨[.raw true b], path, _, ?_, h1, rfl, fun c hc => ?_⟩
    · simp only [Sx.Reps, Sx.Rep]; exact ⟨_, _, rfl, ⟨rfl, hb.2⟩, rfl⟩
    · have := hc 0 Sx.MM.none
      simp only [Sx.Rep] at this ⊢
      rw [this, ← hb.1, Sx.kind_cn hb.2]
  · rename_i s n
    obtain ⟨rfl, rfl⟩ := Sx.ret_done h
    refine Sx.scal sound0 fun μ cargs ha => ?_
    obtain ⟨c, rfl, hx⟩ := ha.one
    simp only [Sx.Rep] at hx
    obtain ⟨rfl, hb⟩ := hx
    obtain ⟨path, lv, h1, rfl⟩ := kind_road n
    refine ⟨[.raw true n], path, _, ?_, h1, rfl, fun c hc => ?_⟩
    · simp only [Sx.Reps, Sx.Rep]; exact ⟨_, _, rfl, ⟨rfl, hb⟩, rfl⟩
    · have := hc 0 Sx.MM.none
      simpa only [Sx.Rep] using this
  · exact (Sx.no_done h).elim
theorem kindS_tch : ∀ args, Sx.Tch (kindS args) := by
  intro args
  unfold kindS
  split
  · exact Sx.Tch.ret _
  · exact Sx.Tch.ret _
  · exact Sx.Tch.no
noncomputable def gam : Sx.Known := fun f => bif Nat.beq f 24 then some Sx.ofBits else (bif Nat.beq f 39 then some Sx.toBits else (bif Nat.beq f 34 then some kindS else (none)))
theorem gam_ok : Sx.KnownOk Try.prog gam := by
  intro f s h
  unfold gam at h
  cases h1 : Nat.beq f 24 with
  | true =>
    rw [h1] at h
    cases h
    cases Nat.eq_of_beq_eq_true h1
    exact (Sx.ofBits_is Try.prog).callIs Try.func24 (by kernel_rfl) (by kernel_rfl) (by kernel_rfl) (by kernel_rfl)
  | false =>
    rw [h1, cond_false] at h
    clear h1
    cases h1 : Nat.beq f 39 with
    | true =>
      rw [h1] at h
      cases h
      cases Nat.eq_of_beq_eq_true h1
      exact (Sx.toBits_is Try.prog).callIs Try.func39 (by kernel_rfl) (by kernel_rfl) (by kernel_rfl) (by kernel_rfl)
    | false =>
      rw [h1, cond_false] at h
      clear h1
      cases h1 : Nat.beq f 34 with
      | true =>
        rw [h1] at h
        cases h
        cases Nat.eq_of_beq_eq_true h1
        exact kindS_ok
      | false =>
        rw [h1, cond_false] at h
        clear h1
        cases h
theorem gam_tch : Sx.KnownT gam := by
  intro f s h
  unfold gam at h
  cases h1 : Nat.beq f 24 with
  | true => rw [h1] at h; cases h; exact Sx.Tch.ofBits
  | false =>
    rw [h1, cond_false] at h
    clear h1
    cases h1 : Nat.beq f 39 with
    | true => rw [h1] at h; cases h; exact Sx.Tch.toBits
    | false =>
      rw [h1, cond_false] at h
      clear h1
      cases h1 : Nat.beq f 34 with
      | true => rw [h1] at h; cases h; exact kindS_tch
      | false =>
        rw [h1, cond_false] at h
        clear h1
        cases h
theorem sound (rounds fuel : Nat) : Sx.CallOk Try.prog (Sx.runN Try.prog gam (Sx.regionC Try.prog) rounds fuel) :=
  Sx.engineC gam_ok gam_tch (by kernel_rfl) (by kernel_rfl) rounds fuel
theorem law_run : Sx.isTrueP (Sx.runN Try.prog gam (Sx.regionC Try.prog) 1000 50 7 [] Sx.G.start) = True := by kernel_rfl
theorem law_walk (w : World) : Calls Try.prog 7 #[] w fun e w' => e = .returned (.bool true) ∧ Below w.heap.size w w' :=
  Sx.closed (sound 1000 50) Try.func7 rfl (by kernel_rfl) law_run w

set_option maxRecDepth 100000 in
theorem law_lifted (os : Os) (started : os.Started) (H : Type) (enc : TypeId × Value → H) :
    ReturnsInHanded {} Try.checked os 7 .any (Rows.valueKnownSpec.pre6 enc Try.prog Try.f7 Rows.valueKnownRow.domain false) (Rows.valueKnownSpec.post enc Try.prog Try.f7 false true false false) := by
  refine returnsInHanded_of_change (C := Try.checked) own started (by kernel_rfl) Try.func7
    (ChangeSpec.witness6 (enc := enc) (C := Try.checked) false ⟨#[], #[], []⟩ 8 (by kernel_rfl) (by kernel_rfl) (by kernel_rfl) (by kernel_rfl)) ?_
  intro W base args ds gs before hval0 hW hcnd _
  have hW' := hW
  obtain ⟨p, q, hA0, hV, rfl, hfz, hnd⟩ := hW
  have hA : DataW.TrodAll enc Try.prog W 0 (fun _ => true) true Try.f7.params.toList args.toList ds p := hA0
  rw [Try.params7] at hA
  obtain ⟨hargs, rfl, rfl⟩ := trodAll_nil hA
  obtain rfl : args = #[] := by cases args; simp_all
  obtain ⟨rfl, rfl⟩ := trodVars_none hV
  clear hA0 hval0
  refine (law_walk W).mono fun e W' ⟨he, bel⟩ => ?_
  subst he
  exact ⟨_, rfl, _, _, _, [], _, [], hW', trodAll_mk1 (shut_bool Try.underlying4 _), trodAll_mk0, rfl, bel.frame _, fun h => by cases h⟩
theorem law_over : Rows.valueKnownRow.holds Try.pinned (OpenSpec.ofChange Rows.valueKnownSpec) :=
  OpenClaim.holds_of_wide 7 Try.f7 rfl rfl rfl rfl rfl rfl rfl ⟨rfl, rfl, rfl, rfl, rfl⟩ rfl rfl rfl rfl rfl (by kernel_rfl) Try.func7 (by kernel_rfl)
    (of_decide_eq_true (by kernel_rfl)) (by unfold Func.isWrapper; first | (rw [if_pos (by decide +kernel)]; kernel_rfl) | (rw [if_neg (by decide +kernel)]; exact ⟨rfl, rfl⟩))
    (fun os started H enc _ => law_lifted os started H enc)
/-- THE STATEMENT -/
theorem valueKnown_proved : Rows.ValueKnownSaid := law_over
#print axioms valueKnown_proved
end Go.Proofs.Ytmdcfmknjbeciaa
