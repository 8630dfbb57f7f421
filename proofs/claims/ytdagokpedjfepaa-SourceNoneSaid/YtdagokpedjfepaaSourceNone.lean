/- SourceNone: returns true for every input; no conditions. By the engine's runs, checked by the kernel. -/
import Derived.Test.YtdagokpedjfepaaRows
import Derived.ProofKit
import Derived.OpenShut
import Derived.KernelRfl
import Derived.SizedLaws
import Derived.Carry
import Derived.ChangeMaps5
import Derived.Test.YtdagokpedjfepaaSyR
namespace Go.Proofs.Ytdagokpedjfepaa
open Go.ChangeShapes Go.WideShapes Go.ChangeAt Go.RowKit
set_option linter.unusedVariables false
set_option linter.unusedSimpArgs false

theorem own : ownKnob Try.prog.godebug = none := by kernel_rfl
theorem laidOut : laidOutB Try.prog = true := by kernel_rfl
noncomputable def gam0 : Sx.Known := fun f => bif Nat.beq f 36 then some Sx.ofBits else (bif Nat.beq f 62 then some Sx.toBits else (none))
theorem gam0_ok : Sx.KnownOk Try.prog gam0 := by
  intro f s h
  unfold gam0 at h
  cases h1 : Nat.beq f 36 with
  | true =>
    rw [h1] at h
    cases h
    cases Nat.eq_of_beq_eq_true h1
    exact (Sx.ofBits_is Try.prog).callIs Try.func36 (by kernel_rfl) (by kernel_rfl) (by kernel_rfl) (by kernel_rfl)
  | false =>
    rw [h1, cond_false] at h
    clear h1
    cases h1 : Nat.beq f 62 with
    | true =>
      rw [h1] at h
      cases h
      cases Nat.eq_of_beq_eq_true h1
      exact (Sx.toBits_is Try.prog).callIs Try.func62 (by kernel_rfl) (by kernel_rfl) (by kernel_rfl) (by kernel_rfl)
    | false =>
      rw [h1, cond_false] at h
      clear h1
      cases h
theorem gam0_tch : Sx.KnownT gam0 := by
  intro f s h
  unfold gam0 at h
  cases h1 : Nat.beq f 36 with
  | true => rw [h1] at h; cases h; exact Sx.Tch.ofBits
  | false =>
    rw [h1, cond_false] at h
    clear h1
    cases h1 : Nat.beq f 62 with
    | true => rw [h1] at h; cases h; exact Sx.Tch.toBits
    | false =>
      rw [h1, cond_false] at h
      clear h1
      cases h
noncomputable def call0 : Sx.Calls' := Sx.runN Try.prog gam0 (Sx.regionC Try.prog) 1000 50
theorem call0_ok : Sx.CallOk Try.prog call0 := Sx.engineC gam0_ok gam0_tch (by kernel_rfl) (by kernel_rfl) 1000 50
theorem call0_tch : Sx.CallT call0 := Sx.runA_tch gam0_tch (fun _ _ _ h => by cases h) (fun call hc n l fr => Sx.regionC_tch hc n l fr) 50
theorem call0_reg (n : Nat) : Sx.RegionOk Try.prog (Sx.regionC Try.prog call0 n) n := Sx.runN_regionC gam0_ok gam0_tch (by kernel_rfl) (by kernel_rfl) 1000 50 n

theorem law_run : Sx.pureP (.bool true) (call0 6 [.top] (Sx.G.on [])) = (Sx.AV.bool true = Sx.AV.bool true ∧ True) := by kernel_rfl
theorem law_walk (v : Value) (w : World) : Calls Try.prog 6 #[v] w fun e w' => e = .returned (.bool true) ∧ Below w.heap.size w w' :=
  Sx.pure_true call0_ok Try.func6 rfl (by kernel_rfl) ⟨by rw [law_run]; exact ⟨rfl, trivial⟩⟩ rfl (fun c hc => by simpa only [Sx.Rep] using hc 0 Sx.MM.none) w (by simp only [Sx.Reps, Sx.Rep]; exact ⟨_, _, rfl, trivial, rfl⟩)

set_option maxRecDepth 100000 in
theorem law_lifted (os : Os) (started : os.Started) (H : Type) (enc : TypeId × Value → H) :
    ReturnsInHanded {} Try.checked os 6 .any (Rows.sourceNoneSpec.pre6 enc Try.prog Try.f6 Rows.sourceNoneRow.domain false) (Rows.sourceNoneSpec.post enc Try.prog Try.f6 false true false false) := by
  refine returnsInHanded_of_change_sized (C := Try.checked) own started (by kernel_rfl) Try.func6
    (ChangeSpec.witness6 (enc := enc) (C := Try.checked) false ⟨#[], #[.string ⟨#[]⟩], []⟩ 8 (by kernel_rfl) (by kernel_rfl) (by kernel_rfl) (by kernel_rfl)) ?_
  intro W base args ds gs before hval0 hW hcnd hsz0 _
  have hval : ∀ (j : Nat) t v, Try.f6.params[j]? = some t → args[j]? = some v → Value.okWide Try.prog W .any base t v := hval0
  have hsz1 : (DataW.weightsEach Try.prog (Try.f6.params.toList ++ Rows.sourceNoneSpec.plain.varTypes Try.prog) (ds ++ gs)).all (· ≤ reachBytes) = true := hsz0
  have hsz : (DataW.weightsEach Try.prog [9] (ds ++ gs)).all (· ≤ reachBytes) = true := by
    have e : Try.f6.params.toList ++ Rows.sourceNoneSpec.plain.varTypes Try.prog = [9] := by rw [Try.params6]; kernel_rfl
    rw [← e]; exact hsz1
  have hW' := hW
  obtain ⟨p, q, hA0, hV, rfl, hfz, hnd⟩ := hW
  have hA : DataW.TrodAll enc Try.prog W 0 (fun _ => true) true Try.f6.params.toList args.toList ds p := hA0
  rw [Try.params6] at hA hval
  obtain ⟨v0, vs0, d0, ds0, p0, q0, hargs, rfl, rfl, h0, r0⟩ := trodAll_cons hA
  obtain ⟨rfl, rfl, rfl⟩ := trodAll_nil r0
  obtain rfl : args = #[v0] := by cases args; simp_all
  obtain ⟨rfl, rfl⟩ := trodVars_none hV
  rw [List.append_nil] at hsz
  have hk0 := h0
  have hlt0 : ∀ x ∈ p0, x.block < W.heap.size := DataW.TrodAll.lt (trodAll_mk1 h0)
  clear hA0 hval0 hsz0 hsz1
  refine (law_walk v0 W).mono fun e W' ⟨he, bel⟩ => ?_
  subst he
  exact ⟨_, rfl, _, _, _, [], _, [], hW', trodAll_mk1 (shut_bool Try.underlying4 _), (trodAll_cons_mk (Below.trod laidOut (by kernel_rfl) (of_decide_eq_true (by kernel_rfl)) hk0 bel hlt0) trodAll_mk0), rfl, bel.frame _, fun h => by cases h⟩
theorem law_over : Rows.sourceNoneRow.holds Try.pinned (OpenSpec.ofChange Rows.sourceNoneSpec) :=
  OpenClaim.holds_of_wide 6 Try.f6 rfl rfl rfl rfl rfl rfl rfl ⟨rfl, rfl, rfl, rfl, rfl⟩ rfl rfl rfl rfl rfl (by kernel_rfl) Try.func6 (by kernel_rfl)
    (of_decide_eq_true (by kernel_rfl)) (by unfold Func.isWrapper; first | (rw [if_pos (by decide +kernel)]; kernel_rfl) | (rw [if_neg (by decide +kernel)]; exact ⟨rfl, rfl⟩))
    (fun os started H enc _ => law_lifted os started H enc)
/-- THE STATEMENT -/
theorem sourceNone_proved : Rows.SourceNoneSaid := law_over
#print axioms sourceNone_proved
end Go.Proofs.Ytdagokpedjfepaa

