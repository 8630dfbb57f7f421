/- ResonanceNone: returns true for every input; no conditions. By the engine's runs, checked by the kernel. -/
import Derived.Test.YteggchdkjamdmaaGreatRows
import Derived.ProofKit
import Derived.OpenShut
import Derived.KernelRfl
import Derived.SizedLaws
import Derived.Carry
import Derived.ChangeMaps5
import Derived.Test.YteggchdkjamdmaaGreatResonanceNonePC
namespace Go.Proofs.YteggchdkjamdmaaGreat
open Go.ChangeShapes Go.WideShapes Go.ChangeAt Go.RowKit
set_option linter.unusedVariables false
set_option linter.unusedSimpArgs false

theorem own : ownKnob Tryz.prog.godebug = none := by kernel_rfl
theorem laidOut : laidOutB Tryz.prog = true := by kernel_rfl
theorem law_run (s : List UInt8) (a b c : Int) : Sx.pureP (.bool true) (call3 7 [.agg [.str true s, .int true .u64 a, .int true .u64 b, .int true .u64 c]] (Sx.G.on [])) = (Sx.AV.bool true = Sx.AV.bool true ∧ ((((((True ∧ (0 ≤ a ∧ a < 18446744073709551616)) ∧ (0 ≤ b ∧ b < 18446744073709551616)) ∧ (0 ≤ c ∧ c < 18446744073709551616)) ∧ (0 ≤ a ∧ a < 18446744073709551616)) ∧ (0 ≤ b ∧ b < 18446744073709551616)) ∧ (0 ≤ c ∧ c < 18446744073709551616))) := by kernel_rfl
set_option maxRecDepth 100000 in
theorem law_walk {H : Type} {enc : TypeId × Value → H} {base : Nat} {ts : List TypeId} {ds : List (DataW H)} {d0 : DataW H} {p0 : List MemPlace} {wd : World} (v0 : Value) (hv0 : Value.okWide Tryz.prog wd .any base 49 v0) (h0 : DataW.Trod enc Tryz.prog wd 0 (fun _ => true) true 49 v0 d0 p0) (z0 : (DataW.weightsEach Tryz.prog ts ds).all (· ≤ reachBytes) = true)
    (w' : World) (hw : w' = wd) : Calls Tryz.prog 7 #[v0] wd fun e w' => e = .returned (.bool true) ∧ Below wd.heap.size wd w' := by
  obtain ⟨c, hr, hok⟩ := Sx.open_agg (n := 3) (shs := [.str, .int .u64, .int .u64, .int .u64]) Tryz.underlying49 (by kernel_rfl) (by kernel_rfl) hv0 h0
  have bd : ∀ {x : Value}, (Sx.Sh.int .u64).ok x → 0 ≤ Sx.intOf x ∧ Sx.intOf x < 18446744073709551616 := fun {x} h => by
    obtain ⟨n, rfl, hw⟩ := h
    have := bounds_u64 hw
    simp only [Sx.intOf]; omega
  have b1 := bd (hok 1 _ rfl)
  have b2 := bd (hok 2 _ rfl)
  have b3 := bd (hok 3 _ rfl)
  have hp : Sx.PureP (.bool true) (call3 7 [.agg [.str true (Sx.strOf (c 0)), .int true .u64 (Sx.intOf (c 1)), .int true .u64 (Sx.intOf (c 2)), .int true .u64 (Sx.intOf (c 3))]] (Sx.G.on [])) :=
    ⟨by rw [law_run]; exact ⟨rfl, ⟨⟨⟨⟨⟨⟨trivial, b1⟩, b2⟩, b3⟩, b1⟩, b2⟩, b3⟩⟩⟩
  exact Sx.pure_true call3_ok Tryz.func7 rfl (by kernel_rfl) hp rfl (fun cv hc => by simpa only [Sx.Rep] using hc 0 Sx.MM.none) wd (by simp only [Sx.Reps]; exact ⟨v0, _, rfl, hr 0 _, rfl⟩)

set_option maxRecDepth 100000 in
theorem law_lifted (os : Os) (started : os.Started) (H : Type) (enc : TypeId × Value → H) :
    ReturnsInHanded {} Tryz.checked os 7 .any (Rows.resonanceNoneSpec.pre6 enc Tryz.prog Tryz.f7 Rows.resonanceNoneRow.domain false) (Rows.resonanceNoneSpec.post enc Tryz.prog Tryz.f7 false true false false) := by
  refine returnsInHanded_of_change_sized (C := Tryz.checked) own started (by kernel_rfl) Tryz.func7
    (ChangeSpec.witness6 (enc := enc) (C := Tryz.checked) false ⟨#[], #[.agg #[.string ⟨#[]⟩, .int .u64 0, .int .u64 0, .int .u64 0]], []⟩ 8 (by kernel_rfl) (by kernel_rfl) (by kernel_rfl) (by kernel_rfl)) ?_
  intro W base args ds gs before hval0 hW hcnd hsz0 _
  have hval : ∀ (j : Nat) t v, Tryz.f7.params[j]? = some t → args[j]? = some v → Value.okWide Tryz.prog W .any base t v := hval0
  have hsz1 : (DataW.weightsEach Tryz.prog (Tryz.f7.params.toList ++ Rows.resonanceNoneSpec.plain.varTypes Tryz.prog) (ds ++ gs)).all (· ≤ reachBytes) = true := hsz0
  have hsz : (DataW.weightsEach Tryz.prog [49] (ds ++ gs)).all (· ≤ reachBytes) = true := by
    have e : Tryz.f7.params.toList ++ Rows.resonanceNoneSpec.plain.varTypes Tryz.prog = [49] := by rw [Tryz.params7]; kernel_rfl
    rw [← e]; exact hsz1
  have hW' := hW
  obtain ⟨p, q, hA0, hV, rfl, hfz, hnd⟩ := hW
  have hA : DataW.TrodAll enc Tryz.prog W 0 (fun _ => true) true Tryz.f7.params.toList args.toList ds p := hA0
  rw [Tryz.params7] at hA hval
  obtain ⟨v0, vs0, d0, ds0, p0, q0, hargs, rfl, rfl, h0, r0⟩ := trodAll_cons hA
  obtain ⟨rfl, rfl, rfl⟩ := trodAll_nil r0
  obtain rfl : args = #[v0] := by cases args; simp_all
  obtain ⟨rfl, rfl⟩ := trodVars_none hV
  rw [List.append_nil] at hsz
  have hk0 := h0
  have hlt0 : ∀ x ∈ p0, x.block < W.heap.size := DataW.TrodAll.lt (trodAll_mk1 h0)
  clear hA0 hval0 hsz0 hsz1
  refine (law_walk v0 (hval 0 49 v0 rfl rfl) h0 hsz W rfl).mono fun e W' ⟨he, bel⟩ => ?_
  subst he
  exact ⟨_, rfl, _, _, _, [], _, [], hW', trodAll_mk1 (shut_bool Tryz.underlying4 _), (trodAll_cons_mk (Below.trod laidOut (by kernel_rfl) (of_decide_eq_true (by kernel_rfl)) hk0 bel hlt0) trodAll_mk0), rfl, bel.frame _, fun h => by cases h⟩
theorem law_over : Rows.resonanceNoneRow.holds Tryz.pinned (OpenSpec.ofChange Rows.resonanceNoneSpec) :=
  OpenClaim.holds_of_wide 7 Tryz.f7 rfl rfl rfl rfl rfl rfl rfl ⟨rfl, rfl, rfl, rfl, rfl⟩ rfl rfl rfl rfl rfl (by kernel_rfl) Tryz.func7 (by kernel_rfl)
    (of_decide_eq_true (by kernel_rfl)) (by unfold Func.isWrapper; first | (rw [if_pos (by decide +kernel)]; kernel_rfl) | (rw [if_neg (by decide +kernel)]; exact ⟨rfl, rfl⟩))
    (fun os started H enc _ => law_lifted os started H enc)
/-- THE STATEMENT -/
theorem resonanceNone_proved : Rows.ResonanceNoneSaid := law_over
#print axioms resonanceNone_proved
end Go.Proofs.YteggchdkjamdmaaGreat
