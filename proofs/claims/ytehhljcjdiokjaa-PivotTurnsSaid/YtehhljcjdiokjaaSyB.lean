/- DRAWN REGIONS: the engine is sound, drawn regions and all. -/
import Derived.Test.YtehhljcjdiokjaaSyA
set_option linter.unusedSimpArgs false
set_option linter.unusedVariables false
noncomputable section
namespace Go.Sx
open M

theorem regionA_done {P : Program} {call : Calls'} {nT : Nat} {ops : List Oper} {fr fr' : Fr} {g g' : G} (h : regionA P call nT ops fr g = .done fr' g') :
    staticOk (masksOf [] ops) nT 0 0 ops = true ∧ ∃ Ts NX rcs, passA P call ⟨nT, ops, masksOf [] ops, Ts, NX, g.nx⟩ 0 ops fr [] g = .done rcs g' ∧ seenOk ⟨nT, ops, masksOf [] ops, Ts, NX, g.nx⟩ 0 rcs = true ∧ g'.nx ≤ NX ∧ fr' = lastFr fr rcs := by
  unfold regionA at h
  cases hst : staticOk (masksOf [] ops) nT 0 0 ops with
  | false => rw [hst] at h; cases h
  | true =>
    rw [hst, cond_true] at h
    refine ⟨rfl, ?_⟩
    generalize hp : passA P call ⟨nT, ops, masksOf [] ops, [], g.nx + 4096, g.nx⟩ 0 ops fr [] g = r at h
    split at h
    · rename_i rcs g1
      cases hb : (Nat.ble g1.nx (g.nx + 4096) && seenOk ⟨nT, ops, masksOf [] ops, [], g.nx + 4096, g.nx⟩ 0 rcs) with
      | true =>
        rw [hb, cond_true] at h
        cases h
        simp only [Bool.and_eq_true] at hb
        exact ⟨_, _, _, hp, hb.2, Nat.le_of_ble_eq_true hb.1, rfl⟩
      | false =>
        rw [hb, cond_false] at h
        generalize hp2 : passA P call ⟨nT, ops, masksOf [] ops, rcs.map (·.T), g.nx + 4294967296, g.nx⟩ 0 ops fr [] g = r2 at h
        split at h
        · rename_i rcs2 g2
          cases hb2 : (Nat.ble g2.nx (g.nx + 4294967296) && seenOk ⟨nT, ops, masksOf [] ops, rcs.map (·.T), g.nx + 4294967296, g.nx⟩ 0 rcs2) with
          | true =>
            rw [hb2, cond_true] at h
            cases h
            simp only [Bool.and_eq_true] at hb2
            exact ⟨_, _, _, hp2, hb2.2, Nat.le_of_ble_eq_true hb2.1, rfl⟩
          | false => rw [hb2, cond_false] at h; cases h
        · cases h
        · cases h
    · cases h
    · cases h
theorem regionA_ok {P : Program} {call : Calls'} (hcall : CallOk P call) (hct : CallT call) (hm : P.follows .mixedOrders = true) (n : Nat) : RegionOk P (regionA P call n) n := fun ops id fr fr' g g' h => by
  obtain ⟨hst, Ts, NX, rcs, hp, hs, hx, rfl⟩ := regionA_done h
  exact (planOf hcall hct hst hp hs hx).leads hm id
theorem stepR_tch {P : Program} {call : Calls'} (hct : CallT call) {C : Cfg} {j : Nat} {o : Oper} {fr : Fr} {chs : List (Nat × Nat)} : Tch (stepR P call C j o fr chs) := ⟨fun g rc g' h => by
  have hr := stepR_done h
  cases hc : rc.ch with
  | false =>
    obtain ⟨_, _, _, _, r5, r6, r7⟩ := hr.read hc
    exact ⟨[], r7, by rw [r6]; exact Nat.le_refl _, fun nm _ _ => by rw [r5]⟩
  | true =>
    obtain ⟨r1, r2, r3, r4, r5, r6, _⟩ := hr.chain hc
    obtain ⟨l, t1, t2, t3⟩ := (Tch.oneA P hct _ _ _ _).of _ _ _ hr.run
    rw [hr.tin, List.append_nil] at t1
    refine ⟨l, by rw [r6, t1], by rw [r5, ← r2]; exact t2, fun nm hn hl => ?_⟩
    rw [r4, t3 nm (by rw [r2]; exact hn) hl, r1]⟩
theorem passA_tch {P : Program} {call : Calls'} (hct : CallT call) {C : Cfg} : ∀ (l : List Oper) (j : Nat) (fr : Fr) (chs : List (Nat × Nat)), Tch (passA P call C j l fr chs)
  | [], j, fr, chs => Tch.ret _
  | o :: l, j, fr, chs => (stepR_tch hct).andThen fun rc => (passA_tch hct l _ _ _).andThen fun _ => Tch.ret _
theorem regionA_tch {P : Program} {call : Calls'} (hct : CallT call) (n : Nat) (ops : List Oper) (fr : Fr) : Tch (regionA P call n ops fr) := ⟨fun g fr' g' h => by
  obtain ⟨_, Ts, NX, rcs, hp, _⟩ := regionA_done h
  exact (passA_tch hct ops _ _ _).of _ _ _ hp⟩
/-- THE ENGINE IS SOUND -/
theorem engineL {P : Program} {Γ : Known} {Λ : FuncId → Loops} (hΓ : KnownOk P Γ) (hT : KnownT Γ) (hΛ : LoopsOk P Λ) (hΛT : ∀ f, LoopsT (Λ f)) (hn : noSuch P = true) (hm : P.follows .mixedOrders = true) (rounds fuel : Nat) : CallOk P (runA P Γ Λ (regionA P) rounds fuel) :=
  runA_sound hΓ hΛ (fun fuel h n => regionA_ok h (runA_tch hT hΛT (fun call hc n l fr => regionA_tch hc n l fr) fuel) hm n) (.of hn) fuel
/-- no loop known beforehand -/
def runN (P : Program) (Γ : Known) (region : Calls' → Nat → List Oper → Fr → M Fr) (rounds fuel : Nat) : Calls' := runA P Γ (fun _ => noLoops) region rounds fuel
theorem engine {P : Program} {Γ : Known} (hΓ : KnownOk P Γ) (hT : KnownT Γ) (hn : noSuch P = true) (hm : P.follows .mixedOrders = true) (rounds fuel : Nat) : CallOk P (runN P Γ (regionA P) rounds fuel) :=
  engineL hΓ hT (fun _ _ _ _ _ => LoopsIn.none _ _ _) (fun _ _ _ h => by cases h) hn hm rounds fuel
end Go.Sx
