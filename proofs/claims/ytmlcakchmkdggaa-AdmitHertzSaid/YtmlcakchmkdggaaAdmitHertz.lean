/- AdmitHertz: returns true for every input; no conditions. By the engine's runs along each road, checked by the kernel. -/
import Derived.Test.YtmlcakchmkdggaaRows
import Derived.ProofKit
import Derived.OpenShut
import Derived.KernelRfl
import Derived.Test.YtmlcakchmkdggaaSyH
namespace Go.Proofs.Ytmlcakchmkdggaa
open Go.ChangeShapes Go.WideShapes Go.ChangeAt Go.RowKit
set_option linter.unusedVariables false
set_option linter.unusedSimpArgs false

theorem own : ownKnob Try.prog.godebug = none := by kernel_rfl
set_option linter.unusedSimpArgs false
noncomputable def gam0 : Sx.Known := fun f => bif Nat.beq f 8 then some Sx.ofBits else bif Nat.beq f 14 then some Sx.toBits else none
theorem gam0_ok : Sx.KnownOk Try.prog gam0 := by
  intro f s h
  unfold gam0 at h
  cases h1 : Nat.beq f 8 with
  | true =>
    rw [h1] at h
    cases h
    cases Nat.eq_of_beq_eq_true h1
    exact (Sx.ofBits_is Try.prog).callIs Try.func8 (by kernel_rfl) (by kernel_rfl) (by kernel_rfl) (by kernel_rfl)
  | false =>
    rw [h1, cond_false] at h
    cases h2 : Nat.beq f 14 with
    | true =>
      rw [h2] at h
      cases h
      cases Nat.eq_of_beq_eq_true h2
      exact (Sx.toBits_is Try.prog).callIs Try.func14 (by kernel_rfl) (by kernel_rfl) (by kernel_rfl) (by kernel_rfl)
    | false => rw [h2] at h; cases h
theorem gam0_tch : Sx.KnownT gam0 := by
  intro f s h
  unfold gam0 at h
  cases h1 : Nat.beq f 8 with
  | true => rw [h1] at h; cases h; exact Sx.Tch.ofBits
  | false =>
    rw [h1, cond_false] at h
    cases h2 : Nat.beq f 14 with
    | true => rw [h2] at h; cases h; exact Sx.Tch.toBits
    | false => rw [h2] at h; cases h
noncomputable def call0 : Sx.Calls' := Sx.runA Try.prog gam0 (Sx.regionA Try.prog) 1000 50
theorem sound0 : Sx.CallOk Try.prog call0 := Sx.engine gam0_ok gam0_tch (by kernel_rfl) (by kernel_rfl) 1000 50

theorem same_0 (n m : Nat) (c0 : (!Go.Sx.feq (Go.Sx.cn n) (Go.Sx.cn n)) = Bool.true) (c1 : (!Go.Sx.feq (Go.Sx.cn m) (Go.Sx.cn m)) = Bool.true) : Go.Sx.PureP (Go.Sx.AV.bool Bool.true) (call0 24 [.raw true n, .raw true m] (Go.Sx.G.on [true, true])) := by
  have e : Go.Sx.pureP (Go.Sx.AV.bool Bool.true) (call0 24 [.raw true n, .raw true m] (Go.Sx.G.on [true, true])) = ((Go.Sx.AV.bool Bool.true) = (Go.Sx.AV.bool Bool.true) ∧ ((True ∧ ((!Go.Sx.feq (Go.Sx.cn n) (Go.Sx.cn n)) = Bool.true)) ∧ ((!Go.Sx.feq (Go.Sx.cn m) (Go.Sx.cn m)) = Bool.true))) := by kernel_rfl
  exact ⟨by rw [e]; exact ⟨rfl, ⟨⟨trivial, c0⟩, c1⟩⟩⟩
theorem same_1 (n m : Nat) (c0 : (!Go.Sx.feq (Go.Sx.cn n) (Go.Sx.cn n)) = Bool.true) (c1 : (!Go.Sx.feq (Go.Sx.cn m) (Go.Sx.cn m)) = Bool.false) : Go.Sx.PureP (Go.Sx.AV.sbool (Decidable.decide ((↑n : Int) = (↑m : Int)))) (call0 24 [.raw true n, .raw true m] (Go.Sx.G.on [true, false])) := by
  have e : Go.Sx.pureP (Go.Sx.AV.sbool (Decidable.decide ((↑n : Int) = (↑m : Int)))) (call0 24 [.raw true n, .raw true m] (Go.Sx.G.on [true, false])) = ((Go.Sx.AV.sbool (Decidable.decide ((↑n : Int) = (↑m : Int)))) = (Go.Sx.AV.sbool (Decidable.decide ((↑n : Int) = (↑m : Int)))) ∧ ((True ∧ ((!Go.Sx.feq (Go.Sx.cn n) (Go.Sx.cn n)) = Bool.true)) ∧ ((!Go.Sx.feq (Go.Sx.cn m) (Go.Sx.cn m)) = Bool.false))) := by kernel_rfl
  exact ⟨by rw [e]; exact ⟨rfl, ⟨⟨trivial, c0⟩, c1⟩⟩⟩
theorem same_2 (n m : Nat) (c0 : (!Go.Sx.feq (Go.Sx.cn n) (Go.Sx.cn n)) = Bool.false) : Go.Sx.PureP (Go.Sx.AV.sbool (Decidable.decide ((↑n : Int) = (↑m : Int)))) (call0 24 [.raw true n, .raw true m] (Go.Sx.G.on [false])) := by
  have e : Go.Sx.pureP (Go.Sx.AV.sbool (Decidable.decide ((↑n : Int) = (↑m : Int)))) (call0 24 [.raw true n, .raw true m] (Go.Sx.G.on [false])) = ((Go.Sx.AV.sbool (Decidable.decide ((↑n : Int) = (↑m : Int)))) = (Go.Sx.AV.sbool (Decidable.decide ((↑n : Int) = (↑m : Int)))) ∧ (True ∧ ((!Go.Sx.feq (Go.Sx.cn n) (Go.Sx.cn n)) = Bool.false))) := by kernel_rfl
  exact ⟨by rw [e]; exact ⟨rfl, ⟨trivial, c0⟩⟩⟩
/-- the float that a raw or a plain one is -/
theorem one_flt {N : Nat} {μ : Sx.MM} {s : Bool} {x : Nat} {cargs : Array Value} (h : Sx.Reps N μ [.flt s x] cargs.toList) : ∃ b, cargs = #[.float .f64 b] ∧ Sx.cn b = x ∧ b < 18446744073709551616 := by
  obtain ⟨c, rfl, hx⟩ := h.one
  simp only [Sx.Rep] at hx
  obtain ⟨b, rfl, h1, h2⟩ := hx
  exact ⟨b, rfl, h1, h2⟩
theorem one_raw {N : Nat} {μ : Sx.MM} {s : Bool} {x : Nat} {cargs : Array Value} (h : Sx.Reps N μ [.raw s x] cargs.toList) : cargs = #[.float .f64 x] ∧ x < 18446744073709551616 := by
  obtain ⟨c, rfl, hx⟩ := h.one
  simp only [Sx.Rep] at hx
  obtain ⟨rfl, h2⟩ := hx
  exact ⟨rfl, h2⟩
theorem raw1 {x : Nat} (h : x < 18446744073709551616) : Sx.Reps 0 Sx.MM.none [.raw true x] (#[Value.float .f64 x] : Array Value).toList := by
  simp only [Sx.Reps, Sx.Rep]; exact ⟨_, _, rfl, ⟨rfl, h⟩, rfl⟩
theorem one_int {N : Nat} {μ : Sx.MM} {s : Bool} {k : IntKind} {x : Int} {cargs : Array Value} (h : Sx.Reps N μ [.int s k x] cargs.toList) : cargs = #[.int k x] := by
  obtain ⟨c, rfl, hx⟩ := h.one
  simp only [Sx.Rep] at hx
  rw [hx]
theorem int1 {k : IntKind} {x : Int} : Sx.Reps 0 Sx.MM.none [.int true k x] (#[Value.int k x] : Array Value).toList := by
  simp only [Sx.Reps, Sx.Rep]; exact ⟨_, _, rfl, rfl, rfl⟩

/-- SameReal -/
noncomputable def sameS : List Sx.AV → Sx.M Sx.AV := fun l =>
  match l.map Sx.AV.fl1 with
  | [.flt s x, .flt s' y] => Sx.M.ret (Sx.cmpB (s || s') (Nat.beq x y))
  | _ => Sx.M.no
theorem sameS_tch : ∀ args, Sx.Tch (sameS args) := by
  intro args; unfold sameS; split
  · exact Sx.Tch.ret _
  · exact Sx.Tch.no
theorem same_road (n m : Nat) (hn : n < 18446744073709551616) (hm : m < 18446744073709551616) : ∃ path lv, Sx.PureP lv (call0 24 [.raw true n, .raw true m] (Sx.G.on path)) ∧ lv.low 0 = true ∧ ∀ c, (∀ N μ, Sx.Rep N μ lv c) → c = .bool (Nat.beq (Sx.cn n) (Sx.cn m)) := by
  have f1 := Sx.feq_self hn
  have f2 := Sx.feq_self hm
  cases h1 : Sx.isnan n with
  | true =>
    cases h2 : Sx.isnan m with
    | true =>
      refine ⟨_, _, same_0 n m (by rw [f1, h1]; rfl) (by rw [f2, h2]; rfl), rfl, fun c hc => ?_⟩
      have := hc 0 Sx.MM.none
      simp only [Sx.Rep] at this
      rw [this, Sx.cn_of_nan h1, Sx.cn_of_nan h2, Nat.beq_refl]
    | false =>
      refine ⟨_, _, same_1 n m (by rw [f1, h1]; rfl) (by rw [f2, h2]; rfl), rfl, fun c hc => ?_⟩
      have := hc 0 Sx.MM.none
      simp only [Sx.Rep] at this
      rw [this, Sx.cn_of_nan h1, Sx.cn_of_not h2]
      have hne : n ≠ m := fun e => by rw [e, h2] at h1; cases h1
      have b1 : decide ((n : Int) = (m : Int)) = false := decide_eq_false (by omega)
      have b2 : Nat.beq Sx.qn m = false := by
        cases hb : Nat.beq Sx.qn m with
        | false => rfl
        | true => rw [← Nat.eq_of_beq_eq_true hb, Sx.isnan_qn] at h2; cases h2
      rw [b1, b2]
  | false =>
    refine ⟨_, _, same_2 n m (by rw [f1, h1]; rfl), rfl, fun c hc => ?_⟩
    have := hc 0 Sx.MM.none
    simp only [Sx.Rep] at this
    rw [this, Sx.cn_of_not h1]
    by_cases h : n = m
    · rw [decide_eq_true (by omega), ← h, Sx.cn_of_not h1, Nat.beq_refl]
    · rw [decide_eq_false (by omega)]
      congr 1
      cases hb : Nat.beq n (Sx.cn m) with
      | false => rfl
      | true =>
        have e := Nat.eq_of_beq_eq_true hb
        cases h2 : Sx.isnan m with
        | true => rw [Sx.cn_of_nan h2] at e; rw [e, Sx.isnan_qn] at h1; cases h1
        | false => rw [Sx.cn_of_not h2] at e; exact absurd e h
theorem two_flt {N : Nat} {μ : Sx.MM} {s s' : Bool} {x y : Nat} {cs : List Value} (h : Sx.Reps N μ [.flt s x, .flt s' y] cs) : ∃ a b, cs = [.float .f64 a, .float .f64 b] ∧ Sx.cn a = x ∧ a < 18446744073709551616 ∧ Sx.cn b = y ∧ b < 18446744073709551616 := by
  simp only [Sx.Reps, Sx.Rep] at h
  obtain ⟨c, r, rfl, ⟨a, rfl, h1, h2⟩, d, r', rfl, ⟨b, rfl, h3, h4⟩, rfl⟩ := h
  exact ⟨a, b, rfl, h1, h2, h3, h4⟩
theorem same24_ok : ∀ args v g g', sameS args g = .done v g' → Sx.CallIs Try.prog 24 args v g g' := by
  intro args v g g' h
  unfold sameS at h
  generalize he : args.map Sx.AV.fl1 = l at h
  split at h
  · rename_i s x s' y
    obtain ⟨rfl, rfl⟩ := Sx.ret_done h
    refine Sx.scal sound0 fun μ cargs ha => ?_
    have ha := ha.fl1
    rw [he] at ha
    obtain ⟨a, b, hc, rfl, h2, rfl, h4⟩ := two_flt ha
    obtain ⟨path, lv, r1, r2, r3⟩ := same_road a b h2 h4
    refine ⟨[.raw true a, .raw true b], path, lv, ?_, r1, r2, fun c hc => Sx.Rep_cmpB.2 (r3 c hc)⟩
    rw [hc]
    simp only [Sx.Reps, Sx.Rep]
    exact ⟨_, _, rfl, ⟨rfl, h2⟩, _, _, rfl, ⟨rfl, h4⟩, rfl⟩
  · exact (Sx.no_done h).elim

/-- the examples hold -/
noncomputable def livesS : List Sx.AV → Sx.M Sx.AV
  | [] => Sx.M.ret (.bool true)
  | _ => Sx.M.no
theorem livesS_tch : ∀ args, Sx.Tch (livesS args) := by
  intro args; unfold livesS; split
  · exact Sx.Tch.ret _
  · exact Sx.Tch.no
theorem livesS_road : Sx.PureP (.bool true) (call0 13 [] (Sx.G.on [])) := by
  have e : Sx.pureP (.bool true) (call0 13 [] (Sx.G.on [])) = ((Sx.AV.bool true = Sx.AV.bool true) ∧ True) := by kernel_rfl
  exact ⟨by rw [e]; exact ⟨rfl, trivial⟩⟩
theorem livesS_ok : ∀ args v g g', livesS args g = .done v g' → Sx.CallIs Try.prog 13 args v g g' := by
  intro args v g g' h
  unfold livesS at h
  split at h
  · obtain ⟨rfl, rfl⟩ := Sx.ret_done h
    refine Sx.scal sound0 fun μ cargs ha => ?_
    refine ⟨[], [], _, ?_, livesS_road, rfl, fun c hc => hc _ _⟩
    simpa only [Sx.Reps] using ha
  · exact (Sx.no_done h).elim

noncomputable def gam1 : Sx.Known := fun f => bif Nat.beq f 8 then some Sx.ofBits else (bif Nat.beq f 14 then some Sx.toBits else (bif Nat.beq f 24 then some sameS else (bif Nat.beq f 13 then some livesS else (none))))
theorem gam1_ok : Sx.KnownOk Try.prog gam1 := by
  intro f s h
  unfold gam1 at h
  cases h1 : Nat.beq f 8 with
  | true =>
    rw [h1] at h
    cases h
    cases Nat.eq_of_beq_eq_true h1
    exact (Sx.ofBits_is Try.prog).callIs Try.func8 (by kernel_rfl) (by kernel_rfl) (by kernel_rfl) (by kernel_rfl)
  | false =>
    rw [h1, cond_false] at h
    clear h1
    cases h1 : Nat.beq f 14 with
    | true =>
      rw [h1] at h
      cases h
      cases Nat.eq_of_beq_eq_true h1
      exact (Sx.toBits_is Try.prog).callIs Try.func14 (by kernel_rfl) (by kernel_rfl) (by kernel_rfl) (by kernel_rfl)
    | false =>
      rw [h1, cond_false] at h
      clear h1
      cases h1 : Nat.beq f 24 with
      | true =>
        rw [h1] at h
        cases h
        cases Nat.eq_of_beq_eq_true h1
        exact same24_ok
      | false =>
        rw [h1, cond_false] at h
        clear h1
        cases h1 : Nat.beq f 13 with
        | true =>
          rw [h1] at h
          cases h
          cases Nat.eq_of_beq_eq_true h1
          exact livesS_ok
        | false =>
          rw [h1, cond_false] at h
          clear h1
          cases h
theorem gam1_tch : Sx.KnownT gam1 := by
  intro f s h
  unfold gam1 at h
  cases h1 : Nat.beq f 8 with
  | true => rw [h1] at h; cases h; exact Sx.Tch.ofBits
  | false =>
    rw [h1, cond_false] at h
    clear h1
    cases h1 : Nat.beq f 14 with
    | true => rw [h1] at h; cases h; exact Sx.Tch.toBits
    | false =>
      rw [h1, cond_false] at h
      clear h1
      cases h1 : Nat.beq f 24 with
      | true => rw [h1] at h; cases h; exact sameS_tch
      | false =>
        rw [h1, cond_false] at h
        clear h1
        cases h1 : Nat.beq f 13 with
        | true => rw [h1] at h; cases h; exact livesS_tch
        | false =>
          rw [h1, cond_false] at h
          clear h1
          cases h
noncomputable def call1 : Sx.Calls' := Sx.runA Try.prog gam1 (Sx.regionA Try.prog) 1000 50
theorem call1_ok : Sx.CallOk Try.prog call1 := Sx.engine gam1_ok gam1_tch (by kernel_rfl) (by kernel_rfl) 1000 50

theorem hz_0 (a : Int) (c0 : (0 : Int) ≤ a) (c1 : a < (18446744073709551616 : Int)) (c2 : (!Go.Sx.feq (Go.Sx.fsub (Go.Sx.cn (Int.toNat a)) (Go.Sx.cn (Int.toNat a))) (Go.Sx.cn (0 : Nat))) = Bool.false) (c3 : (!Go.Sx.fgt (Go.Sx.cn (Int.toNat a)) (Go.Sx.cn (0 : Nat))) = Bool.false) (c4 : Go.Sx.feq (Go.Sx.fsub (Go.Sx.fmul (Go.Sx.cn (4618760256179416344 : Nat)) (Go.Sx.cn (Int.toNat a))) (Go.Sx.fmul (Go.Sx.cn (4618760256179416344 : Nat)) (Go.Sx.cn (Int.toNat a)))) (Go.Sx.cn (0 : Nat)) = Bool.true) (c5 : (!Go.Sx.feq (Go.Sx.fsub (Go.Sx.fmul (Go.Sx.cn (4618760256179416344 : Nat)) (Go.Sx.cn (Int.toNat a))) (Go.Sx.fmul (Go.Sx.cn (4618760256179416344 : Nat)) (Go.Sx.cn (Int.toNat a)))) (Go.Sx.cn (0 : Nat))) = Bool.false) (c6 : Nat.beq (Go.Sx.fmul (Go.Sx.cn (4618760256179416344 : Nat)) (Go.Sx.cn (Int.toNat a))) (Go.Sx.fmul (Go.Sx.cn (4618760256179416344 : Nat)) (Go.Sx.cn (Int.toNat a))) = Bool.true) : Go.Sx.PureP (Go.Sx.AV.sbool (Nat.beq (Go.Sx.fdiv (Go.Sx.cn (Int.toNat a)) (Go.Sx.cn (4618760256179416344 : Nat))) (Go.Sx.fdiv (Go.Sx.cn (Int.toNat a)) (Go.Sx.cn (4618760256179416344 : Nat))))) (call1 5 [.int true .u64 a] (Go.Sx.G.on [false, false, true, false, false, false, false, false, false, false, true])) := by
  have e : Go.Sx.pureP (Go.Sx.AV.sbool (Nat.beq (Go.Sx.fdiv (Go.Sx.cn (Int.toNat a)) (Go.Sx.cn (4618760256179416344 : Nat))) (Go.Sx.fdiv (Go.Sx.cn (Int.toNat a)) (Go.Sx.cn (4618760256179416344 : Nat))))) (call1 5 [.int true .u64 a] (Go.Sx.G.on [false, false, true, false, false, false, false, false, false, false, true])) = ((Go.Sx.AV.sbool (Nat.beq (Go.Sx.fdiv (Go.Sx.cn (Int.toNat a)) (Go.Sx.cn (4618760256179416344 : Nat))) (Go.Sx.fdiv (Go.Sx.cn (Int.toNat a)) (Go.Sx.cn (4618760256179416344 : Nat))))) = (Go.Sx.AV.sbool (Nat.beq (Go.Sx.fdiv (Go.Sx.cn (Int.toNat a)) (Go.Sx.cn (4618760256179416344 : Nat))) (Go.Sx.fdiv (Go.Sx.cn (Int.toNat a)) (Go.Sx.cn (4618760256179416344 : Nat))))) ∧ ((((((((((((True ∧ (((0 : Int) ≤ a) ∧ (a < (18446744073709551616 : Int)))) ∧ ((!Go.Sx.feq (Go.Sx.fsub (Go.Sx.cn (Int.toNat a)) (Go.Sx.cn (Int.toNat a))) (Go.Sx.cn (0 : Nat))) = Bool.false)) ∧ ((!Go.Sx.fgt (Go.Sx.cn (Int.toNat a)) (Go.Sx.cn (0 : Nat))) = Bool.false)) ∧ (Go.Sx.feq (Go.Sx.fsub (Go.Sx.fmul (Go.Sx.cn (4618760256179416344 : Nat)) (Go.Sx.cn (Int.toNat a))) (Go.Sx.fmul (Go.Sx.cn (4618760256179416344 : Nat)) (Go.Sx.cn (Int.toNat a)))) (Go.Sx.cn (0 : Nat)) = Bool.true)) ∧ ((!Go.Sx.feq (Go.Sx.fsub (Go.Sx.cn (Int.toNat a)) (Go.Sx.cn (Int.toNat a))) (Go.Sx.cn (0 : Nat))) = Bool.false)) ∧ ((!Go.Sx.fgt (Go.Sx.cn (Int.toNat a)) (Go.Sx.cn (0 : Nat))) = Bool.false)) ∧ ((!Go.Sx.feq (Go.Sx.fsub (Go.Sx.cn (Int.toNat a)) (Go.Sx.cn (Int.toNat a))) (Go.Sx.cn (0 : Nat))) = Bool.false)) ∧ ((!Go.Sx.fgt (Go.Sx.cn (Int.toNat a)) (Go.Sx.cn (0 : Nat))) = Bool.false)) ∧ ((!Go.Sx.feq (Go.Sx.fsub (Go.Sx.fmul (Go.Sx.cn (4618760256179416344 : Nat)) (Go.Sx.cn (Int.toNat a))) (Go.Sx.fmul (Go.Sx.cn (4618760256179416344 : Nat)) (Go.Sx.cn (Int.toNat a)))) (Go.Sx.cn (0 : Nat))) = Bool.false)) ∧ ((!Go.Sx.feq (Go.Sx.fsub (Go.Sx.cn (Int.toNat a)) (Go.Sx.cn (Int.toNat a))) (Go.Sx.cn (0 : Nat))) = Bool.false)) ∧ ((!Go.Sx.fgt (Go.Sx.cn (Int.toNat a)) (Go.Sx.cn (0 : Nat))) = Bool.false)) ∧ (Nat.beq (Go.Sx.fmul (Go.Sx.cn (4618760256179416344 : Nat)) (Go.Sx.cn (Int.toNat a))) (Go.Sx.fmul (Go.Sx.cn (4618760256179416344 : Nat)) (Go.Sx.cn (Int.toNat a))) = Bool.true))) := by kernel_rfl
  exact ⟨by rw [e]; exact ⟨rfl, ⟨⟨⟨⟨⟨⟨⟨⟨⟨⟨⟨⟨trivial, ⟨c0, c1⟩⟩, c2⟩, c3⟩, c4⟩, c2⟩, c3⟩, c2⟩, c3⟩, c5⟩, c2⟩, c3⟩, c6⟩⟩⟩
theorem hz_1 (a : Int) (c0 : (0 : Int) ≤ a) (c1 : a < (18446744073709551616 : Int)) (c2 : (!Go.Sx.feq (Go.Sx.fsub (Go.Sx.cn (Int.toNat a)) (Go.Sx.cn (Int.toNat a))) (Go.Sx.cn (0 : Nat))) = Bool.false) (c3 : (!Go.Sx.fgt (Go.Sx.cn (Int.toNat a)) (Go.Sx.cn (0 : Nat))) = Bool.false) (c4 : Go.Sx.feq (Go.Sx.fsub (Go.Sx.fmul (Go.Sx.cn (4618760256179416344 : Nat)) (Go.Sx.cn (Int.toNat a))) (Go.Sx.fmul (Go.Sx.cn (4618760256179416344 : Nat)) (Go.Sx.cn (Int.toNat a)))) (Go.Sx.cn (0 : Nat)) = Bool.false) (c5 : (!Go.Sx.feq (Go.Sx.fsub (Go.Sx.fmul (Go.Sx.cn (4618760256179416344 : Nat)) (Go.Sx.cn (Int.toNat a))) (Go.Sx.fmul (Go.Sx.cn (4618760256179416344 : Nat)) (Go.Sx.cn (Int.toNat a)))) (Go.Sx.cn (0 : Nat))) = Bool.true) : Go.Sx.PureP (Go.Sx.AV.sbool (Nat.beq (Go.Sx.fdiv (Go.Sx.cn (Int.toNat a)) (Go.Sx.cn (4618760256179416344 : Nat))) (Go.Sx.fdiv (Go.Sx.cn (Int.toNat a)) (Go.Sx.cn (4618760256179416344 : Nat))))) (call1 5 [.int true .u64 a] (Go.Sx.G.on [false, false, false, false, false, false, false, true, false, false])) := by
  have e : Go.Sx.pureP (Go.Sx.AV.sbool (Nat.beq (Go.Sx.fdiv (Go.Sx.cn (Int.toNat a)) (Go.Sx.cn (4618760256179416344 : Nat))) (Go.Sx.fdiv (Go.Sx.cn (Int.toNat a)) (Go.Sx.cn (4618760256179416344 : Nat))))) (call1 5 [.int true .u64 a] (Go.Sx.G.on [false, false, false, false, false, false, false, true, false, false])) = ((Go.Sx.AV.sbool (Nat.beq (Go.Sx.fdiv (Go.Sx.cn (Int.toNat a)) (Go.Sx.cn (4618760256179416344 : Nat))) (Go.Sx.fdiv (Go.Sx.cn (Int.toNat a)) (Go.Sx.cn (4618760256179416344 : Nat))))) = (Go.Sx.AV.sbool (Nat.beq (Go.Sx.fdiv (Go.Sx.cn (Int.toNat a)) (Go.Sx.cn (4618760256179416344 : Nat))) (Go.Sx.fdiv (Go.Sx.cn (Int.toNat a)) (Go.Sx.cn (4618760256179416344 : Nat))))) ∧ (((((((((((True ∧ (((0 : Int) ≤ a) ∧ (a < (18446744073709551616 : Int)))) ∧ ((!Go.Sx.feq (Go.Sx.fsub (Go.Sx.cn (Int.toNat a)) (Go.Sx.cn (Int.toNat a))) (Go.Sx.cn (0 : Nat))) = Bool.false)) ∧ ((!Go.Sx.fgt (Go.Sx.cn (Int.toNat a)) (Go.Sx.cn (0 : Nat))) = Bool.false)) ∧ (Go.Sx.feq (Go.Sx.fsub (Go.Sx.fmul (Go.Sx.cn (4618760256179416344 : Nat)) (Go.Sx.cn (Int.toNat a))) (Go.Sx.fmul (Go.Sx.cn (4618760256179416344 : Nat)) (Go.Sx.cn (Int.toNat a)))) (Go.Sx.cn (0 : Nat)) = Bool.false)) ∧ ((!Go.Sx.feq (Go.Sx.fsub (Go.Sx.cn (Int.toNat a)) (Go.Sx.cn (Int.toNat a))) (Go.Sx.cn (0 : Nat))) = Bool.false)) ∧ ((!Go.Sx.fgt (Go.Sx.cn (Int.toNat a)) (Go.Sx.cn (0 : Nat))) = Bool.false)) ∧ ((!Go.Sx.feq (Go.Sx.fsub (Go.Sx.cn (Int.toNat a)) (Go.Sx.cn (Int.toNat a))) (Go.Sx.cn (0 : Nat))) = Bool.false)) ∧ ((!Go.Sx.fgt (Go.Sx.cn (Int.toNat a)) (Go.Sx.cn (0 : Nat))) = Bool.false)) ∧ ((!Go.Sx.feq (Go.Sx.fsub (Go.Sx.fmul (Go.Sx.cn (4618760256179416344 : Nat)) (Go.Sx.cn (Int.toNat a))) (Go.Sx.fmul (Go.Sx.cn (4618760256179416344 : Nat)) (Go.Sx.cn (Int.toNat a)))) (Go.Sx.cn (0 : Nat))) = Bool.true)) ∧ ((!Go.Sx.feq (Go.Sx.fsub (Go.Sx.cn (Int.toNat a)) (Go.Sx.cn (Int.toNat a))) (Go.Sx.cn (0 : Nat))) = Bool.false)) ∧ ((!Go.Sx.fgt (Go.Sx.cn (Int.toNat a)) (Go.Sx.cn (0 : Nat))) = Bool.false))) := by kernel_rfl
  exact ⟨by rw [e]; exact ⟨rfl, ⟨⟨⟨⟨⟨⟨⟨⟨⟨⟨⟨trivial, ⟨c0, c1⟩⟩, c2⟩, c3⟩, c4⟩, c2⟩, c3⟩, c2⟩, c3⟩, c5⟩, c2⟩, c3⟩⟩⟩
theorem hz_2 (a : Int) (c0 : (0 : Int) ≤ a) (c1 : a < (18446744073709551616 : Int)) (c2 : (!Go.Sx.feq (Go.Sx.fsub (Go.Sx.cn (Int.toNat a)) (Go.Sx.cn (Int.toNat a))) (Go.Sx.cn (0 : Nat))) = Bool.false) (c3 : (!Go.Sx.fgt (Go.Sx.cn (Int.toNat a)) (Go.Sx.cn (0 : Nat))) = Bool.true) : Go.Sx.PureP (Go.Sx.AV.bool Bool.true) (call1 5 [.int true .u64 a] (Go.Sx.G.on [false, true, false, true, false, true, false, true])) := by
  have e : Go.Sx.pureP (Go.Sx.AV.bool Bool.true) (call1 5 [.int true .u64 a] (Go.Sx.G.on [false, true, false, true, false, true, false, true])) = ((Go.Sx.AV.bool Bool.true) = (Go.Sx.AV.bool Bool.true) ∧ (((((((((True ∧ (((0 : Int) ≤ a) ∧ (a < (18446744073709551616 : Int)))) ∧ ((!Go.Sx.feq (Go.Sx.fsub (Go.Sx.cn (Int.toNat a)) (Go.Sx.cn (Int.toNat a))) (Go.Sx.cn (0 : Nat))) = Bool.false)) ∧ ((!Go.Sx.fgt (Go.Sx.cn (Int.toNat a)) (Go.Sx.cn (0 : Nat))) = Bool.true)) ∧ ((!Go.Sx.feq (Go.Sx.fsub (Go.Sx.cn (Int.toNat a)) (Go.Sx.cn (Int.toNat a))) (Go.Sx.cn (0 : Nat))) = Bool.false)) ∧ ((!Go.Sx.fgt (Go.Sx.cn (Int.toNat a)) (Go.Sx.cn (0 : Nat))) = Bool.true)) ∧ ((!Go.Sx.feq (Go.Sx.fsub (Go.Sx.cn (Int.toNat a)) (Go.Sx.cn (Int.toNat a))) (Go.Sx.cn (0 : Nat))) = Bool.false)) ∧ ((!Go.Sx.fgt (Go.Sx.cn (Int.toNat a)) (Go.Sx.cn (0 : Nat))) = Bool.true)) ∧ ((!Go.Sx.feq (Go.Sx.fsub (Go.Sx.cn (Int.toNat a)) (Go.Sx.cn (Int.toNat a))) (Go.Sx.cn (0 : Nat))) = Bool.false)) ∧ ((!Go.Sx.fgt (Go.Sx.cn (Int.toNat a)) (Go.Sx.cn (0 : Nat))) = Bool.true))) := by kernel_rfl
  exact ⟨by rw [e]; exact ⟨rfl, ⟨⟨⟨⟨⟨⟨⟨⟨⟨trivial, ⟨c0, c1⟩⟩, c2⟩, c3⟩, c2⟩, c3⟩, c2⟩, c3⟩, c2⟩, c3⟩⟩⟩
theorem hz_3 (a : Int) (c0 : (0 : Int) ≤ a) (c1 : a < (18446744073709551616 : Int)) (c2 : (!Go.Sx.feq (Go.Sx.fsub (Go.Sx.cn (Int.toNat a)) (Go.Sx.cn (Int.toNat a))) (Go.Sx.cn (0 : Nat))) = Bool.true) : Go.Sx.PureP (Go.Sx.AV.bool Bool.true) (call1 5 [.int true .u64 a] (Go.Sx.G.on [true, true, true, true])) := by
  have e : Go.Sx.pureP (Go.Sx.AV.bool Bool.true) (call1 5 [.int true .u64 a] (Go.Sx.G.on [true, true, true, true])) = ((Go.Sx.AV.bool Bool.true) = (Go.Sx.AV.bool Bool.true) ∧ (((((True ∧ (((0 : Int) ≤ a) ∧ (a < (18446744073709551616 : Int)))) ∧ ((!Go.Sx.feq (Go.Sx.fsub (Go.Sx.cn (Int.toNat a)) (Go.Sx.cn (Int.toNat a))) (Go.Sx.cn (0 : Nat))) = Bool.true)) ∧ ((!Go.Sx.feq (Go.Sx.fsub (Go.Sx.cn (Int.toNat a)) (Go.Sx.cn (Int.toNat a))) (Go.Sx.cn (0 : Nat))) = Bool.true)) ∧ ((!Go.Sx.feq (Go.Sx.fsub (Go.Sx.cn (Int.toNat a)) (Go.Sx.cn (Int.toNat a))) (Go.Sx.cn (0 : Nat))) = Bool.true)) ∧ ((!Go.Sx.feq (Go.Sx.fsub (Go.Sx.cn (Int.toNat a)) (Go.Sx.cn (Int.toNat a))) (Go.Sx.cn (0 : Nat))) = Bool.true))) := by kernel_rfl
  exact ⟨by rw [e]; exact ⟨rfl, ⟨⟨⟨⟨⟨trivial, ⟨c0, c1⟩⟩, c2⟩, c2⟩, c2⟩, c2⟩⟩⟩
theorem hz_walk (a : Int) (ha : 0 ≤ a) (ha2 : a < 18446744073709551616) (w : World) :
    Calls Try.prog 5 #[.int .u64 a] w fun e w' => e = .returned (.bool true) ∧ Below w.heap.size w w' := by
  have hr : Sx.Reps 0 Sx.MM.none [.int true .u64 a] (#[Value.int .u64 a] : Array Value).toList := by
    simp only [Sx.Reps, Sx.Rep]; exact ⟨_, _, rfl, rfl, rfl⟩
  cases t1 : Go.Sx.feq (Go.Sx.fsub (Go.Sx.cn (Int.toNat a)) (Go.Sx.cn (Int.toNat a))) (Go.Sx.cn (0 : Nat)) with
  | true =>
    cases t2 : Go.Sx.fgt (Go.Sx.cn (Int.toNat a)) (Go.Sx.cn (0 : Nat)) with
    | true =>
      cases t3 : Go.Sx.feq (Go.Sx.fsub (Go.Sx.fmul (Go.Sx.cn (4618760256179416344 : Nat)) (Go.Sx.cn (Int.toNat a))) (Go.Sx.fmul (Go.Sx.cn (4618760256179416344 : Nat)) (Go.Sx.cn (Int.toNat a)))) (Go.Sx.cn (0 : Nat)) with
      | true =>
        exact Go.Sx.pure_true call1_ok Try.func5 rfl (by kernel_rfl) (hz_0 a (by first | assumption | decide | omega) (by first | assumption | decide | omega) (by rw [t1]; rfl) (by rw [t2]; rfl) t3 (by rw [t3]; rfl) (Nat.beq_refl _)) rfl (fun c hc => by have := hc 0 Go.Sx.MM.none; simpa only [Sx.Rep, Nat.beq_refl] using this) w hr
      | false =>
        exact Go.Sx.pure_true call1_ok Try.func5 rfl (by kernel_rfl) (hz_1 a (by first | assumption | decide | omega) (by first | assumption | decide | omega) (by rw [t1]; rfl) (by rw [t2]; rfl) t3 (by rw [t3]; rfl)) rfl (fun c hc => by have := hc 0 Go.Sx.MM.none; simpa only [Sx.Rep, Nat.beq_refl] using this) w hr
    | false =>
      exact Go.Sx.pure_true call1_ok Try.func5 rfl (by kernel_rfl) (hz_2 a (by first | assumption | decide | omega) (by first | assumption | decide | omega) (by rw [t1]; rfl) (by rw [t2]; rfl)) rfl (fun c hc => by have := hc 0 Go.Sx.MM.none; simpa only [Sx.Rep, Nat.beq_refl] using this) w hr
  | false =>
    exact Go.Sx.pure_true call1_ok Try.func5 rfl (by kernel_rfl) (hz_3 a (by first | assumption | decide | omega) (by first | assumption | decide | omega) (by rw [t1]; rfl)) rfl (fun c hc => by have := hc 0 Go.Sx.MM.none; simpa only [Sx.Rep, Nat.beq_refl] using this) w hr
theorem law_walk (a0 : Int) (w0 : (Lit.int .u64 a0).wf = true) (w : World) :
    Calls Try.prog 5 #[.int .u64 a0] w fun e w' => e = .returned (.bool true) ∧ Below w.heap.size w w' := by
  simp only [Lit.wf, Bool.and_eq_true, decide_eq_true_eq, IntKind.min, IntKind.max, IntKind.bits, IntKind.signed] at w0
  exact hz_walk a0 (by simpa using w0.1) (by have := w0.2; simp at this; omega) w

set_option maxRecDepth 100000 in
theorem law_lifted (os : Os) (started : os.Started) (H : Type) (enc : TypeId × Value → H) :
    ReturnsInHanded {} Try.checked os 5 .any (Rows.admitHertzSpec.pre6 enc Try.prog Try.f5 Rows.admitHertzRow.domain false) (Rows.admitHertzSpec.post enc Try.prog Try.f5 false true false false) := by
  refine returnsInHanded_of_change (C := Try.checked) own started (by kernel_rfl) Try.func5
    (ChangeSpec.witness6 (enc := enc) (C := Try.checked) false ⟨#[], #[.int .u64 0], []⟩ 8 (by kernel_rfl) (by kernel_rfl) (by kernel_rfl) (by kernel_rfl)) ?_
  intro W base args ds gs before hval0 hW hcnd _
  have hval : ∀ (j : Nat) t v, Try.f5.params[j]? = some t → args[j]? = some v → Value.okWide Try.prog W .any base t v := hval0
  have hW' := hW
  obtain ⟨p, q, hA0, hV, rfl, hfz, hnd⟩ := hW
  have hA : DataW.TrodAll enc Try.prog W 0 (fun _ => true) true Try.f5.params.toList args.toList ds p := hA0
  rw [Try.params5] at hA hval
  obtain ⟨v0, vs0, d0, ds0, p0, q0, hargs, rfl, rfl, h0, r0⟩ := trodAll_cons hA
  obtain ⟨rfl, rfl, rfl⟩ := trodAll_nil r0
  obtain rfl : args = #[v0] := by cases args; simp_all
  obtain ⟨rfl, rfl⟩ := trodVars_none hV
  obtain ⟨a0, rfl, rfl, rfl, w0⟩ := open_int Try.underlying22 (hval 0 22 v0 rfl rfl) h0
  clear hA0 hval0
  simp only [List.append_nil] at hW'
  refine (law_walk a0 w0 W).mono fun e W' ⟨he, bel⟩ => ?_
  subst he
  exact ⟨_, rfl, _, _, _, [], [], [], hW', trodAll_mk1 (shut_bool Try.underlying4 _), (trodAll_cons_mk (shut_int Try.underlying22 w0) trodAll_mk0), rfl, bel.frame _, fun h => by cases h⟩
theorem law_over : Rows.admitHertzRow.holds Try.pinned (OpenSpec.ofChange Rows.admitHertzSpec) :=
  OpenClaim.holds_of_wide 5 Try.f5 rfl rfl rfl rfl rfl rfl rfl ⟨rfl, rfl, rfl, rfl, rfl⟩ rfl rfl rfl rfl rfl (by kernel_rfl) Try.func5 (by kernel_rfl)
    (of_decide_eq_true (by kernel_rfl)) (by unfold Func.isWrapper; first | (rw [if_pos (by decide +kernel)]; kernel_rfl) | (rw [if_neg (by decide +kernel)]; exact ⟨rfl, rfl⟩))
    (fun os started H enc _ => law_lifted os started H enc)
/-- THE STATEMENT -/
theorem admitHertz_proved : Rows.AdmitHertzSaid := law_over
#print axioms admitHertz_proved
end Go.Proofs.Ytmlcakchmkdggaa
