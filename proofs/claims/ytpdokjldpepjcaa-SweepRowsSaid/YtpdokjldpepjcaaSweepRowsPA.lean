/- SweepRows: a part: summaries of functions that the statement reaches, printed by program, checked by the kernel. -/
import Derived.ProofKit
import Derived.OpenShut
import Derived.KernelRfl
import Derived.SizedLaws
import Derived.Test.YtpdokjldpepjcaaProg
import Derived.Test.YtpdokjldpepjcaaSm3
namespace Go.Proofs.Ytpdokjldpepjcaa
open Go.ChangeShapes Go.WideShapes Go.ChangeAt Go.RowKit
set_option linter.unusedVariables false
set_option linter.unusedSimpArgs false
set_option maxRecDepth 100000

noncomputable def gam0 : Sx.Known := Sx.kc 4 Sx.ofBits (Sx.kc 20 Sx.toBits (Sx.kn))
theorem gam0_ok : Sx.KnownOk Try.prog gam0 := Sx.kc_ok ((Sx.ofBits_is Try.prog).callIs Try.func4 (by kernel_rfl) (by kernel_rfl) (by kernel_rfl) (by kernel_rfl)) (Sx.kc_ok ((Sx.toBits_is Try.prog).callIs Try.func20 (by kernel_rfl) (by kernel_rfl) (by kernel_rfl) (by kernel_rfl)) (Sx.kn_ok))
theorem gam0_tch : Sx.KnownT gam0 := Sx.kc_tch Sx.Tch.ofBits (Sx.kc_tch Sx.Tch.toBits (Sx.kn_tch))
noncomputable def call0 : Sx.Calls' := Sx.runN Try.prog gam0 (Sx.regionC Try.prog) 1000 50
theorem call0_ok : Sx.CallOk Try.prog call0 := Sx.engineC gam0_ok gam0_tch (by kernel_rfl) (by kernel_rfl) 1000 50
theorem call0_tch : Sx.CallT call0 := Sx.runA_tch gam0_tch (fun _ _ _ h => by cases h) (fun call hc n l fr => Sx.regionC_tch hc n l fr) 50
theorem fin_r0 (n : Nat) (c0 : (0 : Int) ≤ Sx.bitsV Go.BinOp.andNot IntKind.u64 (↑n : Int) (9223372036854775808 : Int)) (c1 : Sx.bitsV Go.BinOp.andNot IntKind.u64 (↑n : Int) (9223372036854775808 : Int) < (18446744073709551616 : Int)) (c2 : (!Sx.fgt (Sx.cn (Int.toNat (Sx.bitsV Go.BinOp.andNot IntKind.u64 (↑n : Int) (9223372036854775808 : Int)))) (9218868437227405311 : Nat)) = false) : Sx.PureP (Sx.AV.bool false) (call0 12 [.raw true n] (Sx.G.on [false])) := Sx.eqq (q := ((True ∧ (((0 : Int) ≤ Sx.bitsV Go.BinOp.andNot IntKind.u64 (↑n : Int) (9223372036854775808 : Int)) ∧ (Sx.bitsV Go.BinOp.andNot IntKind.u64 (↑n : Int) (9223372036854775808 : Int) < (18446744073709551616 : Int)))) ∧ ((!Sx.fgt (Sx.cn (Int.toNat (Sx.bitsV Go.BinOp.andNot IntKind.u64 (↑n : Int) (9223372036854775808 : Int)))) (9218868437227405311 : Nat)) = false))) (by kernel_rfl) ⟨⟨trivial, ⟨c0, c1⟩⟩, c2⟩
theorem fin_r1 (n : Nat) (c0 : (0 : Int) ≤ Sx.bitsV Go.BinOp.andNot IntKind.u64 (↑n : Int) (9223372036854775808 : Int)) (c1 : Sx.bitsV Go.BinOp.andNot IntKind.u64 (↑n : Int) (9223372036854775808 : Int) < (18446744073709551616 : Int)) (c2 : (!Sx.fgt (Sx.cn (Int.toNat (Sx.bitsV Go.BinOp.andNot IntKind.u64 (↑n : Int) (9223372036854775808 : Int)))) (9218868437227405311 : Nat)) = true) : Sx.PureP (Sx.AV.sbool !!Sx.feq (Sx.cn n) (Sx.cn n)) (call0 12 [.raw true n] (Sx.G.on [true])) := Sx.eqq (q := ((True ∧ (((0 : Int) ≤ Sx.bitsV Go.BinOp.andNot IntKind.u64 (↑n : Int) (9223372036854775808 : Int)) ∧ (Sx.bitsV Go.BinOp.andNot IntKind.u64 (↑n : Int) (9223372036854775808 : Int) < (18446744073709551616 : Int)))) ∧ ((!Sx.fgt (Sx.cn (Int.toNat (Sx.bitsV Go.BinOp.andNot IntKind.u64 (↑n : Int) (9223372036854775808 : Int)))) (9218868437227405311 : Nat)) = true))) (by kernel_rfl) ⟨⟨trivial, ⟨c0, c1⟩⟩, c2⟩
theorem same_r0 (n m : Nat) (c0 : decide ((↑n : Int) = (↑m : Int)) = true) : Sx.PureP (Sx.AV.bool true) (call0 15 [.raw true n, .raw true m] (Sx.G.on [true])) := Sx.eqq (q := (True ∧ (decide ((↑n : Int) = (↑m : Int)) = true))) (by kernel_rfl) ⟨trivial, c0⟩
theorem same_r1 (n m : Nat) (c0 : decide ((↑n : Int) = (↑m : Int)) = false) (c1 : (!Sx.feq (Sx.cn n) (Sx.cn n)) = false) : Sx.PureP (Sx.AV.bool false) (call0 15 [.raw true n, .raw true m] (Sx.G.on [false, false])) := Sx.eqq (q := ((True ∧ (decide ((↑n : Int) = (↑m : Int)) = false)) ∧ ((!Sx.feq (Sx.cn n) (Sx.cn n)) = false))) (by kernel_rfl) ⟨⟨trivial, c0⟩, c1⟩
theorem same_r2 (n m : Nat) (c0 : decide ((↑n : Int) = (↑m : Int)) = false) (c1 : (!Sx.feq (Sx.cn n) (Sx.cn n)) = true) : Sx.PureP (Sx.AV.sbool !Sx.feq (Sx.cn m) (Sx.cn m)) (call0 15 [.raw true n, .raw true m] (Sx.G.on [false, true])) := Sx.eqq (q := ((True ∧ (decide ((↑n : Int) = (↑m : Int)) = false)) ∧ ((!Sx.feq (Sx.cn n) (Sx.cn n)) = true))) (by kernel_rfl) ⟨⟨trivial, c0⟩, c1⟩
theorem kd_r0 (n : Nat) (c0 : (9223372036854775808 : Int) ≠ (0 : Int)) (c1 : decide (Int.tmod (↑n : Int) (9223372036854775808 : Int) = (0 : Int)) = true) : Sx.PureP (Sx.AV.int false .i64 0) (call0 18 [.raw true n] (Sx.G.on [true])) := Sx.eqq (q := ((True ∧ ((9223372036854775808 : Int) ≠ (0 : Int))) ∧ (decide (Int.tmod (↑n : Int) (9223372036854775808 : Int) = (0 : Int)) = true))) (by kernel_rfl) ⟨⟨trivial, c0⟩, c1⟩
theorem kd_r1 (n : Nat) (c0 : (9223372036854775808 : Int) ≠ (0 : Int)) (c1 : decide (Int.tmod (↑n : Int) (9223372036854775808 : Int) = (0 : Int)) = false) (c2 : decide (Int.tmod (↑n : Int) (9223372036854775808 : Int) < (4503599627370496 : Int)) = true) : Sx.PureP (Sx.AV.int false .i64 1) (call0 18 [.raw true n] (Sx.G.on [false, true])) := Sx.eqq (q := (((True ∧ ((9223372036854775808 : Int) ≠ (0 : Int))) ∧ (decide (Int.tmod (↑n : Int) (9223372036854775808 : Int) = (0 : Int)) = false)) ∧ (decide (Int.tmod (↑n : Int) (9223372036854775808 : Int) < (4503599627370496 : Int)) = true))) (by kernel_rfl) ⟨⟨⟨trivial, c0⟩, c1⟩, c2⟩
theorem kd_r2 (n : Nat) (c0 : (9223372036854775808 : Int) ≠ (0 : Int)) (c1 : decide (Int.tmod (↑n : Int) (9223372036854775808 : Int) = (0 : Int)) = false) (c2 : decide (Int.tmod (↑n : Int) (9223372036854775808 : Int) < (4503599627370496 : Int)) = false) (c3 : decide (Int.tmod (↑n : Int) (9223372036854775808 : Int) < (9218868437227405312 : Int)) = true) : Sx.PureP (Sx.AV.int false .i64 2) (call0 18 [.raw true n] (Sx.G.on [false, false, true])) := Sx.eqq (q := ((((True ∧ ((9223372036854775808 : Int) ≠ (0 : Int))) ∧ (decide (Int.tmod (↑n : Int) (9223372036854775808 : Int) = (0 : Int)) = false)) ∧ (decide (Int.tmod (↑n : Int) (9223372036854775808 : Int) < (4503599627370496 : Int)) = false)) ∧ (decide (Int.tmod (↑n : Int) (9223372036854775808 : Int) < (9218868437227405312 : Int)) = true))) (by kernel_rfl) ⟨⟨⟨⟨trivial, c0⟩, c1⟩, c2⟩, c3⟩
theorem kd_r3 (n : Nat) (c0 : (9223372036854775808 : Int) ≠ (0 : Int)) (c1 : decide (Int.tmod (↑n : Int) (9223372036854775808 : Int) = (0 : Int)) = false) (c2 : decide (Int.tmod (↑n : Int) (9223372036854775808 : Int) < (4503599627370496 : Int)) = false) (c3 : decide (Int.tmod (↑n : Int) (9223372036854775808 : Int) < (9218868437227405312 : Int)) = false) (c4 : decide (Int.tmod (↑n : Int) (9223372036854775808 : Int) = (9218868437227405312 : Int)) = true) : Sx.PureP (Sx.AV.int false .i64 3) (call0 18 [.raw true n] (Sx.G.on [false, false, false, true])) := Sx.eqq (q := (((((True ∧ ((9223372036854775808 : Int) ≠ (0 : Int))) ∧ (decide (Int.tmod (↑n : Int) (9223372036854775808 : Int) = (0 : Int)) = false)) ∧ (decide (Int.tmod (↑n : Int) (9223372036854775808 : Int) < (4503599627370496 : Int)) = false)) ∧ (decide (Int.tmod (↑n : Int) (9223372036854775808 : Int) < (9218868437227405312 : Int)) = false)) ∧ (decide (Int.tmod (↑n : Int) (9223372036854775808 : Int) = (9218868437227405312 : Int)) = true))) (by kernel_rfl) ⟨⟨⟨⟨⟨trivial, c0⟩, c1⟩, c2⟩, c3⟩, c4⟩
theorem kd_r4 (n : Nat) (c0 : (9223372036854775808 : Int) ≠ (0 : Int)) (c1 : decide (Int.tmod (↑n : Int) (9223372036854775808 : Int) = (0 : Int)) = false) (c2 : decide (Int.tmod (↑n : Int) (9223372036854775808 : Int) < (4503599627370496 : Int)) = false) (c3 : decide (Int.tmod (↑n : Int) (9223372036854775808 : Int) < (9218868437227405312 : Int)) = false) (c4 : decide (Int.tmod (↑n : Int) (9223372036854775808 : Int) = (9218868437227405312 : Int)) = false) : Sx.PureP (Sx.AV.int false .i64 4) (call0 18 [.raw true n] (Sx.G.on [false, false, false, false])) := Sx.eqq (q := (((((True ∧ ((9223372036854775808 : Int) ≠ (0 : Int))) ∧ (decide (Int.tmod (↑n : Int) (9223372036854775808 : Int) = (0 : Int)) = false)) ∧ (decide (Int.tmod (↑n : Int) (9223372036854775808 : Int) < (4503599627370496 : Int)) = false)) ∧ (decide (Int.tmod (↑n : Int) (9223372036854775808 : Int) < (9218868437227405312 : Int)) = false)) ∧ (decide (Int.tmod (↑n : Int) (9223372036854775808 : Int) = (9218868437227405312 : Int)) = false))) (by kernel_rfl) ⟨⟨⟨⟨⟨trivial, c0⟩, c1⟩, c2⟩, c3⟩, c4⟩
theorem finD_cn {n : Nat} (h : n < 18446744073709551616) : Sx.finD (Sx.cn n) = Sx.finD n := by
 cases hn : Sx.isnan n with
 | false => rw [Sx.cn_of_not hn]
 | true =>
  rw [Sx.cn_of_nan hn]
  have : 9218868437227405312 < n % 9223372036854775808 := by simpa [Sx.isnan] using hn
  have e : Sx.finD n = false := decide_eq_false (by omega)
  rw [e]; decide
/-- the float that a raw or a plain one is -/
theorem one_flt {N : Nat} {μ : Sx.MM} {s : Bool} {x : Nat} {cargs : Array Value} (h : Sx.Reps N μ [.flt s x] cargs.toList) : ∃ b, cargs = #[.float .f64 b] ∧ Sx.cn b = x ∧ b < 18446744073709551616 := by
 obtain ⟨c, rfl, hx⟩ := h.one
 simp only [Sx.Rep] at hx
 obtain ⟨b, rfl, h1, h2⟩ := hx
 exact ⟨b, rfl, h1, h2⟩
theorem one_raw {N : Nat} {μ : Sx.MM} {s : Bool} {x : Nat} {cargs : Array Value} (h : Sx.Reps N μ [.raw s x] cargs.toList) : cargs = #[.float .f64 x] ∧ x < 18446744073709551616 := by
 obtain ⟨c, rfl, hx⟩ := h.one
 simp only [Sx.Rep] at hx
 obtain ⟨rfl, h2⟩ := hx
 exact ⟨rfl, h2⟩
theorem raw1 {x : Nat} (h : x < 18446744073709551616) : Sx.Reps 0 Sx.MM.none [.raw true x] (#[Value.float .f64 x] : Array Value).toList := by
 simp only [Sx.Reps, Sx.Rep]; exact ⟨_, _, rfl, ⟨rfl, h⟩, rfl⟩
/-- finite? -/
noncomputable def finS : List Sx.AV → Sx.M Sx.AV
 | [.raw s n] => Sx.M.ret (Sx.cmpB s (Sx.finD n))
 | [.flt s n] => Sx.M.ret (Sx.cmpB s (Sx.finD n))
 | _ => Sx.M.no
theorem finS_tch : ∀ args, Sx.Tch (finS args) := by
 intro args; unfold finS; split
 ·exact Sx.Tch.ret _
 ·exact Sx.Tch.ret _
 ·exact Sx.Tch.no
theorem fin_road (n : Nat) (h : n < 18446744073709551616) : ∃ path lv, Sx.PureP lv (call0 12 [.raw true n] (Sx.G.on path)) ∧ lv.low 0 = true ∧ ∀ c, (∀ N μ, Sx.Rep N μ lv c) → c = .bool (Sx.finD n) := by
 have e := Sx.andNot63 h
 have hm : n % 9223372036854775808 < 18446744073709551616 := by omega
 have key : Sx.fgt (Sx.cn (Int.toNat (Sx.bitsV .andNot .u64 (n : Int) 9223372036854775808))) 9218868437227405311 = (!Sx.isnan n && !Sx.finD n) := by
  rw [e]
  have e9 : Sx.cn 9218868437227405311 = 9218868437227405311 := by decide
  have := Sx.fin_gt h
  rw [e9] at this
  exact this
 have b0 : 0 ≤ Sx.bitsV .andNot .u64 (n : Int) 9223372036854775808 := by rw [e]; omega
 have b1 : Sx.bitsV .andNot .u64 (n : Int) 9223372036854775808 < 18446744073709551616 := by rw [e]; omega
 cases hf : Sx.finD n with
 | true =>
  have hn := Sx.finD_notnan hf
  refine ⟨_, _, fin_r1 n b0 b1 (by rw [key, hf, hn]; rfl), rfl, fun c hc => ?_⟩
  have := hc 0 Sx.MM.none
  simp only [Sx.Rep] at this
  rw [this, Sx.feq_self h, hn]; rfl
 | false =>
  cases hn : Sx.isnan n with
  | true =>
   refine ⟨_, _, fin_r1 n b0 b1 (by rw [key, hf, hn]; rfl), rfl, fun c hc => ?_⟩
   have := hc 0 Sx.MM.none
   simp only [Sx.Rep] at this
   rw [this, Sx.feq_self h, hn]; rfl
  | false =>
   refine ⟨_, _, fin_r0 n b0 b1 (by rw [key, hf, hn]; rfl), rfl, fun c hc => ?_⟩
   have := hc 0 Sx.MM.none
   simpa only [Sx.Rep] using this
theorem finS_of {f : Nat} (road : ∀ n, n < 18446744073709551616 → ∃ path lv, Sx.PureP lv (call0 f [.raw true n] (Sx.G.on path)) ∧ lv.low 0 = true ∧ ∀ c, (∀ N μ, Sx.Rep N μ lv c) → c = .bool (Sx.finD n)) :
  ∀ args v g g', finS args g = .done v g' → Sx.CallIs Try.prog f args v g g' := by
 intro args v g g' h
 unfold finS at h
 split at h
 ·rename_i s n
  obtain ⟨rfl, rfl⟩ := Sx.ret_done h
  refine Sx.scal call0_ok fun μ cargs ha => ?_
  obtain ⟨rfl, hn⟩ := one_raw ha
  obtain ⟨path, lv, h1, h2, h3⟩ := road n hn
  exact ⟨[.raw true n], path, lv, raw1 hn, h1, h2, fun c hc => Sx.Rep_cmpB.2 (h3 c hc)⟩
 ·rename_i s n
  obtain ⟨rfl, rfl⟩ := Sx.ret_done h
  refine Sx.scal call0_ok fun μ cargs ha => ?_
  obtain ⟨b, rfl, rfl, hb⟩ := one_flt ha
  obtain ⟨path, lv, h1, h2, h3⟩ := road b hb
  exact ⟨[.raw true b], path, lv, raw1 hb, h1, h2, fun c hc => Sx.Rep_cmpB.2 (by rw [finD_cn hb]; exact h3 c hc)⟩
 ·exact (Sx.no_done h).elim
theorem fin12_ok : ∀ args v g g', finS args g = .done v g' → Sx.CallIs Try.prog 12 args v g g' := finS_of fin_road
/-- the kind of a real, by its bits -/
def KD (n : Nat) : Int := bif decide (n % 9223372036854775808 = 0) then 0 else bif decide (n % 9223372036854775808 < 4503599627370496) then 1 else bif decide (n % 9223372036854775808 < 9218868437227405312) then 2 else bif decide (n % 9223372036854775808 = 9218868437227405312) then 3 else 4
theorem KD_cn {n : Nat} (h : n < 18446744073709551616) : KD (Sx.cn n) = KD n := by
 cases hn : Sx.isnan n with
 | false => rw [Sx.cn_of_not hn]
 | true =>
  rw [Sx.cn_of_nan hn]
  unfold Sx.isnan at hn
  have := of_decide_eq_true hn
  have e2 : KD n = 4 := by
   unfold KD
   rw [decide_eq_false (p := n % 9223372036854775808 = 0) (by omega), decide_eq_false (p := n % 9223372036854775808 < 4503599627370496) (by omega), decide_eq_false (p := n % 9223372036854775808 < 9218868437227405312) (by omega), decide_eq_false (p := n % 9223372036854775808 = 9218868437227405312) (by omega)]; rfl
  rw [e2]; decide
theorem KD_fin (n : Nat) : decide (2 < KD n) = !Sx.finD n := by
 unfold KD Sx.finD
 by_cases h0 : n % 9223372036854775808 = 0
 ·rw [decide_eq_true h0, decide_eq_true (p := n % 9223372036854775808 < 9218868437227405312) (by omega)]; rfl
 rw [decide_eq_false h0, cond_false]
 by_cases h1 : n % 9223372036854775808 < 4503599627370496
 ·rw [decide_eq_true h1, decide_eq_true (p := n % 9223372036854775808 < 9218868437227405312) (by omega)]; rfl
 rw [decide_eq_false h1, cond_false]
 by_cases h2 : n % 9223372036854775808 < 9218868437227405312
 ·rw [decide_eq_true h2]; rfl
 rw [decide_eq_false h2, cond_false]
 by_cases h3 : n % 9223372036854775808 = 9218868437227405312
 ·rw [decide_eq_true h3]; rfl
 ·rw [decide_eq_false h3]; rfl
noncomputable def kindS : List Sx.AV → Sx.M Sx.AV
 | [.flt s n] => Sx.M.ret (.int s .i64 (KD n))
 | _ => Sx.M.no
theorem kindS_tch : ∀ args, Sx.Tch (kindS args) := by
 intro args; unfold kindS; split
 ·exact Sx.Tch.ret _
 ·exact Sx.Tch.no
theorem kind_road (n : Nat) (h : n < 18446744073709551616) : ∃ path lv, Sx.PureP lv (call0 18 [.raw true n] (Sx.G.on path)) ∧ lv.low 0 = true ∧ ∀ c, (∀ N μ, Sx.Rep N μ lv c) → c = .int .i64 (KD n) := by
 have e : Int.tmod (n : Int) 9223372036854775808 = ((n % 9223372036854775808 : Nat) : Int) := by
  rw [Int.tmod_eq_emod_of_nonneg (by omega)]; omega
 have fin : ∀ {x y : Int}, x = y → ∀ c, (∀ N μ, Sx.Rep N μ (.int false .i64 x) c) → c = .int .i64 y := fun h c hc => by
  have := hc 0 Sx.MM.none
  simp only [Sx.Rep] at this
  rw [this, h]
 by_cases h0 : n % 9223372036854775808 = 0
 ·exact ⟨_, _, kd_r0 n (by decide) (decide_eq_true (by rw [e]; omega)), rfl, fin (by unfold KD; rw [decide_eq_true h0]; rfl)⟩
 by_cases h1 : n % 9223372036854775808 < 4503599627370496
 ·exact ⟨_, _, kd_r1 n (by decide) (decide_eq_false (by rw [e]; omega)) (decide_eq_true (by rw [e]; omega)), rfl, fin (by unfold KD; rw [decide_eq_false h0, decide_eq_true h1]; rfl)⟩
 by_cases h2 : n % 9223372036854775808 < 9218868437227405312
 ·exact ⟨_, _, kd_r2 n (by decide) (decide_eq_false (by rw [e]; omega)) (decide_eq_false (by rw [e]; omega)) (decide_eq_true (by rw [e]; omega)), rfl, fin (by unfold KD; rw [decide_eq_false h0, decide_eq_false h1, decide_eq_true h2]; rfl)⟩
 by_cases h3 : n % 9223372036854775808 = 9218868437227405312
 ·exact ⟨_, _, kd_r3 n (by decide) (decide_eq_false (by rw [e]; omega)) (decide_eq_false (by rw [e]; omega)) (decide_eq_false (by rw [e]; omega)) (decide_eq_true (by rw [e]; omega)), rfl, fin (by unfold KD; rw [decide_eq_false h0, decide_eq_false h1, decide_eq_false h2, decide_eq_true h3]; rfl)⟩
 ·exact ⟨_, _, kd_r4 n (by decide) (decide_eq_false (by rw [e]; omega)) (decide_eq_false (by rw [e]; omega)) (decide_eq_false (by rw [e]; omega)) (decide_eq_false (by rw [e]; omega)), rfl, fin (by unfold KD; rw [decide_eq_false h0, decide_eq_false h1, decide_eq_false h2, decide_eq_false h3]; rfl)⟩
theorem kindS_ok : ∀ args v g g', kindS args g = .done v g' → Sx.CallIs Try.prog 18 args v g g' := by
 intro args v g g' h
 unfold kindS at h
 split at h
 ·rename_i s n
  obtain ⟨rfl, rfl⟩ := Sx.ret_done h
  refine Sx.scal call0_ok fun μ cargs ha => ?_
  obtain ⟨b, rfl, rfl, hb⟩ := one_flt ha
  obtain ⟨path, lv, h1, h2, h3⟩ := kind_road b hb
  exact ⟨[.raw true b], path, lv, raw1 hb, h1, h2, fun c hc => by rw [h3 c hc, KD_cn hb]; simp only [Sx.Rep]⟩
 ·exact (Sx.no_done h).elim
noncomputable def sameS : List Sx.AV → Sx.M Sx.AV := fun l =>
 match l.map Sx.AV.fl1 with
 | [.flt s x, .flt s' y] => Sx.M.ret (Sx.cmpB (s || s') (Nat.beq x y))
 | _ => Sx.M.no
theorem sameS_tch : ∀ args, Sx.Tch (sameS args) := by
 intro args; unfold sameS; split
 ·exact Sx.Tch.ret _
 ·exact Sx.Tch.no
theorem same_road (n m : Nat) (hn : n < 18446744073709551616) (hm : m < 18446744073709551616) : ∃ path lv, Sx.PureP lv (call0 15 [.raw true n, .raw true m] (Sx.G.on path)) ∧ lv.low 0 = true ∧ ∀ c, (∀ N μ, Sx.Rep N μ lv c) → c = .bool (Nat.beq (Sx.cn n) (Sx.cn m)) := by
 have f1 := Sx.feq_self hn
 have f2 := Sx.feq_self hm
 by_cases h : n = m
 ·refine ⟨_, _, same_r0 n m (decide_eq_true (by rw [h])), rfl, fun c hc => ?_⟩
  have := hc 0 Sx.MM.none
  simp only [Sx.Rep] at this
  rw [this, h, Nat.beq_refl]
 ·have c0 : decide ((n : Int) = (m : Int)) = false := decide_eq_false (by omega)
  cases h1 : Sx.isnan n with
  | true =>
   refine ⟨_, _, same_r2 n m c0 (by rw [f1, h1]; rfl), rfl, fun c hc => ?_⟩
   have := hc 0 Sx.MM.none
   simp only [Sx.Rep] at this
   rw [this, f2, Sx.cn_of_nan h1]
   cases h2 : Sx.isnan m with
   | true => rw [Sx.cn_of_nan h2, Nat.beq_refl]; rfl
   | false =>
    rw [Sx.cn_of_not h2]
    have : Nat.beq Sx.qn m = false := by
     cases hb : Nat.beq Sx.qn m with
     | false => rfl
     | true => rw [← Nat.eq_of_beq_eq_true hb, Sx.isnan_qn] at h2; cases h2
    rw [this]; rfl
  | false =>
   refine ⟨_, _, same_r1 n m c0 (by rw [f1, h1]; rfl), rfl, fun c hc => ?_⟩
   have := hc 0 Sx.MM.none
   simp only [Sx.Rep] at this
   rw [this, Sx.cn_of_not h1]
   have : Nat.beq n (Sx.cn m) = false := by
    cases hb : Nat.beq n (Sx.cn m) with
    | false => rfl
    | true =>
     have e := Nat.eq_of_beq_eq_true hb
     cases h2 : Sx.isnan m with
     | true => rw [Sx.cn_of_nan h2] at e; rw [e, Sx.isnan_qn] at h1; cases h1
     | false => rw [Sx.cn_of_not h2] at e; exact absurd e h
   rw [this]
theorem two_flt {N : Nat} {μ : Sx.MM} {s s' : Bool} {x y : Nat} {cs : List Value} (h : Sx.Reps N μ [.flt s x, .flt s' y] cs) : ∃ a b, cs = [.float .f64 a, .float .f64 b] ∧ Sx.cn a = x ∧ a < 18446744073709551616 ∧ Sx.cn b = y ∧ b < 18446744073709551616 := by
 simp only [Sx.Reps, Sx.Rep] at h
 obtain ⟨c, r, rfl, ⟨a, rfl, h1, h2⟩, d, r', rfl, ⟨b, rfl, h3, h4⟩, rfl⟩ := h
 exact ⟨a, b, rfl, h1, h2, h3, h4⟩
theorem same15_ok : ∀ args v g g', sameS args g = .done v g' → Sx.CallIs Try.prog 15 args v g g' := by
 intro args v g g' h
 unfold sameS at h
 generalize he : args.map Sx.AV.fl1 = l at h
 split at h
 ·rename_i s x s' y
  obtain ⟨rfl, rfl⟩ := Sx.ret_done h
  refine Sx.scal call0_ok fun μ cargs ha => ?_
  have ha := ha.fl1
  rw [he] at ha
  obtain ⟨a, b, hc, rfl, h2, rfl, h4⟩ := two_flt ha
  obtain ⟨path, lv, r1, r2, r3⟩ := same_road a b h2 h4
  refine ⟨[.raw true a, .raw true b], path, lv, ?_, r1, r2, fun c hc => Sx.Rep_cmpB.2 (r3 c hc)⟩
  rw [hc]
  simp only [Sx.Reps, Sx.Rep]
  exact ⟨_, _, rfl, ⟨rfl, h2⟩, _, _, rfl, ⟨rfl, h4⟩, rfl⟩
 ·exact (Sx.no_done h).elim
theorem mark_r0 (k i : Int) (c0 : (-9223372036854775808 : Int) ≤ (-1000 : Int) * k) (c1 : (-1000 : Int) * k ≤ (9223372036854775807 : Int)) (c2 : (-9223372036854775808 : Int) ≤ (-1000 : Int) * k - i) (c3 : (-1000 : Int) * k - i ≤ (9223372036854775807 : Int)) : Sx.PureP (Sx.AV.flt true (Sx.fsub (Sx.ofInt ((-1000 : Int) * k - i)) (4620130267728707584 : Nat))) (call0 16 [.int true .i64 k, .int true .i64 i] (Sx.G.on [])) := Sx.eqq (q := ((True ∧ (((-9223372036854775808 : Int) ≤ (-1000 : Int) * k) ∧ ((-1000 : Int) * k ≤ (9223372036854775807 : Int)))) ∧ (((-9223372036854775808 : Int) ≤ (-1000 : Int) * k - i) ∧ ((-1000 : Int) * k - i ≤ (9223372036854775807 : Int))))) (by kernel_rfl) ⟨⟨trivial, ⟨c0, c1⟩⟩, ⟨c2, c3⟩⟩
noncomputable def markS : List Sx.AV → Sx.M Sx.AV
 | [.int s0 .i64 k, .int s1 .i64 i] => (Sx.M.req (((-9223372036854775808 : Int) ≤ (-1000 : Int) * k) ∧ ((-1000 : Int) * k ≤ (9223372036854775807 : Int)) ∧ ((-9223372036854775808 : Int) ≤ (-1000 : Int) * k - i) ∧ ((-1000 : Int) * k - i ≤ (9223372036854775807 : Int)))).andThen fun _ => Sx.M.ret (Sx.AV.flt (Bool.or s0 s1) (Sx.fsub (Sx.ofInt ((-1000 : Int) * k - i)) (4620130267728707584 : Nat)))
 | args => call0 16 args
theorem markS_ok : ∀ args v g g', markS args g = .done v g' → Sx.CallIs Try.prog 16 args v g g' := by
 intro args v g g' h
 unfold markS at h
 split at h
 ·rename_i s0 k s1 i
  obtain ⟨_, g1, a1, h1⟩ := Sx.done_of h
  obtain ⟨rfl, rfl⟩ := Sx.ret_done h1
  refine Sx.scalK call0_ok (Sx.req_done a1) fun hp μ cargs ha => ?_
  have ha' : Sx.Reps 0 Sx.MM.none [.int true .i64 k, .int true .i64 i] cargs.toList := by simpa only [Sx.Reps, Sx.Rep] using ha
  exact ⟨_, _, _, ha', mark_r0 k i (hp.1) (hp.2.1) (hp.2.2.1) (hp.2.2.2), rfl, fun cv hc => by have := hc g.nx μ; simpa only [Sx.Rep, Sx.Reps, Sx.Rep_cmpB] using this⟩
 ·exact call0_ok _ _ _ _ _ h
theorem markS_tch : ∀ args, Sx.Tch (markS args) := by
 intro args
 unfold markS
 split
 ·exact (Sx.Tch.req _).andThen fun _ => Sx.Tch.ret _
 ·exact call0_tch _ _
noncomputable def sameTS : List Sx.AV → Sx.M Sx.AV := Sx.expT sameS
theorem sameTS_ok : ∀ args v g g', sameTS args g = .done v g' → Sx.CallIs Try.prog 15 args v g g' := Sx.expT_ok same15_ok
theorem sameTS_tch : ∀ args, Sx.Tch (sameTS args) := Sx.expT_tch sameS_tch
noncomputable def gamA : Sx.Known := Sx.kc 4 Sx.ofBits (Sx.kc 20 Sx.toBits (Sx.kc 12 finS (Sx.kc 18 kindS (Sx.kc 15 sameS (Sx.kc 16 markS (Sx.kn))))))
theorem gamA_ok : Sx.KnownOk Try.prog gamA := Sx.kc_ok ((Sx.ofBits_is Try.prog).callIs Try.func4 (by kernel_rfl) (by kernel_rfl) (by kernel_rfl) (by kernel_rfl)) (Sx.kc_ok ((Sx.toBits_is Try.prog).callIs Try.func20 (by kernel_rfl) (by kernel_rfl) (by kernel_rfl) (by kernel_rfl)) (Sx.kc_ok fin12_ok (Sx.kc_ok kindS_ok (Sx.kc_ok same15_ok (Sx.kc_ok markS_ok (Sx.kn_ok))))))
theorem gamA_tch : Sx.KnownT gamA := Sx.kc_tch Sx.Tch.ofBits (Sx.kc_tch Sx.Tch.toBits (Sx.kc_tch finS_tch (Sx.kc_tch kindS_tch (Sx.kc_tch sameS_tch (Sx.kc_tch markS_tch (Sx.kn_tch))))))
noncomputable def callA : Sx.Calls' := Sx.runN Try.prog gamA (Sx.regionC Try.prog) 1000 50
theorem callA_ok : Sx.CallOk Try.prog callA := Sx.engineC gamA_ok gamA_tch (by kernel_rfl) (by kernel_rfl) 1000 50
theorem callA_tch : Sx.CallT callA := Sx.runA_tch gamA_tch (fun _ _ _ h => by cases h) (fun call hc n l fr => Sx.regionC_tch hc n l fr) 50
theorem callA_reg (n : Nat) : Sx.RegionOk Try.prog (Sx.regionC Try.prog callA n) n := Sx.runN_regionC gamA_ok gamA_tch (by kernel_rfl) (by kernel_rfl) 1000 50 n
noncomputable abbrev piececallA (f : Func) (c : Code) (fr : Sx.Fr) (H : Sx.T Sx.ABk) (K : Nat) (path : List Bool) : Sx.Res (Sx.Ex × Sx.Fr) :=
 Sx.codeA Try.prog callA (Sx.regionC Try.prog callA f.ntmps) Sx.noLoops f.ntmps 1000 c fr ⟨H, K, [], path, True⟩
noncomputable def gamP : Sx.Known := Sx.kc 4 Sx.ofBits (Sx.kc 20 Sx.toBits (Sx.kc 15 sameTS (Sx.kc 16 markS (Sx.kn))))
theorem gamP_ok : Sx.KnownOk Try.prog gamP := Sx.kc_ok ((Sx.ofBits_is Try.prog).callIs Try.func4 (by kernel_rfl) (by kernel_rfl) (by kernel_rfl) (by kernel_rfl)) (Sx.kc_ok ((Sx.toBits_is Try.prog).callIs Try.func20 (by kernel_rfl) (by kernel_rfl) (by kernel_rfl) (by kernel_rfl)) (Sx.kc_ok sameTS_ok (Sx.kc_ok markS_ok (Sx.kn_ok))))
theorem gamP_tch : Sx.KnownT gamP := Sx.kc_tch Sx.Tch.ofBits (Sx.kc_tch Sx.Tch.toBits (Sx.kc_tch sameTS_tch (Sx.kc_tch markS_tch (Sx.kn_tch))))
noncomputable def callP : Sx.Calls' := Sx.runN Try.prog gamP (Sx.regionC Try.prog) 1000 50
theorem callP_ok : Sx.CallOk Try.prog callP := Sx.engineC gamP_ok gamP_tch (by kernel_rfl) (by kernel_rfl) 1000 50
theorem callP_reg (n : Nat) : Sx.RegionOk Try.prog (Sx.regionC Try.prog callP n) n := Sx.runN_regionC gamP_ok gamP_tch (by kernel_rfl) (by kernel_rfl) 1000 50 n
noncomputable abbrev piececallP (f : Func) (c : Code) (fr : Sx.Fr) (H : Sx.T Sx.ABk) (K : Nat) (path : List Bool) : Sx.Res (Sx.Ex × Sx.Fr) :=
 Sx.codeA Try.prog callP (Sx.regionC Try.prog callP f.ntmps) Sx.noLoops f.ntmps 1000 c fr ⟨H, K, [], path, True⟩

theorem wr_r0 (a c : Nat) (k : Int) (c0 : (!Sx.finD a) = false) (c1 : (!Sx.finD c) = false) (c2 : Sx.fle a (0 : Nat) = true) : Sx.PureP (Sx.AV.int false .i64 2) (callA 11 [.flt true a, .flt true c, .int true .i64 k] (Sx.G.on [false, false, true])) := Sx.eqq (q := (((True ∧ ((!Sx.finD a) = false)) ∧ ((!Sx.finD c) = false)) ∧ (Sx.fle a (0 : Nat) = true))) (by kernel_rfl) ⟨⟨⟨trivial, c0⟩, c1⟩, c2⟩
theorem wr_r1 (a c : Nat) (k : Int) (c0 : (!Sx.finD a) = false) (c1 : (!Sx.finD c) = false) (c2 : Sx.fle a (0 : Nat) = false) (c3 : Sx.fle c (0 : Nat) = true) : Sx.PureP (Sx.AV.int false .i64 2) (callA 11 [.flt true a, .flt true c, .int true .i64 k] (Sx.G.on [false, false, false, true])) := Sx.eqq (q := ((((True ∧ ((!Sx.finD a) = false)) ∧ ((!Sx.finD c) = false)) ∧ (Sx.fle a (0 : Nat) = false)) ∧ (Sx.fle c (0 : Nat) = true))) (by kernel_rfl) ⟨⟨⟨⟨trivial, c0⟩, c1⟩, c2⟩, c3⟩
theorem wr_r2 (a c : Nat) (k : Int) (c0 : (!Sx.finD a) = false) (c1 : (!Sx.finD c) = false) (c2 : Sx.fle a (0 : Nat) = false) (c3 : Sx.fle c (0 : Nat) = false) (c4 : decide (k < (1 : Int)) = true) : Sx.PureP (Sx.AV.int false .i64 2) (callA 11 [.flt true a, .flt true c, .int true .i64 k] (Sx.G.on [false, false, false, false, true])) := Sx.eqq (q := (((((True ∧ ((!Sx.finD a) = false)) ∧ ((!Sx.finD c) = false)) ∧ (Sx.fle a (0 : Nat) = false)) ∧ (Sx.fle c (0 : Nat) = false)) ∧ (decide (k < (1 : Int)) = true))) (by kernel_rfl) ⟨⟨⟨⟨⟨trivial, c0⟩, c1⟩, c2⟩, c3⟩, c4⟩
theorem wr_r3 (a c : Nat) (k : Int) (c0 : (!Sx.finD a) = false) (c1 : (!Sx.finD c) = false) (c2 : Sx.fle a (0 : Nat) = false) (c3 : Sx.fle c (0 : Nat) = false) (c4 : decide (k < (1 : Int)) = false) (c5 : decide ((4096 : Int) < k) = true) : Sx.PureP (Sx.AV.int false .i64 3) (callA 11 [.flt true a, .flt true c, .int true .i64 k] (Sx.G.on [false, false, false, false, false, true])) := Sx.eqq (q := ((((((True ∧ ((!Sx.finD a) = false)) ∧ ((!Sx.finD c) = false)) ∧ (Sx.fle a (0 : Nat) = false)) ∧ (Sx.fle c (0 : Nat) = false)) ∧ (decide (k < (1 : Int)) = false)) ∧ (decide ((4096 : Int) < k) = true))) (by kernel_rfl) ⟨⟨⟨⟨⟨⟨trivial, c0⟩, c1⟩, c2⟩, c3⟩, c4⟩, c5⟩
theorem wr_r4 (a c : Nat) (k : Int) (c0 : (!Sx.finD a) = false) (c1 : (!Sx.finD c) = false) (c2 : Sx.fle a (0 : Nat) = false) (c3 : Sx.fle c (0 : Nat) = false) (c4 : decide (k < (1 : Int)) = false) (c5 : decide ((4096 : Int) < k) = false) : Sx.PureP (Sx.AV.int false .i64 0) (callA 11 [.flt true a, .flt true c, .int true .i64 k] (Sx.G.on [false, false, false, false, false, false])) := Sx.eqq (q := ((((((True ∧ ((!Sx.finD a) = false)) ∧ ((!Sx.finD c) = false)) ∧ (Sx.fle a (0 : Nat) = false)) ∧ (Sx.fle c (0 : Nat) = false)) ∧ (decide (k < (1 : Int)) = false)) ∧ (decide ((4096 : Int) < k) = false))) (by kernel_rfl) ⟨⟨⟨⟨⟨⟨trivial, c0⟩, c1⟩, c2⟩, c3⟩, c4⟩, c5⟩
theorem wr_r5 (a c : Nat) (k : Int) (c0 : (!Sx.finD a) = false) (c1 : (!Sx.finD c) = true) : Sx.PureP (Sx.AV.int false .i64 5) (callA 11 [.flt true a, .flt true c, .int true .i64 k] (Sx.G.on [false, true])) := Sx.eqq (q := ((True ∧ ((!Sx.finD a) = false)) ∧ ((!Sx.finD c) = true))) (by kernel_rfl) ⟨⟨trivial, c0⟩, c1⟩
theorem wr_r6 (a c : Nat) (k : Int) (c0 : (!Sx.finD a) = true) : Sx.PureP (Sx.AV.int false .i64 5) (callA 11 [.flt true a, .flt true c, .int true .i64 k] (Sx.G.on [true])) := Sx.eqq (q := (True ∧ ((!Sx.finD a) = true))) (by kernel_rfl) ⟨trivial, c0⟩
noncomputable def wr_0 (a c : Nat) (k : Int) : Int := (bif Sx.finD a then (bif Sx.finD c then (bif Sx.fle a (0 : Nat) then ((2 : Int)) else (bif Sx.fle c (0 : Nat) then ((2 : Int)) else (bif decide (k < (1 : Int)) then ((2 : Int)) else (bif decide ((4096 : Int) < k) then ((3 : Int)) else ((0 : Int)))))) else ((5 : Int))) else ((5 : Int)))
noncomputable def wrS : List Sx.AV → Sx.M Sx.AV
 | [.flt s0 a, .flt s1 c, .int s2 .i64 k] => Sx.M.ret (Sx.AV.int (Bool.or s0 (Bool.or s1 s2)) (IntKind.i64) (wr_0 a c k))
 | args => callA 11 args
theorem wrS_ok : ∀ args v g g', wrS args g = .done v g' → Sx.CallIs Try.prog 11 args v g g' := by
 intro args v g g' h
 unfold wrS at h
 split at h
 ·rename_i s0 a s1 c s2 k
  obtain ⟨rfl, rfl⟩ := Sx.ret_done h
  refine Sx.scal callA_ok fun μ cargs ha => ?_
  have ha' : Sx.Reps 0 Sx.MM.none [.flt true a, .flt true c, .int true .i64 k] cargs.toList := by simpa only [Sx.Reps, Sx.Rep] using ha
  cases t0 : Sx.finD a with
  | true =>
   cases t1 : Sx.finD c with
   | true =>
    cases t2 : Sx.fle a (0 : Nat) with
    | true =>
     exact ⟨_, _, _, ha', wr_r0 a c k (by rw [t0]; rfl) (by rw [t1]; rfl) t2, rfl, fun cv hc => by have := hc g.nx μ; have e0 : wr_0 a c k = ((2 : Int)) := (Sx.ct t0).trans ((Sx.ct t1).trans ((Sx.ct t2).trans (rfl))); rw [e0]; simpa only [Sx.Rep, Sx.Reps, Sx.Rep_cmpB] using this⟩
    | false =>
     cases t3 : Sx.fle c (0 : Nat) with
     | true =>
      exact ⟨_, _, _, ha', wr_r1 a c k (by rw [t0]; rfl) (by rw [t1]; rfl) t2 t3, rfl, fun cv hc => by have := hc g.nx μ; have e0 : wr_0 a c k = ((2 : Int)) := (Sx.ct t0).trans ((Sx.ct t1).trans ((Sx.cf t2).trans ((Sx.ct t3).trans (rfl)))); rw [e0]; simpa only [Sx.Rep, Sx.Reps, Sx.Rep_cmpB] using this⟩
     | false =>
      cases t4 : decide (k < (1 : Int)) with
      | true =>
       exact ⟨_, _, _, ha', wr_r2 a c k (by rw [t0]; rfl) (by rw [t1]; rfl) t2 t3 t4, rfl, fun cv hc => by have := hc g.nx μ; have e0 : wr_0 a c k = ((2 : Int)) := (Sx.ct t0).trans ((Sx.ct t1).trans ((Sx.cf t2).trans ((Sx.cf t3).trans ((Sx.ct t4).trans (rfl))))); rw [e0]; simpa only [Sx.Rep, Sx.Reps, Sx.Rep_cmpB] using this⟩
      | false =>
       cases t5 : decide ((4096 : Int) < k) with
       | true =>
        exact ⟨_, _, _, ha', wr_r3 a c k (by rw [t0]; rfl) (by rw [t1]; rfl) t2 t3 t4 t5, rfl, fun cv hc => by have := hc g.nx μ; have e0 : wr_0 a c k = ((3 : Int)) := (Sx.ct t0).trans ((Sx.ct t1).trans ((Sx.cf t2).trans ((Sx.cf t3).trans ((Sx.cf t4).trans ((Sx.ct t5).trans (rfl)))))); rw [e0]; simpa only [Sx.Rep, Sx.Reps, Sx.Rep_cmpB] using this⟩
       | false =>
        exact ⟨_, _, _, ha', wr_r4 a c k (by rw [t0]; rfl) (by rw [t1]; rfl) t2 t3 t4 t5, rfl, fun cv hc => by have := hc g.nx μ; have e0 : wr_0 a c k = ((0 : Int)) := (Sx.ct t0).trans ((Sx.ct t1).trans ((Sx.cf t2).trans ((Sx.cf t3).trans ((Sx.cf t4).trans ((Sx.cf t5).trans (rfl)))))); rw [e0]; simpa only [Sx.Rep, Sx.Reps, Sx.Rep_cmpB] using this⟩
   | false =>
    exact ⟨_, _, _, ha', wr_r5 a c k (by rw [t0]; rfl) (by rw [t1]; rfl), rfl, fun cv hc => by have := hc g.nx μ; have e0 : wr_0 a c k = ((5 : Int)) := (Sx.ct t0).trans ((Sx.cf t1).trans (rfl)); rw [e0]; simpa only [Sx.Rep, Sx.Reps, Sx.Rep_cmpB] using this⟩
  | false =>
   exact ⟨_, _, _, ha', wr_r6 a c k (by rw [t0]; rfl), rfl, fun cv hc => by have := hc g.nx μ; have e0 : wr_0 a c k = ((5 : Int)) := (Sx.cf t0).trans (rfl); rw [e0]; simpa only [Sx.Rep, Sx.Reps, Sx.Rep_cmpB] using this⟩
 ·exact callA_ok _ _ _ _ _ h
theorem wrS_tch : ∀ args, Sx.Tch (wrS args) := by
 intro args
 unfold wrS
 split
 ·exact Sx.Tch.ret _
 ·exact callA_tch _ _
noncomputable def gamC : Sx.Known := Sx.kc 4 Sx.ofBits (Sx.kc 20 Sx.toBits (Sx.kc 12 finS (Sx.kc 18 kindS (Sx.kc 15 sameS (Sx.kc 16 markS (Sx.kc 11 wrS (Sx.kn)))))))
theorem gamC_ok : Sx.KnownOk Try.prog gamC := Sx.kc_ok ((Sx.ofBits_is Try.prog).callIs Try.func4 (by kernel_rfl) (by kernel_rfl) (by kernel_rfl) (by kernel_rfl)) (Sx.kc_ok ((Sx.toBits_is Try.prog).callIs Try.func20 (by kernel_rfl) (by kernel_rfl) (by kernel_rfl) (by kernel_rfl)) (Sx.kc_ok fin12_ok (Sx.kc_ok kindS_ok (Sx.kc_ok same15_ok (Sx.kc_ok markS_ok (Sx.kc_ok wrS_ok (Sx.kn_ok)))))))
theorem gamC_tch : Sx.KnownT gamC := Sx.kc_tch Sx.Tch.ofBits (Sx.kc_tch Sx.Tch.toBits (Sx.kc_tch finS_tch (Sx.kc_tch kindS_tch (Sx.kc_tch sameS_tch (Sx.kc_tch markS_tch (Sx.kc_tch wrS_tch (Sx.kn_tch)))))))
noncomputable def callC : Sx.Calls' := Sx.runN Try.prog gamC (Sx.regionC Try.prog) 1000 50
theorem callC_ok : Sx.CallOk Try.prog callC := Sx.engineC gamC_ok gamC_tch (by kernel_rfl) (by kernel_rfl) 1000 50
theorem callC_reg (n : Nat) : Sx.RegionOk Try.prog (Sx.regionC Try.prog callC n) n := Sx.runN_regionC gamC_ok gamC_tch (by kernel_rfl) (by kernel_rfl) 1000 50 n
noncomputable abbrev piececallC (f : Func) (c : Code) (fr : Sx.Fr) (H : Sx.T Sx.ABk) (K : Nat) (path : List Bool) : Sx.Res (Sx.Ex × Sx.Fr) :=
 Sx.codeA Try.prog callC (Sx.regionC Try.prog callC f.ntmps) Sx.noLoops f.ntmps 1000 c fr ⟨H, K, [], path, True⟩

theorem lnA_r0 (a c x n i : Nat) (k e_ : Int) (r : Nat → Nat) : Sx.PieceN 0 (Sx.Ex.normal) [(0, .flt true a), (1, .flt true c), (2, .int true .i64 k)] [] (piececallC Try.f5 (Sx.nav [0] (Sx.bodyOf Try.f5)) (Sx.frameOf [.flt true a, .flt true c, .int true .i64 k] 0 .e) (Sx.hpL []) 0 []) := Sx.eqn (q := True) (by kernel_rfl) trivial
theorem lnA (B : Nat) (hB : B ≤ 0) (a c x n i : Nat) (k e_ : Int) (r : Nat → Nat) : Sx.GoesB Try.prog (Sx.nav [0] (Sx.bodyOf Try.f5)) Try.f5.ntmps B 0 0 (Sx.frameOf [.flt true a, .flt true c, .int true .i64 k] 0 .e) (Sx.hpL []) fun e fr' H' => (e = .normal ∧ fr' = Sx.frL [(0, .flt true a), (1, .flt true c), (2, .int true .i64 k)] ∧ H' = Sx.hpL []) := by
 exact (Sx.GoesB.runN callC_ok (callC_reg _) (Sx.LoopsIn.none _ _ _) (lnA_r0 a c x n i k e_ r) hB).mono fun e fr' H' h => h
theorem lnB_r0 (a c x n i : Nat) (k e_ : Int) (r : Nat → Nat) (c0 : (!decide (wr_0 a c k = (0 : Int))) = false) : Sx.PieceN 0 (Sx.Ex.normal) [(0, .flt true a), (1, .flt true c), (2, .int true .i64 k)] [] (piececallC Try.f5 (Sx.nav [1,0] (Sx.bodyOf Try.f5)) (Sx.frL [(0, .flt true a), (1, .flt true c), (2, .int true .i64 k)]) (Sx.hpL []) 0 [false]) := Sx.eqn (q := (True ∧ ((!decide (wr_0 a c k = (0 : Int))) = false))) (by kernel_rfl) ⟨trivial, c0⟩
theorem lnB_r1 (a c x n i : Nat) (k e_ : Int) (r : Nat → Nat) (c0 : (!decide (wr_0 a c k = (0 : Int))) = true) : Sx.PieceN 0 (Sx.Ex.ret) [(0, .flt true a), (1, .flt true c), (2, .int true .i64 k), (6, .nils), (7, .int true .i64 (wr_0 a c k))] [] (piececallC Try.f5 (Sx.nav [1,0] (Sx.bodyOf Try.f5)) (Sx.frL [(0, .flt true a), (1, .flt true c), (2, .int true .i64 k)]) (Sx.hpL []) 0 [true]) := Sx.eqn (q := (True ∧ ((!decide (wr_0 a c k = (0 : Int))) = true))) (by kernel_rfl) ⟨trivial, c0⟩
theorem lnB (B : Nat) (hB : B ≤ 0) (a c x n i : Nat) (k e_ : Int) (r : Nat → Nat) : Sx.GoesB Try.prog (Sx.nav [1,0] (Sx.bodyOf Try.f5)) Try.f5.ntmps B 0 0 (Sx.frL [(0, .flt true a), (1, .flt true c), (2, .int true .i64 k)]) (Sx.hpL []) fun e fr' H' => (cond (decide (wr_0 a c k = (0 : Int))) (e = .normal ∧ fr' = Sx.frL [(0, .flt true a), (1, .flt true c), (2, .int true .i64 k)] ∧ H' = Sx.hpL []) (e = .ret ∧ fr' = Sx.frL [(0, .flt true a), (1, .flt true c), (2, .int true .i64 k), (6, .nils), (7, .int true .i64 (wr_0 a c k))] ∧ H' = Sx.hpL [])) := by
 cases t0 : decide (wr_0 a c k = (0 : Int)) with
 | true =>
  exact (Sx.GoesB.runN callC_ok (callC_reg _) (Sx.LoopsIn.none _ _ _) (lnB_r0 a c x n i k e_ r (by rw [t0]; rfl)) hB).mono fun e fr' H' h => by first | (simp only [t0, cond_true, cond_false]; exact h) | (simp only [t0, cond_true, cond_false] at h ⊢; exact h)
 | false =>
  exact (Sx.GoesB.runN callC_ok (callC_reg _) (Sx.LoopsIn.none _ _ _) (lnB_r1 a c x n i k e_ r (by rw [t0]; rfl)) hB).mono fun e fr' H' h => by first | (simp only [t0, cond_true, cond_false]; exact h) | (simp only [t0, cond_true, cond_false] at h ⊢; exact h)
theorem lnC_r0 (a c x n i : Nat) (k e_ : Int) (r : Nat → Nat) (c0 : (0 : Int) ≤ (↑n : Int)) (c1 : (↑n : Int) ≤ (↑n : Int)) (c2 : (8 : Int) * (↑n : Int) ≤ (140737488355328 : Int)) (c3 : (↑n : Int) ≤ (9223372036854775807 : Int)) : Sx.PieceN 1 (Sx.Ex.normal) [(0, .flt true a), (1, .flt true c), (2, .int true .i64 (↑n : Int)), (9, .slc true true ⟨false, 0, 0, 0⟩ n)] [(0, .cells true 1 n (.fn fun x => [Sx.AV.flt false (0 : Nat)]))] (piececallC Try.f5 (Sx.nav [1,1,0] (Sx.bodyOf Try.f5)) (Sx.frL [(0, .flt true a), (1, .flt true c), (2, .int true .i64 n)]) (Sx.hpL []) 0 []) := Sx.eqn (q := (True ∧ (((0 : Int) ≤ (↑n : Int)) ∧ (((↑n : Int) ≤ (↑n : Int)) ∧ (((8 : Int) * (↑n : Int) ≤ (140737488355328 : Int)) ∧ ((↑n : Int) ≤ (9223372036854775807 : Int))))))) (by kernel_rfl) ⟨trivial, ⟨c0, ⟨c1, ⟨c2, c3⟩⟩⟩⟩
theorem lnC (B : Nat) (hB : B ≤ 0) (a c x n i : Nat) (k e_ : Int) (r : Nat → Nat) (x0 : ((8 : Int) * (↑n : Int) ≤ (140737488355328 : Int))) (x1 : ((↑n : Int) ≤ (9223372036854775807 : Int))) : Sx.GoesB Try.prog (Sx.nav [1,1,0] (Sx.bodyOf Try.f5)) Try.f5.ntmps B 0 1 (Sx.frL [(0, .flt true a), (1, .flt true c), (2, .int true .i64 n)]) (Sx.hpL []) fun e fr' H' => (e = .normal ∧ fr' = Sx.frL [(0, .flt true a), (1, .flt true c), (2, .int true .i64 (↑n : Int)), (9, .slc true true ⟨false, 0, 0, 0⟩ n)] ∧ H' = Sx.hpL [(0, .cells true 1 n (.fn fun x => [Sx.AV.flt false (0 : Nat)]))]) := by
 exact (Sx.GoesB.runN callC_ok (callC_reg _) (Sx.LoopsIn.none _ _ _) (lnC_r0 a c x n i k e_ r (by first | decide | omega) (by first | decide | omega) (x0) (x1)) hB).mono fun e fr' H' h => h
theorem lnD_r0 (a c x n i : Nat) (k e_ : Int) (r : Nat → Nat) : Sx.PieceN 1 (Sx.Ex.normal) [(0, .flt true a), (1, .flt true c), (2, .int true .i64 (↑n : Int)), (9, .slc true true ⟨false, 0, 0, 0⟩ n), (24, .int true .i64 (↑n : Int)), (25, .int false .i64 0)] [(0, .cells true 1 n (.fn fun j => [Sx.AV.flt true (r j)]))] (piececallC Try.f5 (Sx.nav [1,1,1,0,0] (Sx.bodyOf Try.f5)) (Sx.frL [(0, .flt true a), (1, .flt true c), (2, .int true .i64 n), (9, .slc true true ⟨false, 0, 0, 0⟩ (n))]) (Sx.hpL [(0, .cells true 1 (n) (.fn fun j => [.flt true (r j)]))]) 1 []) := Sx.eqn (q := True) (by kernel_rfl) trivial
theorem lnD (B : Nat) (hB : B ≤ 1) (a c x n i : Nat) (k e_ : Int) (r : Nat → Nat) : Sx.GoesB Try.prog (Sx.nav [1,1,1,0,0] (Sx.bodyOf Try.f5)) Try.f5.ntmps B 1 1 (Sx.frL [(0, .flt true a), (1, .flt true c), (2, .int true .i64 n), (9, .slc true true ⟨false, 0, 0, 0⟩ (n))]) (Sx.hpL [(0, .cells true 1 (n) (.fn fun j => [.flt true (r j)]))]) fun e fr' H' => (e = .normal ∧ fr' = Sx.frL [(0, .flt true a), (1, .flt true c), (2, .int true .i64 (↑n : Int)), (9, .slc true true ⟨false, 0, 0, 0⟩ n), (24, .int true .i64 (↑n : Int)), (25, .int false .i64 0)] ∧ H' = Sx.hpL [(0, .cells true 1 n (.fn fun j => [Sx.AV.flt true (r j)]))]) := by
 exact (Sx.GoesB.runN callC_ok (callC_reg _) (Sx.LoopsIn.none _ _ _) (lnD_r0 a c x n i k e_ r) hB).mono fun e fr' H' h => h
theorem lnL_r0 (a c x n i : Nat) (k e_ : Int) (r : Nat → Nat) (c0 : decide ((↑i : Int) < (↑n : Int)) = true) (c1 : (-9223372036854775808 : Int) ≤ (↑n : Int) - (1 : Int)) (c2 : (↑n : Int) - (1 : Int) ≤ (9223372036854775807 : Int)) (c3 : (0 : Int) ≤ (↑i : Int)) (c4 : (↑i : Int) < (↑n : Int)) (c5 : (0 : Nat) + i < n) (c6 : (1 : Nat) ≤ (1 : Nat)) (c7 : (-9223372036854775808 : Int) ≤ (↑i : Int) + (1 : Int)) (c8 : (↑i : Int) + (1 : Int) ≤ (9223372036854775807 : Int)) : Sx.PieceN 1 (Sx.Ex.normal) [(0, .flt true a), (1, .flt true c), (2, .int true .i64 (↑n : Int)), (9, .slc true true ⟨false, 0, 0, 0⟩ n), (24, .int true .i64 (↑n : Int)), (25, .int true .i64 ((↑i : Int) + (1 : Int)))] [(0, .cells true 1 n (.fn fun j => bif Nat.beq j ((0 : Nat) + i) then [Sx.AV.flt true (Sx.fadd a (Sx.fmul (Sx.fsub c a) (Sx.fdiv (Sx.ofInt (↑i : Int)) (Sx.ofInt ((↑n : Int) - (1 : Int))))))] else [Sx.AV.flt true (r j)]))] (piececallC Try.f5 (Sx.nav [1,1,1,0,1,0,0] (Sx.bodyOf Try.f5)) (Sx.frL [(0, .flt true a), (1, .flt true c), (2, .int true .i64 n), (9, .slc true true ⟨false, 0, 0, 0⟩ (n)), (24, .int true .i64 n), (25, .int true .i64 i)]) (Sx.hpL [(0, .cells true 1 (n) (.fn fun j => [.flt true (r j)]))]) 1 [true]) := Sx.eqn (q := ((((((True ∧ (decide ((↑i : Int) < (↑n : Int)) = true)) ∧ (((-9223372036854775808 : Int) ≤ (↑n : Int) - (1 : Int)) ∧ ((↑n : Int) - (1 : Int) ≤ (9223372036854775807 : Int)))) ∧ (((0 : Int) ≤ (↑i : Int)) ∧ ((↑i : Int) < (↑n : Int)))) ∧ ((0 : Nat) + i < n)) ∧ ((1 : Nat) ≤ (1 : Nat))) ∧ (((-9223372036854775808 : Int) ≤ (↑i : Int) + (1 : Int)) ∧ ((↑i : Int) + (1 : Int) ≤ (9223372036854775807 : Int))))) (by kernel_rfl) ⟨⟨⟨⟨⟨⟨trivial, c0⟩, ⟨c1, c2⟩⟩, ⟨c3, c4⟩⟩, c5⟩, c6⟩, ⟨c7, c8⟩⟩
theorem lnL_r1 (a c x n i : Nat) (k e_ : Int) (r : Nat → Nat) (c0 : decide ((↑i : Int) < (↑n : Int)) = false) : Sx.PieceN 1 (Sx.Ex.exit (0 : Nat)) [(0, .flt true a), (1, .flt true c), (2, .int true .i64 (↑n : Int)), (9, .slc true true ⟨false, 0, 0, 0⟩ n), (24, .int true .i64 (↑n : Int)), (25, .int true .i64 (↑i : Int))] [(0, .cells true 1 n (.fn fun j => [Sx.AV.flt true (r j)]))] (piececallC Try.f5 (Sx.nav [1,1,1,0,1,0,0] (Sx.bodyOf Try.f5)) (Sx.frL [(0, .flt true a), (1, .flt true c), (2, .int true .i64 n), (9, .slc true true ⟨false, 0, 0, 0⟩ (n)), (24, .int true .i64 n), (25, .int true .i64 i)]) (Sx.hpL [(0, .cells true 1 (n) (.fn fun j => [.flt true (r j)]))]) 1 [false]) := Sx.eqn (q := (True ∧ (decide ((↑i : Int) < (↑n : Int)) = false))) (by kernel_rfl) ⟨trivial, c0⟩
theorem lnL (B : Nat) (hB : B ≤ 1) (a c x n i : Nat) (k e_ : Int) (r : Nat → Nat) (x0 : ((decide ((↑i : Int) < (↑n : Int))) = true → ((↑n : Int) - (1 : Int) ≤ (9223372036854775807 : Int)))) (x1 : ((decide ((↑i : Int) < (↑n : Int))) = true → ((↑i : Int) + (1 : Int) ≤ (9223372036854775807 : Int)))) : Sx.GoesB Try.prog (Sx.nav [1,1,1,0,1,0,0] (Sx.bodyOf Try.f5)) Try.f5.ntmps B 1 1 (Sx.frL [(0, .flt true a), (1, .flt true c), (2, .int true .i64 n), (9, .slc true true ⟨false, 0, 0, 0⟩ (n)), (24, .int true .i64 n), (25, .int true .i64 i)]) (Sx.hpL [(0, .cells true 1 (n) (.fn fun j => [.flt true (r j)]))]) fun e fr' H' => (cond (decide ((↑i : Int) < (↑n : Int))) (e = .normal ∧ fr' = Sx.frL [(0, .flt true a), (1, .flt true c), (2, .int true .i64 (↑n : Int)), (9, .slc true true ⟨false, 0, 0, 0⟩ n), (24, .int true .i64 (↑n : Int)), (25, .int true .i64 ((↑i : Int) + (1 : Int)))] ∧ H' = Sx.hpL [(0, .cells true 1 n (.fn fun j => bif Nat.beq j ((0 : Nat) + i) then [Sx.AV.flt true (Sx.fadd a (Sx.fmul (Sx.fsub c a) (Sx.fdiv (Sx.ofInt (↑i : Int)) (Sx.ofInt ((↑n : Int) - (1 : Int))))))] else [Sx.AV.flt true (r j)]))]) (e = .exit 0 ∧ fr' = Sx.frL [(0, .flt true a), (1, .flt true c), (2, .int true .i64 (↑n : Int)), (9, .slc true true ⟨false, 0, 0, 0⟩ n), (24, .int true .i64 (↑n : Int)), (25, .int true .i64 (↑i : Int))] ∧ H' = Sx.hpL [(0, .cells true 1 n (.fn fun j => [Sx.AV.flt true (r j)]))])) := by
 cases t0 : decide ((↑i : Int) < (↑n : Int)) with
 | true =>
  exact (Sx.GoesB.runN callC_ok (callC_reg _) (Sx.LoopsIn.none _ _ _) (lnL_r0 a c x n i k e_ r t0 (by first | decide | ((try simp only [decide_eq_true_eq, decide_eq_false_iff_not] at t0); (try simp only [List.length_take, List.length_drop]); omega)) (x0 t0) (by first | decide | ((try simp only [decide_eq_true_eq, decide_eq_false_iff_not] at t0); (try simp only [List.length_take, List.length_drop]); omega)) (by first | decide | ((try simp only [decide_eq_true_eq, decide_eq_false_iff_not] at t0); (try simp only [List.length_take, List.length_drop]); omega)) (by first | decide | ((try simp only [decide_eq_true_eq, decide_eq_false_iff_not] at t0); (try simp only [List.length_take, List.length_drop]); omega)) (by first | decide | ((try simp only [decide_eq_true_eq, decide_eq_false_iff_not] at t0); (try simp only [List.length_take, List.length_drop]); omega)) (by first | decide | ((try simp only [decide_eq_true_eq, decide_eq_false_iff_not] at t0); (try simp only [List.length_take, List.length_drop]); omega)) (x1 t0)) hB).mono fun e fr' H' h => by first | (simp only [t0, cond_true, cond_false]; exact h) | (simp only [t0, cond_true, cond_false] at h ⊢; exact h)
 | false =>
  exact (Sx.GoesB.runN callC_ok (callC_reg _) (Sx.LoopsIn.none _ _ _) (lnL_r1 a c x n i k e_ r t0) hB).mono fun e fr' H' h => by first | (simp only [t0, cond_true, cond_false]; exact h) | (simp only [t0, cond_true, cond_false] at h ⊢; exact h)
theorem lnZ_r0 (a c x n i : Nat) (k e_ : Int) (r : Nat → Nat) (c0 : (-9223372036854775808 : Int) ≤ (↑n : Int) - (1 : Int)) (c1 : (↑n : Int) - (1 : Int) ≤ (9223372036854775807 : Int)) (c2 : (0 : Int) ≤ (↑n : Int) - (1 : Int)) (c3 : (↑n : Int) - (1 : Int) < (↑n : Int)) (c4 : (0 : Nat) + Int.toNat ((↑n : Int) - (1 : Int)) < n) (c5 : (1 : Nat) ≤ (1 : Nat)) (c6 : (0 : Int) ≤ (0 : Int)) (c7 : (0 : Int) < (↑n : Int)) (c8 : (0 : Nat) < n) (c9 : (1 : Nat) ≤ (1 : Nat)) : Sx.PieceN 1 (Sx.Ex.ret) [(6, .slc true true ⟨false, 0, 0, 0⟩ n), (7, .int false .i64 0)] [(0, .cells true 1 n (.fn fun j => bif Nat.beq j (0 : Nat) then [Sx.AV.flt true a] else bif Nat.beq j ((0 : Nat) + Int.toNat ((↑n : Int) - (1 : Int))) then [Sx.AV.flt true c] else [Sx.AV.flt true (r j)]))] (piececallC Try.f5 (Sx.nav [1,1,1,1] (Sx.bodyOf Try.f5)) (Sx.frL [(0, .flt true a), (1, .flt true c), (2, .int true .i64 n), (9, .slc true true ⟨false, 0, 0, 0⟩ (n))]) (Sx.hpL [(0, .cells true 1 (n) (.fn fun j => [.flt true (r j)]))]) 1 []) := Sx.eqn (q := (((((((True ∧ (((-9223372036854775808 : Int) ≤ (↑n : Int) - (1 : Int)) ∧ ((↑n : Int) - (1 : Int) ≤ (9223372036854775807 : Int)))) ∧ (((0 : Int) ≤ (↑n : Int) - (1 : Int)) ∧ ((↑n : Int) - (1 : Int) < (↑n : Int)))) ∧ ((0 : Nat) + Int.toNat ((↑n : Int) - (1 : Int)) < n)) ∧ ((1 : Nat) ≤ (1 : Nat))) ∧ (((0 : Int) ≤ (0 : Int)) ∧ ((0 : Int) < (↑n : Int)))) ∧ ((0 : Nat) < n)) ∧ ((1 : Nat) ≤ (1 : Nat)))) (by kernel_rfl) ⟨⟨⟨⟨⟨⟨⟨trivial, ⟨c0, c1⟩⟩, ⟨c2, c3⟩⟩, c4⟩, c5⟩, ⟨c6, c7⟩⟩, c8⟩, c9⟩
theorem lnZ (B : Nat) (hB : B ≤ 1) (a c x n i : Nat) (k e_ : Int) (r : Nat → Nat) (x0 : ((↑n : Int) - (1 : Int) ≤ (9223372036854775807 : Int))) (x1 : ((0 : Int) ≤ (↑n : Int) - (1 : Int))) (x2 : ((0 : Nat) + Int.toNat ((↑n : Int) - (1 : Int)) < n)) (x3 : ((0 : Int) < (↑n : Int))) (x4 : ((0 : Nat) < n)) : Sx.GoesB Try.prog (Sx.nav [1,1,1,1] (Sx.bodyOf Try.f5)) Try.f5.ntmps B 1 1 (Sx.frL [(0, .flt true a), (1, .flt true c), (2, .int true .i64 n), (9, .slc true true ⟨false, 0, 0, 0⟩ (n))]) (Sx.hpL [(0, .cells true 1 (n) (.fn fun j => [.flt true (r j)]))]) fun e fr' H' => (e = .ret ∧ fr' = Sx.frL [(6, .slc true true ⟨false, 0, 0, 0⟩ n), (7, .int false .i64 0)] ∧ H' = Sx.hpL [(0, .cells true 1 n (.fn fun j => bif Nat.beq j (0 : Nat) then [Sx.AV.flt true a] else bif Nat.beq j ((0 : Nat) + Int.toNat ((↑n : Int) - (1 : Int))) then [Sx.AV.flt true c] else [Sx.AV.flt true (r j)]))]) := by
 exact (Sx.GoesB.runN callC_ok (callC_reg _) (Sx.LoopsIn.none _ _ _) (lnZ_r0 a c x n i k e_ r (by first | decide | omega) (x0) (x1) (by first | decide | omega) (x2) (by first | decide | omega) (by first | decide | omega) (x3) (x4) (by first | decide | omega)) hB).mono fun e fr' H' h => h
theorem ocA_r0 (a c x n i : Nat) (k e_ : Int) (r : Nat → Nat) : Sx.PieceN 0 (Sx.Ex.normal) [(0, .flt true a), (1, .int true .i64 k)] [] (piececallC Try.f6 (Sx.nav [0] (Sx.bodyOf Try.f6)) (Sx.frameOf [.flt true a, .int true .i64 k] 0 .e) (Sx.hpL []) 0 []) := Sx.eqn (q := True) (by kernel_rfl) trivial
theorem ocA (B : Nat) (hB : B ≤ 0) (a c x n i : Nat) (k e_ : Int) (r : Nat → Nat) : Sx.GoesB Try.prog (Sx.nav [0] (Sx.bodyOf Try.f6)) Try.f6.ntmps B 0 0 (Sx.frameOf [.flt true a, .int true .i64 k] 0 .e) (Sx.hpL []) fun e fr' H' => (e = .normal ∧ fr' = Sx.frL [(0, .flt true a), (1, .int true .i64 k)] ∧ H' = Sx.hpL []) := by
 exact (Sx.GoesB.runN callC_ok (callC_reg _) (Sx.LoopsIn.none _ _ _) (ocA_r0 a c x n i k e_ r) hB).mono fun e fr' H' h => h
theorem ocB_r0 (a c x n i : Nat) (k e_ : Int) (r : Nat → Nat) (c0 : (!decide (wr_0 a a k = (0 : Int))) = false) : Sx.PieceN 0 (Sx.Ex.normal) [(0, .flt true a), (1, .int true .i64 k)] [] (piececallC Try.f6 (Sx.nav [1,0] (Sx.bodyOf Try.f6)) (Sx.frL [(0, .flt true a), (1, .int true .i64 k)]) (Sx.hpL []) 0 [false]) := Sx.eqn (q := (True ∧ ((!decide (wr_0 a a k = (0 : Int))) = false))) (by kernel_rfl) ⟨trivial, c0⟩
theorem ocB_r1 (a c x n i : Nat) (k e_ : Int) (r : Nat → Nat) (c0 : (!decide (wr_0 a a k = (0 : Int))) = true) : Sx.PieceN 0 (Sx.Ex.ret) [(0, .flt true a), (1, .int true .i64 k), (4, .nils), (5, .int true .i64 (wr_0 a a k))] [] (piececallC Try.f6 (Sx.nav [1,0] (Sx.bodyOf Try.f6)) (Sx.frL [(0, .flt true a), (1, .int true .i64 k)]) (Sx.hpL []) 0 [true]) := Sx.eqn (q := (True ∧ ((!decide (wr_0 a a k = (0 : Int))) = true))) (by kernel_rfl) ⟨trivial, c0⟩
theorem ocB (B : Nat) (hB : B ≤ 0) (a c x n i : Nat) (k e_ : Int) (r : Nat → Nat) : Sx.GoesB Try.prog (Sx.nav [1,0] (Sx.bodyOf Try.f6)) Try.f6.ntmps B 0 0 (Sx.frL [(0, .flt true a), (1, .int true .i64 k)]) (Sx.hpL []) fun e fr' H' => (cond (decide (wr_0 a a k = (0 : Int))) (e = .normal ∧ fr' = Sx.frL [(0, .flt true a), (1, .int true .i64 k)] ∧ H' = Sx.hpL []) (e = .ret ∧ fr' = Sx.frL [(0, .flt true a), (1, .int true .i64 k), (4, .nils), (5, .int true .i64 (wr_0 a a k))] ∧ H' = Sx.hpL [])) := by
 cases t0 : decide (wr_0 a a k = (0 : Int)) with
 | true =>
  exact (Sx.GoesB.runN callC_ok (callC_reg _) (Sx.LoopsIn.none _ _ _) (ocB_r0 a c x n i k e_ r (by rw [t0]; rfl)) hB).mono fun e fr' H' h => by first | (simp only [t0, cond_true, cond_false]; exact h) | (simp only [t0, cond_true, cond_false] at h ⊢; exact h)
 | false =>
  exact (Sx.GoesB.runN callC_ok (callC_reg _) (Sx.LoopsIn.none _ _ _) (ocB_r1 a c x n i k e_ r (by rw [t0]; rfl)) hB).mono fun e fr' H' h => by first | (simp only [t0, cond_true, cond_false]; exact h) | (simp only [t0, cond_true, cond_false] at h ⊢; exact h)
theorem ocC_r0 (a c x n i : Nat) (k e_ : Int) (r : Nat → Nat) : Sx.PieceN 0 (Sx.Ex.normal) [(0, .flt true a), (1, .int true .i64 (↑n : Int)), (7, .nils)] [] (piececallC Try.f6 (Sx.nav [1,1,0] (Sx.bodyOf Try.f6)) (Sx.frL [(0, .flt true a), (1, .int true .i64 n)]) (Sx.hpL []) 0 []) := Sx.eqn (q := True) (by kernel_rfl) trivial
theorem ocC (B : Nat) (hB : B ≤ 0) (a c x n i : Nat) (k e_ : Int) (r : Nat → Nat) : Sx.GoesB Try.prog (Sx.nav [1,1,0] (Sx.bodyOf Try.f6)) Try.f6.ntmps B 0 0 (Sx.frL [(0, .flt true a), (1, .int true .i64 n)]) (Sx.hpL []) fun e fr' H' => (e = .normal ∧ fr' = Sx.frL [(0, .flt true a), (1, .int true .i64 (↑n : Int)), (7, .nils)] ∧ H' = Sx.hpL []) := by
 exact (Sx.GoesB.runN callC_ok (callC_reg _) (Sx.LoopsIn.none _ _ _) (ocC_r0 a c x n i k e_ r) hB).mono fun e fr' H' h => h
theorem ocD_r0 (a c x n i : Nat) (k e_ : Int) (r : Nat → Nat) : Sx.PieceN 1 (Sx.Ex.normal) [(0, .flt true a), (7, .slc true true ⟨false, 0, 0, 0⟩ i), (15, .int true .i64 (↑n : Int)), (16, .int false .i64 0)] [(0, .cells true 1 i (.fn fun j => [Sx.AV.flt true (r j)]))] (piececallC Try.f6 (Sx.nav [1,1,1,0,0] (Sx.bodyOf Try.f6)) (Sx.frL [(0, .flt true a), (1, .int true .i64 n), (7, .slc true true ⟨false, 0, 0, 0⟩ (i))]) (Sx.hpL [(0, .cells true 1 (i) (.fn fun j => [.flt true (r j)]))]) 1 []) := Sx.eqn (q := True) (by kernel_rfl) trivial
theorem ocD (B : Nat) (hB : B ≤ 1) (a c x n i : Nat) (k e_ : Int) (r : Nat → Nat) : Sx.GoesB Try.prog (Sx.nav [1,1,1,0,0] (Sx.bodyOf Try.f6)) Try.f6.ntmps B 1 1 (Sx.frL [(0, .flt true a), (1, .int true .i64 n), (7, .slc true true ⟨false, 0, 0, 0⟩ (i))]) (Sx.hpL [(0, .cells true 1 (i) (.fn fun j => [.flt true (r j)]))]) fun e fr' H' => (e = .normal ∧ fr' = Sx.frL [(0, .flt true a), (7, .slc true true ⟨false, 0, 0, 0⟩ i), (15, .int true .i64 (↑n : Int)), (16, .int false .i64 0)] ∧ H' = Sx.hpL [(0, .cells true 1 i (.fn fun j => [Sx.AV.flt true (r j)]))]) := by
 exact (Sx.GoesB.runN callC_ok (callC_reg _) (Sx.LoopsIn.none _ _ _) (ocD_r0 a c x n i k e_ r) hB).mono fun e fr' H' h => h
theorem ocL_r0 (a c x n i : Nat) (k e_ : Int) (r : Nat → Nat) (c0 : decide ((↑i : Int) < (↑n : Int)) = true) (c1 : (!Sx.finD a) = false) (c2 : i ≤ i) (c3 : (i + (1 : Nat)) * (8 : Nat) ≤ (140737488355328 : Nat)) (c4 : i + (1 : Nat) ≤ (9223372036854775807 : Nat)) (c5 : (-9223372036854775808 : Int) ≤ (↑i : Int) + (1 : Int)) (c6 : (↑i : Int) + (1 : Int) ≤ (9223372036854775807 : Int)) : Sx.PieceN 3 (Sx.Ex.normal) [(0, .flt true (Sx.fmul a (4611686018427387904 : Nat))), (7, .slc true true ⟨false, 2, 0, 0⟩ (i + (1 : Nat))), (15, .int true .i64 (↑n : Int)), (16, .int true .i64 ((↑i : Int) + (1 : Int)))] [(2, .cells true 1 (i + (1 : Nat)) (.fn fun j => bif decide (j < i) then [Sx.AV.flt true (r j)] else [Sx.AV.flt true a]))] (piececallC Try.f6 (Sx.nav [1,1,1,0,1,0,0] (Sx.bodyOf Try.f6)) (Sx.frL [(0, .flt true a), (7, .slc true true ⟨false, 0, 0, 0⟩ (i)), (15, .int true .i64 n), (16, .int true .i64 i)]) (Sx.hpL [(0, .cells true 1 (i) (.fn fun j => [.flt true (r j)]))]) 1 [true, false]) := Sx.eqn (q := ((((True ∧ (decide ((↑i : Int) < (↑n : Int)) = true)) ∧ ((!Sx.finD a) = false)) ∧ ((i ≤ i) ∧ (((i + (1 : Nat)) * (8 : Nat) ≤ (140737488355328 : Nat)) ∧ (i + (1 : Nat) ≤ (9223372036854775807 : Nat))))) ∧ (((-9223372036854775808 : Int) ≤ (↑i : Int) + (1 : Int)) ∧ ((↑i : Int) + (1 : Int) ≤ (9223372036854775807 : Int))))) (by kernel_rfl) ⟨⟨⟨⟨trivial, c0⟩, c1⟩, ⟨c2, ⟨c3, c4⟩⟩⟩, ⟨c5, c6⟩⟩
theorem ocL_r1 (a c x n i : Nat) (k e_ : Int) (r : Nat → Nat) (c0 : decide ((↑i : Int) < (↑n : Int)) = true) (c1 : (!Sx.finD a) = true) : Sx.PieceN 3 (Sx.Ex.ret) [(0, .flt true a), (7, .slc true true ⟨false, 0, 0, 0⟩ i), (15, .int true .i64 (↑n : Int)), (16, .int true .i64 (↑i : Int)), (4, .nils), (5, .int false .i64 6)] [(0, .cells true 1 i (.fn fun j => [Sx.AV.flt true (r j)]))] (piececallC Try.f6 (Sx.nav [1,1,1,0,1,0,0] (Sx.bodyOf Try.f6)) (Sx.frL [(0, .flt true a), (7, .slc true true ⟨false, 0, 0, 0⟩ (i)), (15, .int true .i64 n), (16, .int true .i64 i)]) (Sx.hpL [(0, .cells true 1 (i) (.fn fun j => [.flt true (r j)]))]) 1 [true, true]) := Sx.eqn (q := ((True ∧ (decide ((↑i : Int) < (↑n : Int)) = true)) ∧ ((!Sx.finD a) = true))) (by kernel_rfl) ⟨⟨trivial, c0⟩, c1⟩
theorem ocL_r2 (a c x n i : Nat) (k e_ : Int) (r : Nat → Nat) (c0 : decide ((↑i : Int) < (↑n : Int)) = false) : Sx.PieceN 3 (Sx.Ex.exit (0 : Nat)) [(0, .flt true a), (7, .slc true true ⟨false, 0, 0, 0⟩ i), (15, .int true .i64 (↑n : Int)), (16, .int true .i64 (↑i : Int))] [(0, .cells true 1 i (.fn fun j => [Sx.AV.flt true (r j)]))] (piececallC Try.f6 (Sx.nav [1,1,1,0,1,0,0] (Sx.bodyOf Try.f6)) (Sx.frL [(0, .flt true a), (7, .slc true true ⟨false, 0, 0, 0⟩ (i)), (15, .int true .i64 n), (16, .int true .i64 i)]) (Sx.hpL [(0, .cells true 1 (i) (.fn fun j => [.flt true (r j)]))]) 1 [false]) := Sx.eqn (q := (True ∧ (decide ((↑i : Int) < (↑n : Int)) = false))) (by kernel_rfl) ⟨trivial, c0⟩
theorem ocL (B : Nat) (hB : B ≤ 1) (a c x n i : Nat) (k e_ : Int) (r : Nat → Nat) (x0 : ((decide ((↑i : Int) < (↑n : Int))) = true → ((Sx.finD a) = true → ((i + (1 : Nat)) * (8 : Nat) ≤ (140737488355328 : Nat))))) (x1 : ((decide ((↑i : Int) < (↑n : Int))) = true → ((Sx.finD a) = true → (i + (1 : Nat) ≤ (9223372036854775807 : Nat))))) (x2 : ((decide ((↑i : Int) < (↑n : Int))) = true → ((Sx.finD a) = true → ((↑i : Int) + (1 : Int) ≤ (9223372036854775807 : Int))))) : Sx.GoesB Try.prog (Sx.nav [1,1,1,0,1,0,0] (Sx.bodyOf Try.f6)) Try.f6.ntmps B 1 3 (Sx.frL [(0, .flt true a), (7, .slc true true ⟨false, 0, 0, 0⟩ (i)), (15, .int true .i64 n), (16, .int true .i64 i)]) (Sx.hpL [(0, .cells true 1 (i) (.fn fun j => [.flt true (r j)]))]) fun e fr' H' => (cond (decide ((↑i : Int) < (↑n : Int))) (cond (Sx.finD a) (e = .normal ∧ fr' = Sx.frL [(0, .flt true (Sx.fmul a (4611686018427387904 : Nat))), (7, .slc true true ⟨false, 2, 0, 0⟩ (i + (1 : Nat))), (15, .int true .i64 (↑n : Int)), (16, .int true .i64 ((↑i : Int) + (1 : Int)))] ∧ H' = Sx.hpL [(2, .cells true 1 (i + (1 : Nat)) (.fn fun j => bif decide (j < i) then [Sx.AV.flt true (r j)] else [Sx.AV.flt true a]))]) (e = .ret ∧ fr' = Sx.frL [(0, .flt true a), (7, .slc true true ⟨false, 0, 0, 0⟩ i), (15, .int true .i64 (↑n : Int)), (16, .int true .i64 (↑i : Int)), (4, .nils), (5, .int false .i64 6)] ∧ H' = Sx.hpL [(0, .cells true 1 i (.fn fun j => [Sx.AV.flt true (r j)]))])) (e = .exit 0 ∧ fr' = Sx.frL [(0, .flt true a), (7, .slc true true ⟨false, 0, 0, 0⟩ i), (15, .int true .i64 (↑n : Int)), (16, .int true .i64 (↑i : Int))] ∧ H' = Sx.hpL [(0, .cells true 1 i (.fn fun j => [Sx.AV.flt true (r j)]))])) := by
 cases t0 : decide ((↑i : Int) < (↑n : Int)) with
 | true =>
  cases t1 : Sx.finD a with
  | true =>
   exact (Sx.GoesB.runN callC_ok (callC_reg _) (Sx.LoopsIn.none _ _ _) (ocL_r0 a c x n i k e_ r t0 (by rw [t1]; rfl) (by first | decide | ((try simp only [decide_eq_true_eq, decide_eq_false_iff_not] at t0 t1); (try simp only [List.length_take, List.length_drop]); omega)) (x0 t0 t1) (x1 t0 t1) (by first | decide | ((try simp only [decide_eq_true_eq, decide_eq_false_iff_not] at t0 t1); (try simp only [List.length_take, List.length_drop]); omega)) (x2 t0 t1)) hB).mono fun e fr' H' h => by first | (simp only [t0, t1, cond_true, cond_false]; exact h) | (simp only [t0, t1, cond_true, cond_false] at h ⊢; exact h)
  | false =>
   exact (Sx.GoesB.runN callC_ok (callC_reg _) (Sx.LoopsIn.none _ _ _) (ocL_r1 a c x n i k e_ r t0 (by rw [t1]; rfl)) hB).mono fun e fr' H' h => by first | (simp only [t0, t1, cond_true, cond_false]; exact h) | (simp only [t0, t1, cond_true, cond_false] at h ⊢; exact h)
 | false =>
  exact (Sx.GoesB.runN callC_ok (callC_reg _) (Sx.LoopsIn.none _ _ _) (ocL_r2 a c x n i k e_ r t0) hB).mono fun e fr' H' h => by first | (simp only [t0, cond_true, cond_false]; exact h) | (simp only [t0, cond_true, cond_false] at h ⊢; exact h)
theorem ocZ_r0 (a c x n i : Nat) (k e_ : Int) (r : Nat → Nat) : Sx.PieceN 1 (Sx.Ex.ret) [(4, .slc true true ⟨false, 0, 0, 0⟩ n), (5, .int false .i64 0)] [(0, .cells true 1 n (.fn fun j => [Sx.AV.flt true (r j)]))] (piececallC Try.f6 (Sx.nav [1,1,1,1] (Sx.bodyOf Try.f6)) (Sx.frL [(7, .slc true true ⟨false, 0, 0, 0⟩ (n))]) (Sx.hpL [(0, .cells true 1 (n) (.fn fun j => [.flt true (r j)]))]) 1 []) := Sx.eqn (q := True) (by kernel_rfl) trivial
theorem ocZ (B : Nat) (hB : B ≤ 1) (a c x n i : Nat) (k e_ : Int) (r : Nat → Nat) : Sx.GoesB Try.prog (Sx.nav [1,1,1,1] (Sx.bodyOf Try.f6)) Try.f6.ntmps B 1 1 (Sx.frL [(7, .slc true true ⟨false, 0, 0, 0⟩ (n))]) (Sx.hpL [(0, .cells true 1 (n) (.fn fun j => [.flt true (r j)]))]) fun e fr' H' => (e = .ret ∧ fr' = Sx.frL [(4, .slc true true ⟨false, 0, 0, 0⟩ n), (5, .int false .i64 0)] ∧ H' = Sx.hpL [(0, .cells true 1 n (.fn fun j => [Sx.AV.flt true (r j)]))]) := by
 exact (Sx.GoesB.runN callC_ok (callC_reg _) (Sx.LoopsIn.none _ _ _) (ocZ_r0 a c x n i k e_ r) hB).mono fun e fr' H' h => h
theorem rlA_r0 (a c x n i : Nat) (k e_ : Int) (r : Nat → Nat) : Sx.PieceN 0 (Sx.Ex.normal) [(0, .flt true a), (1, .flt true c), (2, .int true .i64 k)] [] (piececallC Try.f7 (Sx.nav [0] (Sx.bodyOf Try.f7)) (Sx.frameOf [.flt true a, .flt true c, .int true .i64 k] 0 .e) (Sx.hpL []) 0 []) := Sx.eqn (q := True) (by kernel_rfl) trivial
theorem rlA (B : Nat) (hB : B ≤ 0) (a c x n i : Nat) (k e_ : Int) (r : Nat → Nat) : Sx.GoesB Try.prog (Sx.nav [0] (Sx.bodyOf Try.f7)) Try.f7.ntmps B 0 0 (Sx.frameOf [.flt true a, .flt true c, .int true .i64 k] 0 .e) (Sx.hpL []) fun e fr' H' => (e = .normal ∧ fr' = Sx.frL [(0, .flt true a), (1, .flt true c), (2, .int true .i64 k)] ∧ H' = Sx.hpL []) := by
 exact (Sx.GoesB.runN callC_ok (callC_reg _) (Sx.LoopsIn.none _ _ _) (rlA_r0 a c x n i k e_ r) hB).mono fun e fr' H' h => h
theorem rlB_r0 (a c x n i : Nat) (k e_ : Int) (r : Nat → Nat) (c0 : decide ((2 : Int) < KD a) = true) : Sx.PieceN 9 (Sx.Ex.normal) [(0, .flt true a), (1, .flt true c), (2, .int true .i64 k), (8, .int false .i64 5)] [] (piececallC Try.f7 (Sx.nav [1,0] (Sx.bodyOf Try.f7)) (Sx.frL [(0, .flt true a), (1, .flt true c), (2, .int true .i64 k)]) (Sx.hpL []) 0 [true]) := Sx.eqn (q := (True ∧ (decide ((2 : Int) < KD a) = true))) (by kernel_rfl) ⟨trivial, c0⟩
theorem rlB_r1 (a c x n i : Nat) (k e_ : Int) (r : Nat → Nat) (c0 : decide ((2 : Int) < KD a) = false) (c1 : decide ((2 : Int) < KD c) = true) : Sx.PieceN 9 (Sx.Ex.normal) [(0, .flt true a), (1, .flt true c), (2, .int true .i64 k), (8, .int false .i64 5)] [] (piececallC Try.f7 (Sx.nav [1,0] (Sx.bodyOf Try.f7)) (Sx.frL [(0, .flt true a), (1, .flt true c), (2, .int true .i64 k)]) (Sx.hpL []) 0 [false, true]) := Sx.eqn (q := ((True ∧ (decide ((2 : Int) < KD a) = false)) ∧ (decide ((2 : Int) < KD c) = true))) (by kernel_rfl) ⟨⟨trivial, c0⟩, c1⟩
theorem rlB_r2 (a c x n i : Nat) (k e_ : Int) (r : Nat → Nat) (c0 : decide ((2 : Int) < KD a) = false) (c1 : decide ((2 : Int) < KD c) = false) (c2 : (!Sx.fgt a (0 : Nat)) = false) (c3 : (!Sx.fgt c (0 : Nat)) = false) (c4 : decide (k < (1 : Int)) = true) : Sx.PieceN 9 (Sx.Ex.normal) [(0, .flt true a), (1, .flt true c), (2, .int true .i64 k), (8, .int false .i64 2)] [] (piececallC Try.f7 (Sx.nav [1,0] (Sx.bodyOf Try.f7)) (Sx.frL [(0, .flt true a), (1, .flt true c), (2, .int true .i64 k)]) (Sx.hpL []) 0 [false, false, false, false, true]) := Sx.eqn (q := (((((True ∧ (decide ((2 : Int) < KD a) = false)) ∧ (decide ((2 : Int) < KD c) = false)) ∧ ((!Sx.fgt a (0 : Nat)) = false)) ∧ ((!Sx.fgt c (0 : Nat)) = false)) ∧ (decide (k < (1 : Int)) = true))) (by kernel_rfl) ⟨⟨⟨⟨⟨trivial, c0⟩, c1⟩, c2⟩, c3⟩, c4⟩
theorem rlB_r3 (a c x n i : Nat) (k e_ : Int) (r : Nat → Nat) (c0 : decide ((2 : Int) < KD a) = false) (c1 : decide ((2 : Int) < KD c) = false) (c2 : (!Sx.fgt a (0 : Nat)) = false) (c3 : (!Sx.fgt c (0 : Nat)) = false) (c4 : decide (k < (1 : Int)) = false) (c5 : decide ((4096 : Int) < k) = true) : Sx.PieceN 9 (Sx.Ex.normal) [(0, .flt true a), (1, .flt true c), (2, .int true .i64 k), (8, .int false .i64 3)] [] (piececallC Try.f7 (Sx.nav [1,0] (Sx.bodyOf Try.f7)) (Sx.frL [(0, .flt true a), (1, .flt true c), (2, .int true .i64 k)]) (Sx.hpL []) 0 [false, false, false, false, false, true]) := Sx.eqn (q := ((((((True ∧ (decide ((2 : Int) < KD a) = false)) ∧ (decide ((2 : Int) < KD c) = false)) ∧ ((!Sx.fgt a (0 : Nat)) = false)) ∧ ((!Sx.fgt c (0 : Nat)) = false)) ∧ (decide (k < (1 : Int)) = false)) ∧ (decide ((4096 : Int) < k) = true))) (by kernel_rfl) ⟨⟨⟨⟨⟨⟨trivial, c0⟩, c1⟩, c2⟩, c3⟩, c4⟩, c5⟩
theorem rlB_r4 (a c x n i : Nat) (k e_ : Int) (r : Nat → Nat) (c0 : decide ((2 : Int) < KD a) = false) (c1 : decide ((2 : Int) < KD c) = false) (c2 : (!Sx.fgt a (0 : Nat)) = false) (c3 : (!Sx.fgt c (0 : Nat)) = false) (c4 : decide (k < (1 : Int)) = false) (c5 : decide ((4096 : Int) < k) = false) : Sx.PieceN 9 (Sx.Ex.normal) [(0, .flt true a), (1, .flt true c), (2, .int true .i64 k), (8, .int false .i64 0)] [] (piececallC Try.f7 (Sx.nav [1,0] (Sx.bodyOf Try.f7)) (Sx.frL [(0, .flt true a), (1, .flt true c), (2, .int true .i64 k)]) (Sx.hpL []) 0 [false, false, false, false, false, false]) := Sx.eqn (q := ((((((True ∧ (decide ((2 : Int) < KD a) = false)) ∧ (decide ((2 : Int) < KD c) = false)) ∧ ((!Sx.fgt a (0 : Nat)) = false)) ∧ ((!Sx.fgt c (0 : Nat)) = false)) ∧ (decide (k < (1 : Int)) = false)) ∧ (decide ((4096 : Int) < k) = false))) (by kernel_rfl) ⟨⟨⟨⟨⟨⟨trivial, c0⟩, c1⟩, c2⟩, c3⟩, c4⟩, c5⟩
theorem rlB_r5 (a c x n i : Nat) (k e_ : Int) (r : Nat → Nat) (c0 : decide ((2 : Int) < KD a) = false) (c1 : decide ((2 : Int) < KD c) = false) (c2 : (!Sx.fgt a (0 : Nat)) = false) (c3 : (!Sx.fgt c (0 : Nat)) = true) : Sx.PieceN 9 (Sx.Ex.normal) [(0, .flt true a), (1, .flt true c), (2, .int true .i64 k), (8, .int false .i64 2)] [] (piececallC Try.f7 (Sx.nav [1,0] (Sx.bodyOf Try.f7)) (Sx.frL [(0, .flt true a), (1, .flt true c), (2, .int true .i64 k)]) (Sx.hpL []) 0 [false, false, false, true]) := Sx.eqn (q := ((((True ∧ (decide ((2 : Int) < KD a) = false)) ∧ (decide ((2 : Int) < KD c) = false)) ∧ ((!Sx.fgt a (0 : Nat)) = false)) ∧ ((!Sx.fgt c (0 : Nat)) = true))) (by kernel_rfl) ⟨⟨⟨⟨trivial, c0⟩, c1⟩, c2⟩, c3⟩
theorem rlB_r6 (a c x n i : Nat) (k e_ : Int) (r : Nat → Nat) (c0 : decide ((2 : Int) < KD a) = false) (c1 : decide ((2 : Int) < KD c) = false) (c2 : (!Sx.fgt a (0 : Nat)) = true) : Sx.PieceN 9 (Sx.Ex.normal) [(0, .flt true a), (1, .flt true c), (2, .int true .i64 k), (8, .int false .i64 2)] [] (piececallC Try.f7 (Sx.nav [1,0] (Sx.bodyOf Try.f7)) (Sx.frL [(0, .flt true a), (1, .flt true c), (2, .int true .i64 k)]) (Sx.hpL []) 0 [false, false, true]) := Sx.eqn (q := (((True ∧ (decide ((2 : Int) < KD a) = false)) ∧ (decide ((2 : Int) < KD c) = false)) ∧ ((!Sx.fgt a (0 : Nat)) = true))) (by kernel_rfl) ⟨⟨⟨trivial, c0⟩, c1⟩, c2⟩
theorem rlB (B : Nat) (hB : B ≤ 0) (a c x n i : Nat) (k e_ : Int) (r : Nat → Nat) : Sx.GoesB Try.prog (Sx.nav [1,0] (Sx.bodyOf Try.f7)) Try.f7.ntmps B 0 9 (Sx.frL [(0, .flt true a), (1, .flt true c), (2, .int true .i64 k)]) (Sx.hpL []) fun e fr' H' => (cond (decide ((2 : Int) < KD a)) (e = .normal ∧ fr' = Sx.frL [(0, .flt true a), (1, .flt true c), (2, .int true .i64 k), (8, .int false .i64 5)] ∧ H' = Sx.hpL []) (cond (decide ((2 : Int) < KD c)) (e = .normal ∧ fr' = Sx.frL [(0, .flt true a), (1, .flt true c), (2, .int true .i64 k), (8, .int false .i64 5)] ∧ H' = Sx.hpL []) (cond (Sx.fgt a (0 : Nat)) (cond (Sx.fgt c (0 : Nat)) (cond (decide (k < (1 : Int))) (e = .normal ∧ fr' = Sx.frL [(0, .flt true a), (1, .flt true c), (2, .int true .i64 k), (8, .int false .i64 2)] ∧ H' = Sx.hpL []) (cond (decide ((4096 : Int) < k)) (e = .normal ∧ fr' = Sx.frL [(0, .flt true a), (1, .flt true c), (2, .int true .i64 k), (8, .int false .i64 3)] ∧ H' = Sx.hpL []) (e = .normal ∧ fr' = Sx.frL [(0, .flt true a), (1, .flt true c), (2, .int true .i64 k), (8, .int false .i64 0)] ∧ H' = Sx.hpL []))) (e = .normal ∧ fr' = Sx.frL [(0, .flt true a), (1, .flt true c), (2, .int true .i64 k), (8, .int false .i64 2)] ∧ H' = Sx.hpL [])) (e = .normal ∧ fr' = Sx.frL [(0, .flt true a), (1, .flt true c), (2, .int true .i64 k), (8, .int false .i64 2)] ∧ H' = Sx.hpL [])))) := by
 cases t0 : decide ((2 : Int) < KD a) with
 | true =>
  exact (Sx.GoesB.runN callC_ok (callC_reg _) (Sx.LoopsIn.none _ _ _) (rlB_r0 a c x n i k e_ r t0) hB).mono fun e fr' H' h => by first | (simp only [t0, cond_true, cond_false]; exact h) | (simp only [t0, cond_true, cond_false] at h ⊢; exact h)
 | false =>
  cases t1 : decide ((2 : Int) < KD c) with
  | true =>
   exact (Sx.GoesB.runN callC_ok (callC_reg _) (Sx.LoopsIn.none _ _ _) (rlB_r1 a c x n i k e_ r t0 t1) hB).mono fun e fr' H' h => by first | (simp only [t0, t1, cond_true, cond_false]; exact h) | (simp only [t0, t1, cond_true, cond_false] at h ⊢; exact h)
  | false =>
   cases t2 : Sx.fgt a (0 : Nat) with
   | true =>
    cases t3 : Sx.fgt c (0 : Nat) with
    | true =>
     cases t4 : decide (k < (1 : Int)) with
     | true =>
      exact (Sx.GoesB.runN callC_ok (callC_reg _) (Sx.LoopsIn.none _ _ _) (rlB_r2 a c x n i k e_ r t0 t1 (by rw [t2]; rfl) (by rw [t3]; rfl) t4) hB).mono fun e fr' H' h => by first | (simp only [t0, t1, t2, t3, t4, cond_true, cond_false]; exact h) | (simp only [t0, t1, t2, t3, t4, cond_true, cond_false] at h ⊢; exact h)
     | false =>
      cases t5 : decide ((4096 : Int) < k) with
      | true =>
       exact (Sx.GoesB.runN callC_ok (callC_reg _) (Sx.LoopsIn.none _ _ _) (rlB_r3 a c x n i k e_ r t0 t1 (by rw [t2]; rfl) (by rw [t3]; rfl) t4 t5) hB).mono fun e fr' H' h => by first | (simp only [t0, t1, t2, t3, t4, t5, cond_true, cond_false]; exact h) | (simp only [t0, t1, t2, t3, t4, t5, cond_true, cond_false] at h ⊢; exact h)
      | false =>
       exact (Sx.GoesB.runN callC_ok (callC_reg _) (Sx.LoopsIn.none _ _ _) (rlB_r4 a c x n i k e_ r t0 t1 (by rw [t2]; rfl) (by rw [t3]; rfl) t4 t5) hB).mono fun e fr' H' h => by first | (simp only [t0, t1, t2, t3, t4, t5, cond_true, cond_false]; exact h) | (simp only [t0, t1, t2, t3, t4, t5, cond_true, cond_false] at h ⊢; exact h)
    | false =>
     exact (Sx.GoesB.runN callC_ok (callC_reg _) (Sx.LoopsIn.none _ _ _) (rlB_r5 a c x n i k e_ r t0 t1 (by rw [t2]; rfl) (by rw [t3]; rfl)) hB).mono fun e fr' H' h => by first | (simp only [t0, t1, t2, t3, cond_true, cond_false]; exact h) | (simp only [t0, t1, t2, t3, cond_true, cond_false] at h ⊢; exact h)
   | false =>
    exact (Sx.GoesB.runN callC_ok (callC_reg _) (Sx.LoopsIn.none _ _ _) (rlB_r6 a c x n i k e_ r t0 t1 (by rw [t2]; rfl)) hB).mono fun e fr' H' h => by first | (simp only [t0, t1, t2, cond_true, cond_false]; exact h) | (simp only [t0, t1, t2, cond_true, cond_false] at h ⊢; exact h)
theorem rlC_r0 (a c x n i : Nat) (k e_ : Int) (r : Nat → Nat) (c0 : (!decide (e_ = (0 : Int))) = false) : Sx.PieceN 0 (Sx.Ex.normal) [(0, .flt true a), (1, .flt true c), (2, .int true .i64 k)] [] (piececallC Try.f7 (Sx.nav [1,1,0] (Sx.bodyOf Try.f7)) (Sx.frL [(0, .flt true a), (1, .flt true c), (2, .int true .i64 k), (8, .int true .i64 e_)]) (Sx.hpL []) 0 [false]) := Sx.eqn (q := (True ∧ ((!decide (e_ = (0 : Int))) = false))) (by kernel_rfl) ⟨trivial, c0⟩
theorem rlC_r1 (a c x n i : Nat) (k e_ : Int) (r : Nat → Nat) (c0 : (!decide (e_ = (0 : Int))) = true) : Sx.PieceN 0 (Sx.Ex.ret) [(0, .flt true a), (1, .flt true c), (2, .int true .i64 k), (6, .nils), (7, .int true .i64 e_)] [] (piececallC Try.f7 (Sx.nav [1,1,0] (Sx.bodyOf Try.f7)) (Sx.frL [(0, .flt true a), (1, .flt true c), (2, .int true .i64 k), (8, .int true .i64 e_)]) (Sx.hpL []) 0 [true]) := Sx.eqn (q := (True ∧ ((!decide (e_ = (0 : Int))) = true))) (by kernel_rfl) ⟨trivial, c0⟩
theorem rlC (B : Nat) (hB : B ≤ 0) (a c x n i : Nat) (k e_ : Int) (r : Nat → Nat) : Sx.GoesB Try.prog (Sx.nav [1,1,0] (Sx.bodyOf Try.f7)) Try.f7.ntmps B 0 0 (Sx.frL [(0, .flt true a), (1, .flt true c), (2, .int true .i64 k), (8, .int true .i64 e_)]) (Sx.hpL []) fun e fr' H' => (cond (decide (e_ = (0 : Int))) (e = .normal ∧ fr' = Sx.frL [(0, .flt true a), (1, .flt true c), (2, .int true .i64 k)] ∧ H' = Sx.hpL []) (e = .ret ∧ fr' = Sx.frL [(0, .flt true a), (1, .flt true c), (2, .int true .i64 k), (6, .nils), (7, .int true .i64 e_)] ∧ H' = Sx.hpL [])) := by
 cases t0 : decide (e_ = (0 : Int)) with
 | true =>
  exact (Sx.GoesB.runN callC_ok (callC_reg _) (Sx.LoopsIn.none _ _ _) (rlC_r0 a c x n i k e_ r (by rw [t0]; rfl)) hB).mono fun e fr' H' h => by first | (simp only [t0, cond_true, cond_false]; exact h) | (simp only [t0, cond_true, cond_false] at h ⊢; exact h)
 | false =>
  exact (Sx.GoesB.runN callC_ok (callC_reg _) (Sx.LoopsIn.none _ _ _) (rlC_r1 a c x n i k e_ r (by rw [t0]; rfl)) hB).mono fun e fr' H' h => by first | (simp only [t0, cond_true, cond_false]; exact h) | (simp only [t0, cond_true, cond_false] at h ⊢; exact h)
theorem rlD_r0 (a c x n i : Nat) (k e_ : Int) (r : Nat → Nat) : Sx.PieceN 1 (Sx.Ex.normal) [(0, .flt true a), (1, .flt true c), (2, .int true .i64 (↑n : Int)), (9, .slc false true ⟨false, 0, 0, 0⟩ 1)] [(0, .cells true 1 1 (.lit [Sx.AV.flt false (0 : Nat)] (Sx.T.n Sx.T.e (Option.some [Sx.AV.flt true a]) Sx.T.e)))] (piececallC Try.f7 (Sx.nav [1,1,1,0] (Sx.bodyOf Try.f7)) (Sx.frL [(0, .flt true a), (1, .flt true c), (2, .int true .i64 n)]) (Sx.hpL []) 0 []) := Sx.eqn (q := True) (by kernel_rfl) trivial
theorem rlD (B : Nat) (hB : B ≤ 0) (a c x n i : Nat) (k e_ : Int) (r : Nat → Nat) : Sx.GoesB Try.prog (Sx.nav [1,1,1,0] (Sx.bodyOf Try.f7)) Try.f7.ntmps B 0 1 (Sx.frL [(0, .flt true a), (1, .flt true c), (2, .int true .i64 n)]) (Sx.hpL []) fun e fr' H' => (e = .normal ∧ fr' = Sx.frL [(0, .flt true a), (1, .flt true c), (2, .int true .i64 (↑n : Int)), (9, .slc false true ⟨false, 0, 0, 0⟩ 1)] ∧ H' = Sx.hpL [(0, .cells true 1 1 (.lit [Sx.AV.flt false (0 : Nat)] (Sx.T.n Sx.T.e (Option.some [Sx.AV.flt true a]) Sx.T.e)))]) := by
 exact (Sx.GoesB.runN callC_ok (callC_reg _) (Sx.LoopsIn.none _ _ _) (rlD_r0 a c x n i k e_ r) hB).mono fun e fr' H' h => h
theorem rlE_r0 (a c x n i : Nat) (k e_ : Int) (r : Nat → Nat) : Sx.PieceN 1 (Sx.Ex.normal) [(0, .flt true a), (1, .flt true c), (2, .int true .i64 (↑n : Int)), (9, .slc true true ⟨false, 0, 0, 0⟩ i), (10, .int false .i64 1)] [(0, .cells true 1 i (.fn fun j => [Sx.AV.flt true (r j)]))] (piececallC Try.f7 (Sx.nav [1,1,1,1,0,0] (Sx.bodyOf Try.f7)) (Sx.frL [(0, .flt true a), (1, .flt true c), (2, .int true .i64 n), (9, .slc true true ⟨false, 0, 0, 0⟩ (i))]) (Sx.hpL [(0, .cells true 1 (i) (.fn fun j => [.flt true (r j)]))]) 1 []) := Sx.eqn (q := True) (by kernel_rfl) trivial
theorem rlE (B : Nat) (hB : B ≤ 1) (a c x n i : Nat) (k e_ : Int) (r : Nat → Nat) : Sx.GoesB Try.prog (Sx.nav [1,1,1,1,0,0] (Sx.bodyOf Try.f7)) Try.f7.ntmps B 1 1 (Sx.frL [(0, .flt true a), (1, .flt true c), (2, .int true .i64 n), (9, .slc true true ⟨false, 0, 0, 0⟩ (i))]) (Sx.hpL [(0, .cells true 1 (i) (.fn fun j => [.flt true (r j)]))]) fun e fr' H' => (e = .normal ∧ fr' = Sx.frL [(0, .flt true a), (1, .flt true c), (2, .int true .i64 (↑n : Int)), (9, .slc true true ⟨false, 0, 0, 0⟩ i), (10, .int false .i64 1)] ∧ H' = Sx.hpL [(0, .cells true 1 i (.fn fun j => [Sx.AV.flt true (r j)]))]) := by
 exact (Sx.GoesB.runN callC_ok (callC_reg _) (Sx.LoopsIn.none _ _ _) (rlE_r0 a c x n i k e_ r) hB).mono fun e fr' H' h => h
theorem rlL_r0 (a c x n i : Nat) (k e_ : Int) (r : Nat → Nat) (c0 : decide ((↑i : Int) < (↑n : Int)) = true) (c1 : (-9223372036854775808 : Int) ≤ (↑n : Int) - (1 : Int)) (c2 : (↑n : Int) - (1 : Int) ≤ (9223372036854775807 : Int)) (c3 : decide ((↑i : Int) < (↑n : Int) - (1 : Int)) = true) (c4 : i ≤ i) (c5 : (i + (1 : Nat)) * (8 : Nat) ≤ (140737488355328 : Nat)) (c6 : i + (1 : Nat) ≤ (9223372036854775807 : Nat)) (c7 : (-9223372036854775808 : Int) ≤ (↑i : Int) + (1 : Int)) (c8 : (↑i : Int) + (1 : Int) ≤ (9223372036854775807 : Int)) : Sx.PieceN 3 (Sx.Ex.normal) [(0, .flt true a), (1, .flt true c), (2, .int true .i64 (↑n : Int)), (9, .slc true true ⟨false, 2, 0, 0⟩ (i + (1 : Nat))), (10, .int true .i64 ((↑i : Int) + (1 : Int)))] [(2, .cells true 1 (i + (1 : Nat)) (.fn fun j => bif decide (j < i) then [Sx.AV.flt true (r j)] else [Sx.AV.flt true (Sx.fadd a (Sx.fmul (Sx.fsub c a) (Sx.fdiv (Sx.ofInt (↑i : Int)) (Sx.ofInt ((↑n : Int) - (1 : Int))))))]))] (piececallC Try.f7 (Sx.nav [1,1,1,1,0,1,0,0] (Sx.bodyOf Try.f7)) (Sx.frL [(0, .flt true a), (1, .flt true c), (2, .int true .i64 n), (9, .slc true true ⟨false, 0, 0, 0⟩ (i)), (10, .int true .i64 i)]) (Sx.hpL [(0, .cells true 1 (i) (.fn fun j => [.flt true (r j)]))]) 1 [true, true]) := Sx.eqn (q := ((((((True ∧ (decide ((↑i : Int) < (↑n : Int)) = true)) ∧ (((-9223372036854775808 : Int) ≤ (↑n : Int) - (1 : Int)) ∧ ((↑n : Int) - (1 : Int) ≤ (9223372036854775807 : Int)))) ∧ (decide ((↑i : Int) < (↑n : Int) - (1 : Int)) = true)) ∧ (((-9223372036854775808 : Int) ≤ (↑n : Int) - (1 : Int)) ∧ ((↑n : Int) - (1 : Int) ≤ (9223372036854775807 : Int)))) ∧ ((i ≤ i) ∧ (((i + (1 : Nat)) * (8 : Nat) ≤ (140737488355328 : Nat)) ∧ (i + (1 : Nat) ≤ (9223372036854775807 : Nat))))) ∧ (((-9223372036854775808 : Int) ≤ (↑i : Int) + (1 : Int)) ∧ ((↑i : Int) + (1 : Int) ≤ (9223372036854775807 : Int))))) (by kernel_rfl) ⟨⟨⟨⟨⟨⟨trivial, c0⟩, ⟨c1, c2⟩⟩, c3⟩, ⟨c1, c2⟩⟩, ⟨c4, ⟨c5, c6⟩⟩⟩, ⟨c7, c8⟩⟩
theorem rlL_r1 (a c x n i : Nat) (k e_ : Int) (r : Nat → Nat) (c0 : decide ((↑i : Int) < (↑n : Int)) = true) (c1 : (-9223372036854775808 : Int) ≤ (↑n : Int) - (1 : Int)) (c2 : (↑n : Int) - (1 : Int) ≤ (9223372036854775807 : Int)) (c3 : decide ((↑i : Int) < (↑n : Int) - (1 : Int)) = false) (c4 : i ≤ i) (c5 : (i + (1 : Nat)) * (8 : Nat) ≤ (140737488355328 : Nat)) (c6 : i + (1 : Nat) ≤ (9223372036854775807 : Nat)) (c7 : (-9223372036854775808 : Int) ≤ (↑i : Int) + (1 : Int)) (c8 : (↑i : Int) + (1 : Int) ≤ (9223372036854775807 : Int)) : Sx.PieceN 3 (Sx.Ex.normal) [(0, .flt true a), (1, .flt true c), (2, .int true .i64 (↑n : Int)), (9, .slc true true ⟨false, 2, 0, 0⟩ (i + (1 : Nat))), (10, .int true .i64 ((↑i : Int) + (1 : Int)))] [(2, .cells true 1 (i + (1 : Nat)) (.fn fun j => bif decide (j < i) then [Sx.AV.flt true (r j)] else [Sx.AV.flt true c]))] (piececallC Try.f7 (Sx.nav [1,1,1,1,0,1,0,0] (Sx.bodyOf Try.f7)) (Sx.frL [(0, .flt true a), (1, .flt true c), (2, .int true .i64 n), (9, .slc true true ⟨false, 0, 0, 0⟩ (i)), (10, .int true .i64 i)]) (Sx.hpL [(0, .cells true 1 (i) (.fn fun j => [.flt true (r j)]))]) 1 [true, false]) := Sx.eqn (q := (((((True ∧ (decide ((↑i : Int) < (↑n : Int)) = true)) ∧ (((-9223372036854775808 : Int) ≤ (↑n : Int) - (1 : Int)) ∧ ((↑n : Int) - (1 : Int) ≤ (9223372036854775807 : Int)))) ∧ (decide ((↑i : Int) < (↑n : Int) - (1 : Int)) = false)) ∧ ((i ≤ i) ∧ (((i + (1 : Nat)) * (8 : Nat) ≤ (140737488355328 : Nat)) ∧ (i + (1 : Nat) ≤ (9223372036854775807 : Nat))))) ∧ (((-9223372036854775808 : Int) ≤ (↑i : Int) + (1 : Int)) ∧ ((↑i : Int) + (1 : Int) ≤ (9223372036854775807 : Int))))) (by kernel_rfl) ⟨⟨⟨⟨⟨trivial, c0⟩, ⟨c1, c2⟩⟩, c3⟩, ⟨c4, ⟨c5, c6⟩⟩⟩, ⟨c7, c8⟩⟩
theorem rlL_r2 (a c x n i : Nat) (k e_ : Int) (r : Nat → Nat) (c0 : decide ((↑i : Int) < (↑n : Int)) = false) : Sx.PieceN 3 (Sx.Ex.exit (0 : Nat)) [(0, .flt true a), (1, .flt true c), (2, .int true .i64 (↑n : Int)), (9, .slc true true ⟨false, 0, 0, 0⟩ i), (10, .int true .i64 (↑i : Int))] [(0, .cells true 1 i (.fn fun j => [Sx.AV.flt true (r j)]))] (piececallC Try.f7 (Sx.nav [1,1,1,1,0,1,0,0] (Sx.bodyOf Try.f7)) (Sx.frL [(0, .flt true a), (1, .flt true c), (2, .int true .i64 n), (9, .slc true true ⟨false, 0, 0, 0⟩ (i)), (10, .int true .i64 i)]) (Sx.hpL [(0, .cells true 1 (i) (.fn fun j => [.flt true (r j)]))]) 1 [false]) := Sx.eqn (q := (True ∧ (decide ((↑i : Int) < (↑n : Int)) = false))) (by kernel_rfl) ⟨trivial, c0⟩
theorem rlL (B : Nat) (hB : B ≤ 1) (a c x n i : Nat) (k e_ : Int) (r : Nat → Nat) (x0 : ((decide ((↑i : Int) < (↑n : Int))) = true → ((↑n : Int) - (1 : Int) ≤ (9223372036854775807 : Int)))) (x1 : ((decide ((↑i : Int) < (↑n : Int))) = true → ((decide ((↑i : Int) < (↑n : Int) - (1 : Int))) = true → ((i + (1 : Nat)) * (8 : Nat) ≤ (140737488355328 : Nat))))) (x2 : ((decide ((↑i : Int) < (↑n : Int))) = true → ((decide ((↑i : Int) < (↑n : Int) - (1 : Int))) = true → (i + (1 : Nat) ≤ (9223372036854775807 : Nat))))) (x3 : ((decide ((↑i : Int) < (↑n : Int))) = true → ((↑i : Int) + (1 : Int) ≤ (9223372036854775807 : Int)))) (x4 : ((decide ((↑i : Int) < (↑n : Int))) = true → ((decide ((↑i : Int) < (↑n : Int) - (1 : Int))) = false → ((i + (1 : Nat)) * (8 : Nat) ≤ (140737488355328 : Nat))))) (x5 : ((decide ((↑i : Int) < (↑n : Int))) = true → ((decide ((↑i : Int) < (↑n : Int) - (1 : Int))) = false → (i + (1 : Nat) ≤ (9223372036854775807 : Nat))))) : Sx.GoesB Try.prog (Sx.nav [1,1,1,1,0,1,0,0] (Sx.bodyOf Try.f7)) Try.f7.ntmps B 1 3 (Sx.frL [(0, .flt true a), (1, .flt true c), (2, .int true .i64 n), (9, .slc true true ⟨false, 0, 0, 0⟩ (i)), (10, .int true .i64 i)]) (Sx.hpL [(0, .cells true 1 (i) (.fn fun j => [.flt true (r j)]))]) fun e fr' H' => (cond (decide ((↑i : Int) < (↑n : Int))) (cond (decide ((↑i : Int) < (↑n : Int) - (1 : Int))) (e = .normal ∧ fr' = Sx.frL [(0, .flt true a), (1, .flt true c), (2, .int true .i64 (↑n : Int)), (9, .slc true true ⟨false, 2, 0, 0⟩ (i + (1 : Nat))), (10, .int true .i64 ((↑i : Int) + (1 : Int)))] ∧ H' = Sx.hpL [(2, .cells true 1 (i + (1 : Nat)) (.fn fun j => bif decide (j < i) then [Sx.AV.flt true (r j)] else [Sx.AV.flt true (Sx.fadd a (Sx.fmul (Sx.fsub c a) (Sx.fdiv (Sx.ofInt (↑i : Int)) (Sx.ofInt ((↑n : Int) - (1 : Int))))))]))]) (e = .normal ∧ fr' = Sx.frL [(0, .flt true a), (1, .flt true c), (2, .int true .i64 (↑n : Int)), (9, .slc true true ⟨false, 2, 0, 0⟩ (i + (1 : Nat))), (10, .int true .i64 ((↑i : Int) + (1 : Int)))] ∧ H' = Sx.hpL [(2, .cells true 1 (i + (1 : Nat)) (.fn fun j => bif decide (j < i) then [Sx.AV.flt true (r j)] else [Sx.AV.flt true c]))])) (e = .exit 0 ∧ fr' = Sx.frL [(0, .flt true a), (1, .flt true c), (2, .int true .i64 (↑n : Int)), (9, .slc true true ⟨false, 0, 0, 0⟩ i), (10, .int true .i64 (↑i : Int))] ∧ H' = Sx.hpL [(0, .cells true 1 i (.fn fun j => [Sx.AV.flt true (r j)]))])) := by
 cases t0 : decide ((↑i : Int) < (↑n : Int)) with
 | true =>
  cases t1 : decide ((↑i : Int) < (↑n : Int) - (1 : Int)) with
  | true =>
   exact (Sx.GoesB.runN callC_ok (callC_reg _) (Sx.LoopsIn.none _ _ _) (rlL_r0 a c x n i k e_ r t0 (by first | decide | ((try simp only [decide_eq_true_eq, decide_eq_false_iff_not] at t0 t1); (try simp only [List.length_take, List.length_drop]); omega)) (x0 t0) t1 (by first | decide | ((try simp only [decide_eq_true_eq, decide_eq_false_iff_not] at t0 t1); (try simp only [List.length_take, List.length_drop]); omega)) (x1 t0 t1) (x2 t0 t1) (by first | decide | ((try simp only [decide_eq_true_eq, decide_eq_false_iff_not] at t0 t1); (try simp only [List.length_take, List.length_drop]); omega)) (x3 t0)) hB).mono fun e fr' H' h => by first | (simp only [t0, t1, cond_true, cond_false]; exact h) | (simp only [t0, t1, cond_true, cond_false] at h ⊢; exact h)
  | false =>
   exact (Sx.GoesB.runN callC_ok (callC_reg _) (Sx.LoopsIn.none _ _ _) (rlL_r1 a c x n i k e_ r t0 (by first | decide | ((try simp only [decide_eq_true_eq, decide_eq_false_iff_not] at t0 t1); (try simp only [List.length_take, List.length_drop]); omega)) (x0 t0) t1 (by first | decide | ((try simp only [decide_eq_true_eq, decide_eq_false_iff_not] at t0 t1); (try simp only [List.length_take, List.length_drop]); omega)) (x4 t0 t1) (x5 t0 t1) (by first | decide | ((try simp only [decide_eq_true_eq, decide_eq_false_iff_not] at t0 t1); (try simp only [List.length_take, List.length_drop]); omega)) (x3 t0)) hB).mono fun e fr' H' h => by first | (simp only [t0, t1, cond_true, cond_false]; exact h) | (simp only [t0, t1, cond_true, cond_false] at h ⊢; exact h)
 | false =>
  exact (Sx.GoesB.runN callC_ok (callC_reg _) (Sx.LoopsIn.none _ _ _) (rlL_r2 a c x n i k e_ r t0) hB).mono fun e fr' H' h => by first | (simp only [t0, cond_true, cond_false]; exact h) | (simp only [t0, cond_true, cond_false] at h ⊢; exact h)
theorem rlZ_r0 (a c x n i : Nat) (k e_ : Int) (r : Nat → Nat) : Sx.PieceN 1 (Sx.Ex.ret) [(6, .slc true true ⟨false, 0, 0, 0⟩ n), (7, .int false .i64 0)] [(0, .cells true 1 n (.fn fun j => [Sx.AV.flt true (r j)]))] (piececallC Try.f7 (Sx.nav [1,1,1,1,1] (Sx.bodyOf Try.f7)) (Sx.frL [(9, .slc true true ⟨false, 0, 0, 0⟩ (n))]) (Sx.hpL [(0, .cells true 1 (n) (.fn fun j => [.flt true (r j)]))]) 1 []) := Sx.eqn (q := True) (by kernel_rfl) trivial
theorem rlZ (B : Nat) (hB : B ≤ 1) (a c x n i : Nat) (k e_ : Int) (r : Nat → Nat) : Sx.GoesB Try.prog (Sx.nav [1,1,1,1,1] (Sx.bodyOf Try.f7)) Try.f7.ntmps B 1 1 (Sx.frL [(9, .slc true true ⟨false, 0, 0, 0⟩ (n))]) (Sx.hpL [(0, .cells true 1 (n) (.fn fun j => [.flt true (r j)]))]) fun e fr' H' => (e = .ret ∧ fr' = Sx.frL [(6, .slc true true ⟨false, 0, 0, 0⟩ n), (7, .int false .i64 0)] ∧ H' = Sx.hpL [(0, .cells true 1 n (.fn fun j => [Sx.AV.flt true (r j)]))]) := by
 exact (Sx.GoesB.runN callC_ok (callC_reg _) (Sx.LoopsIn.none _ _ _) (rlZ_r0 a c x n i k e_ r) hB).mono fun e fr' H' h => h
theorem roA_r0 (a c x n i : Nat) (k e_ : Int) (r : Nat → Nat) : Sx.PieceN 0 (Sx.Ex.normal) [(0, .flt true a), (1, .int true .i64 k)] [] (piececallC Try.f8 (Sx.nav [0] (Sx.bodyOf Try.f8)) (Sx.frameOf [.flt true a, .int true .i64 k] 0 .e) (Sx.hpL []) 0 []) := Sx.eqn (q := True) (by kernel_rfl) trivial
theorem roA (B : Nat) (hB : B ≤ 0) (a c x n i : Nat) (k e_ : Int) (r : Nat → Nat) : Sx.GoesB Try.prog (Sx.nav [0] (Sx.bodyOf Try.f8)) Try.f8.ntmps B 0 0 (Sx.frameOf [.flt true a, .int true .i64 k] 0 .e) (Sx.hpL []) fun e fr' H' => (e = .normal ∧ fr' = Sx.frL [(0, .flt true a), (1, .int true .i64 k)] ∧ H' = Sx.hpL []) := by
 exact (Sx.GoesB.runN callC_ok (callC_reg _) (Sx.LoopsIn.none _ _ _) (roA_r0 a c x n i k e_ r) hB).mono fun e fr' H' h => h
theorem roB_r0 (a c x n i : Nat) (k e_ : Int) (r : Nat → Nat) (c0 : decide ((2 : Int) < KD a) = true) : Sx.PieceN 9 (Sx.Ex.normal) [(0, .flt true a), (1, .int true .i64 k), (6, .int false .i64 5)] [] (piececallC Try.f8 (Sx.nav [1,0] (Sx.bodyOf Try.f8)) (Sx.frL [(0, .flt true a), (1, .int true .i64 k)]) (Sx.hpL []) 0 [true]) := Sx.eqn (q := (True ∧ (decide ((2 : Int) < KD a) = true))) (by kernel_rfl) ⟨trivial, c0⟩
theorem roB_r1 (a c x n i : Nat) (k e_ : Int) (r : Nat → Nat) (c0 : decide ((2 : Int) < KD a) = false) (c1 : (!Sx.fgt a (0 : Nat)) = false) (c2 : decide (k < (1 : Int)) = true) : Sx.PieceN 9 (Sx.Ex.normal) [(0, .flt true a), (1, .int true .i64 k), (6, .int false .i64 2)] [] (piececallC Try.f8 (Sx.nav [1,0] (Sx.bodyOf Try.f8)) (Sx.frL [(0, .flt true a), (1, .int true .i64 k)]) (Sx.hpL []) 0 [false, false, true]) := Sx.eqn (q := (((True ∧ (decide ((2 : Int) < KD a) = false)) ∧ ((!Sx.fgt a (0 : Nat)) = false)) ∧ (decide (k < (1 : Int)) = true))) (by kernel_rfl) ⟨⟨⟨trivial, c0⟩, c1⟩, c2⟩
theorem roB_r2 (a c x n i : Nat) (k e_ : Int) (r : Nat → Nat) (c0 : decide ((2 : Int) < KD a) = false) (c1 : (!Sx.fgt a (0 : Nat)) = false) (c2 : decide (k < (1 : Int)) = false) (c3 : decide ((4096 : Int) < k) = true) : Sx.PieceN 9 (Sx.Ex.normal) [(0, .flt true a), (1, .int true .i64 k), (6, .int false .i64 3)] [] (piececallC Try.f8 (Sx.nav [1,0] (Sx.bodyOf Try.f8)) (Sx.frL [(0, .flt true a), (1, .int true .i64 k)]) (Sx.hpL []) 0 [false, false, false, true]) := Sx.eqn (q := ((((True ∧ (decide ((2 : Int) < KD a) = false)) ∧ ((!Sx.fgt a (0 : Nat)) = false)) ∧ (decide (k < (1 : Int)) = false)) ∧ (decide ((4096 : Int) < k) = true))) (by kernel_rfl) ⟨⟨⟨⟨trivial, c0⟩, c1⟩, c2⟩, c3⟩
theorem roB_r3 (a c x n i : Nat) (k e_ : Int) (r : Nat → Nat) (c0 : decide ((2 : Int) < KD a) = false) (c1 : (!Sx.fgt a (0 : Nat)) = false) (c2 : decide (k < (1 : Int)) = false) (c3 : decide ((4096 : Int) < k) = false) : Sx.PieceN 9 (Sx.Ex.normal) [(0, .flt true a), (1, .int true .i64 k), (6, .int false .i64 0)] [] (piececallC Try.f8 (Sx.nav [1,0] (Sx.bodyOf Try.f8)) (Sx.frL [(0, .flt true a), (1, .int true .i64 k)]) (Sx.hpL []) 0 [false, false, false, false]) := Sx.eqn (q := ((((True ∧ (decide ((2 : Int) < KD a) = false)) ∧ ((!Sx.fgt a (0 : Nat)) = false)) ∧ (decide (k < (1 : Int)) = false)) ∧ (decide ((4096 : Int) < k) = false))) (by kernel_rfl) ⟨⟨⟨⟨trivial, c0⟩, c1⟩, c2⟩, c3⟩
theorem roB_r4 (a c x n i : Nat) (k e_ : Int) (r : Nat → Nat) (c0 : decide ((2 : Int) < KD a) = false) (c1 : (!Sx.fgt a (0 : Nat)) = true) : Sx.PieceN 9 (Sx.Ex.normal) [(0, .flt true a), (1, .int true .i64 k), (6, .int false .i64 2)] [] (piececallC Try.f8 (Sx.nav [1,0] (Sx.bodyOf Try.f8)) (Sx.frL [(0, .flt true a), (1, .int true .i64 k)]) (Sx.hpL []) 0 [false, true]) := Sx.eqn (q := ((True ∧ (decide ((2 : Int) < KD a) = false)) ∧ ((!Sx.fgt a (0 : Nat)) = true))) (by kernel_rfl) ⟨⟨trivial, c0⟩, c1⟩
theorem roB (B : Nat) (hB : B ≤ 0) (a c x n i : Nat) (k e_ : Int) (r : Nat → Nat) : Sx.GoesB Try.prog (Sx.nav [1,0] (Sx.bodyOf Try.f8)) Try.f8.ntmps B 0 9 (Sx.frL [(0, .flt true a), (1, .int true .i64 k)]) (Sx.hpL []) fun e fr' H' => (cond (decide ((2 : Int) < KD a)) (e = .normal ∧ fr' = Sx.frL [(0, .flt true a), (1, .int true .i64 k), (6, .int false .i64 5)] ∧ H' = Sx.hpL []) (cond (Sx.fgt a (0 : Nat)) (cond (decide (k < (1 : Int))) (e = .normal ∧ fr' = Sx.frL [(0, .flt true a), (1, .int true .i64 k), (6, .int false .i64 2)] ∧ H' = Sx.hpL []) (cond (decide ((4096 : Int) < k)) (e = .normal ∧ fr' = Sx.frL [(0, .flt true a), (1, .int true .i64 k), (6, .int false .i64 3)] ∧ H' = Sx.hpL []) (e = .normal ∧ fr' = Sx.frL [(0, .flt true a), (1, .int true .i64 k), (6, .int false .i64 0)] ∧ H' = Sx.hpL []))) (e = .normal ∧ fr' = Sx.frL [(0, .flt true a), (1, .int true .i64 k), (6, .int false .i64 2)] ∧ H' = Sx.hpL []))) := by
 cases t0 : decide ((2 : Int) < KD a) with
 | true =>
  exact (Sx.GoesB.runN callC_ok (callC_reg _) (Sx.LoopsIn.none _ _ _) (roB_r0 a c x n i k e_ r t0) hB).mono fun e fr' H' h => by first | (simp only [t0, cond_true, cond_false]; exact h) | (simp only [t0, cond_true, cond_false] at h ⊢; exact h)
 | false =>
  cases t1 : Sx.fgt a (0 : Nat) with
  | true =>
   cases t2 : decide (k < (1 : Int)) with
   | true =>
    exact (Sx.GoesB.runN callC_ok (callC_reg _) (Sx.LoopsIn.none _ _ _) (roB_r1 a c x n i k e_ r t0 (by rw [t1]; rfl) t2) hB).mono fun e fr' H' h => by first | (simp only [t0, t1, t2, cond_true, cond_false]; exact h) | (simp only [t0, t1, t2, cond_true, cond_false] at h ⊢; exact h)
   | false =>
    cases t3 : decide ((4096 : Int) < k) with
    | true =>
     exact (Sx.GoesB.runN callC_ok (callC_reg _) (Sx.LoopsIn.none _ _ _) (roB_r2 a c x n i k e_ r t0 (by rw [t1]; rfl) t2 t3) hB).mono fun e fr' H' h => by first | (simp only [t0, t1, t2, t3, cond_true, cond_false]; exact h) | (simp only [t0, t1, t2, t3, cond_true, cond_false] at h ⊢; exact h)
    | false =>
     exact (Sx.GoesB.runN callC_ok (callC_reg _) (Sx.LoopsIn.none _ _ _) (roB_r3 a c x n i k e_ r t0 (by rw [t1]; rfl) t2 t3) hB).mono fun e fr' H' h => by first | (simp only [t0, t1, t2, t3, cond_true, cond_false]; exact h) | (simp only [t0, t1, t2, t3, cond_true, cond_false] at h ⊢; exact h)
  | false =>
   exact (Sx.GoesB.runN callC_ok (callC_reg _) (Sx.LoopsIn.none _ _ _) (roB_r4 a c x n i k e_ r t0 (by rw [t1]; rfl)) hB).mono fun e fr' H' h => by first | (simp only [t0, t1, cond_true, cond_false]; exact h) | (simp only [t0, t1, cond_true, cond_false] at h ⊢; exact h)
theorem roC_r0 (a c x n i : Nat) (k e_ : Int) (r : Nat → Nat) (c0 : (!decide (e_ = (0 : Int))) = false) : Sx.PieceN 0 (Sx.Ex.normal) [(0, .flt true a), (1, .int true .i64 k)] [] (piececallC Try.f8 (Sx.nav [1,1,0] (Sx.bodyOf Try.f8)) (Sx.frL [(0, .flt true a), (1, .int true .i64 k), (6, .int true .i64 e_)]) (Sx.hpL []) 0 [false]) := Sx.eqn (q := (True ∧ ((!decide (e_ = (0 : Int))) = false))) (by kernel_rfl) ⟨trivial, c0⟩
theorem roC_r1 (a c x n i : Nat) (k e_ : Int) (r : Nat → Nat) (c0 : (!decide (e_ = (0 : Int))) = true) : Sx.PieceN 0 (Sx.Ex.ret) [(0, .flt true a), (1, .int true .i64 k), (4, .nils), (5, .int true .i64 e_)] [] (piececallC Try.f8 (Sx.nav [1,1,0] (Sx.bodyOf Try.f8)) (Sx.frL [(0, .flt true a), (1, .int true .i64 k), (6, .int true .i64 e_)]) (Sx.hpL []) 0 [true]) := Sx.eqn (q := (True ∧ ((!decide (e_ = (0 : Int))) = true))) (by kernel_rfl) ⟨trivial, c0⟩
theorem roC (B : Nat) (hB : B ≤ 0) (a c x n i : Nat) (k e_ : Int) (r : Nat → Nat) : Sx.GoesB Try.prog (Sx.nav [1,1,0] (Sx.bodyOf Try.f8)) Try.f8.ntmps B 0 0 (Sx.frL [(0, .flt true a), (1, .int true .i64 k), (6, .int true .i64 e_)]) (Sx.hpL []) fun e fr' H' => (cond (decide (e_ = (0 : Int))) (e = .normal ∧ fr' = Sx.frL [(0, .flt true a), (1, .int true .i64 k)] ∧ H' = Sx.hpL []) (e = .ret ∧ fr' = Sx.frL [(0, .flt true a), (1, .int true .i64 k), (4, .nils), (5, .int true .i64 e_)] ∧ H' = Sx.hpL [])) := by
 cases t0 : decide (e_ = (0 : Int)) with
 | true =>
  exact (Sx.GoesB.runN callC_ok (callC_reg _) (Sx.LoopsIn.none _ _ _) (roC_r0 a c x n i k e_ r (by rw [t0]; rfl)) hB).mono fun e fr' H' h => by first | (simp only [t0, cond_true, cond_false]; exact h) | (simp only [t0, cond_true, cond_false] at h ⊢; exact h)
 | false =>
  exact (Sx.GoesB.runN callC_ok (callC_reg _) (Sx.LoopsIn.none _ _ _) (roC_r1 a c x n i k e_ r (by rw [t0]; rfl)) hB).mono fun e fr' H' h => by first | (simp only [t0, cond_true, cond_false]; exact h) | (simp only [t0, cond_true, cond_false] at h ⊢; exact h)
theorem roD_r0 (a c x n i : Nat) (k e_ : Int) (r : Nat → Nat) : Sx.PieceN 0 (Sx.Ex.normal) [(0, .flt true a), (1, .int true .i64 (↑n : Int)), (7, .nils)] [] (piececallC Try.f8 (Sx.nav [1,1,1,0] (Sx.bodyOf Try.f8)) (Sx.frL [(0, .flt true a), (1, .int true .i64 n)]) (Sx.hpL []) 0 []) := Sx.eqn (q := True) (by kernel_rfl) trivial
theorem roD (B : Nat) (hB : B ≤ 0) (a c x n i : Nat) (k e_ : Int) (r : Nat → Nat) : Sx.GoesB Try.prog (Sx.nav [1,1,1,0] (Sx.bodyOf Try.f8)) Try.f8.ntmps B 0 0 (Sx.frL [(0, .flt true a), (1, .int true .i64 n)]) (Sx.hpL []) fun e fr' H' => (e = .normal ∧ fr' = Sx.frL [(0, .flt true a), (1, .int true .i64 (↑n : Int)), (7, .nils)] ∧ H' = Sx.hpL []) := by
 exact (Sx.GoesB.runN callC_ok (callC_reg _) (Sx.LoopsIn.none _ _ _) (roD_r0 a c x n i k e_ r) hB).mono fun e fr' H' h => h
theorem roE_r0 (a c x n i : Nat) (k e_ : Int) (r : Nat → Nat) : Sx.PieceN 1 (Sx.Ex.normal) [(1, .int true .i64 (↑n : Int)), (7, .slc true true ⟨false, 0, 0, 0⟩ i), (8, .flt true a)] [(0, .cells true 1 i (.fn fun j => [Sx.AV.flt true (r j)]))] (piececallC Try.f8 (Sx.nav [1,1,1,1,0] (Sx.bodyOf Try.f8)) (Sx.frL [(0, .flt true a), (1, .int true .i64 n), (7, .slc true true ⟨false, 0, 0, 0⟩ (i))]) (Sx.hpL [(0, .cells true 1 (i) (.fn fun j => [.flt true (r j)]))]) 1 []) := Sx.eqn (q := True) (by kernel_rfl) trivial
theorem roE (B : Nat) (hB : B ≤ 1) (a c x n i : Nat) (k e_ : Int) (r : Nat → Nat) : Sx.GoesB Try.prog (Sx.nav [1,1,1,1,0] (Sx.bodyOf Try.f8)) Try.f8.ntmps B 1 1 (Sx.frL [(0, .flt true a), (1, .int true .i64 n), (7, .slc true true ⟨false, 0, 0, 0⟩ (i))]) (Sx.hpL [(0, .cells true 1 (i) (.fn fun j => [.flt true (r j)]))]) fun e fr' H' => (e = .normal ∧ fr' = Sx.frL [(1, .int true .i64 (↑n : Int)), (7, .slc true true ⟨false, 0, 0, 0⟩ i), (8, .flt true a)] ∧ H' = Sx.hpL [(0, .cells true 1 i (.fn fun j => [Sx.AV.flt true (r j)]))]) := by
 exact (Sx.GoesB.runN callC_ok (callC_reg _) (Sx.LoopsIn.none _ _ _) (roE_r0 a c x n i k e_ r) hB).mono fun e fr' H' h => h
theorem roF_r0 (a c x n i : Nat) (k e_ : Int) (r : Nat → Nat) : Sx.PieceN 1 (Sx.Ex.normal) [(1, .int true .i64 (↑n : Int)), (7, .slc true true ⟨false, 0, 0, 0⟩ i), (8, .flt true x), (9, .int false .i64 0)] [(0, .cells true 1 i (.fn fun j => [Sx.AV.flt true (r j)]))] (piececallC Try.f8 (Sx.nav [1,1,1,1,1,0,0] (Sx.bodyOf Try.f8)) (Sx.frL [(1, .int true .i64 n), (7, .slc true true ⟨false, 0, 0, 0⟩ (i)), (8, .flt true x)]) (Sx.hpL [(0, .cells true 1 (i) (.fn fun j => [.flt true (r j)]))]) 1 []) := Sx.eqn (q := True) (by kernel_rfl) trivial
theorem roF (B : Nat) (hB : B ≤ 1) (a c x n i : Nat) (k e_ : Int) (r : Nat → Nat) : Sx.GoesB Try.prog (Sx.nav [1,1,1,1,1,0,0] (Sx.bodyOf Try.f8)) Try.f8.ntmps B 1 1 (Sx.frL [(1, .int true .i64 n), (7, .slc true true ⟨false, 0, 0, 0⟩ (i)), (8, .flt true x)]) (Sx.hpL [(0, .cells true 1 (i) (.fn fun j => [.flt true (r j)]))]) fun e fr' H' => (e = .normal ∧ fr' = Sx.frL [(1, .int true .i64 (↑n : Int)), (7, .slc true true ⟨false, 0, 0, 0⟩ i), (8, .flt true x), (9, .int false .i64 0)] ∧ H' = Sx.hpL [(0, .cells true 1 i (.fn fun j => [Sx.AV.flt true (r j)]))]) := by
 exact (Sx.GoesB.runN callC_ok (callC_reg _) (Sx.LoopsIn.none _ _ _) (roF_r0 a c x n i k e_ r) hB).mono fun e fr' H' h => h
theorem roL_r0 (a c x n i : Nat) (k e_ : Int) (r : Nat → Nat) (c0 : decide ((↑i : Int) < (↑n : Int)) = true) (c1 : Sx.fgt x (9218868437227405311 : Nat) = true) : Sx.PieceN 3 (Sx.Ex.ret) [(1, .int true .i64 (↑n : Int)), (7, .slc true true ⟨false, 0, 0, 0⟩ i), (8, .flt true x), (9, .int true .i64 (↑i : Int)), (4, .nils), (5, .int false .i64 6)] [(0, .cells true 1 i (.fn fun j => [Sx.AV.flt true (r j)]))] (piececallC Try.f8 (Sx.nav [1,1,1,1,1,0,1,0,0] (Sx.bodyOf Try.f8)) (Sx.frL [(1, .int true .i64 n), (7, .slc true true ⟨false, 0, 0, 0⟩ (i)), (8, .flt true x), (9, .int true .i64 i)]) (Sx.hpL [(0, .cells true 1 (i) (.fn fun j => [.flt true (r j)]))]) 1 [true, true]) := Sx.eqn (q := ((True ∧ (decide ((↑i : Int) < (↑n : Int)) = true)) ∧ (Sx.fgt x (9218868437227405311 : Nat) = true))) (by kernel_rfl) ⟨⟨trivial, c0⟩, c1⟩
theorem roL_r1 (a c x n i : Nat) (k e_ : Int) (r : Nat → Nat) (c0 : decide ((↑i : Int) < (↑n : Int)) = true) (c1 : Sx.fgt x (9218868437227405311 : Nat) = false) (c2 : i ≤ i) (c3 : (i + (1 : Nat)) * (8 : Nat) ≤ (140737488355328 : Nat)) (c4 : i + (1 : Nat) ≤ (9223372036854775807 : Nat)) (c5 : (-9223372036854775808 : Int) ≤ (↑i : Int) + (1 : Int)) (c6 : (↑i : Int) + (1 : Int) ≤ (9223372036854775807 : Int)) : Sx.PieceN 3 (Sx.Ex.normal) [(1, .int true .i64 (↑n : Int)), (7, .slc true true ⟨false, 2, 0, 0⟩ (i + (1 : Nat))), (8, .flt true (Sx.fmul (4611686018427387904 : Nat) x)), (9, .int true .i64 ((↑i : Int) + (1 : Int)))] [(2, .cells true 1 (i + (1 : Nat)) (.fn fun j => bif decide (j < i) then [Sx.AV.flt true (r j)] else [Sx.AV.flt true x]))] (piececallC Try.f8 (Sx.nav [1,1,1,1,1,0,1,0,0] (Sx.bodyOf Try.f8)) (Sx.frL [(1, .int true .i64 n), (7, .slc true true ⟨false, 0, 0, 0⟩ (i)), (8, .flt true x), (9, .int true .i64 i)]) (Sx.hpL [(0, .cells true 1 (i) (.fn fun j => [.flt true (r j)]))]) 1 [true, false]) := Sx.eqn (q := ((((True ∧ (decide ((↑i : Int) < (↑n : Int)) = true)) ∧ (Sx.fgt x (9218868437227405311 : Nat) = false)) ∧ ((i ≤ i) ∧ (((i + (1 : Nat)) * (8 : Nat) ≤ (140737488355328 : Nat)) ∧ (i + (1 : Nat) ≤ (9223372036854775807 : Nat))))) ∧ (((-9223372036854775808 : Int) ≤ (↑i : Int) + (1 : Int)) ∧ ((↑i : Int) + (1 : Int) ≤ (9223372036854775807 : Int))))) (by kernel_rfl) ⟨⟨⟨⟨trivial, c0⟩, c1⟩, ⟨c2, ⟨c3, c4⟩⟩⟩, ⟨c5, c6⟩⟩
theorem roL_r2 (a c x n i : Nat) (k e_ : Int) (r : Nat → Nat) (c0 : decide ((↑i : Int) < (↑n : Int)) = false) : Sx.PieceN 3 (Sx.Ex.exit (0 : Nat)) [(1, .int true .i64 (↑n : Int)), (7, .slc true true ⟨false, 0, 0, 0⟩ i), (8, .flt true x), (9, .int true .i64 (↑i : Int))] [(0, .cells true 1 i (.fn fun j => [Sx.AV.flt true (r j)]))] (piececallC Try.f8 (Sx.nav [1,1,1,1,1,0,1,0,0] (Sx.bodyOf Try.f8)) (Sx.frL [(1, .int true .i64 n), (7, .slc true true ⟨false, 0, 0, 0⟩ (i)), (8, .flt true x), (9, .int true .i64 i)]) (Sx.hpL [(0, .cells true 1 (i) (.fn fun j => [.flt true (r j)]))]) 1 [false]) := Sx.eqn (q := (True ∧ (decide ((↑i : Int) < (↑n : Int)) = false))) (by kernel_rfl) ⟨trivial, c0⟩
theorem roL (B : Nat) (hB : B ≤ 1) (a c x n i : Nat) (k e_ : Int) (r : Nat → Nat) (x0 : ((decide ((↑i : Int) < (↑n : Int))) = true → ((Sx.fgt x (9218868437227405311 : Nat)) = false → ((i + (1 : Nat)) * (8 : Nat) ≤ (140737488355328 : Nat))))) (x1 : ((decide ((↑i : Int) < (↑n : Int))) = true → ((Sx.fgt x (9218868437227405311 : Nat)) = false → (i + (1 : Nat) ≤ (9223372036854775807 : Nat))))) (x2 : ((decide ((↑i : Int) < (↑n : Int))) = true → ((Sx.fgt x (9218868437227405311 : Nat)) = false → ((↑i : Int) + (1 : Int) ≤ (9223372036854775807 : Int))))) : Sx.GoesB Try.prog (Sx.nav [1,1,1,1,1,0,1,0,0] (Sx.bodyOf Try.f8)) Try.f8.ntmps B 1 3 (Sx.frL [(1, .int true .i64 n), (7, .slc true true ⟨false, 0, 0, 0⟩ (i)), (8, .flt true x), (9, .int true .i64 i)]) (Sx.hpL [(0, .cells true 1 (i) (.fn fun j => [.flt true (r j)]))]) fun e fr' H' => (cond (decide ((↑i : Int) < (↑n : Int))) (cond (Sx.fgt x (9218868437227405311 : Nat)) (e = .ret ∧ fr' = Sx.frL [(1, .int true .i64 (↑n : Int)), (7, .slc true true ⟨false, 0, 0, 0⟩ i), (8, .flt true x), (9, .int true .i64 (↑i : Int)), (4, .nils), (5, .int false .i64 6)] ∧ H' = Sx.hpL [(0, .cells true 1 i (.fn fun j => [Sx.AV.flt true (r j)]))]) (e = .normal ∧ fr' = Sx.frL [(1, .int true .i64 (↑n : Int)), (7, .slc true true ⟨false, 2, 0, 0⟩ (i + (1 : Nat))), (8, .flt true (Sx.fmul (4611686018427387904 : Nat) x)), (9, .int true .i64 ((↑i : Int) + (1 : Int)))] ∧ H' = Sx.hpL [(2, .cells true 1 (i + (1 : Nat)) (.fn fun j => bif decide (j < i) then [Sx.AV.flt true (r j)] else [Sx.AV.flt true x]))])) (e = .exit 0 ∧ fr' = Sx.frL [(1, .int true .i64 (↑n : Int)), (7, .slc true true ⟨false, 0, 0, 0⟩ i), (8, .flt true x), (9, .int true .i64 (↑i : Int))] ∧ H' = Sx.hpL [(0, .cells true 1 i (.fn fun j => [Sx.AV.flt true (r j)]))])) := by
 cases t0 : decide ((↑i : Int) < (↑n : Int)) with
 | true =>
  cases t1 : Sx.fgt x (9218868437227405311 : Nat) with
  | true =>
   exact (Sx.GoesB.runN callC_ok (callC_reg _) (Sx.LoopsIn.none _ _ _) (roL_r0 a c x n i k e_ r t0 t1) hB).mono fun e fr' H' h => by first | (simp only [t0, t1, cond_true, cond_false]; exact h) | (simp only [t0, t1, cond_true, cond_false] at h ⊢; exact h)
  | false =>
   exact (Sx.GoesB.runN callC_ok (callC_reg _) (Sx.LoopsIn.none _ _ _) (roL_r1 a c x n i k e_ r t0 t1 (by first | decide | ((try simp only [decide_eq_true_eq, decide_eq_false_iff_not] at t0 t1); (try simp only [List.length_take, List.length_drop]); omega)) (x0 t0 t1) (x1 t0 t1) (by first | decide | ((try simp only [decide_eq_true_eq, decide_eq_false_iff_not] at t0 t1); (try simp only [List.length_take, List.length_drop]); omega)) (x2 t0 t1)) hB).mono fun e fr' H' h => by first | (simp only [t0, t1, cond_true, cond_false]; exact h) | (simp only [t0, t1, cond_true, cond_false] at h ⊢; exact h)
 | false =>
  exact (Sx.GoesB.runN callC_ok (callC_reg _) (Sx.LoopsIn.none _ _ _) (roL_r2 a c x n i k e_ r t0) hB).mono fun e fr' H' h => by first | (simp only [t0, cond_true, cond_false]; exact h) | (simp only [t0, cond_true, cond_false] at h ⊢; exact h)
theorem roZ_r0 (a c x n i : Nat) (k e_ : Int) (r : Nat → Nat) : Sx.PieceN 1 (Sx.Ex.ret) [(4, .slc true true ⟨false, 0, 0, 0⟩ n), (5, .int false .i64 0)] [(0, .cells true 1 n (.fn fun j => [Sx.AV.flt true (r j)]))] (piececallC Try.f8 (Sx.nav [1,1,1,1,1,1] (Sx.bodyOf Try.f8)) (Sx.frL [(7, .slc true true ⟨false, 0, 0, 0⟩ (n))]) (Sx.hpL [(0, .cells true 1 (n) (.fn fun j => [.flt true (r j)]))]) 1 []) := Sx.eqn (q := True) (by kernel_rfl) trivial
theorem roZ (B : Nat) (hB : B ≤ 1) (a c x n i : Nat) (k e_ : Int) (r : Nat → Nat) : Sx.GoesB Try.prog (Sx.nav [1,1,1,1,1,1] (Sx.bodyOf Try.f8)) Try.f8.ntmps B 1 1 (Sx.frL [(7, .slc true true ⟨false, 0, 0, 0⟩ (n))]) (Sx.hpL [(0, .cells true 1 (n) (.fn fun j => [.flt true (r j)]))]) fun e fr' H' => (e = .ret ∧ fr' = Sx.frL [(4, .slc true true ⟨false, 0, 0, 0⟩ n), (5, .int false .i64 0)] ∧ H' = Sx.hpL [(0, .cells true 1 n (.fn fun j => [Sx.AV.flt true (r j)]))]) := by
 exact (Sx.GoesB.runN callC_ok (callC_reg _) (Sx.LoopsIn.none _ _ _) (roZ_r0 a c x n i k e_ r) hB).mono fun e fr' H' h => h
theorem low_f {N : Nat} {x : Nat} {u : Sx.AV} (h : u ∈ [Sx.AV.flt true x]) : u.low N = true := by rw [List.mem_singleton.1 h]; rfl
def MV (a c n j : Nat) : Nat := Sx.fadd a (Sx.fmul (Sx.fsub c a) (Sx.fdiv (Sx.ofInt (j : Int)) (Sx.ofInt ((n : Int) - 1))))
/-- Linear's row -/
def LV (a c n j : Nat) : Nat := bif Nat.beq j 0 then a else bif Nat.beq (j + 1) n then c else MV a c n j
theorem wr_ok {a c : Nat} {k : Int} (h : wr_0 a c k = 0) : Sx.finD a = true ∧ Sx.finD c = true ∧ 1 ≤ k ∧ k ≤ 4096 := by
 unfold wr_0 at h
 cases h1 : Sx.finD a <;> rw [h1] at h <;> simp only [cond_true, cond_false] at h
 ·cases h
 cases h2 : Sx.finD c <;> rw [h2] at h <;> simp only [cond_true, cond_false] at h
 ·cases h
 cases h3 : Sx.fle a 0 <;> rw [h3] at h <;> simp only [cond_true, cond_false] at h
 case true => cases h
 cases h4 : Sx.fle c 0 <;> rw [h4] at h <;> simp only [cond_true, cond_false] at h
 case true => cases h
 by_cases h5 : k < 1
 ·rw [decide_eq_true h5] at h; cases h
 rw [decide_eq_false h5, cond_false] at h
 by_cases h6 : 4096 < k
 ·rw [decide_eq_true h6] at h; cases h
 ·exact ⟨rfl, rfl, by omega, by omega⟩
theorem le_gt {x : Nat} (h : x < 18446744073709551616) (n : Sx.finD x = true) : Sx.fgt x 0 = !Sx.fle x 0 := by
 have nn := Sx.finD_notnan n
 have e : Sx.fle x 0 = (Sx.flt x 0 || Sx.feq x 0) := by unfold Sx.fle Sx.flt Sx.feq; rfl
 have z : Sx.isnan 0 = false := by decide
 rw [e, Sx.fgt_rk h (by omega), Sx.flt_rk h (by omega), Sx.feq_rk h (by omega), nn, z]
 by_cases a : Sx.rk x < Sx.rk 0
 ·rw [decide_eq_false (show ¬ Sx.rk 0 < Sx.rk x by omega), decide_eq_true a]; rfl
 ·by_cases b : Sx.rk x = Sx.rk 0
  ·rw [decide_eq_false (show ¬ Sx.rk 0 < Sx.rk x by omega), decide_eq_true b]; simp
  ·rw [decide_eq_true (show Sx.rk 0 < Sx.rk x by omega), decide_eq_false a, decide_eq_false b]; rfl
theorem wr_pos {a c : Nat} {k : Int} (ha : a < 18446744073709551616) (h : wr_0 a c k = 0) : a < 9223372036854775808 := by
 have hf := (wr_ok h).1
 have hc := (wr_ok h).2.1
 unfold wr_0 at h
 rw [hf, hc, cond_true, cond_true] at h
 cases h3 : Sx.fle a 0 with
 | true => rw [h3, cond_true] at h; cases h
 | false =>
  have g := le_gt ha hf
  rw [h3, Sx.fgt_rk ha (by omega)] at g
  have nn := Sx.finD_notnan hf
  rw [nn, show Sx.isnan 0 = false by decide] at g
  have g := of_decide_eq_true (show decide (Sx.rk 0 < Sx.rk a) = true by simpa using g)
  rw [show Sx.rk 0 = 0 by decide] at g
  unfold Sx.rk at g
  split at g <;> omega
/-- doubled -/
def DB (a : Nat) : Nat → Nat
 | 0 => a
 | j + 1 => Sx.fmul (DB a j) 4611686018427387904
def okD (a : Nat) : Nat → Bool
 | 0 => true
 | j + 1 => okD a j && Sx.finD (DB a j)
noncomputable def OE (a : Nat) (k : Int) : Int := bif decide (wr_0 a a k = 0) then (bif okD a k.toNat then 0 else 6) else wr_0 a a k
theorem okD_all {a : Nat} : ∀ {n : Nat}, okD a n = true → ∀ i, i < n → Sx.finD (DB a i) = true
 | n + 1, h, i, hi => by
  unfold okD at h
  rw [Bool.and_eq_true] at h
  rcases Nat.lt_or_ge i n with q | q
  ·exact okD_all h.1 i q
  ·obtain rfl : i = n := by omega
   exact h.2
theorem okD_not {a n i : Nat} (hi : i < n) (h : Sx.finD (DB a i) = false) : okD a n = false := by
 cases e : okD a n with
 | false => rfl
 | true => rw [okD_all e i hi] at h; cases h
theorem dbl_nn {x : Nat} (h : Sx.finD x = true) : Sx.isnan (Sx.fmul x 4611686018427387904) = false := by
 obtain ⟨m, i, e1, _⟩ := Sx.read_fin (of_decide_eq_true h)
 obtain ⟨n, j, e2, _⟩ := Sx.read_fin (x := 4611686018427387904) (by decide)
 unfold Sx.fmul Ieee.Format.mul
 rw [e1, e2]
 exact Sx.cn_write (d := .number _ _ _) rfl
theorem DB_ok {a : Nat} (h : a < 9223372036854775808) (hn : Sx.isnan a = false) : ∀ i, okD a i = true → DB a i < 9223372036854775808 ∧ Sx.isnan (DB a i) = false
 | 0, _ => ⟨h, hn⟩
 | i + 1, g => by
  unfold okD at g
  rw [Bool.and_eq_true] at g
  have q := DB_ok h hn i g.1
  exact ⟨Sx.fmul_pos q.1 (by decide), dbl_nn g.2⟩
theorem gt_max {x : Nat} (h : x < 9223372036854775808) (hn : Sx.isnan x = false) : Sx.fgt x 9218868437227405311 = !Sx.finD x := by
 rw [Sx.fgt_rk (by omega) (by omega), hn, show Sx.isnan 9218868437227405311 = false by decide, show Sx.rk 9218868437227405311 = 9218868437227405311 by decide]
 unfold Sx.rk Sx.finD
 rw [if_neg (by omega)]
 by_cases q : x % 9223372036854775808 < 9218868437227405312
 ·rw [decide_eq_true q, decide_eq_false (by omega)]; rfl
 ·rw [decide_eq_false q, decide_eq_true (by omega)]; rfl
theorem sg2_inj (i j : Nat) (hi : i < 1) (hj : j < 1) (h : (if i = 0 then 2 else i) = if j = 0 then 2 else j) : i = j := by omega
theorem row_i (r : Nat → Nat) (x i j : Nat) (h : r i = x) (hj : j < i + 1) : (bif decide (j < i) then [Sx.AV.flt true (r j)] else [Sx.AV.flt true x]) = [Sx.AV.flt true (r j)] := by
 by_cases c1 : j < i
 ·rw [decide_eq_true c1, cond_true]
 ·obtain rfl : j = i := by omega
  rw [decide_eq_false c1, cond_false, h]
theorem row_m (r : Nat → Nat) (i j : Nat) : (bif Nat.beq j (0 + i) then [Sx.AV.flt true (r i)] else [Sx.AV.flt true (bif decide (j < i) then r j else 0)]) = [Sx.AV.flt true (bif decide (j < i + 1) then r j else 0)] := by
 rw [Nat.zero_add, Sx.beq_dec]
 by_cases h : j = i
 ·subst h; simp
 ·by_cases h2 : j < i
  ·simp [h, h2, show j < i + 1 by omega]
  ·simp [h, h2, show ¬ j < i + 1 by omega]

theorem ln_is : (Sx.bodyOf Try.f5) = .seq (Sx.nav [0] (Sx.bodyOf Try.f5)) (.seq (Sx.nav [1,0] (Sx.bodyOf Try.f5)) (.seq (Sx.nav [1,1,0] (Sx.bodyOf Try.f5)) (.seq (.seq (Sx.nav [1,1,1,0,0] (Sx.bodyOf Try.f5)) (.block 0 (.loop (Sx.nav [1,1,1,0,1,0,0] (Sx.bodyOf Try.f5))))) (Sx.nav [1,1,1,1] (Sx.bodyOf Try.f5))))) := by kernel_rfl
theorem ln_goes (a c : Nat) (k : Int) : Sx.GoesB Try.prog (Sx.bodyOf Try.f5) Try.f5.ntmps 0 0 1 (Sx.frameOf [.flt true a, .flt true c, .int true .i64 k] 0 .e) (Sx.hpL []) (fun e fr' H' => e = .ret ∧ ((wr_0 a c k ≠ 0 ∧ ∃ u v, fr'.get 6 = some u ∧ fr'.get 7 = some v ∧ Sx.AV.ge u .nils ∧ Sx.AV.ge v (.int true .i64 (wr_0 a c k))) ∨ (wr_0 a c k = 0 ∧ fr' = Sx.frL [(6, .slc true true ⟨false, 0, 0, 0⟩ (k.toNat)), (7, .int false .i64 0)] ∧ H' = Sx.hpL [(0, .cells true 1 (k.toNat) (.fn fun j => [.flt true (LV a c k.toNat j)]))]))) := by
 rw [ln_is]
 refine Sx.GoesB.seqN (K1 := 0) (lnA 0 (by omega) a c 0 0 0 k 0 (fun _ => 0)) (by omega) ?_
 refine Sx.GoesB.seq (K1 := 0) (by omega) ((lnB 0 (by omega) a c 0 0 0 k 0 (fun _ => 0)).mono fun e fr' H' h => ?_)
 refine Sx.cond_elim h (fun he h => ?_) (fun he h => ?_)
 case refine_2 =>
  obtain ⟨rfl, rfl, rfl⟩ := h
  exact ⟨rfl, .inl ⟨of_decide_eq_false he, _, _, rfl, rfl, Sx.AV.ge.refl _, Sx.AV.ge.refl _⟩⟩
 have he := of_decide_eq_true he
 obtain ⟨_, _, k1, k2⟩ := wr_ok he
 obtain ⟨n, rfl⟩ : ∃ n : Nat, k = n := ⟨k.toNat, by omega⟩
 obtain ⟨rfl, rfl, rfl⟩ := h
 refine Sx.GoesB.seqN (K1 := 1) (lnC 0 (by omega) a c 0 n 0 0 0 (fun _ => 0) (by omega) (by omega)) (by omega) ?_
 refine Sx.GoesB.weakGL (fl := [(0, .flt true a), (1, .flt true c), (2, .int true .i64 n), (9, .slc true true ⟨false, 0, 0, 0⟩ (n))]) (bl := [(0, .cells true 1 (n) (.fn fun j => [.flt true (bif decide (j < 0) then MV a c n j else 0)]))]) ⟨⟨_, rfl, Sx.AV.ge.refl _⟩, ⟨_, rfl, Sx.AV.ge.refl _⟩, ⟨_, rfl, Sx.AV.ge.refl _⟩, ⟨_, rfl, Sx.AV.ge.refl _⟩, trivial⟩ ⟨⟨_, rfl, rfl, rfl, rfl, fun j hj => ⟨Sx.AV.ge.flt' _ _ rfl, rfl, trivial⟩⟩, trivial⟩ ?_
 refine Sx.GoesB.seqN (K1 := 1) (F1 := [(0, .flt true a), (1, .flt true c), (2, .int true .i64 n), (9, .slc true true ⟨false, 0, 0, 0⟩ (n))]) (H1 := [(0, .cells true 1 (n) (.fn fun j => [.flt true (bif decide (j < n) then MV a c n j else 0)]))]) (Sx.GoesB.seqN (K1 := 1) (Sx.GoesB.toN (F' := [(0, .flt true a), (1, .flt true c), (2, .int true .i64 n), (9, .slc true true ⟨false, 0, 0, 0⟩ (n)), (24, .int true .i64 n), (25, .int true .i64 ((0 : Nat) : Int))]) (H1' := [(0, .cells true 1 (n) (.fn fun j => [.flt true (bif decide (j < 0) then MV a c n j else 0)]))]) (lnD 0 (by omega) a c 0 n 0 0 0 (fun j => bif decide (j < 0) then MV a c n j else 0)) ⟨(Sx.re rfl), (Sx.re rfl), (Sx.re rfl), (Sx.re rfl), (Sx.re rfl), (Sx.ri rfl), trivial⟩ ⟨(Sx.hs rfl), trivial⟩) (by omega) ?_) (by omega) ?_
 ·refine (Sx.GoesB.count n (fun i => [(0, .flt true a), (1, .flt true c), (2, .int true .i64 n), (9, .slc true true ⟨false, 0, 0, 0⟩ (n)), (24, .int true .i64 n), (25, .int true .i64 ((i : Nat) : Int))]) (fun i => [(0, .cells true 1 (n) (.fn fun j => [.flt true (bif decide (j < i) then MV a c n j else 0)]))]) [(0, .flt true a), (1, .flt true c), (2, .int true .i64 n), (9, .slc true true ⟨false, 0, 0, 0⟩ (n))] [(0, .cells true 1 (n) (.fn fun j => [.flt true (bif decide (j < n) then MV a c n j else 0)]))] (fun _ => True) (fun _ _ => False) trivial (fun i hi _ => ?_)).mono fun e fr' H' h => ?_
  ·refine (lnL 0 (by omega) a c 0 n i 0 0 (fun j => bif decide (j < i) then MV a c n j else 0) (fun _ => by omega) (fun _ => by omega)).post fun e fr' H' h => ?_
   refine Sx.cond_elim h (fun t h => ?_) (fun t h => ?_)
   ·have hlt : i < n := by have := of_decide_eq_true t; omega
    obtain ⟨rfl, rfl, rfl⟩ := h
    exact ⟨[(0, .flt true a), (1, .flt true c), (2, .int true .i64 n), (9, .slc true true ⟨false, 0, 0, 0⟩ (n)), (24, .int true .i64 n), (25, .int true .i64 ((i + 1 : Nat) : Int))], [(0, .cells true 1 (n) (.fn fun j => [.flt true (bif decide (j < i + 1) then MV a c n j else 0)]))], ⟨(Sx.re rfl), (Sx.re rfl), (Sx.re rfl), (Sx.re rfl), (Sx.re rfl), (Sx.ri rfl), trivial⟩, ⟨⟨_, rfl, ⟨rfl, rfl, rfl, fun j hj => row_m (MV a c n) i j⟩⟩, trivial⟩, .inl ⟨rfl, hlt, trivial, rfl, rfl⟩⟩
   ·obtain rfl : n = i := by have := of_decide_eq_false t; omega
    obtain ⟨rfl, rfl, rfl⟩ := h
    exact ⟨[(0, .flt true a), (1, .flt true c), (2, .int true .i64 n), (9, .slc true true ⟨false, 0, 0, 0⟩ (n))], [(0, .cells true 1 (n) (.fn fun j => [.flt true (bif decide (j < n) then MV a c n j else 0)]))], ⟨(Sx.re rfl), (Sx.re rfl), (Sx.re rfl), (Sx.re rfl), trivial⟩, ⟨(Sx.hs rfl), trivial⟩, .inr (.inl ⟨rfl, trivial, rfl, rfl⟩)⟩
  ·rcases h with ⟨e1, _, e2, e3⟩ | ⟨_, h⟩
   ·exact ⟨e1, e2, e3⟩
   ·exact h.elim
 refine (lnZ 0 (by omega) a c 0 n 0 0 0 (fun j => bif decide (j < n) then MV a c n j else 0) (by omega) (by omega) (by omega) (by omega) (by omega)).post fun e fr' H' h => ?_
 obtain ⟨rfl, rfl, rfl⟩ := h
 refine ⟨[(6, .slc true true ⟨false, 0, 0, 0⟩ n), (7, .int false .i64 0)], [(0, .cells true 1 (n) (.fn fun j => [.flt true (LV a c n j)]))], ⟨(Sx.re rfl), (Sx.re rfl), trivial⟩, ⟨⟨_, rfl, ⟨rfl, rfl, rfl, fun j hj => ?_⟩⟩, trivial⟩, rfl, .inr ⟨he, rfl, rfl⟩⟩
 have hj : j < n := hj
 show (bif Nat.beq j 0 then [Sx.AV.flt true a] else bif Nat.beq j (0 + Int.toNat ((n : Int) - 1)) then [Sx.AV.flt true c] else [Sx.AV.flt true (bif decide (j < n) then MV a c n j else 0)]) = [Sx.AV.flt true (LV a c n j)]
 unfold LV
 rw [decide_eq_true hj, cond_true, show 0 + Int.toNat ((n : Int) - 1) = n - 1 by omega]
 cases Nat.beq j 0
 ·simp only [cond_false]
  by_cases q : j + 1 = n
  ·rw [Sx.beq_dec, Sx.beq_dec, decide_eq_true q, decide_eq_true (show j = n - 1 by omega)]; rfl
  ·rw [Sx.beq_dec, Sx.beq_dec, decide_eq_false q, decide_eq_false (show ¬ j = n - 1 by omega)]; rfl
 ·rfl

theorem oc_is : (Sx.bodyOf Try.f6) = .seq (Sx.nav [0] (Sx.bodyOf Try.f6)) (.seq (Sx.nav [1,0] (Sx.bodyOf Try.f6)) (.seq (Sx.nav [1,1,0] (Sx.bodyOf Try.f6)) (.seq (.seq (Sx.nav [1,1,1,0,0] (Sx.bodyOf Try.f6)) (.block 0 (.loop (Sx.nav [1,1,1,0,1,0,0] (Sx.bodyOf Try.f6))))) (Sx.nav [1,1,1,1] (Sx.bodyOf Try.f6))))) := by kernel_rfl
theorem OE_0 {a : Nat} {k : Int} (h : wr_0 a a k ≠ 0) : OE a k = wr_0 a a k := by unfold OE; rw [decide_eq_false h]; rfl
theorem OE_1 {a n : Nat} (h : wr_0 a a n = 0) : OE a n = bif okD a n then 0 else 6 := by unfold OE; rw [decide_eq_true h, Int.toNat_natCast]; rfl
theorem oc_goes (a : Nat) (k : Int) : Sx.GoesB Try.prog (Sx.bodyOf Try.f6) Try.f6.ntmps 0 0 1 (Sx.frameOf [.flt true a, .int true .i64 k] 0 .e) (Sx.hpL []) (fun e fr' H' => e = .ret ∧ ((OE a k ≠ 0 ∧ ∃ u v, fr'.get 4 = some u ∧ fr'.get 5 = some v ∧ Sx.AV.ge u .nils ∧ Sx.AV.ge v (.int true .i64 (OE a k))) ∨ (OE a k = 0 ∧ fr' = Sx.frL [(4, .slc true true ⟨false, 0, 0, 0⟩ (k.toNat)), (5, .int false .i64 0)] ∧ H' = Sx.hpL [(0, .cells true 1 (k.toNat) (.fn fun j => [.flt true (DB a j)]))]))) := by
 rw [oc_is]
 refine Sx.GoesB.seqN (K1 := 0) (ocA 0 (by omega) a 0 0 0 0 k 0 (fun _ => 0)) (by omega) ?_
 refine Sx.GoesB.seq (K1 := 0) (by omega) ((ocB 0 (by omega) a 0 0 0 0 k 0 (fun _ => 0)).mono fun e fr' H' h => ?_)
 refine Sx.cond_elim h (fun he h => ?_) (fun he h => ?_)
 case refine_2 =>
  have he := of_decide_eq_false he
  rw [OE_0 he]
  obtain ⟨rfl, rfl, rfl⟩ := h
  exact ⟨rfl, .inl ⟨he, _, _, rfl, rfl, Sx.AV.ge.refl _, Sx.AV.ge.refl _⟩⟩
 have he := of_decide_eq_true he
 obtain ⟨_, _, k1, k2⟩ := wr_ok he
 obtain ⟨n, rfl⟩ : ∃ n : Nat, k = n := ⟨k.toNat, by omega⟩
 rw [OE_1 he, Int.toNat_natCast]
 obtain ⟨rfl, rfl, rfl⟩ := h
 refine Sx.GoesB.seqN (K1 := 0) (ocC 0 (by omega) a 0 0 n 0 0 0 (fun _ => 0)) (by omega) ?_
 refine Sx.GoesB.phantom 7 1 (fun j => [.flt true (DB a j)]) rfl (by omega) (by omega) ?_
 refine Sx.GoesB.weakL (fl := [(0, .flt true a), (1, .int true .i64 n), (7, .slc true true ⟨false, 0, 0, 0⟩ (0))]) (bl := [(0, .cells true 1 (0) (.fn fun j => [.flt true (DB a j)]))]) ⟨(Sx.re rfl), (Sx.re rfl), (Sx.re rfl), trivial⟩ ⟨(Sx.hs rfl), trivial⟩ ?_
 refine Sx.GoesB.seq (K1 := 1) (by omega) (Sx.GoesB.seqN (K1 := 1) (Sx.GoesB.toN (F' := [(0, .flt true (DB a (0))), (7, .slc true true ⟨false, 0, 0, 0⟩ (0)), (15, .int true .i64 n), (16, .int true .i64 ((0 : Nat) : Int))]) (H1' := [(0, .cells true 1 (0) (.fn fun j => [.flt true (DB a j)]))]) (ocD 0 (by omega) a 0 0 n 0 0 0 (DB a)) ⟨(Sx.re rfl), (Sx.re rfl), (Sx.re rfl), (Sx.ri rfl), trivial⟩ ⟨(Sx.hs rfl), trivial⟩) (by omega) ?_)
 refine (Sx.GoesB.count n (fun i => [(0, .flt true (DB a (i))), (7, .slc true true ⟨false, 0, 0, 0⟩ (i)), (15, .int true .i64 n), (16, .int true .i64 ((i : Nat) : Int))]) (fun i => [(0, .cells true 1 (i) (.fn fun j => [.flt true (DB a j)]))]) [(7, .slc true true ⟨false, 0, 0, 0⟩ (n))] [(0, .cells true 1 (n) (.fn fun j => [.flt true (DB a j)]))] (fun i => okD a i = true) (fun fr H => ∃ u v, fr.get 4 = some u ∧ fr.get 5 = some v ∧ Sx.AV.ge u .nils ∧ Sx.AV.ge v (.int true .i64 6) ∧ okD a n = false) rfl (fun i hi hg => ?_)).mono fun e fr' H' h => ?_
 ·refine (ocL 0 (by omega) (DB a i) 0 0 n i 0 0 (DB a) (fun _ _ => by omega) (fun _ _ => by omega) (fun _ _ => by omega)).renL fun e fr' H' h => ?_
  refine Sx.cond_elim h (fun t h => ?_) (fun t h => ?_)
  ·have hlt : i < n := by have := of_decide_eq_true t; omega
   refine Sx.cond_elim h (fun t2 h => ?_) (fun t2 h => ?_)
   ·obtain ⟨rfl, rfl, rfl⟩ := h
    exact ⟨fun g => if g = 0 then 2 else g, [(0, .flt true (DB a (i + 1))), (7, .slc true true ⟨false, 0, 0, 0⟩ (i + 1)), (15, .int true .i64 n), (16, .int true .i64 ((i + 1 : Nat) : Int))], [(0, .cells true 1 (i + 1) (.fn fun j => [.flt true (DB a j)]))], fun g hg => absurd hg (Nat.not_lt_zero g), ⟨⟨_, rfl, Sx.AV.ge.refl _, rfl⟩, ⟨_, rfl, Sx.AV.ge.refl _, rfl⟩, ⟨_, rfl, Sx.AV.ge.refl _, rfl⟩, ⟨_, rfl, Sx.AV.ge.int _ _ _ _, rfl⟩, trivial⟩, ⟨⟨_, rfl, ⟨rfl, rfl, rfl, fun j hj => row_i (DB a) _ i j rfl hj⟩, fun j hj u hu => low_f hu, by omega⟩, trivial⟩, sg2_inj, .inl ⟨rfl, hlt, by unfold okD; rw [hg, t2]; rfl, rfl, rfl⟩⟩
   ·obtain ⟨rfl, rfl, rfl⟩ := h
    exact ⟨id, [(4, .nils), (5, .int false .i64 6)], [], fun g hg => rfl, ⟨⟨_, rfl, Sx.AV.ge.refl _, rfl⟩, ⟨_, rfl, Sx.AV.ge.refl _, rfl⟩, trivial⟩, trivial, fun i j _ _ h => h, .inr (.inr ⟨rfl, _, _, rfl, rfl, Sx.AV.ge.refl _, Sx.AV.ge.int _ _ _ _, okD_not hlt t2⟩)⟩
  ·obtain rfl : n = i := by have := of_decide_eq_false t; omega
   obtain ⟨rfl, rfl, rfl⟩ := h
   exact ⟨id, [(7, .slc true true ⟨false, 0, 0, 0⟩ (n))], [(0, .cells true 1 (n) (.fn fun j => [.flt true (DB a j)]))], fun g hg => rfl, ⟨⟨_, rfl, Sx.AV.ge.refl _, rfl⟩, trivial⟩, ⟨⟨_, rfl, Sx.SameC.refl _, fun j hj u hu => low_f hu, by omega⟩, trivial⟩, fun i j _ _ h => h, .inr (.inl ⟨rfl, hg, rfl, rfl⟩)⟩
 ·rcases h with ⟨rfl, hg, rfl, rfl⟩ | ⟨rfl, u, v, g1, g2, g3, g4, hg⟩
  ·refine (ocZ 0 (by omega) a 0 0 n 0 0 0 (DB a)).mono fun e fr' H' ⟨e1, e2, e3⟩ => ?_
   subst e1 e2 e3
   rw [hg]
   exact ⟨rfl, .inr ⟨rfl, rfl, rfl⟩⟩
  ·rw [hg]
   exact ⟨rfl, .inl ⟨by decide, u, v, g1, g2, g3, g4⟩⟩

theorem wr_fin {a c : Nat} {k : Int} (ha : a < 18446744073709551616) (hc : c < 18446744073709551616) (f1 : Sx.finD a = true) (f2 : Sx.finD c = true) : wr_0 a c k = bif Sx.fgt a 0 then (bif Sx.fgt c 0 then (bif decide (k < 1) then 2 else bif decide (4096 < k) then 3 else 0) else 2) else 2 := by
 unfold wr_0
 rw [f1, f2, cond_true, cond_true, le_gt ha f1, le_gt hc f2]
 cases Sx.fle a 0 <;> cases Sx.fle c 0 <;> rfl
theorem wr_5 {a c : Nat} {k : Int} (h : Sx.finD a = false ∨ Sx.finD c = false) : 5 = wr_0 a c k := by
 unfold wr_0
 rcases h with h | h
 ·rw [h]; rfl
 ·rw [h]; cases Sx.finD a <;> rfl
theorem ro_first (a : Nat) (k : Int) (ha : a < 18446744073709551616) : Sx.GoesB Try.prog (Sx.nav [1,0] (Sx.bodyOf Try.f8)) Try.f8.ntmps 0 0 0 (Sx.frL [(0, .flt true a), (1, .int true .i64 k)]) (Sx.hpL []) (Sx.Nm [(0, .flt true a), (1, .int true .i64 k), (6, .int true .i64 (wr_0 a a k))] []) := by
 refine (roB 0 (by omega) a 0 0 0 0 k 0 (fun _ => 0)).renL fun e fr' H' h => ?_
 rw [KD_fin] at h
 refine Sx.cond_elim h (fun f h => ?_) (fun f h => ?_)
 case refine_1 =>
  obtain ⟨rfl, rfl, rfl⟩ := h
  exact ⟨id, [(0, .flt true a), (1, .int true .i64 k), (6, .int true .i64 (wr_0 a a k))], [], fun g hg => rfl, ⟨⟨_, rfl, Sx.AV.ge.refl _, rfl⟩, ⟨_, rfl, Sx.AV.ge.refl _, rfl⟩, ⟨_, rfl, Sx.AV.ge.int' _ _ _ (wr_5 (.inl (by simpa using f))), rfl⟩, trivial⟩, trivial, fun i j _ _ h => h, rfl, rfl, rfl⟩
 have f : Sx.finD a = true := by simpa using f
 have w := wr_fin (k := k) ha ha f f
 refine Sx.cond_elim h (fun t1 h => ?_) (fun t1 h => ?_)
 case refine_2 =>
  obtain ⟨rfl, rfl, rfl⟩ := h
  exact ⟨id, [(0, .flt true a), (1, .int true .i64 k), (6, .int true .i64 (wr_0 a a k))], [], fun g hg => rfl, ⟨⟨_, rfl, Sx.AV.ge.refl _, rfl⟩, ⟨_, rfl, Sx.AV.ge.refl _, rfl⟩, ⟨_, rfl, Sx.AV.ge.int' _ _ _ (by rw [w, t1]; rfl), rfl⟩, trivial⟩, trivial, fun i j _ _ h => h, rfl, rfl, rfl⟩
 refine Sx.cond_elim h (fun t3 h => ?_) (fun t3 h => ?_)
 ·obtain ⟨rfl, rfl, rfl⟩ := h
  exact ⟨id, [(0, .flt true a), (1, .int true .i64 k), (6, .int true .i64 (wr_0 a a k))], [], fun g hg => rfl, ⟨⟨_, rfl, Sx.AV.ge.refl _, rfl⟩, ⟨_, rfl, Sx.AV.ge.refl _, rfl⟩, ⟨_, rfl, Sx.AV.ge.int' _ _ _ (by rw [w, t1, t3]; rfl), rfl⟩, trivial⟩, trivial, fun i j _ _ h => h, rfl, rfl, rfl⟩
 refine Sx.cond_elim h (fun t4 h => ?_) (fun t4 h => ?_)
 ·obtain ⟨rfl, rfl, rfl⟩ := h
  exact ⟨id, [(0, .flt true a), (1, .int true .i64 k), (6, .int true .i64 (wr_0 a a k))], [], fun g hg => rfl, ⟨⟨_, rfl, Sx.AV.ge.refl _, rfl⟩, ⟨_, rfl, Sx.AV.ge.refl _, rfl⟩, ⟨_, rfl, Sx.AV.ge.int' _ _ _ (by rw [w, t1, t3, t4]; rfl), rfl⟩, trivial⟩, trivial, fun i j _ _ h => h, rfl, rfl, rfl⟩
 ·obtain ⟨rfl, rfl, rfl⟩ := h
  exact ⟨id, [(0, .flt true a), (1, .int true .i64 k), (6, .int true .i64 (wr_0 a a k))], [], fun g hg => rfl, ⟨⟨_, rfl, Sx.AV.ge.refl _, rfl⟩, ⟨_, rfl, Sx.AV.ge.refl _, rfl⟩, ⟨_, rfl, Sx.AV.ge.int' _ _ _ (by rw [w, t1, t3, t4]; rfl), rfl⟩, trivial⟩, trivial, fun i j _ _ h => h, rfl, rfl, rfl⟩
theorem rl_first (a c : Nat) (k : Int) (ha : a < 18446744073709551616) (hc : c < 18446744073709551616) : Sx.GoesB Try.prog (Sx.nav [1,0] (Sx.bodyOf Try.f7)) Try.f7.ntmps 0 0 0 (Sx.frL [(0, .flt true a), (1, .flt true c), (2, .int true .i64 k)]) (Sx.hpL []) (Sx.Nm [(0, .flt true a), (1, .flt true c), (2, .int true .i64 k), (8, .int true .i64 (wr_0 a c k))] []) := by
 refine (rlB 0 (by omega) a c 0 0 0 k 0 (fun _ => 0)).renL fun e fr' H' h => ?_
 rw [KD_fin, KD_fin] at h
 refine Sx.cond_elim h (fun f h => ?_) (fun f h => ?_)
 case refine_1 =>
  obtain ⟨rfl, rfl, rfl⟩ := h
  exact ⟨id, [(0, .flt true a), (1, .flt true c), (2, .int true .i64 k), (8, .int true .i64 (wr_0 a c k))], [], fun g hg => rfl, ⟨⟨_, rfl, Sx.AV.ge.refl _, rfl⟩, ⟨_, rfl, Sx.AV.ge.refl _, rfl⟩, ⟨_, rfl, Sx.AV.ge.refl _, rfl⟩, ⟨_, rfl, Sx.AV.ge.int' _ _ _ (wr_5 (.inl (by simpa using f))), rfl⟩, trivial⟩, trivial, fun i j _ _ h => h, rfl, rfl, rfl⟩
 refine Sx.cond_elim h (fun f2 h => ?_) (fun f2 h => ?_)
 case refine_1 =>
  obtain ⟨rfl, rfl, rfl⟩ := h
  exact ⟨id, [(0, .flt true a), (1, .flt true c), (2, .int true .i64 k), (8, .int true .i64 (wr_0 a c k))], [], fun g hg => rfl, ⟨⟨_, rfl, Sx.AV.ge.refl _, rfl⟩, ⟨_, rfl, Sx.AV.ge.refl _, rfl⟩, ⟨_, rfl, Sx.AV.ge.refl _, rfl⟩, ⟨_, rfl, Sx.AV.ge.int' _ _ _ (wr_5 (.inr (by simpa using f2))), rfl⟩, trivial⟩, trivial, fun i j _ _ h => h, rfl, rfl, rfl⟩
 have f : Sx.finD a = true := by simpa using f
 have f2 : Sx.finD c = true := by simpa using f2
 have w := wr_fin (k := k) ha hc f f2
 refine Sx.cond_elim h (fun t1 h => ?_) (fun t1 h => ?_)
 case refine_2 =>
  obtain ⟨rfl, rfl, rfl⟩ := h
  exact ⟨id, [(0, .flt true a), (1, .flt true c), (2, .int true .i64 k), (8, .int true .i64 (wr_0 a c k))], [], fun g hg => rfl, ⟨⟨_, rfl, Sx.AV.ge.refl _, rfl⟩, ⟨_, rfl, Sx.AV.ge.refl _, rfl⟩, ⟨_, rfl, Sx.AV.ge.refl _, rfl⟩, ⟨_, rfl, Sx.AV.ge.int' _ _ _ (by rw [w, t1]; rfl), rfl⟩, trivial⟩, trivial, fun i j _ _ h => h, rfl, rfl, rfl⟩
 refine Sx.cond_elim h (fun t2 h => ?_) (fun t2 h => ?_)
 case refine_2 =>
  obtain ⟨rfl, rfl, rfl⟩ := h
  exact ⟨id, [(0, .flt true a), (1, .flt true c), (2, .int true .i64 k), (8, .int true .i64 (wr_0 a c k))], [], fun g hg => rfl, ⟨⟨_, rfl, Sx.AV.ge.refl _, rfl⟩, ⟨_, rfl, Sx.AV.ge.refl _, rfl⟩, ⟨_, rfl, Sx.AV.ge.refl _, rfl⟩, ⟨_, rfl, Sx.AV.ge.int' _ _ _ (by rw [w, t1, t2]; rfl), rfl⟩, trivial⟩, trivial, fun i j _ _ h => h, rfl, rfl, rfl⟩
 refine Sx.cond_elim h (fun t3 h => ?_) (fun t3 h => ?_)
 ·obtain ⟨rfl, rfl, rfl⟩ := h
  exact ⟨id, [(0, .flt true a), (1, .flt true c), (2, .int true .i64 k), (8, .int true .i64 (wr_0 a c k))], [], fun g hg => rfl, ⟨⟨_, rfl, Sx.AV.ge.refl _, rfl⟩, ⟨_, rfl, Sx.AV.ge.refl _, rfl⟩, ⟨_, rfl, Sx.AV.ge.refl _, rfl⟩, ⟨_, rfl, Sx.AV.ge.int' _ _ _ (by rw [w, t1, t2, t3]; rfl), rfl⟩, trivial⟩, trivial, fun i j _ _ h => h, rfl, rfl, rfl⟩
 refine Sx.cond_elim h (fun t4 h => ?_) (fun t4 h => ?_)
 ·obtain ⟨rfl, rfl, rfl⟩ := h
  exact ⟨id, [(0, .flt true a), (1, .flt true c), (2, .int true .i64 k), (8, .int true .i64 (wr_0 a c k))], [], fun g hg => rfl, ⟨⟨_, rfl, Sx.AV.ge.refl _, rfl⟩, ⟨_, rfl, Sx.AV.ge.refl _, rfl⟩, ⟨_, rfl, Sx.AV.ge.refl _, rfl⟩, ⟨_, rfl, Sx.AV.ge.int' _ _ _ (by rw [w, t1, t2, t3, t4]; rfl), rfl⟩, trivial⟩, trivial, fun i j _ _ h => h, rfl, rfl, rfl⟩
 ·obtain ⟨rfl, rfl, rfl⟩ := h
  exact ⟨id, [(0, .flt true a), (1, .flt true c), (2, .int true .i64 k), (8, .int true .i64 (wr_0 a c k))], [], fun g hg => rfl, ⟨⟨_, rfl, Sx.AV.ge.refl _, rfl⟩, ⟨_, rfl, Sx.AV.ge.refl _, rfl⟩, ⟨_, rfl, Sx.AV.ge.refl _, rfl⟩, ⟨_, rfl, Sx.AV.ge.int' _ _ _ (by rw [w, t1, t2, t3, t4]; rfl), rfl⟩, trivial⟩, trivial, fun i j _ _ h => h, rfl, rfl, rfl⟩
theorem ro_is : (Sx.bodyOf Try.f8) = .seq (Sx.nav [0] (Sx.bodyOf Try.f8)) (.seq (Sx.nav [1,0] (Sx.bodyOf Try.f8)) (.seq (Sx.nav [1,1,0] (Sx.bodyOf Try.f8)) (.seq (Sx.nav [1,1,1,0] (Sx.bodyOf Try.f8)) (.seq (Sx.nav [1,1,1,1,0] (Sx.bodyOf Try.f8)) (.seq (.seq (Sx.nav [1,1,1,1,1,0,0] (Sx.bodyOf Try.f8)) (.block 0 (.loop (Sx.nav [1,1,1,1,1,0,1,0,0] (Sx.bodyOf Try.f8))))) (Sx.nav [1,1,1,1,1,1] (Sx.bodyOf Try.f8))))))) := by kernel_rfl
theorem ro_goes (a : Nat) (k : Int) (ha : a < 18446744073709551616) : Sx.GoesB Try.prog (Sx.bodyOf Try.f8) Try.f8.ntmps 0 0 1 (Sx.frameOf [.flt true a, .int true .i64 k] 0 .e) (Sx.hpL []) (fun e fr' H' => e = .ret ∧ ((OE a k ≠ 0 ∧ ∃ u v, fr'.get 4 = some u ∧ fr'.get 5 = some v ∧ Sx.AV.ge u .nils ∧ Sx.AV.ge v (.int true .i64 (OE a k))) ∨ (OE a k = 0 ∧ fr' = Sx.frL [(4, .slc true true ⟨false, 0, 0, 0⟩ (k.toNat)), (5, .int false .i64 0)] ∧ H' = Sx.hpL [(0, .cells true 1 (k.toNat) (.fn fun j => [.flt true (DB a j)]))]))) := by
 rw [ro_is]
 refine Sx.GoesB.seqN (K1 := 0) (roA 0 (by omega) a 0 0 0 0 k 0 (fun _ => 0)) (by omega) ?_
 refine Sx.GoesB.seqN (K1 := 0) (ro_first a k ha) (by omega) ?_
 refine Sx.GoesB.seq (K1 := 0) (by omega) ((roC 0 (by omega) a 0 0 0 0 k (wr_0 a a k) (fun _ => 0)).mono fun e fr' H' h => ?_)
 refine Sx.cond_elim h (fun he h => ?_) (fun he h => ?_)
 case refine_2 =>
  have he := of_decide_eq_false he
  rw [OE_0 he]
  obtain ⟨rfl, rfl, rfl⟩ := h
  exact ⟨rfl, .inl ⟨he, _, _, rfl, rfl, Sx.AV.ge.refl _, Sx.AV.ge.refl _⟩⟩
 have he := of_decide_eq_true he
 obtain ⟨_, _, k1, k2⟩ := wr_ok he
 have ps := wr_pos ha he
 have nn := Sx.finD_notnan (wr_ok he).1
 obtain ⟨n, rfl⟩ : ∃ n : Nat, k = n := ⟨k.toNat, by omega⟩
 rw [OE_1 he, Int.toNat_natCast]
 obtain ⟨rfl, rfl, rfl⟩ := h
 refine Sx.GoesB.seqN (K1 := 0) (roD 0 (by omega) a 0 0 n 0 0 0 (fun _ => 0)) (by omega) ?_
 refine Sx.GoesB.phantom 7 1 (fun j => [.flt true (DB a j)]) rfl (by omega) (by omega) ?_
 refine Sx.GoesB.weakL (fl := [(0, .flt true a), (1, .int true .i64 n), (7, .slc true true ⟨false, 0, 0, 0⟩ (0))]) (bl := [(0, .cells true 1 (0) (.fn fun j => [.flt true (DB a j)]))]) ⟨(Sx.re rfl), (Sx.re rfl), (Sx.re rfl), trivial⟩ ⟨(Sx.hs rfl), trivial⟩ ?_
 refine Sx.GoesB.seqN (K1 := 1) (roE 0 (by omega) a 0 0 n 0 0 0 (DB a)) (by omega) ?_
 refine Sx.GoesB.seq (K1 := 1) (by omega) (Sx.GoesB.seqN (K1 := 1) (Sx.GoesB.toN (F' := [(1, .int true .i64 n), (7, .slc true true ⟨false, 0, 0, 0⟩ (0)), (8, .flt true (DB a (0))), (9, .int true .i64 ((0 : Nat) : Int))]) (H1' := [(0, .cells true 1 (0) (.fn fun j => [.flt true (DB a j)]))]) (roF 0 (by omega) a 0 a n 0 0 0 (DB a)) ⟨(Sx.re rfl), (Sx.re rfl), (Sx.re rfl), (Sx.ri rfl), trivial⟩ ⟨(Sx.hs rfl), trivial⟩) (by omega) ?_)
 refine (Sx.GoesB.count n (fun i => [(1, .int true .i64 n), (7, .slc true true ⟨false, 0, 0, 0⟩ (i)), (8, .flt true (DB a (i))), (9, .int true .i64 ((i : Nat) : Int))]) (fun i => [(0, .cells true 1 (i) (.fn fun j => [.flt true (DB a j)]))]) [(7, .slc true true ⟨false, 0, 0, 0⟩ (n))] [(0, .cells true 1 (n) (.fn fun j => [.flt true (DB a j)]))] (fun i => okD a i = true) (fun fr H => ∃ u v, fr.get 4 = some u ∧ fr.get 5 = some v ∧ Sx.AV.ge u .nils ∧ Sx.AV.ge v (.int true .i64 6) ∧ okD a n = false) rfl (fun i hi hg => ?_)).mono fun e fr' H' h => ?_
 ·have q := DB_ok ps nn i hg
  refine (roL 0 (by omega) a 0 (DB a i) n i 0 0 (DB a) (fun _ _ => by omega) (fun _ _ => by omega) (fun _ _ => by omega)).renL fun e fr' H' h => ?_
  rw [gt_max q.1 q.2] at h
  refine Sx.cond_elim h (fun t h => ?_) (fun t h => ?_)
  ·have hlt : i < n := by have := of_decide_eq_true t; omega
   refine Sx.cond_elim h (fun t2 h => ?_) (fun t2 h => ?_)
   ·obtain ⟨rfl, rfl, rfl⟩ := h
    exact ⟨id, [(4, .nils), (5, .int false .i64 6)], [], fun g hg => rfl, ⟨⟨_, rfl, Sx.AV.ge.refl _, rfl⟩, ⟨_, rfl, Sx.AV.ge.refl _, rfl⟩, trivial⟩, trivial, fun i j _ _ h => h, .inr (.inr ⟨rfl, _, _, rfl, rfl, Sx.AV.ge.refl _, Sx.AV.ge.int _ _ _ _, okD_not hlt (by simpa using t2)⟩)⟩
   ·obtain ⟨rfl, rfl, rfl⟩ := h
    exact ⟨fun g => if g = 0 then 2 else g, [(1, .int true .i64 n), (7, .slc true true ⟨false, 0, 0, 0⟩ (i + 1)), (8, .flt true (DB a (i + 1))), (9, .int true .i64 ((i + 1 : Nat) : Int))], [(0, .cells true 1 (i + 1) (.fn fun j => [.flt true (DB a j)]))], fun g hg => absurd hg (Nat.not_lt_zero g), ⟨⟨_, rfl, Sx.AV.ge.refl _, rfl⟩, ⟨_, rfl, Sx.AV.ge.refl _, rfl⟩, ⟨_, rfl, Sx.AV.ge.flt' _ _ (Sx.fmul_comm _ _), rfl⟩, ⟨_, rfl, Sx.AV.ge.int _ _ _ _, rfl⟩, trivial⟩, ⟨⟨_, rfl, ⟨rfl, rfl, rfl, fun j hj => row_i (DB a) _ i j rfl hj⟩, fun j hj u hu => low_f hu, by omega⟩, trivial⟩, sg2_inj, .inl ⟨rfl, hlt, by unfold okD; rw [hg, show Sx.finD (DB a i) = true by simpa using t2]; rfl, rfl, rfl⟩⟩
  ·obtain rfl : n = i := by have := of_decide_eq_false t; omega
   obtain ⟨rfl, rfl, rfl⟩ := h
   exact ⟨id, [(7, .slc true true ⟨false, 0, 0, 0⟩ (n))], [(0, .cells true 1 (n) (.fn fun j => [.flt true (DB a j)]))], fun g hg => rfl, ⟨⟨_, rfl, Sx.AV.ge.refl _, rfl⟩, trivial⟩, ⟨⟨_, rfl, Sx.SameC.refl _, fun j hj u hu => low_f hu, by omega⟩, trivial⟩, fun i j _ _ h => h, .inr (.inl ⟨rfl, hg, rfl, rfl⟩)⟩
 ·rcases h with ⟨rfl, hg, rfl, rfl⟩ | ⟨rfl, u, v, g1, g2, g3, g4, hg⟩
  ·refine (roZ 0 (by omega) a 0 0 n 0 0 0 (DB a)).mono fun e fr' H' ⟨e1, e2, e3⟩ => ?_
   subst e1 e2 e3
   rw [hg]
   exact ⟨rfl, .inr ⟨rfl, rfl, rfl⟩⟩
  ·rw [hg]
   exact ⟨rfl, .inl ⟨by decide, u, v, g1, g2, g3, g4⟩⟩

theorem of1 {p : Nat → Prop} (h : p 0) : ∀ j, j < 1 → p j := fun j hj => by
 obtain rfl : j = 0 := by omega
 exact h
theorem rl_is : (Sx.bodyOf Try.f7) = .seq (Sx.nav [0] (Sx.bodyOf Try.f7)) (.seq (Sx.nav [1,0] (Sx.bodyOf Try.f7)) (.seq (Sx.nav [1,1,0] (Sx.bodyOf Try.f7)) (.seq (Sx.nav [1,1,1,0] (Sx.bodyOf Try.f7)) (.seq (.seq (Sx.nav [1,1,1,1,0,0] (Sx.bodyOf Try.f7)) (.block 0 (.loop (Sx.nav [1,1,1,1,0,1,0,0] (Sx.bodyOf Try.f7))))) (Sx.nav [1,1,1,1,1] (Sx.bodyOf Try.f7)))))) := by kernel_rfl
theorem LV_l {a c n i : Nat} (h : i ≠ 0) (h2 : i + 1 = n) : LV a c n i = c := by unfold LV; rw [Sx.beq_dec, Sx.beq_dec, decide_eq_false h, decide_eq_true h2]; rfl
theorem LV_m {a c n i : Nat} (h : i ≠ 0) (h2 : i + 1 ≠ n) : LV a c n i = MV a c n i := by unfold LV; rw [Sx.beq_dec, Sx.beq_dec, decide_eq_false h, decide_eq_false h2]; rfl
theorem rl_goes (a c : Nat) (k : Int) (ha : a < 18446744073709551616) (hc : c < 18446744073709551616) : Sx.GoesB Try.prog (Sx.bodyOf Try.f7) Try.f7.ntmps 0 0 1 (Sx.frameOf [.flt true a, .flt true c, .int true .i64 k] 0 .e) (Sx.hpL []) (fun e fr' H' => e = .ret ∧ ((wr_0 a c k ≠ 0 ∧ ∃ u v, fr'.get 6 = some u ∧ fr'.get 7 = some v ∧ Sx.AV.ge u .nils ∧ Sx.AV.ge v (.int true .i64 (wr_0 a c k))) ∨ (wr_0 a c k = 0 ∧ fr' = Sx.frL [(6, .slc true true ⟨false, 0, 0, 0⟩ (k.toNat)), (7, .int false .i64 0)] ∧ H' = Sx.hpL [(0, .cells true 1 (k.toNat) (.fn fun j => [.flt true (LV a c k.toNat j)]))]))) := by
 rw [rl_is]
 refine Sx.GoesB.seqN (K1 := 0) (rlA 0 (by omega) a c 0 0 0 k 0 (fun _ => 0)) (by omega) ?_
 refine Sx.GoesB.seqN (K1 := 0) (rl_first a c k ha hc) (by omega) ?_
 refine Sx.GoesB.seq (K1 := 0) (by omega) ((rlC 0 (by omega) a c 0 0 0 k (wr_0 a c k) (fun _ => 0)).mono fun e fr' H' h => ?_)
 refine Sx.cond_elim h (fun he h => ?_) (fun he h => ?_)
 case refine_2 =>
  have he := of_decide_eq_false he
  obtain ⟨rfl, rfl, rfl⟩ := h
  exact ⟨rfl, .inl ⟨he, _, _, rfl, rfl, Sx.AV.ge.refl _, Sx.AV.ge.refl _⟩⟩
 have he := of_decide_eq_true he
 obtain ⟨_, _, k1, k2⟩ := wr_ok he
 obtain ⟨n, rfl⟩ : ∃ n : Nat, k = n := ⟨k.toNat, by omega⟩
 rw [Int.toNat_natCast]
 obtain ⟨rfl, rfl, rfl⟩ := h
 refine Sx.GoesB.seqN (K1 := 1) (rlD 0 (by omega) a c 0 n 0 0 0 (fun _ => 0)) (by omega) ?_
 refine Sx.GoesB.weakGL (fl := [(0, .flt true a), (1, .flt true c), (2, .int true .i64 n), (9, .slc true true ⟨false, 0, 0, 0⟩ (1))]) (bl := [(0, .cells true 1 (1) (.fn fun j => [.flt true (LV a c n j)]))]) ⟨⟨_, rfl, Sx.AV.ge.refl _⟩, ⟨_, rfl, Sx.AV.ge.refl _⟩, ⟨_, rfl, Sx.AV.ge.refl _⟩, ⟨_, rfl, Sx.AV.ge.slc _ _ _ rfl⟩, trivial⟩ ⟨⟨_, rfl, rfl, rfl, rfl, of1 (p := fun j => Sx.RowGe ((Sx.Cont.lit [Sx.AV.flt false 0] (.n .e (some [.flt true a]) .e)).row j) [.flt true (LV a c n j)]) ⟨Sx.AV.ge.refl _, rfl, trivial⟩⟩, trivial⟩ ?_
 refine Sx.GoesB.seqN (K1 := 1) (F1 := [(9, .slc true true ⟨false, 0, 0, 0⟩ (n))]) (H1 := [(0, .cells true 1 (n) (.fn fun j => [.flt true (LV a c n j)]))]) (Sx.GoesB.seqN (K1 := 1) (Sx.GoesB.toN (F' := [(0, .flt true a), (1, .flt true c), (2, .int true .i64 n), (9, .slc true true ⟨false, 0, 0, 0⟩ (0 + 1)), (10, .int true .i64 ((0 + 1 : Nat) : Int))]) (H1' := [(0, .cells true 1 (0 + 1) (.fn fun j => [.flt true (LV a c n j)]))]) (rlE 0 (by omega) a c 0 n 1 0 0 (LV a c n)) ⟨(Sx.re rfl), (Sx.re rfl), (Sx.re rfl), (Sx.re rfl), (Sx.ri rfl), trivial⟩ ⟨(Sx.hs rfl), trivial⟩) (by omega) ?_) (by omega) ?_
 ·refine (Sx.GoesB.count (n - 1) (fun i => [(0, .flt true a), (1, .flt true c), (2, .int true .i64 n), (9, .slc true true ⟨false, 0, 0, 0⟩ (i + 1)), (10, .int true .i64 ((i + 1 : Nat) : Int))]) (fun i => [(0, .cells true 1 (i + 1) (.fn fun j => [.flt true (LV a c n j)]))]) [(9, .slc true true ⟨false, 0, 0, 0⟩ (n))] [(0, .cells true 1 (n) (.fn fun j => [.flt true (LV a c n j)]))] (fun _ => True) (fun _ _ => False) trivial (fun i hi _ => ?_)).mono fun e fr' H' h => ?_
  ·refine (rlL 0 (by omega) a c 0 n (i + 1) 0 0 (LV a c n) (fun _ => by omega) (fun _ _ => by omega) (fun _ _ => by omega) (fun _ => by omega) (fun _ _ => by omega) (fun _ _ => by omega)).renL fun e fr' H' h => ?_
   refine Sx.cond_elim h (fun t h => ?_) (fun t h => ?_)
   ·have hlt : i + 1 < n := by have := of_decide_eq_true t; omega
    refine Sx.cond_elim h (fun t2 h => ?_) (fun t2 h => ?_)
    ·have h2 : i + 1 + 1 ≠ n := by have := of_decide_eq_true t2; omega
     obtain ⟨rfl, rfl, rfl⟩ := h
     exact ⟨fun g => if g = 0 then 2 else g, [(0, .flt true a), (1, .flt true c), (2, .int true .i64 n), (9, .slc true true ⟨false, 0, 0, 0⟩ (i + 1 + 1)), (10, .int true .i64 ((i + 1 + 1 : Nat) : Int))], [(0, .cells true 1 (i + 1 + 1) (.fn fun j => [.flt true (LV a c n j)]))], fun g hg => absurd hg (Nat.not_lt_zero g), ⟨⟨_, rfl, Sx.AV.ge.refl _, rfl⟩, ⟨_, rfl, Sx.AV.ge.refl _, rfl⟩, ⟨_, rfl, Sx.AV.ge.refl _, rfl⟩, ⟨_, rfl, Sx.AV.ge.refl _, rfl⟩, ⟨_, rfl, Sx.AV.ge.int _ _ _ _, rfl⟩, trivial⟩, ⟨⟨_, rfl, ⟨rfl, rfl, rfl, fun j hj => row_i (LV a c n) _ (i + 1) j (LV_m (by omega) h2) hj⟩, fun j hj u hu => low_f hu, by omega⟩, trivial⟩, sg2_inj, .inl ⟨rfl, by omega, trivial, rfl, rfl⟩⟩
    ·have h2 : i + 1 + 1 = n := by have := of_decide_eq_false t2; omega
     obtain ⟨rfl, rfl, rfl⟩ := h
     exact ⟨fun g => if g = 0 then 2 else g, [(0, .flt true a), (1, .flt true c), (2, .int true .i64 n), (9, .slc true true ⟨false, 0, 0, 0⟩ (i + 1 + 1)), (10, .int true .i64 ((i + 1 + 1 : Nat) : Int))], [(0, .cells true 1 (i + 1 + 1) (.fn fun j => [.flt true (LV a c n j)]))], fun g hg => absurd hg (Nat.not_lt_zero g), ⟨⟨_, rfl, Sx.AV.ge.refl _, rfl⟩, ⟨_, rfl, Sx.AV.ge.refl _, rfl⟩, ⟨_, rfl, Sx.AV.ge.refl _, rfl⟩, ⟨_, rfl, Sx.AV.ge.refl _, rfl⟩, ⟨_, rfl, Sx.AV.ge.int _ _ _ _, rfl⟩, trivial⟩, ⟨⟨_, rfl, ⟨rfl, rfl, rfl, fun j hj => row_i (LV a c n) _ (i + 1) j (LV_l (by omega) h2) hj⟩, fun j hj u hu => low_f hu, by omega⟩, trivial⟩, sg2_inj, .inl ⟨rfl, by omega, trivial, rfl, rfl⟩⟩
   ·have e1 : n = i + 1 := by have := of_decide_eq_false t; omega
    subst e1
    obtain ⟨rfl, rfl, rfl⟩ := h
    exact ⟨id, [(9, .slc true true ⟨false, 0, 0, 0⟩ (i + 1))], [(0, .cells true 1 (i + 1) (.fn fun j => [.flt true (LV a c (i + 1) j)]))], fun g hg => rfl, ⟨⟨_, rfl, Sx.AV.ge.refl _, rfl⟩, trivial⟩, ⟨⟨_, rfl, Sx.SameC.refl _, fun j hj u hu => low_f hu, by omega⟩, trivial⟩, fun i j _ _ h => h, .inr (.inl ⟨rfl, trivial, rfl, rfl⟩)⟩
  ·rcases h with ⟨e1, _, e2, e3⟩ | ⟨_, h⟩
   ·exact ⟨e1, e2, e3⟩
   ·exact h.elim
 refine (rlZ 0 (by omega) a c 0 n 0 0 0 (LV a c n)).mono fun e fr' H' ⟨e1, e2, e3⟩ => ?_
 subst e1 e2 e3
 exact ⟨rfl, .inr ⟨he, rfl, rfl⟩⟩

noncomputable def linS : List Sx.AV → Sx.M Sx.AV
 | [.flt s a, .flt t c, .int u .i64 k] => (Sx.M.dec (decide (wr_0 a c k = 0))).andThen fun d => bif d then (Sx.M.newB (.cells true 1 k.toNat (.fn fun j => [.flt true (LV a c k.toNat j)]))).andThen fun N => Sx.M.ret (.tup [.slc true true ⟨false, N, 0, 0⟩ k.toNat, .int true .i64 0]) else Sx.M.ret (.tup [.nils, .int true .i64 (wr_0 a c k)])
 | _ => Sx.M.no
theorem linS_tch : ∀ args, Sx.Tch (linS args) := by
 intro args
 unfold linS
 split
 ·exact (Sx.Tch.dec _).andThen fun d => Sx.Tch.cond ((Sx.Tch.newB _).andThen fun _ => Sx.Tch.ret _) (Sx.Tch.ret _)
 ·exact Sx.Tch.no
theorem linS_ok : ∀ args v g g', linS args g = .done v g' → Sx.CallIs Try.prog 5 args v g g' := by
 intro args v g g' h
 unfold linS at h
 split at h
 ·rename_i s a t c u k
  
  obtain ⟨d, g4, a4, h4⟩ := Sx.done_of h
  have k4 := Sx.dec_done a4
  have hrep : ∀ N μ (cs : List Value), Sx.Reps N μ [.flt s a, .flt t c, .int u .i64 k] cs → Sx.Reps 0 (Sx.vwMM μ []) [.flt true a, .flt true c, .int true .i64 k] cs := fun N μ cs hcs => by
   simp only [Sx.Reps, Sx.Rep] at hcs ⊢; exact hcs
  cases d with
  | true =>
   rw [cond_true] at h4
   obtain ⟨N, g5, a5, h5⟩ := Sx.done_of h4
   obtain ⟨rfl, rfl⟩ := Sx.ret_done h5
   cases a5
   rw [k4.2.1]
   refine Sx.reads (c := (Sx.bodyOf Try.f5)) Try.func5 (by kernel_rfl) (by kernel_rfl) k4 [] (fun hp v hv => by cases hv) (argsC := [.flt true a, .flt true c, .int true .i64 k]) (fun hp => hrep) (nms := [0]) (bs := [.cells true 1 k.toNat (.fn fun j => [.flt true (LV a c k.toNat j)])]) (K' := 1) (fun hp => ?_) ((Sx.Named.tup k.toNat 0).low _) ((Sx.Named.tup k.toNat 0).ins _) (by rw [k4.1]; rfl) rfl id
   refine (ln_goes a c k).mono fun e fr' H' h => ?_
   have he := of_decide_eq_true hp
   obtain ⟨rfl, ⟨e1, _⟩ | ⟨_, rfl, rfl⟩⟩ := h
   ·exact (e1 he).elim
   ·exact ⟨.inl rfl, _, _, Sx.res2 (t := 6) (t' := 7) (by kernel_rfl) rfl rfl, trivial, by
     rw [(Sx.Named.tup k.toNat 0).ren]
     have e4 : Sx.AV.ge (Sx.packA [.slc true true ⟨false, 0, 0, 0⟩ k.toNat, .int false .i64 0]) (.tup [.slc true true ⟨false, 0, 0, 0⟩ k.toNat, .int true .i64 0]) := Sx.AV.ge.tup2 (Sx.AV.ge.refl _) (Sx.AV.ge.int _ _ _ _)
     simpa using e4, Sx.news1 rfl (Sx.SameC.refl _) rfl (fun j hj u hu => low_f hu)⟩
  | false =>
   rw [cond_false] at h4
   obtain ⟨rfl, rfl⟩ := Sx.ret_done h4
   refine Sx.reads (c := (Sx.bodyOf Try.f5)) Try.func5 (by kernel_rfl) (by kernel_rfl) k4 [] (fun hp v hv => by cases hv) (argsC := [.flt true a, .flt true c, .int true .i64 k]) (fun hp => hrep) (nms := []) (bs := []) (K' := 1) (fun hp => ?_) (by simp [Sx.AV.low, Sx.lows]) (by simp [Sx.AV.inS, Sx.insS]) (by rw [k4.1]; rfl) (by rw [k4.2.1]; rfl) id
   refine (ln_goes a c k).mono fun e fr' H' h => ?_
   have he := of_decide_eq_false hp
   obtain ⟨rfl, ⟨_, u, w, e2, e3, e4, e5⟩ | ⟨e1, _⟩⟩ := h
   ·exact ⟨.inl rfl, _, _, Sx.res2 (t := 6) (t' := 7) (by kernel_rfl) e2 e3, trivial, Sx.AV.ge.tup2 e4 e5, Sx.news0⟩
   ·exact (he e1).elim
 ·exact (Sx.no_done h).elim
noncomputable def octS : List Sx.AV → Sx.M Sx.AV
 | [.flt s a, .int u .i64 k] => (Sx.M.dec (decide (OE a k = 0))).andThen fun d => bif d then (Sx.M.newB (.cells true 1 k.toNat (.fn fun j => [.flt true (DB a j)]))).andThen fun N => Sx.M.ret (.tup [.slc true true ⟨false, N, 0, 0⟩ k.toNat, .int true .i64 0]) else Sx.M.ret (.tup [.nils, .int true .i64 (OE a k)])
 | _ => Sx.M.no
theorem octS_tch : ∀ args, Sx.Tch (octS args) := by
 intro args
 unfold octS
 split
 ·exact (Sx.Tch.dec _).andThen fun d => Sx.Tch.cond ((Sx.Tch.newB _).andThen fun _ => Sx.Tch.ret _) (Sx.Tch.ret _)
 ·exact Sx.Tch.no
theorem octS_ok : ∀ args v g g', octS args g = .done v g' → Sx.CallIs Try.prog 6 args v g g' := by
 intro args v g g' h
 unfold octS at h
 split at h
 ·rename_i s a u k
  
  obtain ⟨d, g4, a4, h4⟩ := Sx.done_of h
  have k4 := Sx.dec_done a4
  have hrep : ∀ N μ (cs : List Value), Sx.Reps N μ [.flt s a, .int u .i64 k] cs → Sx.Reps 0 (Sx.vwMM μ []) [.flt true a, .int true .i64 k] cs := fun N μ cs hcs => by
   simp only [Sx.Reps, Sx.Rep] at hcs ⊢; exact hcs
  cases d with
  | true =>
   rw [cond_true] at h4
   obtain ⟨N, g5, a5, h5⟩ := Sx.done_of h4
   obtain ⟨rfl, rfl⟩ := Sx.ret_done h5
   cases a5
   rw [k4.2.1]
   refine Sx.reads (c := (Sx.bodyOf Try.f6)) Try.func6 (by kernel_rfl) (by kernel_rfl) k4 [] (fun hp v hv => by cases hv) (argsC := [.flt true a, .int true .i64 k]) (fun hp => hrep) (nms := [0]) (bs := [.cells true 1 k.toNat (.fn fun j => [.flt true (DB a j)])]) (K' := 1) (fun hp => ?_) ((Sx.Named.tup k.toNat 0).low _) ((Sx.Named.tup k.toNat 0).ins _) (by rw [k4.1]; rfl) rfl id
   refine (oc_goes a k).mono fun e fr' H' h => ?_
   have he := of_decide_eq_true hp
   obtain ⟨rfl, ⟨e1, _⟩ | ⟨_, rfl, rfl⟩⟩ := h
   ·exact (e1 he).elim
   ·exact ⟨.inl rfl, _, _, Sx.res2 (t := 4) (t' := 5) (by kernel_rfl) rfl rfl, trivial, by
     rw [(Sx.Named.tup k.toNat 0).ren]
     have e4 : Sx.AV.ge (Sx.packA [.slc true true ⟨false, 0, 0, 0⟩ k.toNat, .int false .i64 0]) (.tup [.slc true true ⟨false, 0, 0, 0⟩ k.toNat, .int true .i64 0]) := Sx.AV.ge.tup2 (Sx.AV.ge.refl _) (Sx.AV.ge.int _ _ _ _)
     simpa using e4, Sx.news1 rfl (Sx.SameC.refl _) rfl (fun j hj u hu => low_f hu)⟩
  | false =>
   rw [cond_false] at h4
   obtain ⟨rfl, rfl⟩ := Sx.ret_done h4
   refine Sx.reads (c := (Sx.bodyOf Try.f6)) Try.func6 (by kernel_rfl) (by kernel_rfl) k4 [] (fun hp v hv => by cases hv) (argsC := [.flt true a, .int true .i64 k]) (fun hp => hrep) (nms := []) (bs := []) (K' := 1) (fun hp => ?_) (by simp [Sx.AV.low, Sx.lows]) (by simp [Sx.AV.inS, Sx.insS]) (by rw [k4.1]; rfl) (by rw [k4.2.1]; rfl) id
   refine (oc_goes a k).mono fun e fr' H' h => ?_
   have he := of_decide_eq_false hp
   obtain ⟨rfl, ⟨_, u, w, e2, e3, e4, e5⟩ | ⟨e1, _⟩⟩ := h
   ·exact ⟨.inl rfl, _, _, Sx.res2 (t := 4) (t' := 5) (by kernel_rfl) e2 e3, trivial, Sx.AV.ge.tup2 e4 e5, Sx.news0⟩
   ·exact (he e1).elim
 ·exact (Sx.no_done h).elim
noncomputable def rlinS : List Sx.AV → Sx.M Sx.AV
 | [.flt s a, .flt t c, .int u .i64 k] => (Sx.M.req (a < 18446744073709551616 ∧ c < 18446744073709551616)).andThen fun _ => (Sx.M.dec (decide (wr_0 a c k = 0))).andThen fun d => bif d then (Sx.M.newB (.cells true 1 k.toNat (.fn fun j => [.flt true (LV a c k.toNat j)]))).andThen fun N => Sx.M.ret (.tup [.slc true true ⟨false, N, 0, 0⟩ k.toNat, .int true .i64 0]) else Sx.M.ret (.tup [.nils, .int true .i64 (wr_0 a c k)])
 | _ => Sx.M.no
theorem rlinS_tch : ∀ args, Sx.Tch (rlinS args) := by
 intro args
 unfold rlinS
 split
 ·exact (Sx.Tch.req _).andThen fun _ => (Sx.Tch.dec _).andThen fun d => Sx.Tch.cond ((Sx.Tch.newB _).andThen fun _ => Sx.Tch.ret _) (Sx.Tch.ret _)
 ·exact Sx.Tch.no
theorem rlinS_ok : ∀ args v g g', rlinS args g = .done v g' → Sx.CallIs Try.prog 7 args v g g' := by
 intro args v g g' h
 unfold rlinS at h
 split at h
 ·rename_i s a t c u k
  obtain ⟨_, g0, a0, h⟩ := Sx.done_of h
  obtain ⟨d, g4, a4, h4⟩ := Sx.done_of h
  have k4 := (Sx.req_done a0).trans (Sx.dec_done a4)
  have hrep : ∀ N μ (cs : List Value), Sx.Reps N μ [.flt s a, .flt t c, .int u .i64 k] cs → Sx.Reps 0 (Sx.vwMM μ []) [.flt true a, .flt true c, .int true .i64 k] cs := fun N μ cs hcs => by
   simp only [Sx.Reps, Sx.Rep] at hcs ⊢; exact hcs
  cases d with
  | true =>
   rw [cond_true] at h4
   obtain ⟨N, g5, a5, h5⟩ := Sx.done_of h4
   obtain ⟨rfl, rfl⟩ := Sx.ret_done h5
   cases a5
   rw [k4.2.1]
   refine Sx.reads (c := (Sx.bodyOf Try.f7)) Try.func7 (by kernel_rfl) (by kernel_rfl) k4 [] (fun hp v hv => by cases hv) (argsC := [.flt true a, .flt true c, .int true .i64 k]) (fun hp => hrep) (nms := [0]) (bs := [.cells true 1 k.toNat (.fn fun j => [.flt true (LV a c k.toNat j)])]) (K' := 1) (fun hp => ?_) ((Sx.Named.tup k.toNat 0).low _) ((Sx.Named.tup k.toNat 0).ins _) (by rw [k4.1]; rfl) rfl id
   refine (rl_goes a c k hp.1.1 hp.1.2).mono fun e fr' H' h => ?_
   have he := of_decide_eq_true hp.2
   obtain ⟨rfl, ⟨e1, _⟩ | ⟨_, rfl, rfl⟩⟩ := h
   ·exact (e1 he).elim
   ·exact ⟨.inl rfl, _, _, Sx.res2 (t := 6) (t' := 7) (by kernel_rfl) rfl rfl, trivial, by
     rw [(Sx.Named.tup k.toNat 0).ren]
     have e4 : Sx.AV.ge (Sx.packA [.slc true true ⟨false, 0, 0, 0⟩ k.toNat, .int false .i64 0]) (.tup [.slc true true ⟨false, 0, 0, 0⟩ k.toNat, .int true .i64 0]) := Sx.AV.ge.tup2 (Sx.AV.ge.refl _) (Sx.AV.ge.int _ _ _ _)
     simpa using e4, Sx.news1 rfl (Sx.SameC.refl _) rfl (fun j hj u hu => low_f hu)⟩
  | false =>
   rw [cond_false] at h4
   obtain ⟨rfl, rfl⟩ := Sx.ret_done h4
   refine Sx.reads (c := (Sx.bodyOf Try.f7)) Try.func7 (by kernel_rfl) (by kernel_rfl) k4 [] (fun hp v hv => by cases hv) (argsC := [.flt true a, .flt true c, .int true .i64 k]) (fun hp => hrep) (nms := []) (bs := []) (K' := 1) (fun hp => ?_) (by simp [Sx.AV.low, Sx.lows]) (by simp [Sx.AV.inS, Sx.insS]) (by rw [k4.1]; rfl) (by rw [k4.2.1]; rfl) id
   refine (rl_goes a c k hp.1.1 hp.1.2).mono fun e fr' H' h => ?_
   have he := of_decide_eq_false hp.2
   obtain ⟨rfl, ⟨_, u, w, e2, e3, e4, e5⟩ | ⟨e1, _⟩⟩ := h
   ·exact ⟨.inl rfl, _, _, Sx.res2 (t := 6) (t' := 7) (by kernel_rfl) e2 e3, trivial, Sx.AV.ge.tup2 e4 e5, Sx.news0⟩
   ·exact (he e1).elim
 ·exact (Sx.no_done h).elim
noncomputable def roctS : List Sx.AV → Sx.M Sx.AV
 | [.flt s a, .int u .i64 k] => (Sx.M.req (a < 18446744073709551616)).andThen fun _ => (Sx.M.dec (decide (OE a k = 0))).andThen fun d => bif d then (Sx.M.newB (.cells true 1 k.toNat (.fn fun j => [.flt true (DB a j)]))).andThen fun N => Sx.M.ret (.tup [.slc true true ⟨false, N, 0, 0⟩ k.toNat, .int true .i64 0]) else Sx.M.ret (.tup [.nils, .int true .i64 (OE a k)])
 | _ => Sx.M.no
theorem roctS_tch : ∀ args, Sx.Tch (roctS args) := by
 intro args
 unfold roctS
 split
 ·exact (Sx.Tch.req _).andThen fun _ => (Sx.Tch.dec _).andThen fun d => Sx.Tch.cond ((Sx.Tch.newB _).andThen fun _ => Sx.Tch.ret _) (Sx.Tch.ret _)
 ·exact Sx.Tch.no
theorem roctS_ok : ∀ args v g g', roctS args g = .done v g' → Sx.CallIs Try.prog 8 args v g g' := by
 intro args v g g' h
 unfold roctS at h
 split at h
 ·rename_i s a u k
  obtain ⟨_, g0, a0, h⟩ := Sx.done_of h
  obtain ⟨d, g4, a4, h4⟩ := Sx.done_of h
  have k4 := (Sx.req_done a0).trans (Sx.dec_done a4)
  have hrep : ∀ N μ (cs : List Value), Sx.Reps N μ [.flt s a, .int u .i64 k] cs → Sx.Reps 0 (Sx.vwMM μ []) [.flt true a, .int true .i64 k] cs := fun N μ cs hcs => by
   simp only [Sx.Reps, Sx.Rep] at hcs ⊢; exact hcs
  cases d with
  | true =>
   rw [cond_true] at h4
   obtain ⟨N, g5, a5, h5⟩ := Sx.done_of h4
   obtain ⟨rfl, rfl⟩ := Sx.ret_done h5
   cases a5
   rw [k4.2.1]
   refine Sx.reads (c := (Sx.bodyOf Try.f8)) Try.func8 (by kernel_rfl) (by kernel_rfl) k4 [] (fun hp v hv => by cases hv) (argsC := [.flt true a, .int true .i64 k]) (fun hp => hrep) (nms := [0]) (bs := [.cells true 1 k.toNat (.fn fun j => [.flt true (DB a j)])]) (K' := 1) (fun hp => ?_) ((Sx.Named.tup k.toNat 0).low _) ((Sx.Named.tup k.toNat 0).ins _) (by rw [k4.1]; rfl) rfl id
   refine (ro_goes a k hp.1).mono fun e fr' H' h => ?_
   have he := of_decide_eq_true hp.2
   obtain ⟨rfl, ⟨e1, _⟩ | ⟨_, rfl, rfl⟩⟩ := h
   ·exact (e1 he).elim
   ·exact ⟨.inl rfl, _, _, Sx.res2 (t := 4) (t' := 5) (by kernel_rfl) rfl rfl, trivial, by
     rw [(Sx.Named.tup k.toNat 0).ren]
     have e4 : Sx.AV.ge (Sx.packA [.slc true true ⟨false, 0, 0, 0⟩ k.toNat, .int false .i64 0]) (.tup [.slc true true ⟨false, 0, 0, 0⟩ k.toNat, .int true .i64 0]) := Sx.AV.ge.tup2 (Sx.AV.ge.refl _) (Sx.AV.ge.int _ _ _ _)
     simpa using e4, Sx.news1 rfl (Sx.SameC.refl _) rfl (fun j hj u hu => low_f hu)⟩
  | false =>
   rw [cond_false] at h4
   obtain ⟨rfl, rfl⟩ := Sx.ret_done h4
   refine Sx.reads (c := (Sx.bodyOf Try.f8)) Try.func8 (by kernel_rfl) (by kernel_rfl) k4 [] (fun hp v hv => by cases hv) (argsC := [.flt true a, .int true .i64 k]) (fun hp => hrep) (nms := []) (bs := []) (K' := 1) (fun hp => ?_) (by simp [Sx.AV.low, Sx.lows]) (by simp [Sx.AV.inS, Sx.insS]) (by rw [k4.1]; rfl) (by rw [k4.2.1]; rfl) id
   refine (ro_goes a k hp.1).mono fun e fr' H' h => ?_
   have he := of_decide_eq_false hp.2
   obtain ⟨rfl, ⟨_, u, w, e2, e3, e4, e5⟩ | ⟨e1, _⟩⟩ := h
   ·exact ⟨.inl rfl, _, _, Sx.res2 (t := 4) (t' := 5) (by kernel_rfl) e2 e3, trivial, Sx.AV.ge.tup2 e4 e5, Sx.news0⟩
   ·exact (he e1).elim
 ·exact (Sx.no_done h).elim

/-- a row of one float -/
def FRow (r : List Sx.AV) : Prop := ∃ s x, r = [.flt s x]
def flo : List Sx.AV → Nat
 | [.flt _ x] => x
 | _ => 0
theorem FRow.ge {r : List Sx.AV} (h : FRow r) : Sx.RowGe r [.flt true (flo r)] := by
 obtain ⟨s, x, rfl⟩ := h
 exact ⟨Sx.AV.ge.flt' _ _ rfl, rfl, trivial⟩
theorem sfA_r0 (la lb : Nat) (ra rb : Nat → Nat) : Sx.PieceN 2 (Sx.Ex.normal) [(0, .slc true false ⟨false, 0, 0, 0⟩ la), (1, .slc true false ⟨false, 1, 0, 0⟩ lb)] [(0, .cells false 1 la (.fn fun j => [Sx.AV.flt true (ra j)])), (1, .cells false 1 lb (.fn fun j => [Sx.AV.flt true (rb j)]))] (piececallA Try.f9 (Sx.nav [0] (Sx.bodyOf Try.f9)) (Sx.frameOf [Sx.slcV 0 la, Sx.slcV 1 lb] 0 .e) (Sx.hpL [(0, .cells false 1 la (.fn fun j => [.flt true (ra j)])), (1, .cells false 1 lb (.fn fun j => [.flt true (rb j)]))]) 2 []) := Sx.eqn (q := True) (by kernel_rfl) trivial
theorem sfA (B : Nat) (hB : B ≤ 2) (la lb : Nat) (ra rb : Nat → Nat) : Sx.GoesB Try.prog (Sx.nav [0] (Sx.bodyOf Try.f9)) Try.f9.ntmps B 2 2 (Sx.frameOf [Sx.slcV 0 la, Sx.slcV 1 lb] 0 .e) (Sx.hpL [(0, .cells false 1 la (.fn fun j => [.flt true (ra j)])), (1, .cells false 1 lb (.fn fun j => [.flt true (rb j)]))]) fun e fr' H' => (e = .normal ∧ fr' = Sx.frL [(0, .slc true false ⟨false, 0, 0, 0⟩ la), (1, .slc true false ⟨false, 1, 0, 0⟩ lb)] ∧ H' = Sx.hpL [(0, .cells false 1 la (.fn fun j => [Sx.AV.flt true (ra j)])), (1, .cells false 1 lb (.fn fun j => [Sx.AV.flt true (rb j)]))]) := by
 exact (Sx.GoesB.runN callA_ok (callA_reg _) (Sx.LoopsIn.none _ _ _) (sfA_r0 la lb ra rb) hB).mono fun e fr' H' h => h
theorem sfC_r0 (la lb : Nat) (ra rb : Nat → Nat) (c0 : (!decide ((↑la : Int) = (↑lb : Int))) = false) : Sx.PieceN 2 (Sx.Ex.normal) [(0, .slc true false ⟨false, 0, 0, 0⟩ la), (1, .slc true false ⟨false, 1, 0, 0⟩ lb)] [(0, .cells false 1 la (.fn fun j => [Sx.AV.flt true (ra j)])), (1, .cells false 1 lb (.fn fun j => [Sx.AV.flt true (rb j)]))] (piececallA Try.f9 (Sx.nav [1,0] (Sx.bodyOf Try.f9)) (Sx.frL [(0, Sx.slcV 0 la), (1, Sx.slcV 1 lb)]) (Sx.hpL [(0, .cells false 1 la (.fn fun j => [.flt true (ra j)])), (1, .cells false 1 lb (.fn fun j => [.flt true (rb j)]))]) 2 [false]) := Sx.eqn (q := (True ∧ ((!decide ((↑la : Int) = (↑lb : Int))) = false))) (by kernel_rfl) ⟨trivial, c0⟩
theorem sfC_r1 (la lb : Nat) (ra rb : Nat → Nat) (c0 : (!decide ((↑la : Int) = (↑lb : Int))) = true) : Sx.PieceN 2 (Sx.Ex.ret) [(0, .slc true false ⟨false, 0, 0, 0⟩ la), (1, .slc true false ⟨false, 1, 0, 0⟩ lb), (4, .bool false)] [(0, .cells false 1 la (.fn fun j => [Sx.AV.flt true (ra j)])), (1, .cells false 1 lb (.fn fun j => [Sx.AV.flt true (rb j)]))] (piececallA Try.f9 (Sx.nav [1,0] (Sx.bodyOf Try.f9)) (Sx.frL [(0, Sx.slcV 0 la), (1, Sx.slcV 1 lb)]) (Sx.hpL [(0, .cells false 1 la (.fn fun j => [.flt true (ra j)])), (1, .cells false 1 lb (.fn fun j => [.flt true (rb j)]))]) 2 [true]) := Sx.eqn (q := (True ∧ ((!decide ((↑la : Int) = (↑lb : Int))) = true))) (by kernel_rfl) ⟨trivial, c0⟩
theorem sfC (B : Nat) (hB : B ≤ 2) (la lb : Nat) (ra rb : Nat → Nat) : Sx.GoesB Try.prog (Sx.nav [1,0] (Sx.bodyOf Try.f9)) Try.f9.ntmps B 2 2 (Sx.frL [(0, Sx.slcV 0 la), (1, Sx.slcV 1 lb)]) (Sx.hpL [(0, .cells false 1 la (.fn fun j => [.flt true (ra j)])), (1, .cells false 1 lb (.fn fun j => [.flt true (rb j)]))]) fun e fr' H' => (cond (decide ((↑la : Int) = (↑lb : Int))) (e = .normal ∧ fr' = Sx.frL [(0, .slc true false ⟨false, 0, 0, 0⟩ la), (1, .slc true false ⟨false, 1, 0, 0⟩ lb)] ∧ H' = Sx.hpL [(0, .cells false 1 la (.fn fun j => [Sx.AV.flt true (ra j)])), (1, .cells false 1 lb (.fn fun j => [Sx.AV.flt true (rb j)]))]) (e = .ret ∧ fr' = Sx.frL [(0, .slc true false ⟨false, 0, 0, 0⟩ la), (1, .slc true false ⟨false, 1, 0, 0⟩ lb), (4, .bool false)] ∧ H' = Sx.hpL [(0, .cells false 1 la (.fn fun j => [Sx.AV.flt true (ra j)])), (1, .cells false 1 lb (.fn fun j => [Sx.AV.flt true (rb j)]))])) := by
 cases t0 : decide ((↑la : Int) = (↑lb : Int)) with
 | true =>
  exact (Sx.GoesB.runN callA_ok (callA_reg _) (Sx.LoopsIn.none _ _ _) (sfC_r0 la lb ra rb (by rw [t0]; rfl)) hB).mono fun e fr' H' h => by first | (simp only [t0, cond_true, cond_false]; exact h) | (simp only [t0, cond_true, cond_false] at h ⊢; exact h)
 | false =>
  exact (Sx.GoesB.runN callA_ok (callA_reg _) (Sx.LoopsIn.none _ _ _) (sfC_r1 la lb ra rb (by rw [t0]; rfl)) hB).mono fun e fr' H' h => by first | (simp only [t0, cond_true, cond_false]; exact h) | (simp only [t0, cond_true, cond_false] at h ⊢; exact h)
theorem sfD_r0 (la lb : Nat) (ra rb : Nat → Nat) : Sx.PieceN 2 (Sx.Ex.normal) [(0, .slc true false ⟨false, 0, 0, 0⟩ la), (1, .slc true false ⟨false, 1, 0, 0⟩ lb), (5, .int false .i64 0)] [(0, .cells false 1 la (.fn fun j => [Sx.AV.flt true (ra j)])), (1, .cells false 1 lb (.fn fun j => [Sx.AV.flt true (rb j)]))] (piececallA Try.f9 (Sx.nav [1,1,0,0] (Sx.bodyOf Try.f9)) (Sx.frL [(0, Sx.slcV 0 la), (1, Sx.slcV 1 lb)]) (Sx.hpL [(0, .cells false 1 la (.fn fun j => [.flt true (ra j)])), (1, .cells false 1 lb (.fn fun j => [.flt true (rb j)]))]) 2 []) := Sx.eqn (q := True) (by kernel_rfl) trivial
theorem sfD (B : Nat) (hB : B ≤ 2) (la lb : Nat) (ra rb : Nat → Nat) : Sx.GoesB Try.prog (Sx.nav [1,1,0,0] (Sx.bodyOf Try.f9)) Try.f9.ntmps B 2 2 (Sx.frL [(0, Sx.slcV 0 la), (1, Sx.slcV 1 lb)]) (Sx.hpL [(0, .cells false 1 la (.fn fun j => [.flt true (ra j)])), (1, .cells false 1 lb (.fn fun j => [.flt true (rb j)]))]) fun e fr' H' => (e = .normal ∧ fr' = Sx.frL [(0, .slc true false ⟨false, 0, 0, 0⟩ la), (1, .slc true false ⟨false, 1, 0, 0⟩ lb), (5, .int false .i64 0)] ∧ H' = Sx.hpL [(0, .cells false 1 la (.fn fun j => [Sx.AV.flt true (ra j)])), (1, .cells false 1 lb (.fn fun j => [Sx.AV.flt true (rb j)]))]) := by
 exact (Sx.GoesB.runN callA_ok (callA_reg _) (Sx.LoopsIn.none _ _ _) (sfD_r0 la lb ra rb) hB).mono fun e fr' H' h => h
theorem sfB_r0 (la lb i : Nat) (ra rb : Nat → Nat) (c0 : decide ((↑i : Int) < (↑la : Int)) = true) (c1 : (0 : Int) ≤ (↑i : Int)) (c2 : (↑i : Int) < (↑la : Int)) (c3 : (0 : Nat) + i < la) (c4 : (↑i : Int) < (↑lb : Int)) (c5 : (0 : Nat) + i < lb) (c6 : (!Nat.beq (ra ((0 : Nat) + i)) (rb ((0 : Nat) + i))) = false) (c7 : (-9223372036854775808 : Int) ≤ (↑i : Int) + (1 : Int)) (c8 : (↑i : Int) + (1 : Int) ≤ (9223372036854775807 : Int)) : Sx.PieceN 2 (Sx.Ex.normal) [(0, .slc true false ⟨false, 0, 0, 0⟩ la), (1, .slc true false ⟨false, 1, 0, 0⟩ lb), (5, .int true .i64 ((↑i : Int) + (1 : Int)))] [(0, .cells false 1 la (.fn fun j => [Sx.AV.flt true (ra j)])), (1, .cells false 1 lb (.fn fun j => [Sx.AV.flt true (rb j)]))] (piececallA Try.f9 (Sx.nav [1,1,0,1,0,0] (Sx.bodyOf Try.f9)) (Sx.frL [(0, Sx.slcV 0 la), (1, Sx.slcV 1 lb), (5, .int true .i64 i)]) (Sx.hpL [(0, .cells false 1 la (.fn fun j => [.flt true (ra j)])), (1, .cells false 1 lb (.fn fun j => [.flt true (rb j)]))]) 2 [true, false]) := Sx.eqn (q := (((((((True ∧ (decide ((↑i : Int) < (↑la : Int)) = true)) ∧ (((0 : Int) ≤ (↑i : Int)) ∧ ((↑i : Int) < (↑la : Int)))) ∧ ((0 : Nat) + i < la)) ∧ (((0 : Int) ≤ (↑i : Int)) ∧ ((↑i : Int) < (↑lb : Int)))) ∧ ((0 : Nat) + i < lb)) ∧ ((!Nat.beq (ra ((0 : Nat) + i)) (rb ((0 : Nat) + i))) = false)) ∧ (((-9223372036854775808 : Int) ≤ (↑i : Int) + (1 : Int)) ∧ ((↑i : Int) + (1 : Int) ≤ (9223372036854775807 : Int))))) (by kernel_rfl) ⟨⟨⟨⟨⟨⟨⟨trivial, c0⟩, ⟨c1, c2⟩⟩, c3⟩, ⟨c1, c4⟩⟩, c5⟩, c6⟩, ⟨c7, c8⟩⟩
theorem sfB_r1 (la lb i : Nat) (ra rb : Nat → Nat) (c0 : decide ((↑i : Int) < (↑la : Int)) = true) (c1 : (0 : Int) ≤ (↑i : Int)) (c2 : (↑i : Int) < (↑la : Int)) (c3 : (0 : Nat) + i < la) (c4 : (↑i : Int) < (↑lb : Int)) (c5 : (0 : Nat) + i < lb) (c6 : (!Nat.beq (ra ((0 : Nat) + i)) (rb ((0 : Nat) + i))) = true) : Sx.PieceN 2 (Sx.Ex.ret) [(0, .slc true false ⟨false, 0, 0, 0⟩ la), (1, .slc true false ⟨false, 1, 0, 0⟩ lb), (4, .bool false), (5, .int true .i64 (↑i : Int))] [(0, .cells false 1 la (.fn fun j => [Sx.AV.flt true (ra j)])), (1, .cells false 1 lb (.fn fun j => [Sx.AV.flt true (rb j)]))] (piececallA Try.f9 (Sx.nav [1,1,0,1,0,0] (Sx.bodyOf Try.f9)) (Sx.frL [(0, Sx.slcV 0 la), (1, Sx.slcV 1 lb), (5, .int true .i64 i)]) (Sx.hpL [(0, .cells false 1 la (.fn fun j => [.flt true (ra j)])), (1, .cells false 1 lb (.fn fun j => [.flt true (rb j)]))]) 2 [true, true]) := Sx.eqn (q := ((((((True ∧ (decide ((↑i : Int) < (↑la : Int)) = true)) ∧ (((0 : Int) ≤ (↑i : Int)) ∧ ((↑i : Int) < (↑la : Int)))) ∧ ((0 : Nat) + i < la)) ∧ (((0 : Int) ≤ (↑i : Int)) ∧ ((↑i : Int) < (↑lb : Int)))) ∧ ((0 : Nat) + i < lb)) ∧ ((!Nat.beq (ra ((0 : Nat) + i)) (rb ((0 : Nat) + i))) = true))) (by kernel_rfl) ⟨⟨⟨⟨⟨⟨trivial, c0⟩, ⟨c1, c2⟩⟩, c3⟩, ⟨c1, c4⟩⟩, c5⟩, c6⟩
theorem sfB_r2 (la lb i : Nat) (ra rb : Nat → Nat) (c0 : decide ((↑i : Int) < (↑la : Int)) = false) : Sx.PieceN 2 (Sx.Ex.exit (0 : Nat)) [(0, .slc true false ⟨false, 0, 0, 0⟩ la), (1, .slc true false ⟨false, 1, 0, 0⟩ lb), (5, .int true .i64 (↑i : Int))] [(0, .cells false 1 la (.fn fun j => [Sx.AV.flt true (ra j)])), (1, .cells false 1 lb (.fn fun j => [Sx.AV.flt true (rb j)]))] (piececallA Try.f9 (Sx.nav [1,1,0,1,0,0] (Sx.bodyOf Try.f9)) (Sx.frL [(0, Sx.slcV 0 la), (1, Sx.slcV 1 lb), (5, .int true .i64 i)]) (Sx.hpL [(0, .cells false 1 la (.fn fun j => [.flt true (ra j)])), (1, .cells false 1 lb (.fn fun j => [.flt true (rb j)]))]) 2 [false]) := Sx.eqn (q := (True ∧ (decide ((↑i : Int) < (↑la : Int)) = false))) (by kernel_rfl) ⟨trivial, c0⟩
theorem sfB (B : Nat) (hB : B ≤ 2) (la lb i : Nat) (ra rb : Nat → Nat) (x0 : ((decide ((↑i : Int) < (↑la : Int))) = true → ((↑i : Int) < (↑lb : Int)))) (x1 : ((decide ((↑i : Int) < (↑la : Int))) = true → ((0 : Nat) + i < lb))) (x2 : ((decide ((↑i : Int) < (↑la : Int))) = true → ((Nat.beq (ra ((0 : Nat) + i)) (rb ((0 : Nat) + i))) = true → ((↑i : Int) + (1 : Int) ≤ (9223372036854775807 : Int))))) : Sx.GoesB Try.prog (Sx.nav [1,1,0,1,0,0] (Sx.bodyOf Try.f9)) Try.f9.ntmps B 2 2 (Sx.frL [(0, Sx.slcV 0 la), (1, Sx.slcV 1 lb), (5, .int true .i64 i)]) (Sx.hpL [(0, .cells false 1 la (.fn fun j => [.flt true (ra j)])), (1, .cells false 1 lb (.fn fun j => [.flt true (rb j)]))]) fun e fr' H' => (cond (decide ((↑i : Int) < (↑la : Int))) (cond (Nat.beq (ra ((0 : Nat) + i)) (rb ((0 : Nat) + i))) (e = .normal ∧ fr' = Sx.frL [(0, .slc true false ⟨false, 0, 0, 0⟩ la), (1, .slc true false ⟨false, 1, 0, 0⟩ lb), (5, .int true .i64 ((↑i : Int) + (1 : Int)))] ∧ H' = Sx.hpL [(0, .cells false 1 la (.fn fun j => [Sx.AV.flt true (ra j)])), (1, .cells false 1 lb (.fn fun j => [Sx.AV.flt true (rb j)]))]) (e = .ret ∧ fr' = Sx.frL [(0, .slc true false ⟨false, 0, 0, 0⟩ la), (1, .slc true false ⟨false, 1, 0, 0⟩ lb), (4, .bool false), (5, .int true .i64 (↑i : Int))] ∧ H' = Sx.hpL [(0, .cells false 1 la (.fn fun j => [Sx.AV.flt true (ra j)])), (1, .cells false 1 lb (.fn fun j => [Sx.AV.flt true (rb j)]))])) (e = .exit 0 ∧ fr' = Sx.frL [(0, .slc true false ⟨false, 0, 0, 0⟩ la), (1, .slc true false ⟨false, 1, 0, 0⟩ lb), (5, .int true .i64 (↑i : Int))] ∧ H' = Sx.hpL [(0, .cells false 1 la (.fn fun j => [Sx.AV.flt true (ra j)])), (1, .cells false 1 lb (.fn fun j => [Sx.AV.flt true (rb j)]))])) := by
 cases t0 : decide ((↑i : Int) < (↑la : Int)) with
 | true =>
  cases t1 : Nat.beq (ra ((0 : Nat) + i)) (rb ((0 : Nat) + i)) with
  | true =>
   exact (Sx.GoesB.runN callA_ok (callA_reg _) (Sx.LoopsIn.none _ _ _) (sfB_r0 la lb i ra rb t0 (by first | decide | ((try simp only [decide_eq_true_eq, decide_eq_false_iff_not] at t0 t1); (try simp only [List.length_take, List.length_drop]); omega)) (by first | decide | ((try simp only [decide_eq_true_eq, decide_eq_false_iff_not] at t0 t1); (try simp only [List.length_take, List.length_drop]); omega)) (by first | decide | ((try simp only [decide_eq_true_eq, decide_eq_false_iff_not] at t0 t1); (try simp only [List.length_take, List.length_drop]); omega)) (x0 t0) (x1 t0) (by rw [t1]; rfl) (by first | decide | ((try simp only [decide_eq_true_eq, decide_eq_false_iff_not] at t0 t1); (try simp only [List.length_take, List.length_drop]); omega)) (x2 t0 t1)) hB).mono fun e fr' H' h => by first | (simp only [t0, t1, cond_true, cond_false]; exact h) | (simp only [t0, t1, cond_true, cond_false] at h ⊢; exact h)
  | false =>
   exact (Sx.GoesB.runN callA_ok (callA_reg _) (Sx.LoopsIn.none _ _ _) (sfB_r1 la lb i ra rb t0 (by first | decide | ((try simp only [decide_eq_true_eq, decide_eq_false_iff_not] at t0 t1); (try simp only [List.length_take, List.length_drop]); omega)) (by first | decide | ((try simp only [decide_eq_true_eq, decide_eq_false_iff_not] at t0 t1); (try simp only [List.length_take, List.length_drop]); omega)) (by first | decide | ((try simp only [decide_eq_true_eq, decide_eq_false_iff_not] at t0 t1); (try simp only [List.length_take, List.length_drop]); omega)) (x0 t0) (x1 t0) (by rw [t1]; rfl)) hB).mono fun e fr' H' h => by first | (simp only [t0, t1, cond_true, cond_false]; exact h) | (simp only [t0, t1, cond_true, cond_false] at h ⊢; exact h)
 | false =>
  exact (Sx.GoesB.runN callA_ok (callA_reg _) (Sx.LoopsIn.none _ _ _) (sfB_r2 la lb i ra rb t0) hB).mono fun e fr' H' h => by first | (simp only [t0, cond_true, cond_false]; exact h) | (simp only [t0, cond_true, cond_false] at h ⊢; exact h)
theorem sfZ_r0  : Sx.PieceN 2 (Sx.Ex.ret) [(4, .bool true)] [] (piececallA Try.f9 (Sx.nav [1,1,1] (Sx.bodyOf Try.f9)) (Sx.frL []) (Sx.hpL []) 2 []) := Sx.eqn (q := True) (by kernel_rfl) trivial
theorem sfZ (B : Nat) (hB : B ≤ 2)  : Sx.GoesB Try.prog (Sx.nav [1,1,1] (Sx.bodyOf Try.f9)) Try.f9.ntmps B 2 2 (Sx.frL []) (Sx.hpL []) fun e fr' H' => (e = .ret ∧ fr' = Sx.frL [(4, .bool true)] ∧ H' = Sx.hpL []) := by
 exact (Sx.GoesB.runN callA_ok (callA_reg _) (Sx.LoopsIn.none _ _ _) (sfZ_r0 ) hB).mono fun e fr' H' h => h
def sfI (la lb : Nat) (ra rb : Nat → Nat) (k : Nat) (fr : Sx.Fr) (H : Sx.T Sx.ABk) : Prop :=
 ∃ i : Nat, k = la - i ∧ i ≤ la ∧ (∀ j, j < i → ra j = rb j) ∧ fr = Sx.frL [(0, Sx.slcV 0 la), (1, Sx.slcV 1 lb), (5, .int true .i64 i)] ∧ H = Sx.hpL [(0, .cells false 1 la (.fn fun j => [.flt true (ra j)])), (1, .cells false 1 lb (.fn fun j => [.flt true (rb j)]))]
def sfP (la lb : Nat) (ra rb : Nat → Nat) : Sx.Po := fun e fr H => (e = .exit 0 ∧ ∀ j, j < la → ra j = rb j) ∨ (e = .ret ∧ ¬ (∀ j, j < la → ra j = rb j) ∧ fr.get 4 = some (.bool false))
theorem sf_body (la lb : Nat) (ra rb : Nat → Nat) (hl : la = lb) (hm : la ≤ 9223372036854775807) (k : Nat) (fr : Sx.Fr) (H : Sx.T Sx.ABk) (hI : sfI la lb ra rb k fr H) :
  Sx.GoesB Try.prog (Sx.nav [1,1,0,1,0,0] (Sx.bodyOf Try.f9)) Try.f9.ntmps 2 2 2 fr H fun e fr' H' => match e with
   | .normal => ∃ k', k' < k ∧ sfI la lb ra rb k' fr' H'
   | e => sfP la lb ra rb e fr' H' := by
 obtain ⟨i, rfl, hi, hs, rfl, rfl⟩ := hI
 have hx : decide ((i : Int) < (la : Int)) = true → i < la := fun t => by have := of_decide_eq_true t; omega
 have hB := sfB 2 (by omega) la lb i ra rb (fun t => by have := hx t; omega) (fun t => by have := hx t; omega) (fun t _ => by have := hx t; omega)
 simp only [Nat.zero_add] at hB
 refine hB.mono fun e fr' H' h => ?_
 refine Sx.cond_elim h (fun t h => ?_) (fun t h => ?_)
 ·have hlt := hx t
  refine Sx.cond_elim h (fun t1 h => ?_) (fun t1 h => ?_)
  ·obtain ⟨rfl, rfl, rfl⟩ := h
   refine ⟨la - (i + 1), by omega, i + 1, rfl, by omega, fun j hj => ?_, rfl, rfl⟩
   by_cases hji : j < i
   ·exact hs j hji
   ·have e : j = i := by omega
    subst e
    exact Nat.eq_of_beq_eq_true t1
  ·obtain ⟨rfl, rfl, rfl⟩ := h
   exact .inr ⟨rfl, fun hh => absurd (hh i hlt) (fun e => by rw [e] at t1; rw [Nat.beq_refl] at t1; cases t1), rfl⟩
 ·obtain ⟨rfl, rfl, rfl⟩ := h
  exact .inl ⟨rfl, fun j hj => hs j (by have := of_decide_eq_false t; omega)⟩
theorem sf_is : (Sx.bodyOf Try.f9) = .seq (Sx.nav [0] (Sx.bodyOf Try.f9)) (.seq (Sx.nav [1,0] (Sx.bodyOf Try.f9)) (.seq (.seq (Sx.nav [1,1,0,0] (Sx.bodyOf Try.f9)) (.block 0 (.loop (Sx.nav [1,1,0,1,0,0] (Sx.bodyOf Try.f9))))) (Sx.nav [1,1,1] (Sx.bodyOf Try.f9)))) := by kernel_rfl
theorem sf_goes (la lb : Nat) (ra rb : Nat → Nat) (hm : la ≤ 9223372036854775807) :
  Sx.GoesB Try.prog (Sx.bodyOf Try.f9) Try.f9.ntmps 2 2 2 (Sx.frameOf [Sx.slcV 0 la, Sx.slcV 1 lb] 0 .e) (Sx.hpL [(0, .cells false 1 la (.fn fun j => [.flt true (ra j)])), (1, .cells false 1 lb (.fn fun j => [.flt true (rb j)]))]) fun e fr' H' => (e = .ret ∨ e = .normal) ∧ fr'.get 4 = some (.bool (Sx.cd (la = lb ∧ ∀ j, j < la → ra j = rb j))) := by
 rw [sf_is]
 refine Sx.GoesB.seq (K1 := 2) (by omega) ((sfA 2 (by omega) la lb ra rb).mono fun e fr' H' ⟨e1, e2, e3⟩ => ?_)
 subst e1 e2 e3
 refine Sx.GoesB.seq (K1 := 2) (by omega) ((sfC 2 (by omega) la lb ra rb).mono fun e fr' H' h => ?_)
 refine Sx.cond_elim h (fun t h => ?_) (fun t h => ?_)
 case refine_2 =>
  obtain ⟨rfl, rfl, rfl⟩ := h
  exact ⟨.inl rfl, by rw [Sx.cd_false (fun hh => by have h1 := hh.1; subst h1; simp at t)]; rfl⟩
 obtain ⟨rfl, rfl, rfl⟩ := h
 have hl : la = lb := by have := of_decide_eq_true t; omega
 refine Sx.GoesB.seq (K1 := 2) (by omega) (Sx.GoesB.seq (K1 := 2) (by omega) (Sx.GoesB.weakL (fl := [(0, Sx.slcV 0 la), (1, Sx.slcV 1 lb)]) (bl := [(0, .cells false 1 la (.fn fun j => [.flt true (ra j)])), (1, .cells false 1 lb (.fn fun j => [.flt true (rb j)]))]) ⟨⟨_, rfl, Sx.AV.ge.refl _⟩, ⟨_, rfl, Sx.AV.ge.refl _⟩, trivial⟩ ⟨⟨_, rfl, Sx.SameC.refl _⟩, ⟨_, rfl, Sx.SameC.refl _⟩, trivial⟩ ((sfD 2 (by omega) la lb ra rb).mono fun e fr' H' ⟨e1, e2, e3⟩ => ?_)))
 subst e1 e2 e3
 refine Sx.GoesB.weakL (fl := [(0, Sx.slcV 0 la), (1, Sx.slcV 1 lb), (5, .int true .i64 (0 : Nat))]) (bl := [(0, .cells false 1 la (.fn fun j => [.flt true (ra j)])), (1, .cells false 1 lb (.fn fun j => [.flt true (rb j)]))]) ⟨⟨_, rfl, Sx.AV.ge.refl _⟩, ⟨_, rfl, Sx.AV.ge.refl _⟩, ⟨_, rfl, Sx.AV.ge.int _ _ _ _⟩, trivial⟩ ⟨⟨_, rfl, Sx.SameC.refl _⟩, ⟨_, rfl, Sx.SameC.refl _⟩, trivial⟩ ?_
 refine Sx.GoesB.block ((Sx.GoesB.loop (sfI la lb ra rb) (Post := sfP la lb ra rb) (sf_body la lb ra rb hl hm) _ _ _ ⟨0, rfl, by omega, fun j hj => by omega, rfl, rfl⟩).mono fun e fr' H' hp => ?_)
 rcases hp with ⟨rfl, h1⟩ | ⟨rfl, h1, h2⟩
 ·simp only [if_true]
  refine Sx.GoesB.weakL (fl := []) (bl := []) trivial trivial ((sfZ 2 (by omega)).mono fun e fr' H' ⟨e1, e2, e3⟩ => ?_)
  subst e1 e2 e3
  exact ⟨.inl rfl, by rw [Sx.cd_true ⟨hl, h1⟩]; rfl⟩
 ·exact ⟨.inl rfl, by rw [Sx.cd_false (fun hh => h1 hh.2)]; exact h2⟩
noncomputable def sameFS : List Sx.AV → Sx.M Sx.AV
 | [x, y] => (Sx.rd 1 x fun len rows => len ≤ 9223372036854775807 ∧ ∀ j, j < len → FRow (rows j)).andThen fun a => (Sx.rd 1 y fun len rows => ∀ j, j < len → FRow (rows j)).andThen fun b => Sx.M.ret (.sbool (Sx.cd (a.1 = b.1 ∧ ∀ j, j < a.1 → flo (a.2 j) = flo (b.2 j))))
 | _ => Sx.M.no
theorem sameFS_ok : ∀ args v g g', sameFS args g = .done v g' → Sx.CallIs Try.prog 9 args v g g' := by
 intro args v g g' h
 unfold sameFS at h
 split at h
 ·rename_i x y
  obtain ⟨⟨la, ra⟩, g1, a1, h1⟩ := Sx.done_of h
  obtain ⟨⟨lb, rb⟩, g2, a2, h2⟩ := Sx.done_of h1
  obtain ⟨rfl, rfl⟩ := Sx.ret_done h2
  obtain ⟨q1, k1, f1⟩ := Sx.rd_done a1 (by omega)
  obtain ⟨q2, k2, f2⟩ := Sx.rd_done a2 (by omega)
  have k := k1.trans k2
  have ok2 : q1 ∧ q2 → Sx.Vw.Ok ⟨y, 1, lb, rb⟩ g := fun hp => (f2 hp.2).1.same k1
  refine Sx.reads (c := (Sx.bodyOf Try.f9)) Try.func9 (by kernel_rfl) (by kernel_rfl) k [⟨x, 1, la, ra⟩, ⟨y, 1, lb, rb⟩] (fun hp v hv => ?_) (argsC := [Sx.slcV 0 la, Sx.slcV 1 lb]) (fun hp N μ cs hcs => ?_) (nms := []) (bs := []) (K' := 2) (fun hp => ?_) rfl trivial (by rw [k.1]; rfl) (by rw [k.2.1]; rfl) id
  ·rcases List.mem_cons.1 hv with rfl | hv
   ·exact (f1 hp.1).1
   ·rcases List.mem_cons.1 hv with rfl | hv
    ·exact ok2 hp
    ·cases hv
  ·simp only [Sx.Reps] at hcs
   obtain ⟨c, r, rfl, hc, c', r', rfl, hc', rfl⟩ := hcs
   simp only [Sx.Reps]
   exact ⟨c, _, rfl, Sx.vw_val (l := [⟨x, 1, la, ra⟩, ⟨y, 1, lb, rb⟩]) (i := 0) (f1 hp.1).1 rfl hc, c', _, rfl, Sx.vw_val (l := [⟨x, 1, la, ra⟩, ⟨y, 1, lb, rb⟩]) (i := 1) (ok2 hp) rfl hc', rfl⟩
  ·obtain ⟨_, hm, hz⟩ := f1 hp.1
   obtain ⟨_, hz'⟩ := f2 hp.2
   dsimp only at hm hz hz'
   refine Sx.GoesB.weakGL (fl := [(0, Sx.slcV 0 la), (1, Sx.slcV 1 lb)]) (bl := [(0, .cells false 1 la (.fn fun j => [.flt true (flo (ra j))])), (1, .cells false 1 lb (.fn fun j => [.flt true (flo (rb j))]))]) ⟨⟨_, rfl, Sx.AV.ge.refl _⟩, ⟨_, rfl, Sx.AV.ge.refl _⟩, trivial⟩ ⟨⟨_, rfl, rfl, rfl, rfl, fun j hj => (hz j hj).ge⟩, ⟨_, rfl, rfl, rfl, rfl, fun j hj => (hz' j hj).ge⟩, trivial⟩ ?_
   refine (sf_goes la lb (fun j => flo (ra j)) (fun j => flo (rb j)) hm).mono fun e fr' H' ⟨e1, e2⟩ => ?_
   exact ⟨e1, _, _, Sx.res1 (t := 4) (by kernel_rfl) e2, trivial, Sx.AV.ge.bool _, Sx.news0⟩
 ·exact (Sx.no_done h).elim
theorem sameFS_tch : ∀ args, Sx.Tch (sameFS args) := by
 intro args
 unfold sameFS
 split
 ·exact (Sx.Tch.rd _ _ _).andThen fun _ => (Sx.Tch.rd _ _ _).andThen fun _ => Sx.Tch.ret _
 ·exact Sx.Tch.no
noncomputable def sameFTS : List Sx.AV → Sx.M Sx.AV := Sx.expT sameFS
theorem sameFTS_ok : ∀ args v g g', sameFTS args g = .done v g' → Sx.CallIs Try.prog 9 args v g g' := Sx.expT_ok sameFS_ok
theorem sameFTS_tch : ∀ args, Sx.Tch (sameFTS args) := Sx.expT_tch sameFS_tch

/-- mark j of list k -/
def mkF (k : Int) (j : Nat) : Nat := (Sx.fsub (Sx.ofInt ((-1000 : Int) * k - (j : Int))) 4620130267728707584)
noncomputable def Sx.regPre (m : Nat) : Code → Code
 | .region i ops d => .region i (ops.toList.take m).toArray d
 | c => c
theorem lt_blt {a b : Nat} (h : a < b) : Nat.blt a b = true := by simpa [Nat.blt] using Nat.ble_eq_true_of_le h
noncomputable def lsR (n0 n1 n2 n3 : Nat) : Nat → List Sx.AV := fun x => bif Nat.beq x 0 then [.slc true true ⟨false, 1, 0, 0⟩ n0] else bif Nat.beq x 1 then [.slc true true ⟨false, 2, 0, 0⟩ n1] else bif Nat.beq x 2 then [.slc true true ⟨false, 3, 0, 0⟩ n2] else bif Nat.beq x 3 then [.slc true true ⟨false, 4, 0, 0⟩ n3] else []
noncomputable def gsR (n0 n1 n2 n3 : Nat) : Nat → List Sx.AV := fun x => bif Nat.beq x 0 then [.slc true true ⟨false, 5, 0, 0⟩ (n0 + 6)] else bif Nat.beq x 1 then [.slc true true ⟨false, 6, 0, 0⟩ (n1 + 6)] else bif Nat.beq x 2 then [.slc true true ⟨false, 7, 0, 0⟩ (n2 + 6)] else bif Nat.beq x 3 then [.slc true true ⟨false, 8, 0, 0⟩ (n3 + 6)] else []
theorem ls_low (n0 n1 n2 n3 N : Nat) (hN : 5 ≤ N) : (Sx.ABk.cells false 1 4 (.fn (lsR n0 n1 n2 n3))).lowR N := fun i hi v hv => by
 match i, hi, hv with
 | 0, _, hv => rw [List.mem_singleton.1 hv]; show Nat.blt 1 N = true; exact lt_blt (by omega)
 | 1, _, hv => rw [List.mem_singleton.1 hv]; show Nat.blt 2 N = true; exact lt_blt (by omega)
 | 2, _, hv => rw [List.mem_singleton.1 hv]; show Nat.blt 3 N = true; exact lt_blt (by omega)
 | 3, _, hv => rw [List.mem_singleton.1 hv]; show Nat.blt 4 N = true; exact lt_blt (by omega)
theorem gs_low (n0 n1 n2 n3 N m : Nat) (own : Bool) (hm : m ≤ 4) (hN : 9 ≤ N) : (Sx.ABk.cells own 1 m (.fn (gsR n0 n1 n2 n3))).lowR N := fun i hi v hv => by
 have hi : i < 4 := by omega
 match i, hi, hv with
 | 0, _, hv => rw [List.mem_singleton.1 hv]; show Nat.blt 5 N = true; exact lt_blt (by omega)
 | 1, _, hv => rw [List.mem_singleton.1 hv]; show Nat.blt 6 N = true; exact lt_blt (by omega)
 | 2, _, hv => rw [List.mem_singleton.1 hv]; show Nat.blt 7 N = true; exact lt_blt (by omega)
 | 3, _, hv => rw [List.mem_singleton.1 hv]; show Nat.blt 8 N = true; exact lt_blt (by omega)

theorem apz_r0 (k i g t : Nat) : Sx.PieceN 9 (Sx.Ex.normal) [(0, .slc false false ⟨false, 0, 0, 0⟩ 4)] [] (piececallP Try.f10 ((Sx.nav [0] (Sx.bodyOf Try.f10))) (Sx.frL [(0, .slc false false ⟨false, 0, 0, 0⟩ 4)]) (Sx.hpL []) 9 []) := Sx.eqn (q := True) (by kernel_rfl) trivial
theorem apz (B : Nat) (hB : B ≤ 9) (k i g t : Nat) : Sx.GoesB Try.prog ((Sx.nav [0] (Sx.bodyOf Try.f10))) Try.f10.ntmps B 9 9 (Sx.frL [(0, .slc false false ⟨false, 0, 0, 0⟩ 4)]) (Sx.hpL []) fun e fr' H' => (e = .normal ∧ fr' = Sx.frL [(0, .slc false false ⟨false, 0, 0, 0⟩ 4)] ∧ H' = Sx.hpL []) := by
 exact (Sx.GoesB.runN callP_ok (callP_reg _) (Sx.LoopsIn.none _ _ _) (apz_r0 k i g t) hB).mono fun e fr' H' h => h
theorem apr1_r0 (k i g t : Nat) : Sx.PieceN 9 (Sx.Ex.normal) [(0, .slc false false ⟨false, 0, 0, 0⟩ 4), (3, .int false .i64 0)] [] (piececallP Try.f10 ((Sx.nav [1,0,0] (Sx.bodyOf Try.f10))) (Sx.frL [(0, .slc false false ⟨false, 0, 0, 0⟩ 4)]) (Sx.hpL []) 9 []) := Sx.eqn (q := True) (by kernel_rfl) trivial
theorem apr1 (B : Nat) (hB : B ≤ 9) (k i g t : Nat) : Sx.GoesB Try.prog ((Sx.nav [1,0,0] (Sx.bodyOf Try.f10))) Try.f10.ntmps B 9 9 (Sx.frL [(0, .slc false false ⟨false, 0, 0, 0⟩ 4)]) (Sx.hpL []) fun e fr' H' => (e = .normal ∧ fr' = Sx.frL [(0, .slc false false ⟨false, 0, 0, 0⟩ 4), (3, .int false .i64 0)] ∧ H' = Sx.hpL []) := by
 exact (Sx.GoesB.runN callP_ok (callP_reg _) (Sx.LoopsIn.none _ _ _) (apr1_r0 k i g t) hB).mono fun e fr' H' h => h
theorem aptA_r0 (k i g t : Nat) (c0 : decide ((↑k : Int) < (4 : Int)) = true) : Sx.PieceN 9 (Sx.Ex.normal) [(0, .slc false false ⟨false, 0, 0, 0⟩ 4), (3, .int true .i64 (↑k : Int))] [] (piececallP Try.f10 ((Sx.nav [1,0,1,0,0,0] (Sx.bodyOf Try.f10))) (Sx.frL [(0, .slc false false ⟨false, 0, 0, 0⟩ 4), (3, .int true .i64 ((k : Nat) : Int))]) (Sx.hpL []) 9 [true]) := Sx.eqn (q := (True ∧ (decide ((↑k : Int) < (4 : Int)) = true))) (by kernel_rfl) ⟨trivial, c0⟩
theorem aptA_r1 (k i g t : Nat) (c0 : decide ((↑k : Int) < (4 : Int)) = false) : Sx.PieceN 9 (Sx.Ex.exit (0 : Nat)) [(0, .slc false false ⟨false, 0, 0, 0⟩ 4), (3, .int true .i64 (↑k : Int))] [] (piececallP Try.f10 ((Sx.nav [1,0,1,0,0,0] (Sx.bodyOf Try.f10))) (Sx.frL [(0, .slc false false ⟨false, 0, 0, 0⟩ 4), (3, .int true .i64 ((k : Nat) : Int))]) (Sx.hpL []) 9 [false]) := Sx.eqn (q := (True ∧ (decide ((↑k : Int) < (4 : Int)) = false))) (by kernel_rfl) ⟨trivial, c0⟩
theorem aptA (B : Nat) (hB : B ≤ 9) (k i g t : Nat) : Sx.GoesB Try.prog ((Sx.nav [1,0,1,0,0,0] (Sx.bodyOf Try.f10))) Try.f10.ntmps B 9 9 (Sx.frL [(0, .slc false false ⟨false, 0, 0, 0⟩ 4), (3, .int true .i64 ((k : Nat) : Int))]) (Sx.hpL []) fun e fr' H' => (cond (decide ((↑k : Int) < (4 : Int))) (e = .normal ∧ fr' = Sx.frL [(0, .slc false false ⟨false, 0, 0, 0⟩ 4), (3, .int true .i64 (↑k : Int))] ∧ H' = Sx.hpL []) (e = .exit 0 ∧ fr' = Sx.frL [(0, .slc false false ⟨false, 0, 0, 0⟩ 4), (3, .int true .i64 (↑k : Int))] ∧ H' = Sx.hpL [])) := by
 cases t0 : decide ((↑k : Int) < (4 : Int)) with
 | true =>
  exact (Sx.GoesB.runN callP_ok (callP_reg _) (Sx.LoopsIn.none _ _ _) (aptA_r0 k i g t t0) hB).mono fun e fr' H' h => by first | (simp only [t0, cond_true, cond_false]; exact h) | (simp only [t0, cond_true, cond_false] at h ⊢; exact h)
 | false =>
  exact (Sx.GoesB.runN callP_ok (callP_reg _) (Sx.LoopsIn.none _ _ _) (aptA_r1 k i g t t0) hB).mono fun e fr' H' h => by first | (simp only [t0, cond_true, cond_false]; exact h) | (simp only [t0, cond_true, cond_false] at h ⊢; exact h)
theorem apr4_r0 (k i g t : Nat) : Sx.PieceN 9 (Sx.Ex.normal) [(0, .slc false false ⟨false, 0, 0, 0⟩ 4), (3, .int true .i64 (↑k : Int)), (4, .int false .i64 0)] [] (piececallP Try.f10 ((Sx.nav [1,0,1,0,0,1,0,0,0] (Sx.bodyOf Try.f10))) (Sx.frL [(0, .slc false false ⟨false, 0, 0, 0⟩ 4), (3, .int true .i64 ((k : Nat) : Int))]) (Sx.hpL []) 9 []) := Sx.eqn (q := True) (by kernel_rfl) trivial
theorem apr4 (B : Nat) (hB : B ≤ 9) (k i g t : Nat) : Sx.GoesB Try.prog ((Sx.nav [1,0,1,0,0,1,0,0,0] (Sx.bodyOf Try.f10))) Try.f10.ntmps B 9 9 (Sx.frL [(0, .slc false false ⟨false, 0, 0, 0⟩ 4), (3, .int true .i64 ((k : Nat) : Int))]) (Sx.hpL []) fun e fr' H' => (e = .normal ∧ fr' = Sx.frL [(0, .slc false false ⟨false, 0, 0, 0⟩ 4), (3, .int true .i64 (↑k : Int)), (4, .int false .i64 0)] ∧ H' = Sx.hpL []) := by
 exact (Sx.GoesB.runN callP_ok (callP_reg _) (Sx.LoopsIn.none _ _ _) (apr4_r0 k i g t) hB).mono fun e fr' H' h => h
theorem apr3_r0 (k i g t : Nat) (c0 : (-9223372036854775808 : Int) ≤ (↑k : Int) + (1 : Int)) (c1 : (↑k : Int) + (1 : Int) ≤ (9223372036854775807 : Int)) : Sx.PieceN 9 (Sx.Ex.normal) [(0, .slc false false ⟨false, 0, 0, 0⟩ 4), (3, .int true .i64 ((↑k : Int) + (1 : Int)))] [] (piececallP Try.f10 ((Sx.nav [1,0,1,0,0,1,1] (Sx.bodyOf Try.f10))) (Sx.frL [(0, .slc false false ⟨false, 0, 0, 0⟩ 4), (3, .int true .i64 ((k : Nat) : Int))]) (Sx.hpL []) 9 []) := Sx.eqn (q := (True ∧ (((-9223372036854775808 : Int) ≤ (↑k : Int) + (1 : Int)) ∧ ((↑k : Int) + (1 : Int) ≤ (9223372036854775807 : Int))))) (by kernel_rfl) ⟨trivial, ⟨c0, c1⟩⟩
theorem apr3 (B : Nat) (hB : B ≤ 9) (k i g t : Nat) (x0 : ((↑k : Int) + (1 : Int) ≤ (9223372036854775807 : Int))) : Sx.GoesB Try.prog ((Sx.nav [1,0,1,0,0,1,1] (Sx.bodyOf Try.f10))) Try.f10.ntmps B 9 9 (Sx.frL [(0, .slc false false ⟨false, 0, 0, 0⟩ 4), (3, .int true .i64 ((k : Nat) : Int))]) (Sx.hpL []) fun e fr' H' => (e = .normal ∧ fr' = Sx.frL [(0, .slc false false ⟨false, 0, 0, 0⟩ 4), (3, .int true .i64 ((↑k : Int) + (1 : Int)))] ∧ H' = Sx.hpL []) := by
 exact (Sx.GoesB.runN callP_ok (callP_reg _) (Sx.LoopsIn.none _ _ _) (apr3_r0 k i g t (by first | decide | omega) (x0)) hB).mono fun e fr' H' h => h
theorem apW0_r0 (n0 n1 n2 n3 i g t : Nat) (ra : Nat → Nat) (c0 : (0 : Int) ≤ (0 : Int)) (c1 : (0 : Int) < (4 : Int)) (c2 : (0 : Nat) < (4 : Nat)) (c3 : decide ((↑i : Int) < (↑n0 : Int)) = true) (c4 : (-9223372036854775808 : Int) ≤ (10 : Int)) (c5 : (10 : Int) ≤ (9223372036854775807 : Int)) (c6 : (-9223372036854775808 : Int) ≤ (-1000 : Int) * (10 : Int)) (c7 : (-1000 : Int) * (10 : Int) ≤ (9223372036854775807 : Int)) (c8 : (-9223372036854775808 : Int) ≤ (-1000 : Int) * (10 : Int) - (↑i : Int)) (c9 : (-1000 : Int) * (10 : Int) - (↑i : Int) ≤ (9223372036854775807 : Int)) (c10 : (0 : Int) ≤ (↑i : Int)) (c11 : (↑i : Int) < (↑n0 : Int)) (c12 : (0 : Nat) + i < n0) (c13 : (1 : Nat) ≤ (1 : Nat)) (c14 : (-9223372036854775808 : Int) ≤ (↑i : Int) + (1 : Int)) (c15 : (↑i : Int) + (1 : Int) ≤ (9223372036854775807 : Int)) : Sx.PieceN 9 (Sx.Ex.normal) [(0, .slc false false ⟨false, 0, 0, 0⟩ 4), (3, .int true .i64 0), (4, .int true .i64 ((↑i : Int) + (1 : Int)))] [(0, .cells false 1 4 (.fn (lsR n0 n1 n2 n3))), (1, .cells true 1 n0 (.fn fun j => bif Nat.beq j ((0 : Nat) + i) then [Sx.AV.flt true (Sx.fsub (Sx.ofInt ((-1000 : Int) * (10 : Int) - (↑i : Int))) (4620130267728707584 : Nat))] else [Sx.AV.flt true (ra j)]))] (piececallP Try.f10 ((Sx.nav [1,0,1,0,0,1,0,0,1,0,0] (Sx.bodyOf Try.f10))) (Sx.frL [(0, .slc false false ⟨false, 0, 0, 0⟩ 4), (3, .int true .i64 0), (4, .int true .i64 ((i : Nat) : Int))]) (Sx.hpL [(0, .cells false 1 4 (.fn (lsR n0 n1 n2 n3))), (1, .cells true 1 (n0) (.fn fun j => [.flt true (ra j)]))]) 9 [true]) := Sx.eqn (q := (((((((((((True ∧ (((0 : Int) ≤ (0 : Int)) ∧ ((0 : Int) < (4 : Int)))) ∧ ((0 : Nat) < (4 : Nat))) ∧ (decide ((↑i : Int) < (↑n0 : Int)) = true)) ∧ (((0 : Int) ≤ (0 : Int)) ∧ ((0 : Int) < (4 : Int)))) ∧ ((0 : Nat) < (4 : Nat))) ∧ (((-9223372036854775808 : Int) ≤ (10 : Int)) ∧ ((10 : Int) ≤ (9223372036854775807 : Int)))) ∧ (((-9223372036854775808 : Int) ≤ (-1000 : Int) * (10 : Int)) ∧ (((-1000 : Int) * (10 : Int) ≤ (9223372036854775807 : Int)) ∧ (((-9223372036854775808 : Int) ≤ (-1000 : Int) * (10 : Int) - (↑i : Int)) ∧ ((-1000 : Int) * (10 : Int) - (↑i : Int) ≤ (9223372036854775807 : Int)))))) ∧ (((0 : Int) ≤ (↑i : Int)) ∧ ((↑i : Int) < (↑n0 : Int)))) ∧ ((0 : Nat) + i < n0)) ∧ ((1 : Nat) ≤ (1 : Nat))) ∧ (((-9223372036854775808 : Int) ≤ (↑i : Int) + (1 : Int)) ∧ ((↑i : Int) + (1 : Int) ≤ (9223372036854775807 : Int))))) (by kernel_rfl) ⟨⟨⟨⟨⟨⟨⟨⟨⟨⟨⟨trivial, ⟨c0, c1⟩⟩, c2⟩, c3⟩, ⟨c0, c1⟩⟩, c2⟩, ⟨c4, c5⟩⟩, ⟨c6, ⟨c7, ⟨c8, c9⟩⟩⟩⟩, ⟨c10, c11⟩⟩, c12⟩, c13⟩, ⟨c14, c15⟩⟩
theorem apW0_r1 (n0 n1 n2 n3 i g t : Nat) (ra : Nat → Nat) (c0 : (0 : Int) ≤ (0 : Int)) (c1 : (0 : Int) < (4 : Int)) (c2 : (0 : Nat) < (4 : Nat)) (c3 : decide ((↑i : Int) < (↑n0 : Int)) = false) : Sx.PieceN 9 (Sx.Ex.exit (2 : Nat)) [(0, .slc false false ⟨false, 0, 0, 0⟩ 4), (3, .int true .i64 0), (4, .int true .i64 (↑i : Int))] [(0, .cells false 1 4 (.fn (lsR n0 n1 n2 n3))), (1, .cells true 1 n0 (.fn fun j => [Sx.AV.flt true (ra j)]))] (piececallP Try.f10 ((Sx.nav [1,0,1,0,0,1,0,0,1,0,0] (Sx.bodyOf Try.f10))) (Sx.frL [(0, .slc false false ⟨false, 0, 0, 0⟩ 4), (3, .int true .i64 0), (4, .int true .i64 ((i : Nat) : Int))]) (Sx.hpL [(0, .cells false 1 4 (.fn (lsR n0 n1 n2 n3))), (1, .cells true 1 (n0) (.fn fun j => [.flt true (ra j)]))]) 9 [false]) := Sx.eqn (q := (((True ∧ (((0 : Int) ≤ (0 : Int)) ∧ ((0 : Int) < (4 : Int)))) ∧ ((0 : Nat) < (4 : Nat))) ∧ (decide ((↑i : Int) < (↑n0 : Int)) = false))) (by kernel_rfl) ⟨⟨⟨trivial, ⟨c0, c1⟩⟩, c2⟩, c3⟩
theorem apW0 (B : Nat) (hB : B ≤ 9) (n0 n1 n2 n3 i g t : Nat) (ra : Nat → Nat) (x0 : ((decide ((↑i : Int) < (↑n0 : Int))) = true → ((-9223372036854775808 : Int) ≤ (-1000 : Int) * (10 : Int) - (↑i : Int)))) (x1 : ((decide ((↑i : Int) < (↑n0 : Int))) = true → ((↑i : Int) + (1 : Int) ≤ (9223372036854775807 : Int)))) : Sx.GoesB Try.prog ((Sx.nav [1,0,1,0,0,1,0,0,1,0,0] (Sx.bodyOf Try.f10))) Try.f10.ntmps B 9 9 (Sx.frL [(0, .slc false false ⟨false, 0, 0, 0⟩ 4), (3, .int true .i64 0), (4, .int true .i64 ((i : Nat) : Int))]) (Sx.hpL [(0, .cells false 1 4 (.fn (lsR n0 n1 n2 n3))), (1, .cells true 1 (n0) (.fn fun j => [.flt true (ra j)]))]) fun e fr' H' => (cond (decide ((↑i : Int) < (↑n0 : Int))) (e = .normal ∧ fr' = Sx.frL [(0, .slc false false ⟨false, 0, 0, 0⟩ 4), (3, .int true .i64 0), (4, .int true .i64 ((↑i : Int) + (1 : Int)))] ∧ H' = Sx.hpL [(0, .cells false 1 4 (.fn (lsR n0 n1 n2 n3))), (1, .cells true 1 n0 (.fn fun j => bif Nat.beq j ((0 : Nat) + i) then [Sx.AV.flt true (Sx.fsub (Sx.ofInt ((-1000 : Int) * (10 : Int) - (↑i : Int))) (4620130267728707584 : Nat))] else [Sx.AV.flt true (ra j)]))]) (e = .exit 2 ∧ fr' = Sx.frL [(0, .slc false false ⟨false, 0, 0, 0⟩ 4), (3, .int true .i64 0), (4, .int true .i64 (↑i : Int))] ∧ H' = Sx.hpL [(0, .cells false 1 4 (.fn (lsR n0 n1 n2 n3))), (1, .cells true 1 n0 (.fn fun j => [Sx.AV.flt true (ra j)]))])) := by
 cases t0 : decide ((↑i : Int) < (↑n0 : Int)) with
 | true =>
  exact (Sx.GoesB.runN callP_ok (callP_reg _) (Sx.LoopsIn.none _ _ _) (apW0_r0 n0 n1 n2 n3 i g t ra (by first | decide | ((try simp only [decide_eq_true_eq, decide_eq_false_iff_not] at t0); (try simp only [List.length_take, List.length_drop]); omega)) (by first | decide | ((try simp only [decide_eq_true_eq, decide_eq_false_iff_not] at t0); (try simp only [List.length_take, List.length_drop]); omega)) (by first | decide | ((try simp only [decide_eq_true_eq, decide_eq_false_iff_not] at t0); (try simp only [List.length_take, List.length_drop]); omega)) t0 (by first | decide | ((try simp only [decide_eq_true_eq, decide_eq_false_iff_not] at t0); (try simp only [List.length_take, List.length_drop]); omega)) (by first | decide | ((try simp only [decide_eq_true_eq, decide_eq_false_iff_not] at t0); (try simp only [List.length_take, List.length_drop]); omega)) (by first | decide | ((try simp only [decide_eq_true_eq, decide_eq_false_iff_not] at t0); (try simp only [List.length_take, List.length_drop]); omega)) (by first | decide | ((try simp only [decide_eq_true_eq, decide_eq_false_iff_not] at t0); (try simp only [List.length_take, List.length_drop]); omega)) (x0 t0) (by first | decide | ((try simp only [decide_eq_true_eq, decide_eq_false_iff_not] at t0); (try simp only [List.length_take, List.length_drop]); omega)) (by first | decide | ((try simp only [decide_eq_true_eq, decide_eq_false_iff_not] at t0); (try simp only [List.length_take, List.length_drop]); omega)) (by first | decide | ((try simp only [decide_eq_true_eq, decide_eq_false_iff_not] at t0); (try simp only [List.length_take, List.length_drop]); omega)) (by first | decide | ((try simp only [decide_eq_true_eq, decide_eq_false_iff_not] at t0); (try simp only [List.length_take, List.length_drop]); omega)) (by first | decide | ((try simp only [decide_eq_true_eq, decide_eq_false_iff_not] at t0); (try simp only [List.length_take, List.length_drop]); omega)) (by first | decide | ((try simp only [decide_eq_true_eq, decide_eq_false_iff_not] at t0); (try simp only [List.length_take, List.length_drop]); omega)) (x1 t0)) hB).mono fun e fr' H' h => by first | (simp only [t0, cond_true, cond_false]; exact h) | (simp only [t0, cond_true, cond_false] at h ⊢; exact h)
 | false =>
  exact (Sx.GoesB.runN callP_ok (callP_reg _) (Sx.LoopsIn.none _ _ _) (apW0_r1 n0 n1 n2 n3 i g t ra (by first | decide | ((try simp only [decide_eq_true_eq, decide_eq_false_iff_not] at t0); (try simp only [List.length_take, List.length_drop]); omega)) (by first | decide | ((try simp only [decide_eq_true_eq, decide_eq_false_iff_not] at t0); (try simp only [List.length_take, List.length_drop]); omega)) (by first | decide | ((try simp only [decide_eq_true_eq, decide_eq_false_iff_not] at t0); (try simp only [List.length_take, List.length_drop]); omega)) t0) hB).mono fun e fr' H' h => by first | (simp only [t0, cond_true, cond_false]; exact h) | (simp only [t0, cond_true, cond_false] at h ⊢; exact h)
theorem apW1_r0 (n0 n1 n2 n3 i g t : Nat) (ra : Nat → Nat) (c0 : (0 : Int) ≤ (1 : Int)) (c1 : (1 : Int) < (4 : Int)) (c2 : (1 : Nat) < (4 : Nat)) (c3 : decide ((↑i : Int) < (↑n1 : Int)) = true) (c4 : (-9223372036854775808 : Int) ≤ (11 : Int)) (c5 : (11 : Int) ≤ (9223372036854775807 : Int)) (c6 : (-9223372036854775808 : Int) ≤ (-1000 : Int) * (11 : Int)) (c7 : (-1000 : Int) * (11 : Int) ≤ (9223372036854775807 : Int)) (c8 : (-9223372036854775808 : Int) ≤ (-1000 : Int) * (11 : Int) - (↑i : Int)) (c9 : (-1000 : Int) * (11 : Int) - (↑i : Int) ≤ (9223372036854775807 : Int)) (c10 : (0 : Int) ≤ (↑i : Int)) (c11 : (↑i : Int) < (↑n1 : Int)) (c12 : (0 : Nat) + i < n1) (c13 : (1 : Nat) ≤ (1 : Nat)) (c14 : (-9223372036854775808 : Int) ≤ (↑i : Int) + (1 : Int)) (c15 : (↑i : Int) + (1 : Int) ≤ (9223372036854775807 : Int)) : Sx.PieceN 9 (Sx.Ex.normal) [(0, .slc false false ⟨false, 0, 0, 0⟩ 4), (3, .int true .i64 1), (4, .int true .i64 ((↑i : Int) + (1 : Int)))] [(0, .cells false 1 4 (.fn (lsR n0 n1 n2 n3))), (2, .cells true 1 n1 (.fn fun j => bif Nat.beq j ((0 : Nat) + i) then [Sx.AV.flt true (Sx.fsub (Sx.ofInt ((-1000 : Int) * (11 : Int) - (↑i : Int))) (4620130267728707584 : Nat))] else [Sx.AV.flt true (ra j)]))] (piececallP Try.f10 ((Sx.nav [1,0,1,0,0,1,0,0,1,0,0] (Sx.bodyOf Try.f10))) (Sx.frL [(0, .slc false false ⟨false, 0, 0, 0⟩ 4), (3, .int true .i64 1), (4, .int true .i64 ((i : Nat) : Int))]) (Sx.hpL [(0, .cells false 1 4 (.fn (lsR n0 n1 n2 n3))), (2, .cells true 1 (n1) (.fn fun j => [.flt true (ra j)]))]) 9 [true]) := Sx.eqn (q := (((((((((((True ∧ (((0 : Int) ≤ (1 : Int)) ∧ ((1 : Int) < (4 : Int)))) ∧ ((1 : Nat) < (4 : Nat))) ∧ (decide ((↑i : Int) < (↑n1 : Int)) = true)) ∧ (((0 : Int) ≤ (1 : Int)) ∧ ((1 : Int) < (4 : Int)))) ∧ ((1 : Nat) < (4 : Nat))) ∧ (((-9223372036854775808 : Int) ≤ (11 : Int)) ∧ ((11 : Int) ≤ (9223372036854775807 : Int)))) ∧ (((-9223372036854775808 : Int) ≤ (-1000 : Int) * (11 : Int)) ∧ (((-1000 : Int) * (11 : Int) ≤ (9223372036854775807 : Int)) ∧ (((-9223372036854775808 : Int) ≤ (-1000 : Int) * (11 : Int) - (↑i : Int)) ∧ ((-1000 : Int) * (11 : Int) - (↑i : Int) ≤ (9223372036854775807 : Int)))))) ∧ (((0 : Int) ≤ (↑i : Int)) ∧ ((↑i : Int) < (↑n1 : Int)))) ∧ ((0 : Nat) + i < n1)) ∧ ((1 : Nat) ≤ (1 : Nat))) ∧ (((-9223372036854775808 : Int) ≤ (↑i : Int) + (1 : Int)) ∧ ((↑i : Int) + (1 : Int) ≤ (9223372036854775807 : Int))))) (by kernel_rfl) ⟨⟨⟨⟨⟨⟨⟨⟨⟨⟨⟨trivial, ⟨c0, c1⟩⟩, c2⟩, c3⟩, ⟨c0, c1⟩⟩, c2⟩, ⟨c4, c5⟩⟩, ⟨c6, ⟨c7, ⟨c8, c9⟩⟩⟩⟩, ⟨c10, c11⟩⟩, c12⟩, c13⟩, ⟨c14, c15⟩⟩
theorem apW1_r1 (n0 n1 n2 n3 i g t : Nat) (ra : Nat → Nat) (c0 : (0 : Int) ≤ (1 : Int)) (c1 : (1 : Int) < (4 : Int)) (c2 : (1 : Nat) < (4 : Nat)) (c3 : decide ((↑i : Int) < (↑n1 : Int)) = false) : Sx.PieceN 9 (Sx.Ex.exit (2 : Nat)) [(0, .slc false false ⟨false, 0, 0, 0⟩ 4), (3, .int true .i64 1), (4, .int true .i64 (↑i : Int))] [(0, .cells false 1 4 (.fn (lsR n0 n1 n2 n3))), (2, .cells true 1 n1 (.fn fun j => [Sx.AV.flt true (ra j)]))] (piececallP Try.f10 ((Sx.nav [1,0,1,0,0,1,0,0,1,0,0] (Sx.bodyOf Try.f10))) (Sx.frL [(0, .slc false false ⟨false, 0, 0, 0⟩ 4), (3, .int true .i64 1), (4, .int true .i64 ((i : Nat) : Int))]) (Sx.hpL [(0, .cells false 1 4 (.fn (lsR n0 n1 n2 n3))), (2, .cells true 1 (n1) (.fn fun j => [.flt true (ra j)]))]) 9 [false]) := Sx.eqn (q := (((True ∧ (((0 : Int) ≤ (1 : Int)) ∧ ((1 : Int) < (4 : Int)))) ∧ ((1 : Nat) < (4 : Nat))) ∧ (decide ((↑i : Int) < (↑n1 : Int)) = false))) (by kernel_rfl) ⟨⟨⟨trivial, ⟨c0, c1⟩⟩, c2⟩, c3⟩
theorem apW1 (B : Nat) (hB : B ≤ 9) (n0 n1 n2 n3 i g t : Nat) (ra : Nat → Nat) (x0 : ((decide ((↑i : Int) < (↑n1 : Int))) = true → ((-9223372036854775808 : Int) ≤ (-1000 : Int) * (11 : Int) - (↑i : Int)))) (x1 : ((decide ((↑i : Int) < (↑n1 : Int))) = true → ((↑i : Int) + (1 : Int) ≤ (9223372036854775807 : Int)))) : Sx.GoesB Try.prog ((Sx.nav [1,0,1,0,0,1,0,0,1,0,0] (Sx.bodyOf Try.f10))) Try.f10.ntmps B 9 9 (Sx.frL [(0, .slc false false ⟨false, 0, 0, 0⟩ 4), (3, .int true .i64 1), (4, .int true .i64 ((i : Nat) : Int))]) (Sx.hpL [(0, .cells false 1 4 (.fn (lsR n0 n1 n2 n3))), (2, .cells true 1 (n1) (.fn fun j => [.flt true (ra j)]))]) fun e fr' H' => (cond (decide ((↑i : Int) < (↑n1 : Int))) (e = .normal ∧ fr' = Sx.frL [(0, .slc false false ⟨false, 0, 0, 0⟩ 4), (3, .int true .i64 1), (4, .int true .i64 ((↑i : Int) + (1 : Int)))] ∧ H' = Sx.hpL [(0, .cells false 1 4 (.fn (lsR n0 n1 n2 n3))), (2, .cells true 1 n1 (.fn fun j => bif Nat.beq j ((0 : Nat) + i) then [Sx.AV.flt true (Sx.fsub (Sx.ofInt ((-1000 : Int) * (11 : Int) - (↑i : Int))) (4620130267728707584 : Nat))] else [Sx.AV.flt true (ra j)]))]) (e = .exit 2 ∧ fr' = Sx.frL [(0, .slc false false ⟨false, 0, 0, 0⟩ 4), (3, .int true .i64 1), (4, .int true .i64 (↑i : Int))] ∧ H' = Sx.hpL [(0, .cells false 1 4 (.fn (lsR n0 n1 n2 n3))), (2, .cells true 1 n1 (.fn fun j => [Sx.AV.flt true (ra j)]))])) := by
 cases t0 : decide ((↑i : Int) < (↑n1 : Int)) with
 | true =>
  exact (Sx.GoesB.runN callP_ok (callP_reg _) (Sx.LoopsIn.none _ _ _) (apW1_r0 n0 n1 n2 n3 i g t ra (by first | decide | ((try simp only [decide_eq_true_eq, decide_eq_false_iff_not] at t0); (try simp only [List.length_take, List.length_drop]); omega)) (by first | decide | ((try simp only [decide_eq_true_eq, decide_eq_false_iff_not] at t0); (try simp only [List.length_take, List.length_drop]); omega)) (by first | decide | ((try simp only [decide_eq_true_eq, decide_eq_false_iff_not] at t0); (try simp only [List.length_take, List.length_drop]); omega)) t0 (by first | decide | ((try simp only [decide_eq_true_eq, decide_eq_false_iff_not] at t0); (try simp only [List.length_take, List.length_drop]); omega)) (by first | decide | ((try simp only [decide_eq_true_eq, decide_eq_false_iff_not] at t0); (try simp only [List.length_take, List.length_drop]); omega)) (by first | decide | ((try simp only [decide_eq_true_eq, decide_eq_false_iff_not] at t0); (try simp only [List.length_take, List.length_drop]); omega)) (by first | decide | ((try simp only [decide_eq_true_eq, decide_eq_false_iff_not] at t0); (try simp only [List.length_take, List.length_drop]); omega)) (x0 t0) (by first | decide | ((try simp only [decide_eq_true_eq, decide_eq_false_iff_not] at t0); (try simp only [List.length_take, List.length_drop]); omega)) (by first | decide | ((try simp only [decide_eq_true_eq, decide_eq_false_iff_not] at t0); (try simp only [List.length_take, List.length_drop]); omega)) (by first | decide | ((try simp only [decide_eq_true_eq, decide_eq_false_iff_not] at t0); (try simp only [List.length_take, List.length_drop]); omega)) (by first | decide | ((try simp only [decide_eq_true_eq, decide_eq_false_iff_not] at t0); (try simp only [List.length_take, List.length_drop]); omega)) (by first | decide | ((try simp only [decide_eq_true_eq, decide_eq_false_iff_not] at t0); (try simp only [List.length_take, List.length_drop]); omega)) (by first | decide | ((try simp only [decide_eq_true_eq, decide_eq_false_iff_not] at t0); (try simp only [List.length_take, List.length_drop]); omega)) (x1 t0)) hB).mono fun e fr' H' h => by first | (simp only [t0, cond_true, cond_false]; exact h) | (simp only [t0, cond_true, cond_false] at h ⊢; exact h)
 | false =>
  exact (Sx.GoesB.runN callP_ok (callP_reg _) (Sx.LoopsIn.none _ _ _) (apW1_r1 n0 n1 n2 n3 i g t ra (by first | decide | ((try simp only [decide_eq_true_eq, decide_eq_false_iff_not] at t0); (try simp only [List.length_take, List.length_drop]); omega)) (by first | decide | ((try simp only [decide_eq_true_eq, decide_eq_false_iff_not] at t0); (try simp only [List.length_take, List.length_drop]); omega)) (by first | decide | ((try simp only [decide_eq_true_eq, decide_eq_false_iff_not] at t0); (try simp only [List.length_take, List.length_drop]); omega)) t0) hB).mono fun e fr' H' h => by first | (simp only [t0, cond_true, cond_false]; exact h) | (simp only [t0, cond_true, cond_false] at h ⊢; exact h)
end Go.Proofs.Ytpdokjldpepjcaa
