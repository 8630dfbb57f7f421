/- PivotGrowths: returns true for every input; no conditions. By the engine's runs, checked by the kernel. -/
import Derived.Test.YtehhljcjdiokjaaRows
import Derived.ProofKit
import Derived.OpenShut
import Derived.KernelRfl
import Derived.SizedLaws
import Derived.Carry
import Derived.ChangeMaps5
import Derived.Test.YtehhljcjdiokjaaPivotGrowthsPB
namespace Go.Proofs.Ytehhljcjdiokjaa
open Go.ChangeShapes Go.WideShapes Go.ChangeAt Go.RowKit
set_option linter.unusedVariables false
set_option linter.unusedSimpArgs false

theorem own : ownKnob Try.prog.godebug = none := by kernel_rfl
theorem laidOut : laidOutB Try.prog = true := by kernel_rfl
theorem law_road (n m : Nat) (r1 d1 r2 d2 : Int) (re im rf ig : Nat → Int) (hn : n * 16 ≤ 140737488351232) (hm : m * 16 ≤ 140737488351232) (hA : ZB n re im) (hB : ZB m rf ig) :
  ∃ path v, Sx.PureP v (call5 5 [.agg [.int true .i64 r1, .int true .i64 d1, Sx.slcV 0 n], .agg [.int true .i64 r2, .int true .i64 d2, Sx.slcV 1 m]] (Sx.G.of [(0, .cells false 2 n (.fn fun j => [.int true .u64 (re j), .int true .u64 (im j)])), (1, .cells false 2 m (.fn fun j => [.int true .u64 (rf j), .int true .u64 (ig j)]))] 2 path)) ∧ v.low 0 = true ∧ ∀ c, (∀ N μ, Sx.Rep N μ v c) → c = .bool true := by
 have hZA := zb_z hA
 have hZB := zb_z hB
 have hCA := zb_c hA
 have hCB := zb_c hB
 have hLA := zb_l hA
 have hLB := zb_l hB
 have eA := fun g => grR_congr (r := r1) (d := d1) (fun j hj => zb_e (n := n) (re := re) (im := im) g j hj)
 have eB := fun g => grR_congr (r := r2) (d := d2) (fun j hj => zb_e (n := m) (re := rf) (im := ig) g j hj)
 refine ⟨_, _, lawY_r0 n m r1 d1 r2 d2 re im rf ig (by omega) (by omega) (fun j hj => hZA j hj) (fun j _ u hu => low_lit2 hu) (by omega) (by show (_ : Nat) ≤ _; omega) (fun j _ u hu => low_lit hu) (by omega) (by omega) (by omega) (by omega) (by omega) (fun j hj => hZB j hj) (fun j _ u hu => low_lit2 hu) (by omega) (by show (_ : Nat) ≤ _; omega) (fun j _ u hu => low_lit hu) (by omega) (by omega) (by omega) (fun j _ => hLA _ j) (fun j _ => (hLA _ j).bare) (by omega) (fun j hj => hCA j hj) (fun j _ u hu => low_lit hu) (by omega) (fun j _ => hLB _ j) (fun j _ => (hLB _ j).bare) (by omega) (fun j hj => hCA j hj) (fun j _ u hu => low_lit hu) (by omega) (fun j hj => hCB j hj) (fun j _ u hu => low_lit hu) (by omega) (by show (_ : Nat) ≤ _; omega) (fun j _ u hu => low_lit hu) (by omega) (by omega) (fun j _ => hLA _ j) (fun j _ => (hLA _ j).bare) (by omega) (fun j _ => hLA _ j) (fun j _ => (hLA _ j).bare) (Sx.cd_true ⟨rfl, fun j _ => ⟨rfl, rfl⟩⟩) (by omega) (by show (_ : Nat) ≤ _; omega) (fun j _ u hu => low_lit hu) (by omega) (by omega) (fun j _ => hLB _ j) (fun j _ => (hLB _ j).bare) (by omega) (fun j _ => hLB _ j) (fun j _ => (hLB _ j).bare) (decide_eq_true (congrArg Prod.snd (eA _))) (decide_eq_true (congrArg Prod.snd (gw_congr (eA _) (eB _)))) (decide_eq_true (congrArg Prod.fst (eA _))) (decide_eq_true (congrArg Prod.fst (gw_congr (eA _) (eB _)))), rfl, fun c hc => ?_⟩
 have := hc 0 Sx.MM.none
 simp only [Sx.Rep] at this
 rw [this]
 exact congrArg Value.bool (Sx.cd_true ⟨rfl, fun j _ => ⟨rfl, rfl⟩⟩)
theorem law_walk {H : Type} {enc : TypeId × Value → H} {base : Nat} {d0 d1 : DataW H} {p0 p1 : List MemPlace} {wd : World} (v0 : Value) (hv0 : Value.okWide Try.prog wd .any base 41 v0) (h0 : DataW.Trod enc Try.prog wd 0 (fun _ => true) true 41 v0 d0 p0) (z0 : (DataW.weightsEach Try.prog [41, 41] [d0, d1]).all (· ≤ reachBytes) = true) (v1 : Value) (hv1 : Value.okWide Try.prog wd .any base 41 v1) (h1 : DataW.Trod enc Try.prog wd 0 (fun _ => true) true 41 v1 d1 p1) (z1 : (DataW.weightsEach Try.prog [41, 41] [d0, d1]).all (· ≤ reachBytes) = true) (w' : World) (hw : w' = wd) :
  Calls Try.prog 5 #[v0, v1] wd fun e w' => e = .returned (.bool true) ∧ Below wd.heap.size wd w' := by
 obtain ⟨r0, dd0, n0, blk0, bs0, c0, hval0, hbk0, hok0, hn0⟩ := Sx.open_mat (n := 3) (shs := [.int .u64, .int .u64]) (i := 3) (s := 22) (e := 72) Try.underlying41 (by kernel_rfl) (by kernel_rfl) (by kernel_rfl) (by kernel_rfl) (by kernel_rfl) Try.underlying22 (by kernel_rfl) (by kernel_rfl) (by decide) hv0 h0 (fun x hx => of_decide_eq_true (List.all_eq_true.1 z0 x (DataW.weights_mem_each (j := 0) rfl rfl x hx)))
 rw [show Try.prog.bytesOf 72 = 16 by kernel_rfl] at hn0
 have hn0 : n0 * 16 ≤ 140737488351232 := hn0
 obtain ⟨r1, dd1, n1, blk1, bs1, c1, hval1, hbk1, hok1, hn1⟩ := Sx.open_mat (n := 3) (shs := [.int .u64, .int .u64]) (i := 3) (s := 22) (e := 72) Try.underlying41 (by kernel_rfl) (by kernel_rfl) (by kernel_rfl) (by kernel_rfl) (by kernel_rfl) Try.underlying22 (by kernel_rfl) (by kernel_rfl) (by decide) hv1 h1 (fun x hx => of_decide_eq_true (List.all_eq_true.1 z1 x (DataW.weights_mem_each (j := 1) rfl rfl x hx)))
 rw [show Try.prog.bytesOf 72 = 16 by kernel_rfl] at hn1
 have hn1 : n1 * 16 ≤ 140737488351232 := hn1
 have bd : ∀ {x : Value}, (Sx.Sh.int .u64).ok x → 0 ≤ Sx.intOf x ∧ Sx.intOf x < 18446744073709551616 := fun {x} h => by
  obtain ⟨n, rfl, hw⟩ := h
  have := bounds_u64 hw
  simp only [Sx.intOf]; omega
 obtain ⟨path, v, e1, e2, e3⟩ := law_road n0 n1 r0 dd0 r1 dd1 (fun j => Sx.intOf (c0 j 0)) (fun j => Sx.intOf (c0 j 1)) (fun j => Sx.intOf (c1 j 0)) (fun j => Sx.intOf (c1 j 1)) hn0 hn1 (fun j hj => ⟨(bd (hok0 j hj 0 _ rfl)).1, (bd (hok0 j hj 0 _ rfl)).2, (bd (hok0 j hj 1 _ rfl)).1, (bd (hok0 j hj 1 _ rfl)).2⟩) (fun j hj => ⟨(bd (hok1 j hj 0 _ rfl)).1, (bd (hok1 j hj 0 _ rfl)).2, (bd (hok1 j hj 1 _ rfl)).1, (bd (hok1 j hj 1 _ rfl)).2⟩)
 have hg := Sx.gv_gok (l := [⟨2, n0, blk0, bs0, fun j => [.int true .u64 (Sx.intOf (c0 j 0)), .int true .u64 (Sx.intOf (c0 j 1))]⟩, ⟨2, n1, blk1, bs1, fun j => [.int true .u64 (Sx.intOf (c1 j 0)), .int true .u64 (Sx.intOf (c1 j 1))]⟩]) (hp := wd.heap) fun i v hi μ N e1 e2 e3 => by
  match i, hi with
  | 0, hi => cases hi; exact hbk0 μ 0 N e1 e2 e3
  | 1, hi => cases hi; exact hbk1 μ 1 N e1 e2 e3
  | i + 2, hi => simp at hi
 exact Sx.heap_true call5_ok Try.func5 rfl (by kernel_rfl) e1 e2 e3 hg (fun B => Sx.gv_may (l := [⟨2, n0, blk0, bs0, fun j => [.int true .u64 (Sx.intOf (c0 j 0)), .int true .u64 (Sx.intOf (c0 j 1))]⟩, ⟨2, n1, blk1, bs1, fun j => [.int true .u64 (Sx.intOf (c1 j 0)), .int true .u64 (Sx.intOf (c1 j 1))]⟩])) (by simp only [Sx.Reps]; exact ⟨_, _, rfl, hval0 _ 0 _ (by decide) rfl rfl rfl, _, _, rfl, hval1 _ 1 _ (by decide) rfl rfl rfl, rfl⟩)



set_option maxRecDepth 100000 in
theorem law_lifted (os : Os) (started : os.Started) (H : Type) (enc : TypeId × Value → H) :
  ReturnsInHanded {} Try.checked os 5 .any (Rows.pivotGrowthsSpec.pre6 enc Try.prog Try.f5 Rows.pivotGrowthsRow.domain false) (Rows.pivotGrowthsSpec.post enc Try.prog Try.f5 false true false false) := by
 refine returnsInHanded_of_change_sized (C := Try.checked) own started (by kernel_rfl) Try.func5
  (ChangeSpec.witness6 (enc := enc) (C := Try.checked) false ⟨#[], #[.agg #[.int .i64 0, .int .i64 0, .slice none 0 0], .agg #[.int .i64 0, .int .i64 0, .slice none 0 0]], []⟩ 8 (by kernel_rfl) (by kernel_rfl) (by kernel_rfl) (by kernel_rfl)) ?_
 intro W base args ds gs before hval0 hW hcnd hsz0 _
 have hval : ∀ (j : Nat) t v, Try.f5.params[j]? = some t → args[j]? = some v → Value.okWide Try.prog W .any base t v := hval0
 have hsz1 : (DataW.weightsEach Try.prog (Try.f5.params.toList ++ Rows.pivotGrowthsSpec.plain.varTypes Try.prog) (ds ++ gs)).all (· ≤ reachBytes) = true := hsz0
 have hsz : (DataW.weightsEach Try.prog [41, 41] (ds ++ gs)).all (· ≤ reachBytes) = true := by
  have e : Try.f5.params.toList ++ Rows.pivotGrowthsSpec.plain.varTypes Try.prog = [41, 41] := by rw [Try.params5]; kernel_rfl
  rw [← e]; exact hsz1
 have hW' := hW
 obtain ⟨p, q, hA0, hV, rfl, hfz, hnd⟩ := hW
 have hA : DataW.TrodAll enc Try.prog W 0 (fun _ => true) true Try.f5.params.toList args.toList ds p := hA0
 rw [Try.params5] at hA hval
 obtain ⟨v0, vs0, d0, ds0, p0, q0, hargs, rfl, rfl, h0, r0⟩ := trodAll_cons hA
 obtain ⟨v1, vs1, d1, ds1, p1, q1, rfl, rfl, rfl, h1, r1⟩ := trodAll_cons r0
 obtain ⟨rfl, rfl, rfl⟩ := trodAll_nil r1
 obtain rfl : args = #[v0, v1] := by cases args; simp_all
 obtain ⟨rfl, rfl⟩ := trodVars_none hV
 rw [List.append_nil] at hsz
 have hk0 := h0
 have hlt0 : ∀ x ∈ p0, x.block < W.heap.size := DataW.TrodAll.lt (trodAll_mk1 h0)
 have hk1 := h1
 have hlt1 : ∀ x ∈ p1, x.block < W.heap.size := DataW.TrodAll.lt (trodAll_mk1 h1)
 clear hA0 hval0 hsz0 hsz1
 refine (law_walk v0 (hval 0 41 v0 rfl rfl) h0 hsz v1 (hval 1 41 v1 rfl rfl) h1 hsz W rfl).mono fun e W' ⟨he, bel⟩ => ?_
 subst he
 exact ⟨_, rfl, _, _, _, [], _, [], hW', trodAll_mk1 (shut_bool Try.underlying4 _), (trodAll_cons_mk (Below.trod laidOut (by kernel_rfl) (of_decide_eq_true (by kernel_rfl)) hk0 bel hlt0) (trodAll_cons_mk (Below.trod laidOut (by kernel_rfl) (of_decide_eq_true (by kernel_rfl)) hk1 bel hlt1) trodAll_mk0)), rfl, bel.frame _, fun h => by cases h⟩
theorem law_over : Rows.pivotGrowthsRow.holds Try.pinned (OpenSpec.ofChange Rows.pivotGrowthsSpec) :=
 OpenClaim.holds_of_wide 5 Try.f5 rfl rfl rfl rfl rfl rfl rfl ⟨rfl, rfl, rfl, rfl, rfl⟩ rfl rfl rfl rfl rfl (by kernel_rfl) Try.func5 (by kernel_rfl)
  (of_decide_eq_true (by kernel_rfl)) (by unfold Func.isWrapper; first | (rw [if_pos (by decide +kernel)]; kernel_rfl) | (rw [if_neg (by decide +kernel)]; exact ⟨rfl, rfl⟩))
  (fun os started H enc _ => law_lifted os started H enc)
/-- THE STATEMENT -/
theorem pivotGrowths_proved : Rows.PivotGrowthsSaid := law_over
#print axioms pivotGrowths_proved
end Go.Proofs.Ytehhljcjdiokjaa
