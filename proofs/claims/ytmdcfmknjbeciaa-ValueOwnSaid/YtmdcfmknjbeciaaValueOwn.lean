/- ValueOwn: returns true for every input; no conditions. By the engine's runs, checked by the kernel. -/
import Derived.Test.YtmdcfmknjbeciaaRows
import Derived.ProofKit
import Derived.OpenShut
import Derived.KernelRfl
import Derived.SizedLaws
import Derived.Carry
import Derived.ChangeMaps5
import Derived.Test.YtmdcfmknjbeciaaValueOwnPD
namespace Go.Proofs.Ytmdcfmknjbeciaa
open Go.ChangeShapes Go.WideShapes Go.ChangeAt Go.RowKit
set_option linter.unusedVariables false
set_option linter.unusedSimpArgs false
set_option maxRecDepth 100000

theorem own : ownKnob Try.prog.godebug = none := by kernel_rfl
theorem laidOut : laidOutB Try.prog = true := by kernel_rfl
theorem law_walk {H : Type} {enc : TypeId × Value → H} {base : Nat} {ts : List TypeId} {ds : List (DataW H)} {d0 : DataW H} {p0 : List MemPlace} {w : World} (v0 : Value) (hv0 : Value.okWide Try.prog w .any base 33 v0) (h0 : DataW.Trod enc Try.prog w 0 (fun _ => true) true 33 v0 d0 p0) (z0 : (DataW.weightsEach Try.prog ts ds).all (· ≤ reachBytes) = true)
  (s1 : ByteArray) (hs1 : s1.size ≤ reachBytes) (s2 : ByteArray) (hs2 : s2.size ≤ reachBytes) (s3 : ByteArray) (hs3 : s3.size ≤ reachBytes) (k4 : Int) (w4 : (Lit.int .u64 k4).wf = true) (k5 : Int) (w5 : (Lit.int .i64 k5).wf = true) (w' : World) (hw : w' = w) :
  Calls Try.prog 6 #[v0, .string s1, .string s2, .string s3, .int .u64 k4, .int .i64 k5] w fun e w' => e = .returned (.bool true) ∧ Below w.heap.size w w' := by
 obtain ⟨c, hr, hok⟩ := Sx.open_agg (n := 3) (shs := [.int .u8, .str, .str, .str, .str, .str, .int .u64, .int .i64]) Try.underlying33 (by kernel_rfl) (by kernel_rfl) hv0 h0
 have bd : ∀ {x : Value}, (Sx.Sh.int .u64).ok x → 0 ≤ Sx.intOf x ∧ Sx.intOf x < 18446744073709551616 := fun {x} h => by
  obtain ⟨n, rfl, hw⟩ := h
  have := bounds_u64 hw
  simp only [Sx.intOf]; omega
 have b1 := bd (hok 6 _ rfl)
 have b4 := bounds_u64 w4
 obtain ⟨v, hv⟩ : ∃ v : Nat, Sx.intOf (c 6) = (v : Int) := ⟨(Sx.intOf (c 6)).toNat, by omega⟩
 have hr' : ∀ N μ, Sx.Rep N μ (.agg [.int true .u8 (Sx.intOf (c 0)), .str true (Sx.strOf (c 1)), .str true (Sx.strOf (c 2)), .str true (Sx.strOf (c 3)), .str true (Sx.strOf (c 4)), .str true (Sx.strOf (c 5)), .int true .u64 (Sx.intOf (c 6)), .int true .i64 (Sx.intOf (c 7))]) v0 := hr
 simp only [hv] at hr'
 exact Sx.goes_true (K := 0) (μ := Sx.MM.none) (bl := []) Try.func6 rfl (by kernel_rfl) (t := 12) (by kernel_rfl) (own_goes (Sx.intOf (c 0)) (Sx.intOf (c 7)) k4 k5 (Sx.strOf (c 1)) (Sx.strOf (c 2)) (Sx.strOf (c 3)) (Sx.strOf (c 4)) (Sx.strOf (c 5)) s1.data.toList s2.data.toList s3.data.toList v (by omega) (by omega) (by omega)) ⟨fun i b hb => (hpL_none hb).elim, fun i b hb => (hpL_none hb).elim, fun i b j b' hi _ _ _ _ _ => (hpL_none hi).elim⟩ (fun B => by rintro ⟨i, b, hb, _⟩; exact hpL_none hb) (by
  have h1 := hr' 0 Sx.MM.none
  simp only [Sx.Reps, Sx.Rep] at h1 ⊢
  exact ⟨v0, _, rfl, h1, _, _, rfl, rfl, _, _, rfl, rfl, _, _, rfl, rfl, _, _, rfl, rfl, _, _, rfl, rfl, rfl⟩)


set_option maxRecDepth 100000 in
theorem law_lifted (os : Os) (started : os.Started) (H : Type) (enc : TypeId × Value → H) :
  ReturnsInHanded {} Try.checked os 6 .any (Rows.valueOwnSpec.pre6 enc Try.prog Try.f6 Rows.valueOwnRow.domain false) (Rows.valueOwnSpec.post enc Try.prog Try.f6 false true false false) := by
 refine returnsInHanded_of_change_sized (C := Try.checked) own started (by kernel_rfl) Try.func6
  (ChangeSpec.witness6 (enc := enc) (C := Try.checked) false ⟨#[], #[.agg #[.int .u8 0, .string ⟨#[]⟩, .string ⟨#[]⟩, .string ⟨#[]⟩, .string ⟨#[]⟩, .string ⟨#[]⟩, .int .u64 0, .int .i64 0], .string ⟨#[]⟩, .string ⟨#[]⟩, .string ⟨#[]⟩, .int .u64 0, .int .i64 0], []⟩ 8 (by kernel_rfl) (by kernel_rfl) (by kernel_rfl) (by kernel_rfl)) ?_
 intro W base args ds gs before hval0 hW hcnd hsz0 _
 have hval : ∀ (j : Nat) t v, Try.f6.params[j]? = some t → args[j]? = some v → Value.okWide Try.prog W .any base t v := hval0
 have hsz1 : (DataW.weightsEach Try.prog (Try.f6.params.toList ++ Rows.valueOwnSpec.plain.varTypes Try.prog) (ds ++ gs)).all (· ≤ reachBytes) = true := hsz0
 have hsz : (DataW.weightsEach Try.prog [33, 9, 9, 9, 31, 3] (ds ++ gs)).all (· ≤ reachBytes) = true := by
  have e : Try.f6.params.toList ++ Rows.valueOwnSpec.plain.varTypes Try.prog = [33, 9, 9, 9, 31, 3] := by rw [Try.params6]; kernel_rfl
  rw [← e]; exact hsz1
 have hW' := hW
 obtain ⟨p, q, hA0, hV, rfl, hfz, hnd⟩ := hW
 have hA : DataW.TrodAll enc Try.prog W 0 (fun _ => true) true Try.f6.params.toList args.toList ds p := hA0
 rw [Try.params6] at hA hval
 obtain ⟨v0, vs0, d0, ds0, p0, q0, hargs, rfl, rfl, h0, r0⟩ := trodAll_cons hA
 obtain ⟨v1, vs1, d1, ds1, p1, q1, rfl, rfl, rfl, h1, r1⟩ := trodAll_cons r0
 obtain ⟨v2, vs2, d2, ds2, p2, q2, rfl, rfl, rfl, h2, r2⟩ := trodAll_cons r1
 obtain ⟨v3, vs3, d3, ds3, p3, q3, rfl, rfl, rfl, h3, r3⟩ := trodAll_cons r2
 obtain ⟨v4, vs4, d4, ds4, p4, q4, rfl, rfl, rfl, h4, r4⟩ := trodAll_cons r3
 obtain ⟨v5, vs5, d5, ds5, p5, q5, rfl, rfl, rfl, h5, r5⟩ := trodAll_cons r4
 obtain ⟨rfl, rfl, rfl⟩ := trodAll_nil r5
 obtain rfl : args = #[v0, v1, v2, v3, v4, v5] := by cases args; simp_all
 obtain ⟨rfl, rfl⟩ := trodVars_none hV
 rw [List.append_nil] at hsz
 have hk0 := h0
 have hlt0 : ∀ x ∈ p0, x.block < W.heap.size := DataW.TrodAll.lt (trodAll_mk1 h0)
 have hk1 := h1
 have hlt1 : ∀ x ∈ p1, x.block < W.heap.size := DataW.TrodAll.lt (trodAll_mk1 h1)
 have hk2 := h2
 have hlt2 : ∀ x ∈ p2, x.block < W.heap.size := DataW.TrodAll.lt (trodAll_mk1 h2)
 have hk3 := h3
 have hlt3 : ∀ x ∈ p3, x.block < W.heap.size := DataW.TrodAll.lt (trodAll_mk1 h3)
 have hk4 := h4
 have hlt4 : ∀ x ∈ p4, x.block < W.heap.size := DataW.TrodAll.lt (trodAll_mk1 h4)
 have hk5 := h5
 have hlt5 : ∀ x ∈ p5, x.block < W.heap.size := DataW.TrodAll.lt (trodAll_mk1 h5)
 obtain ⟨s1, e1, ed1, ep1, w1⟩ := Go.ChangeMaps.open_string Try.underlying9 (hval 1 9 v1 rfl rfl) h1
 have z1 : s1.size ≤ reachBytes := by
  have := sized_string hsz (j := 1) (t := 9) (bytes := s1.data.toList) rfl (by rw [← ed1]; rfl)
  simpa using this
 subst e1
 obtain ⟨s2, e2, ed2, ep2, w2⟩ := Go.ChangeMaps.open_string Try.underlying9 (hval 2 9 v2 rfl rfl) h2
 have z2 : s2.size ≤ reachBytes := by
  have := sized_string hsz (j := 2) (t := 9) (bytes := s2.data.toList) rfl (by rw [← ed2]; rfl)
  simpa using this
 subst e2
 obtain ⟨s3, e3, ed3, ep3, w3⟩ := Go.ChangeMaps.open_string Try.underlying9 (hval 3 9 v3 rfl rfl) h3
 have z3 : s3.size ≤ reachBytes := by
  have := sized_string hsz (j := 3) (t := 9) (bytes := s3.data.toList) rfl (by rw [← ed3]; rfl)
  simpa using this
 subst e3
 obtain ⟨a4, e4, ed4, ep4, w4⟩ := open_int Try.underlying31 (hval 4 31 v4 rfl rfl) h4
 subst e4
 obtain ⟨a5, e5, ed5, ep5, w5⟩ := open_int Try.underlying3 (hval 5 3 v5 rfl rfl) h5
 subst e5
 clear hA0 hval0 hsz0 hsz1
 refine (law_walk v0 (hval 0 33 v0 rfl rfl) h0 hsz s1 z1 s2 z2 s3 z3 a4 w4 a5 w5 W rfl).mono fun e W' ⟨he, bel⟩ => ?_
 subst he
 exact ⟨_, rfl, _, _, _, [], _, [], hW', trodAll_mk1 (shut_bool Try.underlying4 _), (trodAll_cons_mk (Below.trod laidOut (by kernel_rfl) (of_decide_eq_true (by kernel_rfl)) hk0 bel hlt0) (trodAll_cons_mk (Below.trod laidOut (by kernel_rfl) (of_decide_eq_true (by kernel_rfl)) hk1 bel hlt1) (trodAll_cons_mk (Below.trod laidOut (by kernel_rfl) (of_decide_eq_true (by kernel_rfl)) hk2 bel hlt2) (trodAll_cons_mk (Below.trod laidOut (by kernel_rfl) (of_decide_eq_true (by kernel_rfl)) hk3 bel hlt3) (trodAll_cons_mk (Below.trod laidOut (by kernel_rfl) (of_decide_eq_true (by kernel_rfl)) hk4 bel hlt4) (trodAll_cons_mk (Below.trod laidOut (by kernel_rfl) (of_decide_eq_true (by kernel_rfl)) hk5 bel hlt5) trodAll_mk0)))))), rfl, bel.frame _, fun h => by cases h⟩
theorem law_over : Rows.valueOwnRow.holds Try.pinned (OpenSpec.ofChange Rows.valueOwnSpec) :=
 OpenClaim.holds_of_wide 6 Try.f6 rfl rfl rfl rfl rfl rfl rfl ⟨rfl, rfl, rfl, rfl, rfl⟩ rfl rfl rfl rfl rfl (by kernel_rfl) Try.func6 (by kernel_rfl)
  (of_decide_eq_true (by kernel_rfl)) (by unfold Func.isWrapper; first | (rw [if_pos (by decide +kernel)]; kernel_rfl) | (rw [if_neg (by decide +kernel)]; exact ⟨rfl, rfl⟩))
  (fun os started H enc _ => law_lifted os started H enc)
/-- THE STATEMENT -/
theorem valueOwn_proved : Rows.ValueOwnSaid := law_over
#print axioms valueOwn_proved
end Go.Proofs.Ytmdcfmknjbeciaa
