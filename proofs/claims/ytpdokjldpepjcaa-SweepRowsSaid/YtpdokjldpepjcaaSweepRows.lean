/- SweepRows: returns true for every input; no conditions. By the engine's runs, checked by the kernel. -/
import Derived.Test.YtpdokjldpepjcaaRows
import Derived.ProofKit
import Derived.OpenShut
import Derived.KernelRfl
import Derived.SizedLaws
import Derived.Carry
import Derived.ChangeMaps5
import Derived.Test.YtpdokjldpepjcaaSweepRowsPC
namespace Go.Proofs.Ytpdokjldpepjcaa
open Go.ChangeShapes Go.WideShapes Go.ChangeAt Go.RowKit
set_option linter.unusedVariables false
set_option linter.unusedSimpArgs false
set_option maxRecDepth 100000

theorem own : ownKnob Try.prog.godebug = none := by kernel_rfl
theorem laidOut : laidOutB Try.prog = true := by kernel_rfl
theorem t_1 (x y : Int) (a d n1 n2 : Nat) (k e1 e2 : Int) (f g : Nat → Nat) (ha : a < 18446744073709551616) (hd : d < 18446744073709551616) (b1 : n1 ≤ 4096) (b2 : n2 ≤ 4096) (k1 : e1 = wr_0 a d k) (p1 : e1 = 0 → n1 = k.toNat) (q1 : e1 ≠ 0 → n1 = 0) (f1 : f = LV a d k.toNat) (k2 : e2 = OE a k) (p2 : e2 = 0 → n2 = k.toNat) (q2 : e2 ≠ 0 → n2 = 0) (f2 : g = DB a) : Sx.GoesB Try.prog (.seq (Sx.nav [1,1,1,0] (Sx.bodyOf Try.f3)) (.seq (Sx.nav [1,1,1,1,0] (Sx.bodyOf Try.f3)) (.seq (Sx.nav [1,1,1,1,1,0] (Sx.bodyOf Try.f3)) (.seq (Sx.nav [1,1,1,1,1,1,0] (Sx.bodyOf Try.f3)) (.seq (Sx.nav [1,1,1,1,1,1,1,0] (Sx.bodyOf Try.f3)) (.seq (Sx.nav [1,1,1,1,1,1,1,1,0] (Sx.bodyOf Try.f3)) (Sx.nav [1,1,1,1,1,1,1,1,1] (Sx.bodyOf Try.f3)))))))) Try.f3.ntmps 0 1 6 (Sx.frL [(7, .flt true a), (8, .flt true d), (2, .int true .i64 k), (9, .slc true true ⟨false, 0, 0, 0⟩ (n1)), (10, .int true .i64 e1)]) (Sx.hpL [(0, .cells true 1 (n1) (.fn fun j => [.flt true (f j)]))]) (fun e fr' H' => (e = .ret ∨ e = .normal) ∧ ∃ u, fr'.get 6 = some u ∧ Sx.AV.ge u (.bool true)) := by
 have hE := pg1 0 (by omega) x y a d n1 n2 k e1 e2 f g 
 by_cases he : wr_0 a d k = 0
 ·have eL := p1 (k1.trans he)
  refine Sx.GoesB.seqN (K1 := 2) (F1 := [(7, .flt true a), (8, .flt true d), (2, .int true .i64 k), (9, .slc true true ⟨false, 0, 0, 0⟩ (n1)), (10, .int true .i64 e1), (11, .slc true true ⟨false, 1, 0, 0⟩ (n1)), (12, .int true .i64 e1)]) (H1 := [(0, .cells true 1 (n1) (.fn fun j => [.flt true (f j)])), (1, .cells true 1 (n1) (.fn fun j => [.flt true (f j)]))]) ?_ (by omega) (t_2 x y a d n1 n2 k e1 e2 f g ha hd b1 b2 k1 p1 q1 f1 k2 p2 q2 f2)
  refine hE.post fun e fr' H' h => ?_
  rw [decide_eq_true he, cond_true] at h
  obtain ⟨rfl, rfl, rfl⟩ := h
  exact ⟨[(7, .flt true a), (8, .flt true d), (2, .int true .i64 k), (9, .slc true true ⟨false, 0, 0, 0⟩ (n1)), (10, .int true .i64 e1), (11, .slc true true ⟨false, 1, 0, 0⟩ (n1)), (12, .int true .i64 e1)], [(0, .cells true 1 (n1) (.fn fun j => [.flt true (f j)])), (1, .cells true 1 (n1) (.fn fun j => [.flt true (f j)]))], ⟨(Sx.re rfl), (Sx.re rfl), (Sx.re rfl), (Sx.re rfl), (Sx.re rfl), ⟨_, rfl, Sx.AV.ge.slc _ _ _ eL.symm⟩, ⟨_, rfl, Sx.AV.ge.int' _ _ _ (by rw [k1, he])⟩, trivial⟩, ⟨(Sx.hs rfl), ⟨_, rfl, ⟨rfl, rfl, eL.symm, fun j hj => by simp only [Sx.Cont.row]; rw [f1]⟩⟩, trivial⟩, rfl, rfl, rfl⟩
 ·have eL := q1 (fun c => he (k1.symm.trans c))
  refine Sx.GoesB.seqN (K1 := 1) (F1 := [(7, .flt true a), (8, .flt true d), (2, .int true .i64 k), (9, .slc true true ⟨false, 0, 0, 0⟩ (n1)), (10, .int true .i64 e1), (11, .nils), (12, .int true .i64 e1)]) (H1 := [(0, .cells true 1 (n1) (.fn fun j => [.flt true (f j)]))]) ?_ (by omega) ?_
  ·refine hE.renL fun e fr' H' h => ?_
   rw [decide_eq_false he, cond_false] at h
   obtain ⟨rfl, rfl, rfl⟩ := h
   exact ⟨id, [(7, .flt true a), (8, .flt true d), (2, .int true .i64 k), (9, .slc true true ⟨false, 0, 0, 0⟩ (n1)), (10, .int true .i64 e1), (11, .nils), (12, .int true .i64 e1)], [(0, .cells true 1 (n1) (.fn fun j => [.flt true (f j)]))], fun g hg => rfl, ⟨⟨_, rfl, Sx.AV.ge.refl _, rfl⟩, ⟨_, rfl, Sx.AV.ge.refl _, rfl⟩, ⟨_, rfl, Sx.AV.ge.refl _, rfl⟩, ⟨_, rfl, Sx.AV.ge.refl _, rfl⟩, ⟨_, rfl, Sx.AV.ge.refl _, rfl⟩, ⟨_, rfl, Sx.AV.ge.refl _, rfl⟩, ⟨_, rfl, Sx.AV.ge.int' _ _ _ k1.symm, rfl⟩, trivial⟩, ⟨⟨_, rfl, Sx.SameC.refl _, fun j hj u hu => low_f hu, by omega⟩, trivial⟩, fun i j _ _ h => h, rfl, rfl, rfl⟩
  ·refine Sx.GoesB.phantom 11 1 (fun j => [.flt true (f j)]) rfl (by omega) (by omega) ?_
   exact Sx.GoesB.weakL (fl := [(7, .flt true a), (8, .flt true d), (2, .int true .i64 k), (9, .slc true true ⟨false, 0, 0, 0⟩ (n1)), (10, .int true .i64 e1), (11, .slc true true ⟨false, 1, 0, 0⟩ (n1)), (12, .int true .i64 e1)]) (bl := [(0, .cells true 1 (n1) (.fn fun j => [.flt true (f j)])), (1, .cells true 1 (n1) (.fn fun j => [.flt true (f j)]))]) ⟨(Sx.re rfl), (Sx.re rfl), (Sx.re rfl), (Sx.re rfl), (Sx.re rfl), ⟨_, rfl, Sx.AV.ge.slc _ _ _ eL.symm⟩, (Sx.re rfl), trivial⟩ ⟨(Sx.hs rfl), ⟨_, rfl, ⟨rfl, rfl, eL.symm, fun j hj => rfl⟩⟩, trivial⟩ (t_2 x y a d n1 n2 k e1 e2 f g ha hd b1 b2 k1 p1 q1 f1 k2 p2 q2 f2)
theorem t_0 (x y : Int) (a d n1 n2 : Nat) (k e1 e2 : Int) (f g : Nat → Nat) (ha : a < 18446744073709551616) (hd : d < 18446744073709551616) (b1 : n1 ≤ 4096) (b2 : n2 ≤ 4096) (k1 : e1 = wr_0 a d k) (p1 : e1 = 0 → n1 = k.toNat) (q1 : e1 ≠ 0 → n1 = 0) (f1 : f = LV a d k.toNat) (k2 : e2 = OE a k) (p2 : e2 = 0 → n2 = k.toNat) (q2 : e2 ≠ 0 → n2 = 0) (f2 : g = DB a) : Sx.GoesB Try.prog (.seq (Sx.nav [1,1,0] (Sx.bodyOf Try.f3)) (.seq (Sx.nav [1,1,1,0] (Sx.bodyOf Try.f3)) (.seq (Sx.nav [1,1,1,1,0] (Sx.bodyOf Try.f3)) (.seq (Sx.nav [1,1,1,1,1,0] (Sx.bodyOf Try.f3)) (.seq (Sx.nav [1,1,1,1,1,1,0] (Sx.bodyOf Try.f3)) (.seq (Sx.nav [1,1,1,1,1,1,1,0] (Sx.bodyOf Try.f3)) (.seq (Sx.nav [1,1,1,1,1,1,1,1,0] (Sx.bodyOf Try.f3)) (Sx.nav [1,1,1,1,1,1,1,1,1] (Sx.bodyOf Try.f3))))))))) Try.f3.ntmps 0 0 6 (Sx.frL [(7, .flt true a), (8, .flt true d), (2, .int true .i64 k)]) (Sx.hpL []) (fun e fr' H' => (e = .ret ∨ e = .normal) ∧ ∃ u, fr'.get 6 = some u ∧ Sx.AV.ge u (.bool true)) := by
 have hE := pg0 0 (by omega) x y a d n1 n2 k e1 e2 f g 
 by_cases he : wr_0 a d k = 0
 ·have eL := p1 (k1.trans he)
  refine Sx.GoesB.seqN (K1 := 1) (F1 := [(7, .flt true a), (8, .flt true d), (2, .int true .i64 k), (9, .slc true true ⟨false, 0, 0, 0⟩ (n1)), (10, .int true .i64 e1)]) (H1 := [(0, .cells true 1 (n1) (.fn fun j => [.flt true (f j)]))]) ?_ (by omega) (t_1 x y a d n1 n2 k e1 e2 f g ha hd b1 b2 k1 p1 q1 f1 k2 p2 q2 f2)
  refine hE.post fun e fr' H' h => ?_
  rw [decide_eq_true he, cond_true] at h
  obtain ⟨rfl, rfl, rfl⟩ := h
  exact ⟨[(7, .flt true a), (8, .flt true d), (2, .int true .i64 k), (9, .slc true true ⟨false, 0, 0, 0⟩ (n1)), (10, .int true .i64 e1)], [(0, .cells true 1 (n1) (.fn fun j => [.flt true (f j)]))], ⟨(Sx.re rfl), (Sx.re rfl), (Sx.re rfl), ⟨_, rfl, Sx.AV.ge.slc _ _ _ eL.symm⟩, ⟨_, rfl, Sx.AV.ge.int' _ _ _ (by rw [k1, he])⟩, trivial⟩, ⟨⟨_, rfl, ⟨rfl, rfl, eL.symm, fun j hj => by simp only [Sx.Cont.row]; rw [f1]⟩⟩, trivial⟩, rfl, rfl, rfl⟩
 ·have eL := q1 (fun c => he (k1.symm.trans c))
  refine Sx.GoesB.seqN (K1 := 0) (F1 := [(7, .flt true a), (8, .flt true d), (2, .int true .i64 k), (9, .nils), (10, .int true .i64 e1)]) (H1 := []) ?_ (by omega) ?_
  ·refine hE.renL fun e fr' H' h => ?_
   rw [decide_eq_false he, cond_false] at h
   obtain ⟨rfl, rfl, rfl⟩ := h
   exact ⟨id, [(7, .flt true a), (8, .flt true d), (2, .int true .i64 k), (9, .nils), (10, .int true .i64 e1)], [], fun g hg => rfl, ⟨⟨_, rfl, Sx.AV.ge.refl _, rfl⟩, ⟨_, rfl, Sx.AV.ge.refl _, rfl⟩, ⟨_, rfl, Sx.AV.ge.refl _, rfl⟩, ⟨_, rfl, Sx.AV.ge.refl _, rfl⟩, ⟨_, rfl, Sx.AV.ge.int' _ _ _ k1.symm, rfl⟩, trivial⟩, trivial, fun i j _ _ h => h, rfl, rfl, rfl⟩
  ·refine Sx.GoesB.phantom 9 1 (fun j => [.flt true (f j)]) rfl (by omega) (by omega) ?_
   exact Sx.GoesB.weakL (fl := [(7, .flt true a), (8, .flt true d), (2, .int true .i64 k), (9, .slc true true ⟨false, 0, 0, 0⟩ (n1)), (10, .int true .i64 e1)]) (bl := [(0, .cells true 1 (n1) (.fn fun j => [.flt true (f j)]))]) ⟨(Sx.re rfl), (Sx.re rfl), (Sx.re rfl), ⟨_, rfl, Sx.AV.ge.slc _ _ _ eL.symm⟩, (Sx.re rfl), trivial⟩ ⟨⟨_, rfl, ⟨rfl, rfl, eL.symm, fun j hj => rfl⟩⟩, trivial⟩ (t_1 x y a d n1 n2 k e1 e2 f g ha hd b1 b2 k1 p1 q1 f1 k2 p2 q2 f2)
theorem law_is : (Sx.bodyOf Try.f3) = .seq (Sx.nav [0] (Sx.bodyOf Try.f3)) (.seq (Sx.nav [1,0] (Sx.bodyOf Try.f3)) (.seq (Sx.nav [1,1,0] (Sx.bodyOf Try.f3)) (.seq (Sx.nav [1,1,1,0] (Sx.bodyOf Try.f3)) (.seq (Sx.nav [1,1,1,1,0] (Sx.bodyOf Try.f3)) (.seq (Sx.nav [1,1,1,1,1,0] (Sx.bodyOf Try.f3)) (.seq (Sx.nav [1,1,1,1,1,1,0] (Sx.bodyOf Try.f3)) (.seq (Sx.nav [1,1,1,1,1,1,1,0] (Sx.bodyOf Try.f3)) (.seq (Sx.nav [1,1,1,1,1,1,1,1,0] (Sx.bodyOf Try.f3)) (Sx.nav [1,1,1,1,1,1,1,1,1] (Sx.bodyOf Try.f3)))))))))) := by kernel_rfl
theorem OE_b {a : Nat} {k : Int} (h : OE a k = 0) : wr_0 a a k = 0 := by
 unfold OE at h
 by_cases c : wr_0 a a k = 0
 ·exact c
 ·rw [decide_eq_false c, cond_false] at h; exact h
theorem len_ok {e : Int} {n : Nat} : ∃ m : Nat, (e = 0 → m = n) ∧ (e ≠ 0 → m = 0) := by
 by_cases h : e = 0
 ·exact ⟨n, fun _ => rfl, fun c => absurd h c⟩
 ·exact ⟨0, fun c => absurd c h, fun _ => rfl⟩
theorem law_goes (x y k : Int) (hx : 0 ≤ x) (hx2 : x < 18446744073709551616) (hy : 0 ≤ y) (hy2 : y < 18446744073709551616) :
  Sx.GoesB Try.prog (Sx.bodyOf Try.f3) Try.f3.ntmps 0 0 6 (Sx.frameOf [.int true .u64 x, .int true .u64 y, .int true .i64 k] 0 .e) (Sx.hpL []) (fun e fr' H' => (e = .ret ∨ e = .normal) ∧ ∃ u, fr'.get 6 = some u ∧ Sx.AV.ge u (.bool true)) := by
 obtain ⟨a, ea⟩ : ∃ a, Sx.cn x.toNat = a := ⟨_, rfl⟩
 obtain ⟨d, ed⟩ : ∃ d, Sx.cn y.toNat = d := ⟨_, rfl⟩
 have ha : a < 18446744073709551616 := ea ▸ Sx.cn_lt (by omega)
 have hd : d < 18446744073709551616 := ed ▸ Sx.cn_lt (by omega)
 obtain ⟨n1, p1, q1⟩ := len_ok (e := wr_0 a d k) (n := k.toNat)
 obtain ⟨n2, p2, q2⟩ := len_ok (e := OE a k) (n := k.toNat)
 have b1 : n1 ≤ 4096 := by
  by_cases c : wr_0 a d k = 0
  ·have := wr_ok c; have := p1 c; omega
  ·have := q1 c; omega
 have b2 : n2 ≤ 4096 := by
  by_cases c : OE a k = 0
  ·have := wr_ok (OE_b c); have := p2 c; omega
  ·have := q2 c; omega
 rw [law_is]
 refine Sx.GoesB.seqN (K1 := 0) (pgA 0 (by omega) x y 0 0 0 0 k 0 0 (fun _ => 0) (fun _ => 0)) (by omega) ?_
 refine Sx.GoesB.seqN (K1 := 0) (Sx.GoesB.toN (F' := [(7, .flt true a), (8, .flt true d), (2, .int true .i64 k)]) (H1' := []) (pgB 0 (by omega) x y 0 0 0 0 k 0 0 (fun _ => 0) (fun _ => 0) hx hx2 hy hy2) ⟨⟨_, rfl, Sx.AV.ge.rawn _ _ ea⟩, ⟨_, rfl, Sx.AV.ge.rawn _ _ ed⟩, (Sx.re rfl), trivial⟩ trivial) (by omega) ?_
 exact t_0 x y a d n1 n2 k (wr_0 a d k) (OE a k) (LV a d k.toNat) (DB a) ha hd b1 b2 rfl p1 q1 rfl rfl p2 q2 rfl
theorem law_walk (x : Int) (wx : (Lit.int .u64 x).wf = true) (y : Int) (wy : (Lit.int .u64 y).wf = true) (z : Int) (wz : (Lit.int .i64 z).wf = true) (w : World) :
  Calls Try.prog 3 #[.int .u64 x, .int .u64 y, .int .i64 z] w fun e w' => e = .returned (.bool true) ∧ Below w.heap.size w w' := by
 have hg := Sx.gv_gok (l := []) (hp := w.heap) fun i v hi μ N e1 e2 e3 => by cases i <;> simp at hi
 have bx := bounds_u64 wx
 have bY := bounds_u64 wy
 exact Sx.goes_true Try.func3 rfl (by kernel_rfl) (t := 6) (by kernel_rfl) (law_goes x y z (by omega) (by omega) (by omega) (by omega)) hg (fun B => Sx.gv_may (l := [])) (by simp only [Sx.Reps]; exact ⟨_, _, rfl, (by simp only [Sx.Rep]), _, _, rfl, (by simp only [Sx.Rep]), _, _, rfl, (by simp only [Sx.Rep]), rfl⟩)




set_option maxRecDepth 100000 in
theorem law_lifted (os : Os) (started : os.Started) (H : Type) (enc : TypeId × Value → H) :
  ReturnsInHanded {} Try.checked os 3 .any (Rows.sweepRowsSpec.pre6 enc Try.prog Try.f3 Rows.sweepRowsRow.domain false) (Rows.sweepRowsSpec.post enc Try.prog Try.f3 false true false false) := by
 refine returnsInHanded_of_change_sized (C := Try.checked) own started (by kernel_rfl) Try.func3
  (ChangeSpec.witness6 (enc := enc) (C := Try.checked) false ⟨#[], #[.int .u64 0, .int .u64 0, .int .i64 0], []⟩ 8 (by kernel_rfl) (by kernel_rfl) (by kernel_rfl) (by kernel_rfl)) ?_
 intro W base args ds gs before hval0 hW hcnd hsz0 _
 have hval : ∀ (j : Nat) t v, Try.f3.params[j]? = some t → args[j]? = some v → Value.okWide Try.prog W .any base t v := hval0
 have hsz1 : (DataW.weightsEach Try.prog (Try.f3.params.toList ++ Rows.sweepRowsSpec.plain.varTypes Try.prog) (ds ++ gs)).all (· ≤ reachBytes) = true := hsz0
 have hsz : (DataW.weightsEach Try.prog [22, 22, 3] (ds ++ gs)).all (· ≤ reachBytes) = true := by
  have e : Try.f3.params.toList ++ Rows.sweepRowsSpec.plain.varTypes Try.prog = [22, 22, 3] := by rw [Try.params3]; kernel_rfl
  rw [← e]; exact hsz1
 have hW' := hW
 obtain ⟨p, q, hA0, hV, rfl, hfz, hnd⟩ := hW
 have hA : DataW.TrodAll enc Try.prog W 0 (fun _ => true) true Try.f3.params.toList args.toList ds p := hA0
 rw [Try.params3] at hA hval
 obtain ⟨v0, vs0, d0, ds0, p0, q0, hargs, rfl, rfl, h0, r0⟩ := trodAll_cons hA
 obtain ⟨v1, vs1, d1, ds1, p1, q1, rfl, rfl, rfl, h1, r1⟩ := trodAll_cons r0
 obtain ⟨v2, vs2, d2, ds2, p2, q2, rfl, rfl, rfl, h2, r2⟩ := trodAll_cons r1
 obtain ⟨rfl, rfl, rfl⟩ := trodAll_nil r2
 obtain rfl : args = #[v0, v1, v2] := by cases args; simp_all
 obtain ⟨rfl, rfl⟩ := trodVars_none hV
 rw [List.append_nil] at hsz
 have hk0 := h0
 have hlt0 : ∀ x ∈ p0, x.block < W.heap.size := DataW.TrodAll.lt (trodAll_mk1 h0)
 have hk1 := h1
 have hlt1 : ∀ x ∈ p1, x.block < W.heap.size := DataW.TrodAll.lt (trodAll_mk1 h1)
 have hk2 := h2
 have hlt2 : ∀ x ∈ p2, x.block < W.heap.size := DataW.TrodAll.lt (trodAll_mk1 h2)
 obtain ⟨a0, e0, ed0, ep0, w0⟩ := open_int Try.underlying22 (hval 0 22 v0 rfl rfl) h0
 subst e0
 obtain ⟨a1, e1, ed1, ep1, w1⟩ := open_int Try.underlying22 (hval 1 22 v1 rfl rfl) h1
 subst e1
 obtain ⟨a2, e2, ed2, ep2, w2⟩ := open_int Try.underlying3 (hval 2 3 v2 rfl rfl) h2
 subst e2
 clear hA0 hval0 hsz0 hsz1
 refine (law_walk a0 w0 a1 w1 a2 w2 W).mono fun e W' ⟨he, bel⟩ => ?_
 subst he
 exact ⟨_, rfl, _, _, _, [], _, [], hW', trodAll_mk1 (shut_bool Try.underlying4 _), (trodAll_cons_mk (Below.trod laidOut (by kernel_rfl) (of_decide_eq_true (by kernel_rfl)) hk0 bel hlt0) (trodAll_cons_mk (Below.trod laidOut (by kernel_rfl) (of_decide_eq_true (by kernel_rfl)) hk1 bel hlt1) (trodAll_cons_mk (Below.trod laidOut (by kernel_rfl) (of_decide_eq_true (by kernel_rfl)) hk2 bel hlt2) trodAll_mk0))), rfl, bel.frame _, fun h => by cases h⟩
theorem law_over : Rows.sweepRowsRow.holds Try.pinned (OpenSpec.ofChange Rows.sweepRowsSpec) :=
 OpenClaim.holds_of_wide 3 Try.f3 rfl rfl rfl rfl rfl rfl rfl ⟨rfl, rfl, rfl, rfl, rfl⟩ rfl rfl rfl rfl rfl (by kernel_rfl) Try.func3 (by kernel_rfl)
  (of_decide_eq_true (by kernel_rfl)) (by unfold Func.isWrapper; first | (rw [if_pos (by decide +kernel)]; kernel_rfl) | (rw [if_neg (by decide +kernel)]; exact ⟨rfl, rfl⟩))
  (fun os started H enc _ => law_lifted os started H enc)
/-- THE STATEMENT -/
theorem sweepRows_proved : Rows.SweepRowsSaid := law_over
#print axioms sweepRows_proved
end Go.Proofs.Ytpdokjldpepjcaa
