/- PivotChooses: returns true for every input; no conditions. By the engine's runs, checked by the kernel. -/
import Derived.Test.YtehhljcjdiokjaaRows
import Derived.ProofKit
import Derived.OpenShut
import Derived.KernelRfl
import Derived.SizedLaws
import Derived.Carry
import Derived.ChangeMaps5
import Derived.Test.YtehhljcjdiokjaaPivotChoosesPA
namespace Go.Proofs.Ytehhljcjdiokjaa
open Go.ChangeShapes Go.WideShapes Go.ChangeAt Go.RowKit
set_option linter.unusedVariables false
set_option linter.unusedSimpArgs false

theorem own : ownKnob Try.prog.godebug = none := by kernel_rfl
theorem laidOut : laidOutB Try.prog = true := by kernel_rfl
theorem ro_body (len fN : Nat) (f : Int) (re im : Nat → Nat) (ef : f = (fN : Int)) (hfl : fN < len) (hlen : len ≤ 64) (hF : ∀ j, fN ≤ j → j < fN + (len - fN) → cfin re im j = true) (k : Nat) (fr : Sx.Fr) (H : Sx.T Sx.ABk) (hI : roI len fN f re im k fr H) :
  Sx.GoesB Try.prog (Sx.nav [1,1,1,1,1,1,1,0,0] (Sx.bodyOf Try.f13)) Try.f13.ntmps 1 1 1 fr H fun e fr' H' => match e with
   | .normal => ∃ k', k' < k ∧ roI len fN f re im k' fr' H'
   | e => roP len fN re im e fr' H' := by
 obtain ⟨i, h1, h2, rfl, rfl, rfl⟩ := hI
 have ho := cgt_ordered hF
 obtain ⟨b1, b2⟩ := Sx.bst_greatest (by omega) ho
 obtain ⟨l1, l2, l3⟩ := Sx.bst_le (cgt re im) fN (len - fN)
 have l3 := l3 (by omega)
 have hil : i < len := by omega
 rw [ro_is]
 refine Sx.GoesB.seq (K1 := 1) (by omega) (Sx.GoesB.block (Sx.GoesB.seq (K1 := 1) (by omega) ((rcG 1 (by omega) len i f re im).mono fun e fr' H' ⟨e1, e2, e3⟩ => ?_)))
 subst e1 e2 e3
 refine Sx.GoesB.seq (K1 := 1) (by omega) (Sx.GoesB.seq (K1 := 1) (by omega) ((rcH 1 (by omega) len i f re im).mono fun e fr' H' ⟨e1, e2, e3⟩ => ?_))
 subst e1 e2 e3
 refine Sx.GoesB.weakL (fl := [(0, Sx.slcV 0 len), (1, .int true .i64 f), (8, .int true .i64 (i : Nat)), (9, .sbool (Sx.cd (∀ j, fN ≤ j → j < fN + (0) → (!cgt re im j i) = true))), (10, .int true .i64 ((fN + (0) : Nat) : Int))]) (bl := [(0, .cells false 1 len (.fn fun j => [.cpx true (re j) (im j)]))]) ⟨⟨_, rfl, Sx.AV.ge.refl _⟩, ⟨_, rfl, Sx.AV.ge.refl _⟩, ⟨_, rfl, Sx.AV.ge.refl _⟩, ⟨_, rfl, Sx.AV.ge.bool' (Sx.cd_true fun j h1 h2 => by omega).symm⟩, ⟨_, rfl, Sx.AV.ge.int' _ _ _ ef⟩, trivial⟩ ⟨⟨_, rfl, Sx.SameC.refl _⟩, trivial⟩ ?_
 refine Sx.GoesB.block ((Sx.GoesB.loop (rmI len fN i f re im) (Post := rmP len fN i f re im) (rm_body len fN i f re im hil hlen) _ _ _ ⟨0, rfl, by omega, rfl, rfl⟩).mono fun e fr' H' ⟨e1, e2, e3⟩ => ?_)
 subst e1 e2 e3
 simp only [if_true]
 refine (rcN 1 (by omega) len i f _ re im).mono fun e fr' H' h => ?_
 refine Sx.cond_elim h (fun t h => ?_) (fun t h => ?_)
 ·obtain ⟨rfl, rfl, rfl⟩ := h
  have ha := Sx.cd_iff.1 t
  have e : i = Sx.bst (cgt re im) fN (len - fN) := by
   refine Nat.le_antisymm h2 (Nat.le_of_not_lt fun hlt => ?_)
   have c1 := ha (Sx.bst (cgt re im) fN (len - fN)) l1 l3
   rw [ho _ i l1 l3 h1 (by omega), decide_eq_true (b2 i h1 hlt)] at c1
   cases c1
  exact ⟨rfl, true, false, by rw [← e]; rfl, rfl⟩
 ·obtain ⟨rfl, rfl, rfl⟩ := h
  have hne : i ≠ Sx.bst (cgt re im) fN (len - fN) := fun e => by
   have : Sx.cd (∀ j, fN ≤ j → j < fN + (len - fN) → (!cgt re im j i) = true) = true := Sx.cd_true fun j j1 j2 => by
    rw [ho j i j1 j2 h1 (by omega), decide_eq_false (by have hh := b1 j j1 j2; rw [← e] at hh; exact Int.not_lt.2 hh)]; rfl
   rw [this] at t; cases t
  refine (rcO 1 (by omega) len i f re im (by omega)).mono fun e fr' H' ⟨e1, e2, e3⟩ => ?_
  subst e1 e2 e3
  exact ⟨_, by omega, i + 1, by omega, by omega, rfl, rfl, rfl⟩
theorem rc_is : (Sx.bodyOf Try.f13) = .seq (Sx.nav [0] (Sx.bodyOf Try.f13)) (.seq (Sx.nav [1,0] (Sx.bodyOf Try.f13)) (.seq (Sx.nav [1,1,0] (Sx.bodyOf Try.f13)) (.seq (Sx.nav [1,1,1,0] (Sx.bodyOf Try.f13)) (.seq (.seq (Sx.nav [1,1,1,1,0,0] (Sx.bodyOf Try.f13)) (.block 0 (.loop (Sx.nav [1,1,1,1,0,1,0,0] (Sx.bodyOf Try.f13))))) (.seq (Sx.nav [1,1,1,1,1,0] (Sx.bodyOf Try.f13)) (.seq (Sx.nav [1,1,1,1,1,1,0] (Sx.bodyOf Try.f13)) (.block 2 (.loop (Sx.nav [1,1,1,1,1,1,1,0,0] (Sx.bodyOf Try.f13)))))))))) := by kernel_rfl
theorem rc_goes (len : Nat) (f : Int) (re im : Nat → Nat) :
  Sx.GoesB Try.prog (Sx.bodyOf Try.f13) Try.f13.ntmps 1 1 1 (Sx.frameOf [Sx.slcV 0 len, .int true .i64 f] 0 .e) (Sx.hpL [(0, .cells false 1 len (.fn fun j => [.cpx true (re j) (im j)]))]) (chQ len f re im 4 5) := by
 rw [rc_is]
 refine Sx.GoesB.seq (K1 := 1) (by omega) ((rcA 1 (by omega) len f re im).mono fun e fr' H' ⟨e1, e2, e3⟩ => ?_)
 subst e1 e2 e3
 refine Sx.GoesB.seq (K1 := 1) (by omega) ((rcB 1 (by omega) len f re im).mono fun e fr' H' h => ?_)
 refine Sx.cond_elim h (fun t1 h => ?_) (fun t1 h => ?_)
 ·obtain ⟨rfl, rfl, rfl⟩ := h
  exact ⟨.inl rfl, _, _, rfl, rfl, ch_q (by unfold chR; rw [t1]; rfl)⟩
 obtain ⟨rfl, rfl, rfl⟩ := h
 refine Sx.GoesB.seq (K1 := 1) (by omega) ((rcC 1 (by omega) len f re im).mono fun e fr' H' h => ?_)
 refine Sx.cond_elim h (fun t2 h => ?_) (fun t2 h => ?_)
 ·obtain ⟨rfl, rfl, rfl⟩ := h
  exact ⟨.inl rfl, _, _, rfl, rfl, ch_q (by unfold chR; rw [t1, t2]; rfl)⟩
 refine Sx.cond_elim h (fun t3 h => ?_) (fun t3 h => ?_)
 ·obtain ⟨rfl, rfl, rfl⟩ := h
  exact ⟨.inl rfl, _, _, rfl, rfl, ch_q (by unfold chR; rw [t1, t2, t3]; rfl)⟩
 obtain ⟨rfl, rfl, rfl⟩ := h
 have h1 := of_decide_eq_false t1
 have h2 := of_decide_eq_false t2
 have h3 := of_decide_eq_false t3
 have ef : f = ((f.toNat : Nat) : Int) := by omega
 refine Sx.GoesB.seq (K1 := 1) (by omega) ((rcD 1 (by omega) len f re im).mono fun e fr' H' ⟨e1, e2, e3⟩ => ?_)
 subst e1 e2 e3
 refine Sx.GoesB.seq (K1 := 1) (by omega) (Sx.GoesB.seq (K1 := 1) (by omega) ((rcE 1 (by omega) len f re im).mono fun e fr' H' ⟨e1, e2, e3⟩ => ?_))
 subst e1 e2 e3
 refine Sx.GoesB.weakL (fl := [(0, Sx.slcV 0 len), (1, .int true .i64 f), (6, .sbool (Sx.cd (∀ j, f.toNat ≤ j → j < f.toNat + (0) → czer re im j = true))), (7, .int true .i64 ((f.toNat + (0) : Nat) : Int))]) (bl := [(0, .cells false 1 len (.fn fun j => [.cpx true (re j) (im j)]))]) ⟨⟨_, rfl, Sx.AV.ge.refl _⟩, ⟨_, rfl, Sx.AV.ge.refl _⟩, ⟨_, rfl, Sx.AV.ge.bool' (Sx.cd_true fun j h1 h2 => by omega).symm⟩, ⟨_, rfl, Sx.AV.ge.int' _ _ _ ef⟩, trivial⟩ ⟨⟨_, rfl, Sx.SameC.refl _⟩, trivial⟩ ?_
 refine Sx.GoesB.block ((Sx.GoesB.loop (rcI len f.toNat f re im) (Post := rcP len f.toNat f re im) (rc_body len f.toNat f re im (by omega)) _ _ _ ⟨0, rfl, by omega, fun j h1 h2 => by omega, rfl, rfl⟩).mono fun e fr' H' hp => ?_)
 rcases hp with ⟨rfl, hF, rfl, rfl⟩ | ⟨rfl, hF, rfl, rfl⟩
 ·simp only [if_true]
  refine Sx.GoesB.seq (K1 := 1) (by omega) ((rcZ 1 (by omega) len f _ re im).mono fun e fr' H' h => ?_)
  refine Sx.cond_elim h (fun t4 h => ?_) (fun t4 h => ?_)
  ·obtain ⟨rfl, rfl, rfl⟩ := h
   exact ⟨.inl rfl, _, _, rfl, rfl, ch_q (by unfold chR; rw [t1, t2, t3, Sx.cd_true hF, t4]; rfl)⟩
  obtain ⟨rfl, rfl, rfl⟩ := h
  refine Sx.GoesB.seq (K1 := 1) (by omega) ((rcF 1 (by omega) len f re im).mono fun e fr' H' ⟨e1, e2, e3⟩ => ?_)
  subst e1 e2 e3
  refine Sx.GoesB.weakL (fl := [(0, Sx.slcV 0 len), (1, .int true .i64 f), (8, .int true .i64 (f.toNat : Nat))]) (bl := [(0, .cells false 1 len (.fn fun j => [.cpx true (re j) (im j)]))]) ⟨⟨_, rfl, Sx.AV.ge.refl _⟩, ⟨_, rfl, Sx.AV.ge.refl _⟩, ⟨_, rfl, Sx.AV.ge.int' _ _ _ ef⟩, trivial⟩ ⟨⟨_, rfl, Sx.SameC.refl _⟩, trivial⟩ ?_
  refine Sx.GoesB.block ((Sx.GoesB.loop (roI len f.toNat f re im) (Post := roP len f.toNat re im) (ro_body len f.toNat f re im ef (by omega) (by omega) hF) _ _ _ ⟨f.toNat, Nat.le_refl _, (Sx.bst_le _ _ _).1, rfl, rfl, rfl⟩).mono fun e fr' H' ⟨e1, s, s', e2, e3⟩ => ?_)
  subst e1
  exact ⟨.inl rfl, _, _, e2, e3, ch_q (by unfold chR; rw [t1, t2, t3, Sx.cd_true hF, t4]; rfl)⟩
 ·exact ⟨.inl rfl, _, _, rfl, rfl, ch_q (by unfold chR; rw [t1, t2, t3, Sx.cd_false hF]; rfl)⟩

noncomputable def chooseS : List Sx.AV → Sx.M Sx.AV
 | [x, .int s .i64 n] => (Sx.rd 1 x fun len rows => Sx.CRows len rows).andThen fun a => Sx.M.ret (.tup [.int true .i64 (chR a.1 n (fun j => Sx.cre (a.2 j)) (fun j => Sx.cim (a.2 j))).1, .int true .i64 (chR a.1 n (fun j => Sx.cre (a.2 j)) (fun j => Sx.cim (a.2 j))).2])
 | _ => Sx.M.no
theorem chooseS_ok : ∀ args v g g', chooseS args g = .done v g' → Sx.CallIs Try.prog 12 args v g g' := by
 intro args v g g' h
 unfold chooseS at h
 split at h
 ·rename_i x s n
  obtain ⟨⟨la, ra⟩, g1, a1, h1⟩ := Sx.done_of h
  obtain ⟨rfl, rfl⟩ := Sx.ret_done h1
  obtain ⟨q1, k1, f1⟩ := Sx.rd_done a1 (by omega)
  refine Sx.reads (c := (Sx.bodyOf Try.f12)) Try.func12 (by kernel_rfl) (by kernel_rfl) k1 [⟨x, 1, la, ra⟩] (fun hp v hv => ?_) (argsC := [Sx.slcV 0 la, .int true .i64 n]) (fun hp N μ cs hcs => ?_) (nms := []) (bs := []) (K' := 1) (fun hp => ?_) rfl (by simp [Sx.AV.inS, Sx.insS]) (by rw [k1.1]; rfl) (by rw [k1.2.1]; rfl) id
  ·rcases List.mem_cons.1 hv with rfl | hv
   ·exact (f1 hp).1
   ·cases hv
  ·simp only [Sx.Reps] at hcs
   obtain ⟨c, r, rfl, hc, c', r', rfl, hc', rfl⟩ := hcs
   simp only [Sx.Reps]
   exact ⟨c, _, rfl, Sx.vw_val (l := [⟨x, 1, la, ra⟩]) (i := 0) (f1 hp).1 rfl hc, c', _, rfl, by simpa only [Sx.Rep] using hc', rfl⟩
  ·obtain ⟨_, hz⟩ := f1 hp
   dsimp only at hz
   refine Sx.GoesB.weakGL (fl := [(0, Sx.slcV 0 la), (1, .int true .i64 n)]) (bl := [(0, .cells false 1 la (.fn fun j => [.cpx true (Sx.cre (ra j)) (Sx.cim (ra j))]))]) ⟨⟨_, rfl, Sx.AV.ge.refl _⟩, ⟨_, rfl, Sx.AV.ge.refl _⟩, trivial⟩ ⟨⟨_, rfl, rfl, rfl, rfl, fun j hj => (hz j hj).ge⟩, trivial⟩ ?_
   refine (ch_goes la n (fun j => Sx.cre (ra j)) (fun j => Sx.cim (ra j))).mono fun e fr' H' ⟨e1, u, v, e2, e3, e4, e5⟩ => ?_
   exact ⟨e1, _, _, Sx.res2 (t := 4) (t' := 5) (by kernel_rfl) e2 e3, trivial, Sx.AV.ge.tup2 e4 e5, Sx.news0⟩
 ·exact (Sx.no_done h).elim
theorem chooseS_tch : ∀ args, Sx.Tch (chooseS args) := by
 intro args
 unfold chooseS
 split
 ·exact (Sx.Tch.rd _ _ _).andThen fun _ => Sx.Tch.ret _
 ·exact Sx.Tch.no
noncomputable def rchooseS : List Sx.AV → Sx.M Sx.AV
 | [x, .int s .i64 n] => (Sx.rd 1 x fun len rows => Sx.CRows len rows).andThen fun a => Sx.M.ret (.tup [.int true .i64 (chR a.1 n (fun j => Sx.cre (a.2 j)) (fun j => Sx.cim (a.2 j))).1, .int true .i64 (chR a.1 n (fun j => Sx.cre (a.2 j)) (fun j => Sx.cim (a.2 j))).2])
 | _ => Sx.M.no
theorem rchooseS_ok : ∀ args v g g', rchooseS args g = .done v g' → Sx.CallIs Try.prog 13 args v g g' := by
 intro args v g g' h
 unfold rchooseS at h
 split at h
 ·rename_i x s n
  obtain ⟨⟨la, ra⟩, g1, a1, h1⟩ := Sx.done_of h
  obtain ⟨rfl, rfl⟩ := Sx.ret_done h1
  obtain ⟨q1, k1, f1⟩ := Sx.rd_done a1 (by omega)
  refine Sx.reads (c := (Sx.bodyOf Try.f13)) Try.func13 (by kernel_rfl) (by kernel_rfl) k1 [⟨x, 1, la, ra⟩] (fun hp v hv => ?_) (argsC := [Sx.slcV 0 la, .int true .i64 n]) (fun hp N μ cs hcs => ?_) (nms := []) (bs := []) (K' := 1) (fun hp => ?_) rfl (by simp [Sx.AV.inS, Sx.insS]) (by rw [k1.1]; rfl) (by rw [k1.2.1]; rfl) id
  ·rcases List.mem_cons.1 hv with rfl | hv
   ·exact (f1 hp).1
   ·cases hv
  ·simp only [Sx.Reps] at hcs
   obtain ⟨c, r, rfl, hc, c', r', rfl, hc', rfl⟩ := hcs
   simp only [Sx.Reps]
   exact ⟨c, _, rfl, Sx.vw_val (l := [⟨x, 1, la, ra⟩]) (i := 0) (f1 hp).1 rfl hc, c', _, rfl, by simpa only [Sx.Rep] using hc', rfl⟩
  ·obtain ⟨_, hz⟩ := f1 hp
   dsimp only at hz
   refine Sx.GoesB.weakGL (fl := [(0, Sx.slcV 0 la), (1, .int true .i64 n)]) (bl := [(0, .cells false 1 la (.fn fun j => [.cpx true (Sx.cre (ra j)) (Sx.cim (ra j))]))]) ⟨⟨_, rfl, Sx.AV.ge.refl _⟩, ⟨_, rfl, Sx.AV.ge.refl _⟩, trivial⟩ ⟨⟨_, rfl, rfl, rfl, rfl, fun j hj => (hz j hj).ge⟩, trivial⟩ ?_
   refine (rc_goes la n (fun j => Sx.cre (ra j)) (fun j => Sx.cim (ra j))).mono fun e fr' H' ⟨e1, u, v, e2, e3, e4, e5⟩ => ?_
   exact ⟨e1, _, _, Sx.res2 (t := 4) (t' := 5) (by kernel_rfl) e2 e3, trivial, Sx.AV.ge.tup2 e4 e5, Sx.news0⟩
 ·exact (Sx.no_done h).elim
theorem rchooseS_tch : ∀ args, Sx.Tch (rchooseS args) := by
 intro args
 unfold rchooseS
 split
 ·exact (Sx.Tch.rd _ _ _).andThen fun _ => Sx.Tch.ret _
 ·exact Sx.Tch.no
noncomputable def gam3 : Sx.Known := Sx.kc 54 Sx.toBits (Sx.kc 60 Sx.ofBits (Sx.kc 64 srealS (Sx.kc 29 rrealS (Sx.kc 10 numbersS (Sx.kc 11 lentS (Sx.kc 50 sameNS (Sx.kc 45 finS (Sx.kc 47 rfinS (Sx.kc 46 zerS (Sx.kc 48 rzerS (Sx.kc 20 szS (Sx.kc 49 rszS (Sx.kc 12 chooseS (Sx.kc 13 rchooseS (Sx.kc 14 livesS (Sx.kn))))))))))))))))
theorem gam3_ok : Sx.KnownOk Try.prog gam3 := Sx.kc_ok ((Sx.toBits_is Try.prog).callIs Try.func54 (by kernel_rfl) (by kernel_rfl) (by kernel_rfl) (by kernel_rfl)) (Sx.kc_ok ((Sx.ofBits_is Try.prog).callIs Try.func60 (by kernel_rfl) (by kernel_rfl) (by kernel_rfl) (by kernel_rfl)) (Sx.kc_ok srealS_ok (Sx.kc_ok rrealS_ok (Sx.kc_ok numbersS_ok (Sx.kc_ok lentS_ok (Sx.kc_ok sameNS_ok (Sx.kc_ok finS_ok (Sx.kc_ok rfinS_ok (Sx.kc_ok zerS_ok (Sx.kc_ok rzerS_ok (Sx.kc_ok szS_ok (Sx.kc_ok rszS_ok (Sx.kc_ok chooseS_ok (Sx.kc_ok rchooseS_ok (Sx.kc_ok livesS_ok (Sx.kn_ok))))))))))))))))
theorem gam3_tch : Sx.KnownT gam3 := Sx.kc_tch Sx.Tch.toBits (Sx.kc_tch Sx.Tch.ofBits (Sx.kc_tch srealS_tch (Sx.kc_tch rrealS_tch (Sx.kc_tch numbersS_tch (Sx.kc_tch lentS_tch (Sx.kc_tch sameNS_tch (Sx.kc_tch finS_tch (Sx.kc_tch rfinS_tch (Sx.kc_tch zerS_tch (Sx.kc_tch rzerS_tch (Sx.kc_tch szS_tch (Sx.kc_tch rszS_tch (Sx.kc_tch chooseS_tch (Sx.kc_tch rchooseS_tch (Sx.kc_tch livesS_tch (Sx.kn_tch))))))))))))))))
noncomputable def call3 : Sx.Calls' := Sx.runN Try.prog gam3 (Sx.regionC Try.prog) 1000 50
theorem call3_ok : Sx.CallOk Try.prog call3 := Sx.engineC gam3_ok gam3_tch (by kernel_rfl) (by kernel_rfl) 1000 50
theorem call3_tch : Sx.CallT call3 := Sx.runA_tch gam3_tch (fun _ _ _ h => by cases h) (fun call hc n l fr => Sx.regionC_tch hc n l fr) 50
theorem call3_reg (n : Nat) : Sx.RegionOk Try.prog (Sx.regionC Try.prog call3 n) n := Sx.runN_regionC gam3_ok gam3_tch (by kernel_rfl) (by kernel_rfl) 1000 50 n
noncomputable abbrev piececall3 (f : Func) (c : Code) (fr : Sx.Fr) (H : Sx.T Sx.ABk) (K : Nat) (path : List Bool) : Sx.Res (Sx.Ex × Sx.Fr) :=
 Sx.codeA Try.prog call3 (Sx.regionC Try.prog call3 f.ntmps) Sx.noLoops f.ntmps 1000 c fr ⟨H, K, [], path, True⟩

theorem law_r0 (n : Nat) (f : Int) (re im : Nat → Int) (c0 : (0 : Nat) + n ≤ n) (c1 : n * (16 : Nat) ≤ (140737488355328 : Nat)) (c2 : ∀ (j : Nat), j < n → Sx.ZRow [Sx.AV.int true IntKind.u64 (re ((0 : Nat) + j)), Sx.AV.int true IntKind.u64 (im ((0 : Nat) + j))]) (c3 : ∀ (j : Nat), j < n → ∀ (u : Sx.AV), u ∈ [Sx.AV.int true IntKind.u64 (re ((0 : Nat) + j)), Sx.AV.int true IntKind.u64 (im ((0 : Nat) + j))] → Sx.AV.low (0 : Nat) u = true) (c4 : (0 : Nat) + n ≤ n) (c5 : Nat.le ((n + (6 : Nat)) * (16 : Nat)) (140737488355328 : Nat)) (c6 : ∀ (j : Nat), j < n → ∀ (u : Sx.AV), u ∈ [Sx.AV.cpx true (Sx.cn (Int.toNat (re ((0 : Nat) + ((0 : Nat) + j))))) (Sx.cn (Int.toNat (im ((0 : Nat) + ((0 : Nat) + j)))))] → Sx.AV.low (0 : Nat) u = true) (c7 : (0 : Int) ≤ (0 : Int)) (c8 : (0 : Int) ≤ (↑n : Int)) (c9 : (↑n : Int) ≤ (↑(n + (1 : Nat) + (1 : Nat) + (1 : Nat) + (1 : Nat) + (1 : Nat) + (1 : Nat)) : Int)) (c10 : (0 : Nat) + n ≤ n + (1 : Nat) + (1 : Nat) + (1 : Nat) + (1 : Nat) + (1 : Nat) + (1 : Nat)) (c11 : ∀ (j : Nat), j < n → Sx.CRow (leR n (Sx.rowsOf (Sx.AA.mk false (1 : Nat) (0 : Nat) (0 : Nat)) (1 : Nat) (1 : Nat) (Sx.Cont.fn fun j => [Sx.AV.cpx true (Sx.cn (Int.toNat (re ((0 : Nat) + j)))) (Sx.cn (Int.toNat (im ((0 : Nat) + j))))])) ((0 : Nat) + j))) (c12 : ∀ (j : Nat), j < n → ∀ (u : Sx.AV), u ∈ leR n (Sx.rowsOf (Sx.AA.mk false (1 : Nat) (0 : Nat) (0 : Nat)) (1 : Nat) (1 : Nat) (Sx.Cont.fn fun j => [Sx.AV.cpx true (Sx.cn (Int.toNat (re ((0 : Nat) + j)))) (Sx.cn (Int.toNat (im ((0 : Nat) + j))))])) ((0 : Nat) + j) → Sx.AV.low (0 : Nat) u = true) (c13 : ∀ (j : Nat), j < n → Sx.CRow [Sx.AV.cpx true (Sx.cn (Int.toNat (re ((0 : Nat) + ((0 : Nat) + j))))) (Sx.cn (Int.toNat (im ((0 : Nat) + ((0 : Nat) + j)))))]) (c14 : decide (Prod.fst (chR n f (fun j => Sx.cre (leR n (Sx.rowsOf (Sx.AA.mk false (1 : Nat) (0 : Nat) (0 : Nat)) (1 : Nat) (1 : Nat) (Sx.Cont.fn fun j => [Sx.AV.cpx true (Sx.cn (Int.toNat (re ((0 : Nat) + j)))) (Sx.cn (Int.toNat (im ((0 : Nat) + j))))])) ((0 : Nat) + j))) fun j => Sx.cim (leR n (Sx.rowsOf (Sx.AA.mk false (1 : Nat) (0 : Nat) (0 : Nat)) (1 : Nat) (1 : Nat) (Sx.Cont.fn fun j => [Sx.AV.cpx true (Sx.cn (Int.toNat (re ((0 : Nat) + j)))) (Sx.cn (Int.toNat (im ((0 : Nat) + j))))])) ((0 : Nat) + j))) = Prod.fst (chR n f (fun j => Sx.cn (Int.toNat (re ((0 : Nat) + ((0 : Nat) + j))))) fun j => Sx.cn (Int.toNat (im ((0 : Nat) + ((0 : Nat) + j)))))) = true) (c15 : decide (Prod.snd (chR n f (fun j => Sx.cre (leR n (Sx.rowsOf (Sx.AA.mk false (1 : Nat) (0 : Nat) (0 : Nat)) (1 : Nat) (1 : Nat) (Sx.Cont.fn fun j => [Sx.AV.cpx true (Sx.cn (Int.toNat (re ((0 : Nat) + j)))) (Sx.cn (Int.toNat (im ((0 : Nat) + j))))])) ((0 : Nat) + j))) fun j => Sx.cim (leR n (Sx.rowsOf (Sx.AA.mk false (1 : Nat) (0 : Nat) (0 : Nat)) (1 : Nat) (1 : Nat) (Sx.Cont.fn fun j => [Sx.AV.cpx true (Sx.cn (Int.toNat (re ((0 : Nat) + j)))) (Sx.cn (Int.toNat (im ((0 : Nat) + j))))])) ((0 : Nat) + j))) = Prod.snd (chR n f (fun j => Sx.cn (Int.toNat (re ((0 : Nat) + ((0 : Nat) + j))))) fun j => Sx.cn (Int.toNat (im ((0 : Nat) + ((0 : Nat) + j)))))) = true) (c16 : (0 : Nat) + (n + (1 : Nat) + (1 : Nat) + (1 : Nat) + (1 : Nat) + (1 : Nat) + (1 : Nat)) ≤ n + (1 : Nat) + (1 : Nat) + (1 : Nat) + (1 : Nat) + (1 : Nat) + (1 : Nat)) (c17 : n + (1 : Nat) + (1 : Nat) + (1 : Nat) + (1 : Nat) + (1 : Nat) + (1 : Nat) ≤ (9223372036854775807 : Nat)) (c18 : ∀ (j : Nat), j < n + (1 : Nat) + (1 : Nat) + (1 : Nat) + (1 : Nat) + (1 : Nat) + (1 : Nat) → Sx.CRow (leR n (Sx.rowsOf (Sx.AA.mk false (1 : Nat) (0 : Nat) (0 : Nat)) (1 : Nat) (1 : Nat) (Sx.Cont.fn fun j => [Sx.AV.cpx true (Sx.cn (Int.toNat (re ((0 : Nat) + j)))) (Sx.cn (Int.toNat (im ((0 : Nat) + j))))])) ((0 : Nat) + j))) (c19 : ∀ (j : Nat), j < n + (1 : Nat) + (1 : Nat) + (1 : Nat) + (1 : Nat) + (1 : Nat) + (1 : Nat) → ∀ (u : Sx.AV), u ∈ leR n (Sx.rowsOf (Sx.AA.mk false (1 : Nat) (0 : Nat) (0 : Nat)) (1 : Nat) (1 : Nat) (Sx.Cont.fn fun j => [Sx.AV.cpx true (Sx.cn (Int.toNat (re ((0 : Nat) + j)))) (Sx.cn (Int.toNat (im ((0 : Nat) + j))))])) ((0 : Nat) + j) → Sx.AV.low (0 : Nat) u = true) (c20 : (0 : Nat) + (n + (1 : Nat) + (1 : Nat) + (1 : Nat) + (1 : Nat) + (1 : Nat) + (1 : Nat)) ≤ n + (1 : Nat) + (1 : Nat) + (1 : Nat) + (1 : Nat) + (1 : Nat) + (1 : Nat)) (c21 : ∀ (j : Nat), j < n + (1 : Nat) + (1 : Nat) + (1 : Nat) + (1 : Nat) + (1 : Nat) + (1 : Nat) → Sx.CRow (leR n (Sx.rowsOf (Sx.AA.mk false (1 : Nat) (0 : Nat) (0 : Nat)) (1 : Nat) (1 : Nat) (Sx.Cont.fn fun j => [Sx.AV.cpx true (Sx.cn (Int.toNat (re ((0 : Nat) + j)))) (Sx.cn (Int.toNat (im ((0 : Nat) + j))))])) ((0 : Nat) + j))) (c22 : ∀ (j : Nat), j < n + (1 : Nat) + (1 : Nat) + (1 : Nat) + (1 : Nat) + (1 : Nat) + (1 : Nat) → ∀ (u : Sx.AV), u ∈ leR n (Sx.rowsOf (Sx.AA.mk false (1 : Nat) (0 : Nat) (0 : Nat)) (1 : Nat) (1 : Nat) (Sx.Cont.fn fun j => [Sx.AV.cpx true (Sx.cn (Int.toNat (re ((0 : Nat) + j)))) (Sx.cn (Int.toNat (im ((0 : Nat) + j))))])) ((0 : Nat) + j) → Sx.AV.low (0 : Nat) u = true) : Sx.PureP (Sx.AV.sbool (Sx.cd (Sx.CSame (n + (1 : Nat) + (1 : Nat) + (1 : Nat) + (1 : Nat) + (1 : Nat) + (1 : Nat)) (n + (1 : Nat) + (1 : Nat) + (1 : Nat) + (1 : Nat) + (1 : Nat) + (1 : Nat)) (Sx.rowsOf (Sx.AA.mk false (2 : Nat) (0 : Nat) (0 : Nat)) (1 : Nat) (1 : Nat) (Sx.Cont.fn (leR n (Sx.rowsOf (Sx.AA.mk false (1 : Nat) (0 : Nat) (0 : Nat)) (1 : Nat) (1 : Nat) (Sx.Cont.fn fun j => [Sx.AV.cpx true (Sx.cn (Int.toNat (re ((0 : Nat) + j)))) (Sx.cn (Int.toNat (im ((0 : Nat) + j))))]))))) (Sx.rowsOf (Sx.AA.mk false (3 : Nat) (0 : Nat) (0 : Nat)) (1 : Nat) (1 : Nat) (Sx.Cont.fn (leR n (Sx.rowsOf (Sx.AA.mk false (1 : Nat) (0 : Nat) (0 : Nat)) (1 : Nat) (1 : Nat) (Sx.Cont.fn fun j => [Sx.AV.cpx true (Sx.cn (Int.toNat (re ((0 : Nat) + j)))) (Sx.cn (Int.toNat (im ((0 : Nat) + j))))])))))))) (call3 3 [Sx.slcV 0 n, .int true .i64 f] (Sx.G.of [(0, .cells false 2 n (.fn fun j => [.int true .u64 (re j), .int true .u64 (im j)]))] 1 [true, true])) := Sx.eqq (q := (((((((((((((((((True ∧ ((0 : Nat) + n ≤ n)) ∧ (((n * (16 : Nat) ≤ (140737488355328 : Nat)) ∧ (∀ (j : Nat), j < n → Sx.ZRow [Sx.AV.int true IntKind.u64 (re ((0 : Nat) + j)), Sx.AV.int true IntKind.u64 (im ((0 : Nat) + j))])) ∧ (∀ (j : Nat), j < n → ∀ (u : Sx.AV), u ∈ [Sx.AV.int true IntKind.u64 (re ((0 : Nat) + j)), Sx.AV.int true IntKind.u64 (im ((0 : Nat) + j))] → Sx.AV.low (0 : Nat) u = true))) ∧ ((0 : Nat) + n ≤ n)) ∧ ((Nat.le ((n + (6 : Nat)) * (16 : Nat)) (140737488355328 : Nat)) ∧ (∀ (j : Nat), j < n → ∀ (u : Sx.AV), u ∈ [Sx.AV.cpx true (Sx.cn (Int.toNat (re ((0 : Nat) + ((0 : Nat) + j))))) (Sx.cn (Int.toNat (im ((0 : Nat) + ((0 : Nat) + j)))))] → Sx.AV.low (0 : Nat) u = true))) ∧ (((0 : Int) ≤ (0 : Int)) ∧ (((0 : Int) ≤ (↑n : Int)) ∧ ((↑n : Int) ≤ (↑(n + (1 : Nat) + (1 : Nat) + (1 : Nat) + (1 : Nat) + (1 : Nat) + (1 : Nat)) : Int))))) ∧ ((0 : Nat) + n ≤ n + (1 : Nat) + (1 : Nat) + (1 : Nat) + (1 : Nat) + (1 : Nat) + (1 : Nat))) ∧ ((∀ (j : Nat), j < n → Sx.CRow (leR n (Sx.rowsOf (Sx.AA.mk false (1 : Nat) (0 : Nat) (0 : Nat)) (1 : Nat) (1 : Nat) (Sx.Cont.fn fun j => [Sx.AV.cpx true (Sx.cn (Int.toNat (re ((0 : Nat) + j)))) (Sx.cn (Int.toNat (im ((0 : Nat) + j))))])) ((0 : Nat) + j))) ∧ (∀ (j : Nat), j < n → ∀ (u : Sx.AV), u ∈ leR n (Sx.rowsOf (Sx.AA.mk false (1 : Nat) (0 : Nat) (0 : Nat)) (1 : Nat) (1 : Nat) (Sx.Cont.fn fun j => [Sx.AV.cpx true (Sx.cn (Int.toNat (re ((0 : Nat) + j)))) (Sx.cn (Int.toNat (im ((0 : Nat) + j))))])) ((0 : Nat) + j) → Sx.AV.low (0 : Nat) u = true))) ∧ ((0 : Nat) + n ≤ n)) ∧ ((∀ (j : Nat), j < n → Sx.CRow [Sx.AV.cpx true (Sx.cn (Int.toNat (re ((0 : Nat) + ((0 : Nat) + j))))) (Sx.cn (Int.toNat (im ((0 : Nat) + ((0 : Nat) + j)))))]) ∧ (∀ (j : Nat), j < n → ∀ (u : Sx.AV), u ∈ [Sx.AV.cpx true (Sx.cn (Int.toNat (re ((0 : Nat) + ((0 : Nat) + j))))) (Sx.cn (Int.toNat (im ((0 : Nat) + ((0 : Nat) + j)))))] → Sx.AV.low (0 : Nat) u = true))) ∧ (decide (Prod.fst (chR n f (fun j => Sx.cre (leR n (Sx.rowsOf (Sx.AA.mk false (1 : Nat) (0 : Nat) (0 : Nat)) (1 : Nat) (1 : Nat) (Sx.Cont.fn fun j => [Sx.AV.cpx true (Sx.cn (Int.toNat (re ((0 : Nat) + j)))) (Sx.cn (Int.toNat (im ((0 : Nat) + j))))])) ((0 : Nat) + j))) fun j => Sx.cim (leR n (Sx.rowsOf (Sx.AA.mk false (1 : Nat) (0 : Nat) (0 : Nat)) (1 : Nat) (1 : Nat) (Sx.Cont.fn fun j => [Sx.AV.cpx true (Sx.cn (Int.toNat (re ((0 : Nat) + j)))) (Sx.cn (Int.toNat (im ((0 : Nat) + j))))])) ((0 : Nat) + j))) = Prod.fst (chR n f (fun j => Sx.cn (Int.toNat (re ((0 : Nat) + ((0 : Nat) + j))))) fun j => Sx.cn (Int.toNat (im ((0 : Nat) + ((0 : Nat) + j)))))) = true)) ∧ (decide (Prod.snd (chR n f (fun j => Sx.cre (leR n (Sx.rowsOf (Sx.AA.mk false (1 : Nat) (0 : Nat) (0 : Nat)) (1 : Nat) (1 : Nat) (Sx.Cont.fn fun j => [Sx.AV.cpx true (Sx.cn (Int.toNat (re ((0 : Nat) + j)))) (Sx.cn (Int.toNat (im ((0 : Nat) + j))))])) ((0 : Nat) + j))) fun j => Sx.cim (leR n (Sx.rowsOf (Sx.AA.mk false (1 : Nat) (0 : Nat) (0 : Nat)) (1 : Nat) (1 : Nat) (Sx.Cont.fn fun j => [Sx.AV.cpx true (Sx.cn (Int.toNat (re ((0 : Nat) + j)))) (Sx.cn (Int.toNat (im ((0 : Nat) + j))))])) ((0 : Nat) + j))) = Prod.snd (chR n f (fun j => Sx.cn (Int.toNat (re ((0 : Nat) + ((0 : Nat) + j))))) fun j => Sx.cn (Int.toNat (im ((0 : Nat) + ((0 : Nat) + j)))))) = true)) ∧ ((0 : Nat) + n ≤ n)) ∧ ((Nat.le ((n + (6 : Nat)) * (16 : Nat)) (140737488355328 : Nat)) ∧ (∀ (j : Nat), j < n → ∀ (u : Sx.AV), u ∈ [Sx.AV.cpx true (Sx.cn (Int.toNat (re ((0 : Nat) + ((0 : Nat) + j))))) (Sx.cn (Int.toNat (im ((0 : Nat) + ((0 : Nat) + j)))))] → Sx.AV.low (0 : Nat) u = true))) ∧ ((0 : Nat) + (n + (1 : Nat) + (1 : Nat) + (1 : Nat) + (1 : Nat) + (1 : Nat) + (1 : Nat)) ≤ n + (1 : Nat) + (1 : Nat) + (1 : Nat) + (1 : Nat) + (1 : Nat) + (1 : Nat))) ∧ (((n + (1 : Nat) + (1 : Nat) + (1 : Nat) + (1 : Nat) + (1 : Nat) + (1 : Nat) ≤ (9223372036854775807 : Nat)) ∧ (∀ (j : Nat), j < n + (1 : Nat) + (1 : Nat) + (1 : Nat) + (1 : Nat) + (1 : Nat) + (1 : Nat) → Sx.CRow (leR n (Sx.rowsOf (Sx.AA.mk false (1 : Nat) (0 : Nat) (0 : Nat)) (1 : Nat) (1 : Nat) (Sx.Cont.fn fun j => [Sx.AV.cpx true (Sx.cn (Int.toNat (re ((0 : Nat) + j)))) (Sx.cn (Int.toNat (im ((0 : Nat) + j))))])) ((0 : Nat) + j)))) ∧ (∀ (j : Nat), j < n + (1 : Nat) + (1 : Nat) + (1 : Nat) + (1 : Nat) + (1 : Nat) + (1 : Nat) → ∀ (u : Sx.AV), u ∈ leR n (Sx.rowsOf (Sx.AA.mk false (1 : Nat) (0 : Nat) (0 : Nat)) (1 : Nat) (1 : Nat) (Sx.Cont.fn fun j => [Sx.AV.cpx true (Sx.cn (Int.toNat (re ((0 : Nat) + j)))) (Sx.cn (Int.toNat (im ((0 : Nat) + j))))])) ((0 : Nat) + j) → Sx.AV.low (0 : Nat) u = true))) ∧ ((0 : Nat) + (n + (1 : Nat) + (1 : Nat) + (1 : Nat) + (1 : Nat) + (1 : Nat) + (1 : Nat)) ≤ n + (1 : Nat) + (1 : Nat) + (1 : Nat) + (1 : Nat) + (1 : Nat) + (1 : Nat))) ∧ ((∀ (j : Nat), j < n + (1 : Nat) + (1 : Nat) + (1 : Nat) + (1 : Nat) + (1 : Nat) + (1 : Nat) → Sx.CRow (leR n (Sx.rowsOf (Sx.AA.mk false (1 : Nat) (0 : Nat) (0 : Nat)) (1 : Nat) (1 : Nat) (Sx.Cont.fn fun j => [Sx.AV.cpx true (Sx.cn (Int.toNat (re ((0 : Nat) + j)))) (Sx.cn (Int.toNat (im ((0 : Nat) + j))))])) ((0 : Nat) + j))) ∧ (∀ (j : Nat), j < n + (1 : Nat) + (1 : Nat) + (1 : Nat) + (1 : Nat) + (1 : Nat) + (1 : Nat) → ∀ (u : Sx.AV), u ∈ leR n (Sx.rowsOf (Sx.AA.mk false (1 : Nat) (0 : Nat) (0 : Nat)) (1 : Nat) (1 : Nat) (Sx.Cont.fn fun j => [Sx.AV.cpx true (Sx.cn (Int.toNat (re ((0 : Nat) + j)))) (Sx.cn (Int.toNat (im ((0 : Nat) + j))))])) ((0 : Nat) + j) → Sx.AV.low (0 : Nat) u = true)))) (by kernel_rfl) ⟨⟨⟨⟨⟨⟨⟨⟨⟨⟨⟨⟨⟨⟨⟨⟨⟨trivial, c0⟩, ⟨⟨c1, c2⟩, c3⟩⟩, c4⟩, ⟨c5, c6⟩⟩, ⟨c7, ⟨c8, c9⟩⟩⟩, c10⟩, ⟨c11, c12⟩⟩, c4⟩, ⟨c13, c6⟩⟩, c14⟩, c15⟩, c4⟩, ⟨c5, c6⟩⟩, c16⟩, ⟨⟨c17, c18⟩, c19⟩⟩, c20⟩, ⟨c21, c22⟩⟩

theorem law_road (n : Nat) (f : Int) (re im : Nat → Int) (hn : n * 16 ≤ 140737488351232) (hr : ∀ j, j < n → 0 ≤ re j ∧ re j < 18446744073709551616 ∧ 0 ≤ im j ∧ im j < 18446744073709551616) :
  ∃ path v, Sx.PureP v (call3 3 [Sx.slcV 0 n, .int true .i64 f] (Sx.G.of [(0, .cells false 2 n (.fn fun j => [.int true .u64 (re j), .int true .u64 (im j)]))] 1 path)) ∧ v.low 0 = true ∧ ∀ c, (∀ N μ, Sx.Rep N μ v c) → c = .bool true := by
 have hr' : ∀ j, j < n → 0 ≤ re (0 + j) ∧ re (0 + j) < 18446744073709551616 ∧ 0 ≤ im (0 + j) ∧ im (0 + j) < 18446744073709551616 := fun j hj => by rw [Nat.zero_add]; exact hr j hj
 have hC : Sx.CRows n (Sx.rowsOf ⟨false, 1, 0, 0⟩ 1 1 (.fn fun j => [.cpx true (Sx.cn (re (0 + j)).toNat) (Sx.cn (im (0 + j)).toNat)])) := fun j hj => by
  have h := hr (0 + (0 + j)) (by omega)
  refine ⟨⟨true, rfl⟩, ?_, ?_⟩
  ·show Sx.Fw (Sx.cn (re (0 + (0 + j))).toNat)
   exact Sx.Fw.cn (by omega)
  ·show Sx.Fw (Sx.cn (im (0 + (0 + j))).toNat)
   exact Sx.Fw.cn (by omega)
 have hL : ∀ m, Sx.CRows m (leR n (Sx.rowsOf ⟨false, 1, 0, 0⟩ 1 1 (.fn fun j => [.cpx true (Sx.cn (re (0 + j)).toNat) (Sx.cn (im (0 + j)).toNat)]))) := fun m => leR_crow n _ hC m
 have hL0 : ∀ j, Sx.CRow (leR n (Sx.rowsOf ⟨false, 1, 0, 0⟩ 1 1 (.fn fun j => [.cpx true (Sx.cn (re (0 + j)).toNat) (Sx.cn (im (0 + j)).toNat)])) (0 + j)) := fun j => hL (0 + j + 1) (0 + j) (by omega)
 have hE : ∀ j, j < n → Sx.cre (leR n (Sx.rowsOf ⟨false, 1, 0, 0⟩ 1 1 (.fn fun j => [.cpx true (Sx.cn (re (0 + j)).toNat) (Sx.cn (im (0 + j)).toNat)])) (0 + j)) = Sx.cn (re (0 + (0 + j))).toNat ∧ Sx.cim (leR n (Sx.rowsOf ⟨false, 1, 0, 0⟩ 1 1 (.fn fun j => [.cpx true (Sx.cn (re (0 + j)).toNat) (Sx.cn (im (0 + j)).toNat)])) (0 + j)) = Sx.cn (im (0 + (0 + j))).toNat := fun j hj => by
  rw [leR_lt n _ (0 + j) (by omega)]
  simp [Sx.rowsOf, Sx.Cont.row, Sx.cre, Sx.cim]
 have b6 : (n + 6) * 16 ≤ 140737488355328 := by omega
 have b17 : n + 1 + 1 + 1 + 1 + 1 + 1 ≤ 9223372036854775807 := by omega
 refine ⟨_, _, law_r0 n f re im (by omega) (by omega) (fun j hj => ⟨⟨true, true, rfl⟩, hr' j hj⟩) (fun j _ u hu => by simp at hu; rcases hu with rfl | rfl <;> rfl) (by omega) b6 (fun j _ u hu => by simp at hu; subst hu; rfl) (by omega) (by omega) (by omega) (by omega) (fun j _ => hL0 j) (fun j _ => (hL0 j).bare) (fun j hj => hC j hj)
  (decide_eq_true (congrArg Prod.fst (chR_congr hE))) (decide_eq_true (congrArg Prod.snd (chR_congr hE))) (by omega) b17 (fun j _ => hL0 j) (fun j _ => (hL0 j).bare) (by omega) (fun j _ => hL0 j) (fun j _ => (hL0 j).bare), rfl, fun c hc => ?_⟩
 have := hc 0 Sx.MM.none
 simp only [Sx.Rep] at this
 rw [this]
 exact congrArg Value.bool (Sx.cd_true ⟨rfl, fun j _ => ⟨rfl, rfl⟩⟩)
theorem law_walk {H : Type} {enc : TypeId × Value → H} {base : Nat} {d0 d1 : DataW H} {p0 : List MemPlace} {wd : World} (v0 : Value) (hv0 : Value.okWide Try.prog wd .any base 22 v0) (h0 : DataW.Trod enc Try.prog wd 0 (fun _ => true) true 22 v0 d0 p0) (z0 : (DataW.weightsEach Try.prog [22, 3] [d0, d1]).all (· ≤ reachBytes) = true)
  (w : Int) (hw0 : (Lit.int .i64 w).wf = true) (w' : World) (hw : w' = wd) :
  Calls Try.prog 3 #[v0, .int .i64 w] wd fun e w' => e = .returned (.bool true) ∧ Below wd.heap.size wd w' := by
 obtain ⟨a, len, cap, rfl⟩ := okWide_slice Try.underlying22 hv0
 obtain ⟨fuel, hx⟩ := h0
 obtain ⟨n, blk, bs, c, hval, hbk, hok, hlen⟩ := Sx.open_slc (n := 3) (shs := [.int .u64, .int .u64]) (v := .slice a len cap) Try.underlying22 (by kernel_rfl) (by kernel_rfl) (by decide) hx
 have hn : n * 16 ≤ 140737488351232 := by
  rcases hlen with ⟨rfl, _⟩ | ⟨es, sps, e1, e2⟩
  ·omega
  ·dsimp only at e1
   have h := sized_slice z0 (j := 0) (t := 22) (e := 72) (elems := es) (spare := sps) rfl (by rw [← e1]; rfl) Try.underlying22
   rw [show Try.prog.bytesOf 72 = 16 by kernel_rfl, e2] at h
   have hR : reachBytes = 140737488351232 := rfl
   rw [hR] at h
   exact Nat.le_trans (Nat.mul_le_mul_right 16 (Nat.le_add_right n sps.length)) h
 have bd : ∀ {x : Value}, (Sx.Sh.int .u64).ok x → 0 ≤ Sx.intOf x ∧ Sx.intOf x < 18446744073709551616 := fun {x} h => by
  obtain ⟨n, rfl, hw⟩ := h
  have := bounds_u64 hw
  simp only [Sx.intOf]; omega
 obtain ⟨path, v, h1, h2, h3⟩ := law_road n w (fun j => Sx.intOf (c j 0)) (fun j => Sx.intOf (c j 1)) hn (fun j hj => ⟨(bd (hok j hj 0 _ rfl)).1, (bd (hok j hj 0 _ rfl)).2, (bd (hok j hj 1 _ rfl)).1, (bd (hok j hj 1 _ rfl)).2⟩)
 have hg := Sx.gv_gok (l := [⟨2, n, blk, bs, fun j => [.int true .u64 (Sx.intOf (c j 0)), .int true .u64 (Sx.intOf (c j 1))]⟩]) (hp := wd.heap) fun i v hi μ N e1 e2 e3 => by
  cases i with
  | zero => simp at hi; subst hi; exact hbk μ 0 N e1 e2 e3
  | succ i => simp at hi
 exact Sx.heap_true call3_ok Try.func3 rfl (by kernel_rfl) h1 h2 h3 hg (fun B => Sx.gv_may (l := [⟨2, n, blk, bs, fun j => [.int true .u64 (Sx.intOf (c j 0)), .int true .u64 (Sx.intOf (c j 1))]⟩])) (by simp only [Sx.Reps]; exact ⟨_, _, rfl, hval _ 0 _ (by decide) rfl rfl rfl, _, _, rfl, (by simp only [Sx.Rep]), rfl⟩)



set_option maxRecDepth 100000 in
theorem law_lifted (os : Os) (started : os.Started) (H : Type) (enc : TypeId × Value → H) :
  ReturnsInHanded {} Try.checked os 3 .any (Rows.pivotChoosesSpec.pre6 enc Try.prog Try.f3 Rows.pivotChoosesRow.domain false) (Rows.pivotChoosesSpec.post enc Try.prog Try.f3 false true false false) := by
 refine returnsInHanded_of_change_sized (C := Try.checked) own started (by kernel_rfl) Try.func3
  (ChangeSpec.witness6 (enc := enc) (C := Try.checked) false ⟨#[], #[.slice none 0 0, .int .i64 0], []⟩ 8 (by kernel_rfl) (by kernel_rfl) (by kernel_rfl) (by kernel_rfl)) ?_
 intro W base args ds gs before hval0 hW hcnd hsz0 _
 have hval : ∀ (j : Nat) t v, Try.f3.params[j]? = some t → args[j]? = some v → Value.okWide Try.prog W .any base t v := hval0
 have hsz1 : (DataW.weightsEach Try.prog (Try.f3.params.toList ++ Rows.pivotChoosesSpec.plain.varTypes Try.prog) (ds ++ gs)).all (· ≤ reachBytes) = true := hsz0
 have hsz : (DataW.weightsEach Try.prog [22, 3] (ds ++ gs)).all (· ≤ reachBytes) = true := by
  have e : Try.f3.params.toList ++ Rows.pivotChoosesSpec.plain.varTypes Try.prog = [22, 3] := by rw [Try.params3]; kernel_rfl
  rw [← e]; exact hsz1
 have hW' := hW
 obtain ⟨p, q, hA0, hV, rfl, hfz, hnd⟩ := hW
 have hA : DataW.TrodAll enc Try.prog W 0 (fun _ => true) true Try.f3.params.toList args.toList ds p := hA0
 rw [Try.params3] at hA hval
 obtain ⟨v0, vs0, d0, ds0, p0, q0, hargs, rfl, rfl, h0, r0⟩ := trodAll_cons hA
 obtain ⟨v1, vs1, d1, ds1, p1, q1, rfl, rfl, rfl, h1, r1⟩ := trodAll_cons r0
 obtain ⟨rfl, rfl, rfl⟩ := trodAll_nil r1
 obtain rfl : args = #[v0, v1] := by cases args; simp_all
 obtain ⟨rfl, rfl⟩ := trodVars_none hV
 rw [List.append_nil] at hsz
 have hk0 := h0
 have hlt0 : ∀ x ∈ p0, x.block < W.heap.size := DataW.TrodAll.lt (trodAll_mk1 h0)
 have hk1 := h1
 have hlt1 : ∀ x ∈ p1, x.block < W.heap.size := DataW.TrodAll.lt (trodAll_mk1 h1)
 obtain ⟨a1, e1, ed1, ep1, w1⟩ := open_int Try.underlying3 (hval 1 3 v1 rfl rfl) h1
 subst e1
 clear hA0 hval0 hsz0 hsz1
 refine (law_walk v0 (hval 0 22 v0 rfl rfl) h0 hsz a1 w1 W rfl).mono fun e W' ⟨he, bel⟩ => ?_
 subst he
 exact ⟨_, rfl, _, _, _, [], _, [], hW', trodAll_mk1 (shut_bool Try.underlying4 _), (trodAll_cons_mk (Below.trod laidOut (by kernel_rfl) (of_decide_eq_true (by kernel_rfl)) hk0 bel hlt0) (trodAll_cons_mk (Below.trod laidOut (by kernel_rfl) (of_decide_eq_true (by kernel_rfl)) hk1 bel hlt1) trodAll_mk0)), rfl, bel.frame _, fun h => by cases h⟩
theorem law_over : Rows.pivotChoosesRow.holds Try.pinned (OpenSpec.ofChange Rows.pivotChoosesSpec) :=
 OpenClaim.holds_of_wide 3 Try.f3 rfl rfl rfl rfl rfl rfl rfl ⟨rfl, rfl, rfl, rfl, rfl⟩ rfl rfl rfl rfl rfl (by kernel_rfl) Try.func3 (by kernel_rfl)
  (of_decide_eq_true (by kernel_rfl)) (by unfold Func.isWrapper; first | (rw [if_pos (by decide +kernel)]; kernel_rfl) | (rw [if_neg (by decide +kernel)]; exact ⟨rfl, rfl⟩))
  (fun os started H enc _ => law_lifted os started H enc)
/-- THE STATEMENT -/
theorem pivotChooses_proved : Rows.PivotChoosesSaid := law_over
#print axioms pivotChooses_proved
end Go.Proofs.Ytehhljcjdiokjaa
