/- SourceRights: a part: summaries of functions that the statement reaches, printed by program, checked by the kernel. -/
import Derived.ProofKit
import Derived.OpenShut
import Derived.KernelRfl
import Derived.SizedLaws
import Derived.Test.YtdagokpedjfepaaProg
import Derived.Test.YtdagokpedjfepaaSourceRightsPA
namespace Go.Proofs.Ytdagokpedjfepaa
open Go.ChangeShapes Go.WideShapes Go.ChangeAt Go.RowKit Go.Sx
set_option linter.unusedVariables false
set_option linter.unusedSimpArgs false
set_option maxRecDepth 100000

theorem aef (n : Nat) (G : tE) : aj Try.prog ZC8 Try.f15.ntmps 1 2 2 (aQ [(0, ZG n), (3, sL 1 n), (4, iT (n : Int))]) (hpL [(0, Z1 n G), (1, ZD n G)]) (Xm 0 [(0, ZG n), (3, sL 1 n)] [(0, Z1 n G), (1, ZD n G)]) := by
 refine (eoL 1 (by omega) n n G (fun h => absurd (of_decide_eq_true h) (by omega)) (fun h => absurd (of_decide_eq_true h) (by omega)) (fun h => absurd (of_decide_eq_true h) (by omega)) (fun h => absurd (of_decide_eq_true h) (by omega))).renG fun e fr' H' h => ?_
 rw [decide_eq_false (by omega), cond_false] at h
 obtain ⟨rfl, rfl, rfl⟩ := h
 exact ⟨id, [(0, ZG n), (3, sL 1 n)], [(0, Z1 n G), (1, ZD n G)], fun g hg => rfl, (vk rfl), ⟨fD rfl rfl (fun j _ => rfl) (fun j _ => rfl) (by omega), fD rfl rfl (fun j _ => rfl) (fun j _ => rfl) (by omega), trivial⟩, fun i j _ _ h => h, rfl, rfl, rfl⟩
theorem aan (n : Nat) (G : tE) (hn : n * 104 ≤ 140737488355328) (hv : ∀ j, j < n → (G j).v < 18446744073709551616) :
  aj Try.prog (ak Try.f15) Try.f15.ntmps 1 1 2 (bJ [ZG n] 0 .e) (hpL [(0, Z1 n G)]) (fun e fr' H' => e = .ret ∧ fr' = aQ [(2, sL 1 n)] ∧ H' = hpL [(1, ZD n G)]) := by
 rw [agm]
 refine aj.aV (K1 := 1) (eoA 1 (by omega) n G) (by omega) ?_
 refine aj.aV (K1 := 1) (F1 := [(0, ZG n), (3, .aX)]) (H1 := [(0, Z1 n G)]) (aj.toN (eoB 1 (by omega) n G) (dJ rfl) ⟨hs rfl, trivial⟩) (by omega) ?_
 refine aj.phantom 3 8 (fun j => bI (G j)) rfl (by omega) (by omega) ?_
 refine aj.dW (fl := [(0, ZG n), (3, sL 1 0)]) (bl := [(0, Z1 n G), (1, .cells true 8 0 (.fn fun j => bI (G j)))]) (dJ rfl) (fG rfl) ?_
 refine aj.aV (K1 := 2) (F1 := [(0, ZG n), (3, sL 1 n)]) (H1 := [(0, Z1 n G), (1, ZD n G)]) ?_ (by omega) ?_
 ·refine aj.aV (K1 := 2) (F1 := [(0, ZG n), (3, sL 1 0), (4, Zc 0)]) (H1 := [(0, Z1 n G), (1, .cells true 8 0 (.fn fun j => bI (G j)))]) (aj.toN (eoC 1 (by omega) n 0 G) ⟨re rfl, re rfl, ⟨_, rfl, AV.ge.int _ _ _ _⟩, trivial⟩ (fG rfl)) (by omega) ?_
  exact aj.rounds n (fun i => [(0, ZG n), (3, sL 1 i), (4, iT (i : Int))]) (fun i => [(0, Z1 n G), (1, .cells true 8 i (.fn fun j => bI (G j)))]) (fun i hi => aam n i G hi hn hv) (aef n G)
 exact (eoE 1 (by omega) n G).mono fun e fr' H' h => h
noncomputable def O6 : List AV → M AV
 | [x] => (rd 8 x PZ).andThen fun y => newS 8 y.1 (fun j => bI (jl y.2 j))
 | _ => M.no
theorem EX : ∀ args, aC (O6 args) := by
 intro args
 unfold O6
 split
 ·exact (aC.rd _ _ _).andThen fun _ => aC.newS _ _ _
 ·exact aC.no
theorem JF : ∀ args v g g', O6 args g = .done v g' → bf Try.prog 15 args v g g' := by
 intro args v g g' h
 unfold O6 at h
 split at h
 case h_2 => exact (aY h).elim
 rename_i x
 obtain ⟨⟨n, f⟩, g1, a1, h1⟩ := au h
 clear h
 obtain ⟨qv, kv, fv⟩ := Cm a1 (by omega)
 dsimp only at h1 fv
 obtain ⟨rfl, e1, e2, e3⟩ := oZ h1
 rw [kv.1, kv.2.1] at e1
 rw [kv.2.1] at e2 ⊢
 refine Ak (c := (ak Try.f15)) Try.func15 (by kernel_rfl) (by kernel_rfl) kv [⟨x, 8, n, f⟩] (fun hp v hv => by rw [List.mem_singleton.1 hv]; exact (fv hp).1) (dY := [gU 0 n]) (fun hp N μ cs hcs => by
  simp only [aI] at hcs ⊢
  obtain ⟨c, r, rfl, hc, rfl⟩ := hcs
  exact ⟨c, [], rfl, Ag (l := [⟨x, 8, n, f⟩]) (fv hp).1 rfl hc, rfl⟩) (nms := [1]) (bs := [.cells true 8 n (.fn fun j => bI (jl f j))]) (K' := 2) (fun hp => ?_) ?_ ?_ e1 (by rw [e2]; rfl) (fun hc => by rw [← e3]; exact hc)
 ·obtain ⟨_, hn, hr⟩ := fv hp
  have hg := aj.LG (H0 := hpL [(0, .cells false 8 n (.fn fun j => zR (jl f j)))]) (H := hpL [(0, .cells false 8 n (.fn f))]) (fun t v ht => ⟨v, ht, AV.ge.refl _⟩) (fun i b hb => by
   have hm := bC hb
   simp only [List.mem_cons, List.not_mem_nil, or_false] at hm
   cases hm
   exact ⟨_, rfl, rfl, rfl, rfl, fun j hj => (hr j hj).1⟩) (aan n (jl f) hn (fun j hj => (hr j hj).2))
  refine hg.mono fun e fr' H' h => ?_
  obtain ⟨rfl, rfl, rfl⟩ := h
  refine ⟨.inl rfl, [sL 1 n], _, rfl, trivial, ?_, rfl, ?_, by decide⟩
  ·simp only [AV.ren, AA.ren, mZ]
   exact AV.ge.refl _
  ·intro i b hb
   match i, hb with
   | 0, hb => cases hb; exact ⟨1, _, rfl, rfl, ⟨rfl, rfl, rfl, fun j hj => rfl⟩, rfl, fun j hj v hv => List.all_eq_true.1 (jY _ (jl f j)) v hv, fun j hj o v hv => wI hv⟩
 ·exact Nat.ble_eq_true_of_le (show Nat.succ g.nx ≤ g.nx + 1 by omega)
 ·show g.nx ≤ g.nx; omega


theorem V3 (k : Int) (c0 : decide (k = (0 : Int)) = true) : gX (AV.flt false 4607182418800017408) (iM 88 [iT k] (G.on [true])) := J6 (q := (True ∧ (decide (k = (0 : Int)) = true))) (by kernel_rfl) ⟨trivial, c0⟩
theorem V4 (k : Int) (c0 : decide (k = (0 : Int)) = false) (c1 : decide (k = (1 : Int)) = true) : gX (AV.raw false 4606875505927962389) (iM 88 [iT k] (G.on [false, true])) := J6 (q := ((True ∧ (decide (k = (0 : Int)) = false)) ∧ (decide (k = (1 : Int)) = true))) (by kernel_rfl) ⟨⟨trivial, c0⟩, c1⟩
theorem V5 (k : Int) (c0 : decide (k = (0 : Int)) = false) (c1 : decide (k = (1 : Int)) = false) (c2 : decide (k = (2 : Int)) = true) : gX (AV.raw false 4605975682916830378) (iM 88 [iT k] (G.on [false, false, true])) := J6 (q := (((True ∧ (decide (k = (0 : Int)) = false)) ∧ (decide (k = (1 : Int)) = false)) ∧ (decide (k = (2 : Int)) = true))) (by kernel_rfl) ⟨⟨⟨trivial, c0⟩, c1⟩, c2⟩
theorem V6 (k : Int) (c0 : decide (k = (0 : Int)) = false) (c1 : decide (k = (1 : Int)) = false) (c2 : decide (k = (2 : Int)) = false) (c3 : decide (k = (3 : Int)) = true) : gX (AV.raw false 4604544271217802189) (iM 88 [iT k] (G.on [false, false, false, true])) := J6 (q := ((((True ∧ (decide (k = (0 : Int)) = false)) ∧ (decide (k = (1 : Int)) = false)) ∧ (decide (k = (2 : Int)) = false)) ∧ (decide (k = (3 : Int)) = true))) (by kernel_rfl) ⟨⟨⟨⟨trivial, c0⟩, c1⟩, c2⟩, c3⟩
theorem V7 (k : Int) (c0 : decide (k = (0 : Int)) = false) (c1 : decide (k = (1 : Int)) = false) (c2 : decide (k = (2 : Int)) = false) (c3 : decide (k = (3 : Int)) = false) (c4 : decide (k = (4 : Int)) = true) : gX (AV.flt false 4602678819172646912) (iM 88 [iT k] (G.on [false, false, false, false, true])) := J6 (q := (((((True ∧ (decide (k = (0 : Int)) = false)) ∧ (decide (k = (1 : Int)) = false)) ∧ (decide (k = (2 : Int)) = false)) ∧ (decide (k = (3 : Int)) = false)) ∧ (decide (k = (4 : Int)) = true))) (by kernel_rfl) ⟨⟨⟨⟨⟨trivial, c0⟩, c1⟩, c2⟩, c3⟩, c4⟩
theorem V8 (k : Int) (c0 : decide (k = (0 : Int)) = false) (c1 : decide (k = (1 : Int)) = false) (c2 : decide (k = (2 : Int)) = false) (c3 : decide (k = (3 : Int)) = false) (c4 : decide (k = (4 : Int)) = false) (c5 : decide (k = (5 : Int)) = true) : gX (AV.raw false 4598334089338226320) (iM 88 [iT k] (G.on [false, false, false, false, false, true])) := J6 (q := ((((((True ∧ (decide (k = (0 : Int)) = false)) ∧ (decide (k = (1 : Int)) = false)) ∧ (decide (k = (2 : Int)) = false)) ∧ (decide (k = (3 : Int)) = false)) ∧ (decide (k = (4 : Int)) = false)) ∧ (decide (k = (5 : Int)) = true))) (by kernel_rfl) ⟨⟨⟨⟨⟨⟨trivial, c0⟩, c1⟩, c2⟩, c3⟩, c4⟩, c5⟩
theorem V9 (k : Int) (c0 : decide (k = (0 : Int)) = false) (c1 : decide (k = (1 : Int)) = false) (c2 : decide (k = (2 : Int)) = false) (c3 : decide (k = (3 : Int)) = false) (c4 : decide (k = (4 : Int)) = false) (c5 : decide (k = (5 : Int)) = false) : gX (AV.flt false 0) (iM 88 [iT k] (G.on [false, false, false, false, false, false])) := J6 (q := ((((((True ∧ (decide (k = (0 : Int)) = false)) ∧ (decide (k = (1 : Int)) = false)) ∧ (decide (k = (2 : Int)) = false)) ∧ (decide (k = (3 : Int)) = false)) ∧ (decide (k = (4 : Int)) = false)) ∧ (decide (k = (5 : Int)) = false))) (by kernel_rfl) ⟨⟨⟨⟨⟨⟨trivial, c0⟩, c1⟩, c2⟩, c3⟩, c4⟩, c5⟩
noncomputable def dQ (k : Int) : Nat := (bif decide (k = (0 : Int)) then (4607182418800017408) else (bif decide (k = (1 : Int)) then (4606875505927962389) else (bif decide (k = (2 : Int)) then (4605975682916830378) else (bif decide (k = (3 : Int)) then (4604544271217802189) else (bif decide (k = (4 : Int)) then (4602678819172646912) else (bif decide (k = (5 : Int)) then (4598334089338226320) else (0)))))))
noncomputable def qP : List AV → M AV
 | [.int s0 .i64 k] => M.ret (AV.flt s0 (dQ k))
 | args => iM 88 args
theorem o7 : ∀ args v g g', qP args g = .done v g' → bf Try.prog 88 args v g g' := by
 intro args v g g' h
 unfold qP at h
 split at h
 ·rename_i s0 k
  obtain ⟨rfl, rfl⟩ := aA h
  refine Ld iO fun μ bT ha => ?_
  have ha' : aI 0 MM.none [iT k] bT.toList := by simpa only [aI, Rep] using ha
  cases t0 : decide (k = (0 : Int)) with
  | true =>
   exact ⟨_, _, _, ha', V3 k t0, rfl, fun cv hc => by have := hc g.nx μ; have e0 : dQ k = (4607182418800017408) := (ct t0).trans (rfl); rw [e0]; (first | simpa only [AV.fl, AV.ql, Rep, aI, cZ] using this.fl | (have h2 := this.fl; simp only [AV.fl, AV.ql, Rep] at h2 ⊢; obtain ⟨b, e, q, l⟩ := h2; exact ⟨b, e, q.trans (by kernel_rfl), l⟩))⟩
  | false =>
   cases t1 : decide (k = (1 : Int)) with
   | true =>
    exact ⟨_, _, _, ha', V4 k t0 t1, rfl, fun cv hc => by have := hc g.nx μ; have e0 : dQ k = (4606875505927962389) := (cf t0).trans ((ct t1).trans (rfl)); rw [e0]; (first | simpa only [AV.fl, AV.ql, Rep, aI, cZ] using this.fl | (have h2 := this.fl; simp only [AV.fl, AV.ql, Rep] at h2 ⊢; obtain ⟨b, e, q, l⟩ := h2; exact ⟨b, e, q.trans (by kernel_rfl), l⟩))⟩
   | false =>
    cases t2 : decide (k = (2 : Int)) with
    | true =>
     exact ⟨_, _, _, ha', V5 k t0 t1 t2, rfl, fun cv hc => by have := hc g.nx μ; have e0 : dQ k = (4605975682916830378) := (cf t0).trans ((cf t1).trans ((ct t2).trans (rfl))); rw [e0]; (first | simpa only [AV.fl, AV.ql, Rep, aI, cZ] using this.fl | (have h2 := this.fl; simp only [AV.fl, AV.ql, Rep] at h2 ⊢; obtain ⟨b, e, q, l⟩ := h2; exact ⟨b, e, q.trans (by kernel_rfl), l⟩))⟩
    | false =>
     cases t3 : decide (k = (3 : Int)) with
     | true =>
      exact ⟨_, _, _, ha', V6 k t0 t1 t2 t3, rfl, fun cv hc => by have := hc g.nx μ; have e0 : dQ k = (4604544271217802189) := (cf t0).trans ((cf t1).trans ((cf t2).trans ((ct t3).trans (rfl)))); rw [e0]; (first | simpa only [AV.fl, AV.ql, Rep, aI, cZ] using this.fl | (have h2 := this.fl; simp only [AV.fl, AV.ql, Rep] at h2 ⊢; obtain ⟨b, e, q, l⟩ := h2; exact ⟨b, e, q.trans (by kernel_rfl), l⟩))⟩
     | false =>
      cases t4 : decide (k = (4 : Int)) with
      | true =>
       exact ⟨_, _, _, ha', V7 k t0 t1 t2 t3 t4, rfl, fun cv hc => by have := hc g.nx μ; have e0 : dQ k = (4602678819172646912) := (cf t0).trans ((cf t1).trans ((cf t2).trans ((cf t3).trans ((ct t4).trans (rfl))))); rw [e0]; (first | simpa only [AV.fl, AV.ql, Rep, aI, cZ] using this.fl | (have h2 := this.fl; simp only [AV.fl, AV.ql, Rep] at h2 ⊢; obtain ⟨b, e, q, l⟩ := h2; exact ⟨b, e, q.trans (by kernel_rfl), l⟩))⟩
      | false =>
       cases t5 : decide (k = (5 : Int)) with
       | true =>
        exact ⟨_, _, _, ha', V8 k t0 t1 t2 t3 t4 t5, rfl, fun cv hc => by have := hc g.nx μ; have e0 : dQ k = (4598334089338226320) := (cf t0).trans ((cf t1).trans ((cf t2).trans ((cf t3).trans ((cf t4).trans ((ct t5).trans (rfl)))))); rw [e0]; (first | simpa only [AV.fl, AV.ql, Rep, aI, cZ] using this.fl | (have h2 := this.fl; simp only [AV.fl, AV.ql, Rep] at h2 ⊢; obtain ⟨b, e, q, l⟩ := h2; exact ⟨b, e, q.trans (by kernel_rfl), l⟩))⟩
       | false =>
        exact ⟨_, _, _, ha', V9 k t0 t1 t2 t3 t4 t5, rfl, fun cv hc => by have := hc g.nx μ; have e0 : dQ k = (0) := (cf t0).trans ((cf t1).trans ((cf t2).trans ((cf t3).trans ((cf t4).trans ((cf t5).trans (rfl)))))); rw [e0]; (first | simpa only [AV.fl, AV.ql, Rep, aI, cZ] using this.fl | (have h2 := this.fl; simp only [AV.fl, AV.ql, Rep] at h2 ⊢; obtain ⟨b, e, q, l⟩ := h2; exact ⟨b, e, q.trans (by kernel_rfl), l⟩))⟩
 ·exact iO _ _ _ _ _ h
theorem ng : ∀ args, aC (qP args) := by
 intro args
 unfold qP
 split
 ·exact aC.ret _
 ·exact Az _ _
noncomputable def aeg : Known := kc 36 ofBits (kc 62 toBits (kc 81 lZ (kc 66 qF (kc 63 mW (kc 82 Tj (kc 64 uo (kc 65 uq (kc 37 ER (kc 88 qP (kn))))))))))
theorem aao : eY Try.prog aeg := aO ((jf Try.prog).iw Try.func36 (by kernel_rfl) (by kernel_rfl) (by kernel_rfl) (by kernel_rfl)) (aO ((je Try.prog).iw Try.func62 (by kernel_rfl) (by kernel_rfl) (by kernel_rfl) (by kernel_rfl)) (aO jC (aO kQ (aO kC (aO sZ (aO nY (aO nZ (aO tC (aO o7 (mJ))))))))))
theorem MI : gG aeg := aG aC.ofBits (aG aC.toBits (aG iV (aG jD (aG jr (aG oQ (aG lJ (aG lK (aG pX (aG ng (jH))))))))))
noncomputable def Wh : Calls' := Sx.runN Try.prog aeg (bY Try.prog) 1000 50
theorem MJ : cO Try.prog Wh := gK aao MI (by kernel_rfl) (by kernel_rfl) 1000 50
theorem Tv : iq Wh := jO MI (fun _ _ _ h => by cases h) (fun call hc n l fr => gV hc n l fr) 50
noncomputable def jA (k : Int) : Nat := (bif decide ((17 : Int) < k) then (dQ ((24 : Int) - k)) else (bif decide ((12 : Int) < k) then (BP (dQ (k - (12 : Int)))) else (bif decide ((6 : Int) < k) then (BP (dQ ((12 : Int) - k))) else (dQ k))))
noncomputable def JG : List AV → M AV
 | [.int s0 .i64 k] => (M.req (((decide ((17 : Int) < k)) = true → ((-9223372036854775808 : Int) ≤ 24 - k)))).andThen fun _ => M.ret (AV.flt s0 (jA k))
 | args => Wh 83 args
theorem zJ : ∀ args v g g', JG args g = .done v g' → bf Try.prog 83 args v g g' := by
  intro args v g g' h
  unfold JG at h
  split at h
  · rename_i s0 k
    obtain ⟨_, g1, a1, h1⟩ := au h
    obtain ⟨rfl, rfl⟩ := aA h1
    refine SY MJ (dR a1) (a' := [iT k]) (R := AV.flt true (jA k)) (fun hp => ?_) (fun N μ l ha => by simpa only [aI, Rep] using ha) (fun N μ c hc => by simpa only [Rep, aI, cZ] using hc)
    unfold jA
    cases t0 : decide ((17 : Int) < k)
    ·cases t1 : decide ((12 : Int) < k)
     ·cases t2 : decide ((6 : Int) < k)
      ·exact ⟨[fF, fF, fF], lF (I3 t0 t1 t2)⟩
      ·exact ⟨[fF, fF, tT], lF (I4 t0 t1 t2 (ai (show (-9223372036854775808 : Int) ≤ 12 - k by first | (simp only [dT, dF, List.length_take, List.length_drop] at *; omega) | (have hp' := hp; simp_all; try omega)) (show (12 : Int) - k ≤ (9223372036854775807 : Int) by first | (simp only [dT, dF, List.length_take, List.length_drop] at *; omega) | (have hp' := hp; simp_all; try omega))))⟩
     ·exact ⟨[fF, tT], lF (I3 t0 t1 (ai (show (-9223372036854775808 : Int) ≤ k - (12 : Int) by first | (simp only [dT, dF, List.length_take, List.length_drop] at *; omega) | (have hp' := hp; simp_all; try omega)) (show k - (12 : Int) ≤ 9223372036854775807 by first | (simp only [dT, dF, List.length_take, List.length_drop] at *; omega) | (have hp' := hp; simp_all; try omega))))⟩
    ·exact ⟨[tT], lF (I2 t0 (ai (hp t0) (show (24 : Int) - k ≤ (9223372036854775807 : Int) by first | (simp only [dT, dF, List.length_take, List.length_drop] at *; omega) | (have hp' := hp; simp_all; try omega))))⟩
  · exact MJ _ _ _ _ _ h
theorem vI : ∀ args, aC (JG args) := by
 intro args
 unfold JG
 split
 ·exact (aC.req _).andThen fun _ => aC.ret _
 ·exact Tv _ _
noncomputable def aeh : Known := kc 36 ofBits (kc 62 toBits (kc 81 lZ (kc 66 qF (kc 63 mW (kc 82 Tj (kc 64 uo (kc 65 uq (kc 37 ER (kc 88 qP (kc 83 JG (kn)))))))))))
theorem aap : eY Try.prog aeh := aO ((jf Try.prog).iw Try.func36 (by kernel_rfl) (by kernel_rfl) (by kernel_rfl) (by kernel_rfl)) (aO ((je Try.prog).iw Try.func62 (by kernel_rfl) (by kernel_rfl) (by kernel_rfl) (by kernel_rfl)) (aO jC (aO kQ (aO kC (aO sZ (aO nY (aO nZ (aO tC (aO o7 (aO zJ (mJ)))))))))))
theorem Wi : gG aeh := aG aC.ofBits (aG aC.toBits (aG iV (aG jD (aG jr (aG oQ (aG lJ (aG lK (aG pX (aG ng (aG vI (jH)))))))))))
noncomputable def ab5 : Calls' := Sx.runN Try.prog aeh (bY Try.prog) 1000 50
theorem ML : cO Try.prog ab5 := gK aap Wi (by kernel_rfl) (by kernel_rfl) 1000 50
theorem Tz (k : Int) : -24 < Int.tmod k 24 ∧ Int.tmod k 24 < 24 := ⟨by have := Int.lt_tmod_of_pos k (show (0:Int) < 24 by decide); omega, Int.tmod_lt_of_pos k (by decide)⟩
noncomputable def ab6 : List AV → M AV
 | [.int s0 .i64 k] => (M.req (((-9223372036854775808 : Int) ≤ Int.tmod k (24 : Int) + 24) ∧ (Int.tmod k (24 : Int) + 24 ≤ (9223372036854775807 : Int)) ∧ (decide ((17 : Int) < Int.tmod (Int.tmod k (24 : Int) + 24) (24 : Int)) = true → (-9223372036854775808 : Int) ≤ 24 - Int.tmod (Int.tmod k (24 : Int) + 24) (24 : Int)) ∧ ((-9223372036854775808 : Int) ≤ Int.tmod (Int.tmod k (24 : Int) + 24) (24 : Int) + 18) ∧ (Int.tmod (Int.tmod k (24 : Int) + 24) (24 : Int) + 18 ≤ (9223372036854775807 : Int)) ∧ (decide ((17 : Int) < Int.tmod (Int.tmod (Int.tmod k (24 : Int) + 24) (24 : Int) + 18) (24 : Int)) = true → (-9223372036854775808 : Int) ≤ 24 - Int.tmod (Int.tmod (Int.tmod k (24 : Int) + 24) (24 : Int) + 18) (24 : Int)))).andThen fun _ => M.ret (AV.dD s0 (jA (Int.tmod (Int.tmod k (24 : Int) + 24) (24 : Int))) (jA (Int.tmod (Int.tmod (Int.tmod k (24 : Int) + 24) (24 : Int) + 18) (24 : Int))))
 | args => ab5 68 args
theorem Wj : ∀ args v g g', ab6 args g = .done v g' → bf Try.prog 68 args v g g' := by
 intro args v g g' h
 unfold ab6 at h
 split at h
 ·rename_i s0 k
  obtain ⟨_, g1, a1, h1⟩ := au h
  obtain ⟨rfl, rfl⟩ := aA h1
  refine SY ML (dR a1) (a' := [iT k]) (R := AV.dD true (jA (Int.tmod (Int.tmod k (24 : Int) + 24) (24 : Int))) (jA (Int.tmod (Int.tmod (Int.tmod k (24 : Int) + 24) (24 : Int) + 18) (24 : Int)))) (fun hp => ?_) (fun N μ l ha => by simpa only [aI, Rep] using ha) (fun N μ c hc => by simpa only [Rep, aI, cZ] using hc)
  exact ⟨[], lF (I7 (show (24 : Int) ≠ (0 : Int) by decide) (ai (hp.1) (hp.2.1)) (show (24 : Int) ≠ (0 : Int) by decide) (hp.2.2.1) (ai (hp.2.2.2.1) (hp.2.2.2.2.1)) (show (24 : Int) ≠ (0 : Int) by decide) (hp.2.2.2.2.2))⟩
 ·exact ML _ _ _ _ _ h
noncomputable def vJ : List AV → M AV
 | [.int s .i64 k] => M.ret (AV.dD s (jA (Int.tmod (Int.tmod k 24 + 24) 24)) (jA (Int.tmod (Int.tmod (Int.tmod k 24 + 24) 24 + 18) 24)))
 | _ => M.no
theorem wJ : ∀ args v g g', vJ args g = .done v g' → bf Try.prog 68 args v g g' := by
 intro args v g g' h
 unfold vJ at h
 split at h
 ·rename_i s k
  obtain ⟨rfl, rfl⟩ := aA h
  have hS := Wj [.int s .i64 k] (AV.dD s (jA (Int.tmod (Int.tmod k 24 + 24) 24)) (jA (Int.tmod (Int.tmod (Int.tmod k 24 + 24) 24 + 18) 24))) g _ rfl
  refine ⟨id, fun hc μ w bT hg ha => ?_⟩
  refine (hS.2 ⟨hc, (by have h1 := Tz k; have h2 := Tz (Int.tmod k 24 + 24); have h3 := Tz (Int.tmod (Int.tmod k 24 + 24) 24 + 18); simp only [decide_eq_true_eq]; omega)⟩ μ w bT hg ha).mono fun cv w' hA => ?_
  obtain ⟨μ', e1, e2, e3⟩ := hA
  exact ⟨μ', e1, e2, e3.swap rfl rfl rfl rfl⟩
 ·exact (aY h).elim
theorem tN : ∀ args, aC (vJ args) := by
 intro args
 unfold vJ
 split
 ·exact aC.ret _
 ·exact aC.no
noncomputable def aei : Known := kc 36 ofBits (kc 62 toBits (kc 81 lZ (kc 66 qF (kc 63 mW (kc 82 Tj (kc 64 uo (kc 65 uq (kc 37 ER (kc 88 qP (kc 83 JG (kc 68 vJ (kn))))))))))))
theorem aaq : eY Try.prog aei := aO ((jf Try.prog).iw Try.func36 (by kernel_rfl) (by kernel_rfl) (by kernel_rfl) (by kernel_rfl)) (aO ((je Try.prog).iw Try.func62 (by kernel_rfl) (by kernel_rfl) (by kernel_rfl) (by kernel_rfl)) (aO jC (aO kQ (aO kC (aO sZ (aO nY (aO nZ (aO tC (aO o7 (aO zJ (aO wJ (mJ))))))))))))
theorem MN : gG aei := aG aC.ofBits (aG aC.toBits (aG iV (aG jD (aG jr (aG oQ (aG lJ (aG lK (aG pX (aG ng (aG vI (aG tN (jH))))))))))))
noncomputable def EI : Calls' := Sx.runN Try.prog aei (bY Try.prog) 1000 50
theorem og : cO Try.prog EI := gK aaq MN (by kernel_rfl) (by kernel_rfl) 1000 50
theorem wK : iq EI := jO MN (fun _ _ _ h => by cases h) (fun call hc n l fr => gV hc n l fr) 50
noncomputable def Jp (k : Int) (n a b c d : List UInt8) (v : Nat) (ph : Int) : Nat := (bif decide (gJ k n a b c d v ph = (0 : Int)) then (bif decide (k = (4 : Int)) then (qH (cn v) (jA (Int.tmod (Int.tmod ph (24 : Int) + 24) (24 : Int)))) else (bif decide (k = (5 : Int)) then (qH (cn v) (jA (Int.tmod (Int.tmod ph (24 : Int) + 24) (24 : Int)))) else (0))) else (0))
noncomputable def Jq (k : Int) (n a b c d : List UInt8) (v : Nat) (ph : Int) : Nat := (bif decide (gJ k n a b c d v ph = (0 : Int)) then (bif decide (k = (4 : Int)) then (qH (cn v) (jA (Int.tmod (Int.tmod (Int.tmod ph (24 : Int) + 24) (24 : Int) + 18) (24 : Int)))) else (bif decide (k = (5 : Int)) then (qH (cn v) (jA (Int.tmod (Int.tmod (Int.tmod ph (24 : Int) + 24) (24 : Int) + 18) (24 : Int)))) else (0))) else (0))
noncomputable def JH (k : Int) (n a b c d : List UInt8) (v : Nat) (ph : Int) : Int := (bif decide (gJ k n a b c d v ph = (0 : Int)) then (bif decide (k = (4 : Int)) then ((0 : Int)) else (bif decide (k = (5 : Int)) then ((0 : Int)) else ((2 : Int)))) else (gJ k n a b c d v ph))
noncomputable def phS : List AV → M AV
 | [.agg [.int s0 .u8 k, .str s1 n, .str s2 a, .str s3 b, .str s4 c, .str s5 d, .raw s6 v, .int s7 .i64 ph]] => M.ret (AV.iD [AV.dD (Bool.or s0 (Bool.or s1 (Bool.or s2 (Bool.or s3 (Bool.or s4 (Bool.or s5 (Bool.or s6 s7))))))) (Jp k n a b c d v ph) (Jq k n a b c d v ph), AV.int (Bool.or s0 (Bool.or s1 (Bool.or s2 (Bool.or s3 (Bool.or s4 (Bool.or s5 (Bool.or s6 s7))))))) (IntKind.i64) (JH k n a b c d v ph)])
 | args => EI 10 args
theorem O7 : ∀ args v g g', phS args g = .done v g' → bf Try.prog 10 args v g g' := by
  intro args v g g' h
  unfold phS at h
  split at h
  · rename_i s0 k s1 n s2 a s3 b s4 c s5 d s6 v s7 ph
    obtain ⟨rfl, rfl⟩ := aA h
    refine LZ og (a' := [ZCU k n a b c d v ph]) (R := AV.iD [AV.dD (Bool.or true (Bool.or true (Bool.or true (Bool.or true (Bool.or true (Bool.or true (Bool.or true true))))))) (Jp k n a b c d v ph) (Jq k n a b c d v ph), AV.int (Bool.or true (Bool.or true (Bool.or true (Bool.or true (Bool.or true (Bool.or true (Bool.or true true))))))) (IntKind.i64) (JH k n a b c d v ph)]) ?_ (fun N μ l ha => by simpa only [aI, Rep] using ha) (fun N μ c hc => by simpa only [Rep, aI, cZ] using hc)
    unfold Jp Jq JH
    cases t0 : decide (gJ k n a b c d v ph = (0 : Int))
    ·exact ⟨[tT], lF (I1 (nf t0))⟩
    ·cases t1 : decide (k = (4 : Int))
     ·cases t2 : decide (k = (5 : Int))
      ·exact ⟨[fF, tT, tT], lF (I3 (nt t0) (nf t1) (nf t2))⟩
      ·exact ⟨[fF, tT, fF], lF (I3 (nt t0) (nf t1) (nt t2))⟩
     ·exact ⟨[fF, fF], lF (I2 (nt t0) (nt t1))⟩
  · exact og _ _ _ _ _ h
theorem JI : ∀ args, aC (phS args) := by
 intro args
 unfold phS
 split
 ·exact aC.ret _
 ·exact wK _ _


noncomputable def kS (x y : Nat) : Bool := (bif vP (jo x x) 0 then (vP (jo y y) 0) else (false))
noncomputable def O8 : List AV → M AV
 | [.dD s0 x y] => M.ret (dH s0 (kS x y))
 | args => EI 47 args
theorem JJ : ∀ args v g g', O8 args g = .done v g' → bf Try.prog 47 args v g g' := by
 intro args v g g' h
 unfold O8 at h
 split at h
 ·rename_i s0 x y
  obtain ⟨rfl, rfl⟩ := aA h
  refine LZ og (a' := [.dD true x y]) (R := dH true (kS x y)) ?_ (fun N μ l ha => by simpa only [aI, Rep] using ha) (fun N μ c hc => by simpa only [Rep, aI, cZ] using hc)
  unfold kS
  cases t0 : vP (jo x x) 0
  ·exact ⟨[fF], lF (I1 t0)⟩
  ·exact ⟨[tT], lF (I1 t0)⟩
 ·exact og _ _ _ _ _ h
theorem EY : ∀ args, aC (O8 args) := by
 intro args
 unfold O8
 split
 ·exact aC.ret _
 ·exact wK _ _
noncomputable def O9 : List AV → M AV
 | [.dD s0 x y, .dD s1 a b] => M.ret (AV.dD (Bool.or s0 s1) (jo x a) (jo y b))
 | args => EI 21 args
theorem JK : ∀ args v g g', O9 args g = .done v g' → bf Try.prog 21 args v g g' := by
 intro args v g g' h
 unfold O9 at h
 split at h
 ·rename_i s0 x y s1 a b
  obtain ⟨rfl, rfl⟩ := aA h
  refine LZ og (a' := [.dD true x y, .dD true a b]) (R := AV.dD (Bool.or true true) (jo x a) (jo y b)) ?_ (fun N μ l ha => by simpa only [aI, Rep] using ha) (fun N μ c hc => by simpa only [Rep, aI, cZ] using hc)
  exact ⟨[], lF trivial⟩
 ·exact og _ _ _ _ _ h
theorem EZ : ∀ args, aC (O9 args) := by
 intro args
 unfold O9
 split
 ·exact aC.ret _
 ·exact wK _ _
noncomputable def Pg : List AV → M AV
 | [.dD s0 x y, .dD s1 a b] => M.ret (AV.dD (Bool.or s0 s1) (jG x a) (jG y b))
 | args => EI 22 args
theorem JL : ∀ args v g g', Pg args g = .done v g' → bf Try.prog 22 args v g g' := by
 intro args v g g' h
 unfold Pg at h
 split at h
 ·rename_i s0 x y s1 a b
  obtain ⟨rfl, rfl⟩ := aA h
  refine LZ og (a' := [.dD true x y, .dD true a b]) (R := AV.dD (Bool.or true true) (jG x a) (jG y b)) ?_ (fun N μ l ha => by simpa only [aI, Rep] using ha) (fun N μ c hc => by simpa only [Rep, aI, cZ] using hc)
  exact ⟨[], lF trivial⟩
 ·exact og _ _ _ _ _ h
theorem E5 : ∀ args, aC (Pg args) := by
 intro args
 unfold Pg
 split
 ·exact aC.ret _
 ·exact wK _ _
def dU (f : tP) (j : Nat) : List AV := [.dD true (f j).1 (f j).2]
noncomputable def aek : Known := kc 36 ofBits (kc 62 toBits (kc 81 lZ (kc 66 qF (kc 63 mW (kc 82 Tj (kc 64 uo (kc 65 uq (kc 37 ER (kc 88 qP (kc 83 JG (kc 68 vJ (kc 10 phS (kc 47 O8 (kc 21 O9 (kc 22 Pg (kc 14 yt (kc 15 O6 (kn))))))))))))))))))
theorem QZ : eY Try.prog aek := aO ((jf Try.prog).iw Try.func36 (by kernel_rfl) (by kernel_rfl) (by kernel_rfl) (by kernel_rfl)) (aO ((je Try.prog).iw Try.func62 (by kernel_rfl) (by kernel_rfl) (by kernel_rfl) (by kernel_rfl)) (aO jC (aO kQ (aO kC (aO sZ (aO nY (aO nZ (aO tC (aO o7 (aO zJ (aO wJ (aO O7 (aO JJ (aO JK (aO JL (aO AL (aO JF (mJ))))))))))))))))))
theorem MO : gG aek := aG aC.ofBits (aG aC.toBits (aG iV (aG jD (aG jr (aG oQ (aG lJ (aG lK (aG pX (aG ng (aG vI (aG tN (aG JI (aG EY (aG EZ (aG E5 (aG yu (aG EX (jH))))))))))))))))))
noncomputable def Q5 : Calls' := Sx.runN Try.prog aek (bY Try.prog) 1000 50
theorem Wn : cO Try.prog Q5 := gK QZ MO (by kernel_rfl) (by kernel_rfl) 1000 50
theorem TA (n : Nat) : gq Try.prog (bY Try.prog Q5 n) n := gQ QZ MO (by kernel_rfl) (by kernel_rfl) 1000 50 n
noncomputable abbrev E8 (f : Func) (c : Code) (fr : Fr) (H : T aF) (K : Nat) (path : List Bool) : BU (Ex × Fr) :=
 cu Try.prog Q5 (bY Try.prog Q5 f.ntmps) lQ f.ntmps 1000 c fr ⟨H, K, [], path, True⟩


theorem rcN {fn : Func} {K K' B : Nat} {e : Ex} {F : tF} {Hl : tH} {c : Code} {fr : Fr} {H : T aF} {path : List Bool} (h : bV K' e F Hl (E8 fn c fr H K path)) (hB : B ≤ K) : aj Try.prog c fn.ntmps B K K' fr H fun e' fr' H' => e' = e ∧ fr' = aQ F ∧ H' = hpL Hl := aj.runN Wn (TA _) (iI.none _ _ _) h hB
theorem Wp {fn : Func} {K K' B : Nat} {e : Ex} {F : tF} {Hl : tH} {c : Code} {fr : Fr} {H : T aF} (path : List Bool) {q : Prop} (hq : q) (hB : B ≤ K) (h : jP K' e F Hl (E8 fn c fr H K path) = (e = e ∧ uh F ∧ uj Hl ∧ true = true ∧ q) := by kernel_rfl) : aj Try.prog c fn.ntmps B K K' fr H fun e' fr' H' => e' = e ∧ fr' = aQ F ∧ H' = hpL Hl := rcN (eqn h hq) hB
noncomputable abbrev ZEP (v0 : tP) (v1) := (.dD true (Prod.fst (v0 v1)) (Prod.snd (v0 v1)) : AV)
noncomputable abbrev ZY (v0 : Nat) (v1 : tP) := (.cells true 1 v0 (.fn fun j => [ZEP v1 j]) : aF)
noncomputable abbrev Zj (v0 : Nat) (v1 : tP) := (.cells true 1 v0 (.fn (dU v1)) : aF)
noncomputable abbrev Zq (v0 v1 v2 : Nat) := (.cells false 7 1 (.fn fun _ => dO 6 7 8 v0 v1 v2) : aF)
noncomputable abbrev Z8 (v0 v1 v2 : Nat) := (.cells false 7 1 (.fn fun x => (dO 6 7 8 v0 v1 v2)) : aF)
noncomputable abbrev qZ (v0 v1 : Nat) := (.dD true v0 v1 : AV)
noncomputable abbrev ZEf (v0 v1 v2 : Nat) := ([(0, ZA 2), (1, sL 10 v0), (3, qZ v1 v2), (6, ZA 11)] : tF)
noncomputable abbrev ZEj (v0 : Nat) (v1 : Tx) (v2 v3 : Nat) (w0) := bJ [ZA 2, sL 10 v0, .agg [.str true v1, .fn (.func w0) [] []], qZ v2 v3] 0 .e
noncomputable abbrev ZE8 (v0 v1 v2 : Nat) (v3 : tM) (v4 : Nat) (v5 : tP) := hpL [(2, Zq v0 v1 v2), (4, .aW true v3), (10, Zj v4 v5)]
theorem aiq (B : Nat) (hB : B ≤ 11) (n q r u s0 s1 : Nat) (x : Tx) (M2 : tM) (f : tP) : aj Try.prog ((aT [0] (ak Try.f48))) Try.f48.ntmps B 11 12 (ZEj u x s0 s1 21) (ZE8 n q r M2 u f) (pP .normal (ZEf u s0 s1) [(2, Z8 n q r), (4, oI M2), (10, ZY u f), (11, .cells true 2 1 (.lit [] (.n .e (some [.str true x, .fn (Go.Fn.func (21 : Go.FuncId)) [] []]) .e)))]) := Wp [] trivial hB
noncomputable abbrev Zd (v0 v1 v2 : Nat) (v3 : tM) (v4 : Nat) (v5 : tP) (v6 : Tx) (w0) := ([(2, .cells false 7 1 (.fn fun _ => dO 6 7 8 v0 v1 v2)), (4, .aW true v3), (10, .cells true 1 v4 (.fn (dU v5))), (11, .cells true 2 1 (.fn fun _ => [.str true v6, .fn (.func w0) [] []]))] : tH)
theorem agn (B : Nat) (hB : B ≤ 12) (n q r u s0 s1 : Nat) (x : Tx) (M2 : tM) (f : tP) : aj Try.prog ((aT [1,0] (ak Try.f48))) Try.f48.ntmps B 12 12 (aQ (ZEf u s0 s1)) (hpL (Zd n q r M2 u f x 21)) (pP .normal [(0, ZA 2), (1, sL 10 u), (3, qZ s0 s1), (6, ZA 11), (9, iT (Option.getD (dG seq x M2) (0 : Int))), (10, .aP (Option.isSome (dG seq x M2)))] [(2, Z8 n q r), (4, oI M2), (10, ZY u f), (11, .cells true 2 1 (.fn fun x_1 => [.str true x, .fn (Go.Fn.func (21 : Go.FuncId)) [] []]))]) := Wp [] trivial hB
theorem agp (B : Nat) (hB : B ≤ 12) (n q r u i s0 s1 : Nat) (x : Tx) (M2 : tM) (f : tP) (t : Bool) : aj Try.prog ((aT [1,1,0] (ak Try.f48))) Try.f48.ntmps B 12 12 (aQ [(0, ZA 2), (1, sL 10 u), (3, qZ s0 s1), (6, ZA 11), (9, iT (i : Int)), (10, .aP t)]) (hpL (Zd n q r M2 u f x 21)) fun e fr' H' => (cond (t) (pP .normal [(0, ZA 2), (1, sL 10 u), (3, qZ s0 s1), (6, ZA 11), (9, iT (↑i : Int))] [(2, Z8 n q r), (4, oI M2), (10, ZY u f), (11, .cells true 2 1 (.fn fun x_1 => [.str true x, .fn (Go.Fn.func (21 : Go.FuncId)) [] []]))] e fr' H') (pP .ret [(0, ZA 2), (1, sL 10 u), (3, qZ s0 s1), (6, ZA 11), (8, .bool true), (9, iT (↑i : Int))] [(2, Z8 n q r), (4, oI M2), (10, ZY u f), (11, .cells true 2 1 (.fn fun x_1 => [.str true x, .fn (Go.Fn.func (21 : Go.FuncId)) [] []]))] e fr' H')) := cI (fun t0 => Wp [fF] (I1 (nt t0)) hB) (fun t0 => Wp [tT] (I1 (nf t0)) hB)
theorem air (B : Nat) (hB : B ≤ 12) (n q r u i s0 s1 : Nat) (x : Tx) (M2 : tM) (f : tP) (x0 : ((↑i : Int) < (↑u : Int))) (x1 : (0 + i < u)) : aj Try.prog ((aT [1,1,1,0] (ak Try.f48))) Try.f48.ntmps B 12 12 (aQ [(0, ZA 2), (1, sL 10 u), (3, qZ s0 s1), (6, ZA 11), (9, iT (i : Int))]) (hpL (Zd n q r M2 u f x 21)) (pP .normal [(1, sL 10 u), (9, iT (↑i : Int))] [(2, Z8 n q r), (4, oI M2), (10, .cells true 1 u (.fn fun j => bif Nat.beq j (0 + i) then [.dD true (jo (Prod.fst (f (0 + i))) s0) (jo (Prod.snd (f (0 + i))) s1)] else [ZEP f j]))]) := Wp [] (I5 (ai (show 0 ≤ (↑i : Int) by omega) x0) x1 (ai (show 0 ≤ (↑i : Int) by omega) x0) x1 (show 1 ≤ 1 by omega)) hB
theorem ais (B : Nat) (hB : B ≤ 11) (n q r u s0 s1 : Nat) (x : Tx) (M2 : tM) (f : tP) : aj Try.prog ((aT [0] (ak Try.f48))) Try.f48.ntmps B 11 12 (ZEj u x s0 s1 22) (ZE8 n q r M2 u f) (pP .normal (ZEf u s0 s1) [(2, Z8 n q r), (4, oI M2), (10, ZY u f), (11, .cells true 2 1 (.lit [] (.n .e (some [.str true x, .fn (Go.Fn.func (22 : Go.FuncId)) [] []]) .e)))]) := Wp [] trivial hB
theorem agq (B : Nat) (hB : B ≤ 12) (n q r u s0 s1 : Nat) (x : Tx) (M2 : tM) (f : tP) : aj Try.prog ((aT [1,0] (ak Try.f48))) Try.f48.ntmps B 12 12 (aQ (ZEf u s0 s1)) (hpL (Zd n q r M2 u f x 22)) (pP .normal [(0, ZA 2), (1, sL 10 u), (3, qZ s0 s1), (6, ZA 11), (9, iT (Option.getD (dG seq x M2) (0 : Int))), (10, .aP (Option.isSome (dG seq x M2)))] [(2, Z8 n q r), (4, oI M2), (10, ZY u f), (11, .cells true 2 1 (.fn fun x_1 => [.str true x, .fn (Go.Fn.func (22 : Go.FuncId)) [] []]))]) := Wp [] trivial hB
theorem agr (B : Nat) (hB : B ≤ 12) (n q r u i s0 s1 : Nat) (x : Tx) (M2 : tM) (f : tP) (t : Bool) : aj Try.prog ((aT [1,1,0] (ak Try.f48))) Try.f48.ntmps B 12 12 (aQ [(0, ZA 2), (1, sL 10 u), (3, qZ s0 s1), (6, ZA 11), (9, iT (i : Int)), (10, .aP t)]) (hpL (Zd n q r M2 u f x 22)) fun e fr' H' => (cond (t) (pP .normal [(0, ZA 2), (1, sL 10 u), (3, qZ s0 s1), (6, ZA 11), (9, iT (↑i : Int))] [(2, Z8 n q r), (4, oI M2), (10, ZY u f), (11, .cells true 2 1 (.fn fun x_1 => [.str true x, .fn (Go.Fn.func (22 : Go.FuncId)) [] []]))] e fr' H') (pP .ret [(0, ZA 2), (1, sL 10 u), (3, qZ s0 s1), (6, ZA 11), (8, .bool true), (9, iT (↑i : Int))] [(2, Z8 n q r), (4, oI M2), (10, ZY u f), (11, .cells true 2 1 (.fn fun x_1 => [.str true x, .fn (Go.Fn.func (22 : Go.FuncId)) [] []]))] e fr' H')) := cI (fun t0 => Wp [fF] (I1 (nt t0)) hB) (fun t0 => Wp [tT] (I1 (nf t0)) hB)
theorem ait (B : Nat) (hB : B ≤ 12) (n q r u i s0 s1 : Nat) (x : Tx) (M2 : tM) (f : tP) (x0 : ((↑i : Int) < (↑u : Int))) (x1 : (0 + i < u)) : aj Try.prog ((aT [1,1,1,0] (ak Try.f48))) Try.f48.ntmps B 12 12 (aQ [(0, ZA 2), (1, sL 10 u), (3, qZ s0 s1), (6, ZA 11), (9, iT (i : Int))]) (hpL (Zd n q r M2 u f x 22)) (pP .normal [(1, sL 10 u), (9, iT (↑i : Int))] [(2, Z8 n q r), (4, oI M2), (10, .cells true 1 u (.fn fun j => bif Nat.beq j (0 + i) then [.dD true (jG (Prod.fst (f (0 + i))) s0) (jG (Prod.snd (f (0 + i))) s1)] else [ZEP f j]))]) := Wp [] (I5 (ai (show 0 ≤ (↑i : Int) by omega) x0) x1 (ai (show 0 ≤ (↑i : Int) by omega) x0) x1 (show 1 ≤ 1 by omega)) hB
theorem pzE (B : Nat) (hB : B ≤ 12) (n q r u i : Nat) (M2 : tM) (f : tP) (x0 : ((↑i : Int) < (↑u : Int))) (x1 : (0 + i < u)) : aj Try.prog ((aT [1,1,1,1] (ak Try.f48))) Try.f48.ntmps B 12 12 (aQ [(1, sL 10 u), (9, iT (i : Int))]) (ZE8 n q r M2 u f) (pP .ret [(8, .aP (kS (Prod.fst (f (0 + i))) (Prod.snd (f (0 + i)))))] [(4, oI M2), (10, ZY u f)]) := Wp [] (I2 (ai (show 0 ≤ (↑i : Int) by omega) x0) x1) hB
def fU (x y : Nat × Nat) : Nat × Nat := (jo x.1 y.1, jo x.2 y.2)
def gI (x y : Nat × Nat) : Nat × Nat := (jG x.1 y.1, jG x.2 y.2)
def sN (f : tP) (i : Nat) (y : Nat × Nat) (j : Nat) : Nat × Nat := bif Nat.beq j i then y else f j
theorem wC (f : tP) (i : Nat) (y : Nat × Nat) : sN f i y i = y := by unfold sN; rw [Nat.beq_refl]; rfl
theorem qG (f : tP) (i j : Nat) (y : Nat × Nat) : (bif Nat.beq j i then [AV.dD true y.1 y.2] else [AV.dD true (f j).1 (f j).2]) = dU (sN f i y) j := by
 unfold dU sN
 cases Nat.beq j i <;> rfl
/-- what put makes of a list, and whether it is finite -/
noncomputable def dK (o : Nat × Nat → Nat × Nat → Nat × Nat) (x : Tx) (M : tM) (f : tP) (s : Nat × Nat) : (Nat → Nat × Nat) × Bool :=
 match dG seq x M with
 | none => (f, true)
 | some i => (sN f i.toNat (o (f i.toNat) s), kS (o (f i.toNat) s).1 (o (f i.toNat) s).2)
theorem ab8 : (ak Try.f48) = .seq (aT [0] (ak Try.f48)) (.seq (aT [1,0] (ak Try.f48)) (.seq (aT [1,1,0] (ak Try.f48)) (.seq (aT [1,1,1,0] (ak Try.f48)) (aT [1,1,1,1] (ak Try.f48))))) := by kernel_rfl
theorem Wq (n q r u s0 s1 : Nat) (x : Tx) (M2 : tM) (f : tP) (hb : ∀ i, dG seq x M2 = some i → 0 ≤ i ∧ i < u) :
  aj Try.prog (ak Try.f48) Try.f48.ntmps 11 11 12 (ZEj u x s0 s1 21) (ZE8 n q r M2 u f) (fun e fr' H' => e = .ret ∧ fr' = aQ [(8, .aP (dK fU x M2 f (s0, s1)).2)] ∧ H' = hpL [(4, .aW true M2), (10, .cells true 1 u (.fn (dU (dK fU x M2 f (s0, s1)).1)))]) := by
 rw [ab8]
 refine aj.aV (K1 := 12) (F1 := (ZEf u s0 s1)) (H1 := (Zd n q r M2 u f x 21)) (aj.toN (aiq 11 (by omega) n q r u s0 s1 x M2 f) (dJ rfl) ⟨hs rfl, hs rfl, hs rfl, jI rfl, trivial⟩) (by omega) ?_
 cases hf : dG seq x M2 with
 | none =>
  refine aj.aV (K1 := 12) (F1 := [(0, ZA 2), (1, sL 10 u), (3, qZ s0 s1), (6, ZA 11), (9, Zc 0), (10, .aP false)]) (H1 := (Zd n q r M2 u f x 21)) (aj.toN (agn 11 (by omega) n q r u s0 s1 x M2 f) ⟨re rfl, re rfl, re rfl, re rfl, ⟨_, rfl, AV.ge.int' _ _ _ (by rw [hf]; rfl)⟩, ⟨_, rfl, AV.ge.ou (by rw [hf]; rfl)⟩, trivial⟩ (fG rfl)) (by omega) ?_
  refine (MF (R := fun fr' H' => fr' = aQ [(8, .aP (dK fU x M2 f (s0, s1)).2)] ∧ H' = hpL [(4, .aW true M2), (10, .cells true 1 u (.fn (dU (dK fU x M2 f (s0, s1)).1)))]) (K1 := 12) (by omega) ((agp 11 (by omega) n q r u 0 s0 s1 x M2 f false).post fun e fr' H' h => ?_)).mono fun e fr' H' h => h
  rw [cond_false] at h
  obtain ⟨rfl, rfl, rfl⟩ := h
  have e1 : dK fU x M2 f (s0, s1) = (f, true) := by unfold dK; rw [hf]
  exact ⟨[(8, .aP true)], [(4, .aW true M2), (10, Zj u f)], ⟨⟨_, rfl, AV.ge.bool true⟩, trivial⟩, (fG rfl), rfl, by rw [e1], by rw [e1]⟩
 | some y =>
  obtain ⟨y0, y1⟩ := hb y hf
  obtain ⟨i, rfl⟩ : ∃ i : Nat, y = i := ⟨y.toNat, by omega⟩
  have e1 : dK fU x M2 f (s0, s1) = (sN f i (fU (f i) (s0, s1)), kS (fU (f i) (s0, s1)).1 (fU (f i) (s0, s1)).2) := by unfold dK; rw [hf]; rfl
  refine aj.aV (K1 := 12) (F1 := [(0, ZA 2), (1, sL 10 u), (3, qZ s0 s1), (6, ZA 11), (9, iT (i : Int)), (10, .aP true)]) (H1 := (Zd n q r M2 u f x 21)) (aj.toN (agn 11 (by omega) n q r u s0 s1 x M2 f) ⟨re rfl, re rfl, re rfl, re rfl, ⟨_, rfl, AV.ge.int' _ _ _ (by rw [hf]; rfl)⟩, ⟨_, rfl, AV.ge.ou (by rw [hf]; rfl)⟩, trivial⟩ (fG rfl)) (by omega) ?_
  refine aj.aV (K1 := 12) (F1 := [(0, ZA 2), (1, sL 10 u), (3, qZ s0 s1), (6, ZA 11), (9, iT (i : Int))]) (H1 := (Zd n q r M2 u f x 21)) ((agp 11 (by omega) n q r u i s0 s1 x M2 f true).mono fun e fr' H' h => by rw [cond_true] at h; exact h) (by omega) ?_
  refine aj.aV (K1 := 12) (F1 := [(1, sL 10 u), (9, iT (i : Int))]) (H1 := [(2, Zq n q r), (4, .aW true M2), (10, .cells true 1 u (.fn (dU (sN f i (fU (f i) (s0, s1))))))]) (aj.toN (air 11 (by omega) n q r u i s0 s1 x M2 f (by omega) (by omega)) (dJ rfl) ⟨hs rfl, hs rfl, gR rfl rfl (fun j hj => by rw [Nat.zero_add]; exact qG f i j (fU (f i) (s0, s1))), trivial⟩) (by omega) ?_
  refine (pzE 11 (by omega) n q r u i M2 (sN f i (fU (f i) (s0, s1))) (by omega) (by omega)).mono fun e fr' H' h => ?_
  obtain ⟨rfl, rfl, rfl⟩ := h
  refine ⟨rfl, ?_, ?_⟩
  ·rw [e1, Nat.zero_add, wC]
  ·rw [e1]; rfl
theorem Ws (n q r u s0 s1 : Nat) (x : Tx) (M2 : tM) (f : tP) (hb : ∀ i, dG seq x M2 = some i → 0 ≤ i ∧ i < u) :
  aj Try.prog (ak Try.f48) Try.f48.ntmps 11 11 12 (ZEj u x s0 s1 22) (ZE8 n q r M2 u f) (fun e fr' H' => e = .ret ∧ fr' = aQ [(8, .aP (dK gI x M2 f (s0, s1)).2)] ∧ H' = hpL [(4, .aW true M2), (10, .cells true 1 u (.fn (dU (dK gI x M2 f (s0, s1)).1)))]) := by
 rw [ab8]
 refine aj.aV (K1 := 12) (F1 := (ZEf u s0 s1)) (H1 := (Zd n q r M2 u f x 22)) (aj.toN (ais 11 (by omega) n q r u s0 s1 x M2 f) (dJ rfl) ⟨hs rfl, hs rfl, hs rfl, jI rfl, trivial⟩) (by omega) ?_
 cases hf : dG seq x M2 with
 | none =>
  refine aj.aV (K1 := 12) (F1 := [(0, ZA 2), (1, sL 10 u), (3, qZ s0 s1), (6, ZA 11), (9, Zc 0), (10, .aP false)]) (H1 := (Zd n q r M2 u f x 22)) (aj.toN (agq 11 (by omega) n q r u s0 s1 x M2 f) ⟨re rfl, re rfl, re rfl, re rfl, ⟨_, rfl, AV.ge.int' _ _ _ (by rw [hf]; rfl)⟩, ⟨_, rfl, AV.ge.ou (by rw [hf]; rfl)⟩, trivial⟩ (fG rfl)) (by omega) ?_
  refine (MF (R := fun fr' H' => fr' = aQ [(8, .aP (dK gI x M2 f (s0, s1)).2)] ∧ H' = hpL [(4, .aW true M2), (10, .cells true 1 u (.fn (dU (dK gI x M2 f (s0, s1)).1)))]) (K1 := 12) (by omega) ((agr 11 (by omega) n q r u 0 s0 s1 x M2 f false).post fun e fr' H' h => ?_)).mono fun e fr' H' h => h
  rw [cond_false] at h
  obtain ⟨rfl, rfl, rfl⟩ := h
  have e1 : dK gI x M2 f (s0, s1) = (f, true) := by unfold dK; rw [hf]
  exact ⟨[(8, .aP true)], [(4, .aW true M2), (10, Zj u f)], ⟨⟨_, rfl, AV.ge.bool true⟩, trivial⟩, (fG rfl), rfl, by rw [e1], by rw [e1]⟩
 | some y =>
  obtain ⟨y0, y1⟩ := hb y hf
  obtain ⟨i, rfl⟩ : ∃ i : Nat, y = i := ⟨y.toNat, by omega⟩
  have e1 : dK gI x M2 f (s0, s1) = (sN f i (gI (f i) (s0, s1)), kS (gI (f i) (s0, s1)).1 (gI (f i) (s0, s1)).2) := by unfold dK; rw [hf]; rfl
  refine aj.aV (K1 := 12) (F1 := [(0, ZA 2), (1, sL 10 u), (3, qZ s0 s1), (6, ZA 11), (9, iT (i : Int)), (10, .aP true)]) (H1 := (Zd n q r M2 u f x 22)) (aj.toN (agq 11 (by omega) n q r u s0 s1 x M2 f) ⟨re rfl, re rfl, re rfl, re rfl, ⟨_, rfl, AV.ge.int' _ _ _ (by rw [hf]; rfl)⟩, ⟨_, rfl, AV.ge.ou (by rw [hf]; rfl)⟩, trivial⟩ (fG rfl)) (by omega) ?_
  refine aj.aV (K1 := 12) (F1 := [(0, ZA 2), (1, sL 10 u), (3, qZ s0 s1), (6, ZA 11), (9, iT (i : Int))]) (H1 := (Zd n q r M2 u f x 22)) ((agr 11 (by omega) n q r u i s0 s1 x M2 f true).mono fun e fr' H' h => by rw [cond_true] at h; exact h) (by omega) ?_
  refine aj.aV (K1 := 12) (F1 := [(1, sL 10 u), (9, iT (i : Int))]) (H1 := [(2, Zq n q r), (4, .aW true M2), (10, .cells true 1 u (.fn (dU (sN f i (gI (f i) (s0, s1))))))]) (aj.toN (ait 11 (by omega) n q r u i s0 s1 x M2 f (by omega) (by omega)) (dJ rfl) ⟨hs rfl, hs rfl, gR rfl rfl (fun j hj => by rw [Nat.zero_add]; exact qG f i j (gI (f i) (s0, s1))), trivial⟩) (by omega) ?_
  refine (pzE 11 (by omega) n q r u i M2 (sN f i (gI (f i) (s0, s1))) (by omega) (by omega)).mono fun e fr' H' h => ?_
  obtain ⟨rfl, rfl, rfl⟩ := h
  refine ⟨rfl, ?_, ?_⟩
  ·rw [e1, Nat.zero_add, wC]
  ·rw [e1]; rfl


theorem jS {N K0 i : Nat} {μ : MM} {ρ : Nat → Nat} {a : AA} {c : Value} (h : Rep N μ (.ptr a) c) (h1 : a.i = 0) (h2 : a.o = 0) (hi : i < K0) (e : ρ i = a.g) : Rep K0 (μ.via ρ) (.ptr ⟨false, i, 0, 0⟩) c := by
 simp only [Rep] at h ⊢
 refine ⟨hi, h.2.trans ?_⟩
 simp only [MM.addr, MM.via, e, h1, h2]
theorem Wu {N : Nat} {μ : MM} {hp : Array Obj} {g sz : Nat} {own : Bool} {c : Cont} {row : List AV} (h : dw N μ hp g (.cells own sz 1 c)) (k : gy (c.row 0) row) : dw N μ hp g (.cells false sz 1 (.fn fun _ => row)) := by
 refine ⟨h.1, h.2.1, fun hr => ?_⟩
 obtain ⟨cur, ty, fz, p1, p2, p3, p4⟩ := h.2.2 (.inl (by omega))
 refine ⟨cur, ty, fz, p1, p2, fun h => (by cases h), fun i hi => ?_⟩
 obtain rfl : i = 0 := by omega
 exact jv.ge (p4 0 (by omega)) k
theorem aiu {N : Nat} {μ : MM} {hp : Array Obj} {g sz m : Nat} {c : Cont} {rows : Nat → List AV} (h : dw N μ hp g (.cells true sz m c)) (k : ∀ j, j < m → gy (c.row j) (rows j)) : dw N μ hp g (.cells true sz m (.fn rows)) := by
 refine ⟨h.1, h.2.1, fun hr => ?_⟩
 obtain ⟨cur, ty, fz, p1, p2, p3, p4⟩ := h.2.2 hr
 exact ⟨cur, ty, fz, p1, p2, p3, fun i hi => jv.ge (p4 i hi) (k i hi)⟩
/-- a net's row, read: its slices and maps -/
structure tV where
 n : Nat
 q : Nat
 r : Nat
 l : AA
 nd : AA
 bg : AA
 m1 : Nat
 m2 : Nat
 m3 : Nat
def kT (a : AA) : Bool := Nat.beq a.i 0 && Nat.beq a.o 0
def Wv : List AV → Option tV
 | [.bool true, .slc _ true a1 n, .mp m1, .slc _ true a2 q, .mp m2, .slc _ true a3 r, .mp m3] => bif kT a1 && kT a2 && kT a3 then some ⟨n, q, r, a1, a2, a3, m1, m2, m3⟩ else none
 | _ => none
/-- the net at a name -/
noncomputable def MP (N : Nat) : M tV := (jU N).andThen fun b => (M.dn (Nat.beq b.2.1 7 && Nat.beq b.2.2.1 1)).andThen fun _ => M.bF (Wv (b.2.2.2.row 0))
theorem Hz (N : Nat) : aC (MP N) := (aC.jU _).andThen fun _ => (aC.dn _).andThen fun _ => aC.bF _
theorem dX {a : AA} (h : kT a = true) : a.i = 0 ∧ a.o = 0 := by
 unfold kT at h
 rw [Bool.and_eq_true] at h
 exact ⟨Nat.eq_of_beq_eq_true h.1, Nat.eq_of_beq_eq_true h.2⟩
theorem Ph {l : List AV} {w : tV} (h : Wv l = some w) : ∃ s1 s2 s3, l = [.bool true, .slc s1 true w.l w.n, .mp w.m1, .slc s2 true w.nd w.q, .mp w.m2, .slc s3 true w.bg w.r, .mp w.m3] ∧ (w.l.i = 0 ∧ w.l.o = 0) ∧ (w.nd.i = 0 ∧ w.nd.o = 0) ∧ (w.bg.i = 0 ∧ w.bg.o = 0) := by
 unfold Wv at h
 split at h
 ·rename_i s1 a1 n m1 s2 a2 q m2 s3 a3 r m3
  cases c : kT a1 && kT a2 && kT a3 with
  | false => rw [c] at h; cases h
  | true =>
   rw [c] at h
   cases h
   simp only [Bool.and_eq_true] at c
   exact ⟨s1, s2, s3, rfl, dX c.1.1, dX c.1.2, dX c.2⟩
 ·cases h
theorem Fa {N : Nat} {w : tV} {g g' : G} (h : MP N g = .done w g') : g = g' ∧ ∃ ob c s1 s2 s3, g.H.get N = some (.cells ob 7 1 c) ∧ c.row 0 = [.bool true, .slc s1 true w.l w.n, .mp w.m1, .slc s2 true w.nd w.q, .mp w.m2, .slc s3 true w.bg w.r, .mp w.m3] ∧ (w.l.i = 0 ∧ w.l.o = 0) ∧ (w.nd.i = 0 ∧ w.nd.o = 0) ∧ (w.bg.i = 0 ∧ w.bg.o = 0) := by
 unfold MP at h
 obtain ⟨⟨ob, zb, mb, cb⟩, g1, a1, h1⟩ := au h
 obtain ⟨t1, rfl⟩ := fK a1
 obtain ⟨_, g2, a2, h2⟩ := au h1
 obtain ⟨hq, rfl⟩ := aU a2
 obtain ⟨h3, rfl⟩ := aJ h2
 simp only [Bool.and_eq_true] at hq
 obtain rfl := Nat.eq_of_beq_eq_true hq.1
 obtain rfl := Nat.eq_of_beq_eq_true hq.2
 obtain ⟨s1, s2, s3, e, x⟩ := Ph h3
 exact ⟨rfl, ob, cb, s1, s2, s3, t1, e, x⟩
/-- the great names of a net's blocks -/
def tZ (N : Nat) (w : tV) (i : Nat) : Nat := if i = 2 then N else if i = 3 then w.m1 else if i = 4 then w.m2 else if i = 5 then w.m3 else if i = 6 then w.l.g else if i = 7 then w.nd.g else w.bg.g
theorem Q7 {c : Cont} {w : tV} {s1 s2 s3 : Bool} (e : c.row 0 = [.bool true, .slc s1 true w.l w.n, .mp w.m1, .slc s2 true w.nd w.q, .mp w.m2, .slc s3 true w.bg w.r, .mp w.m3]) (h1 : w.l.i = 0 ∧ w.l.o = 0) (h2 : w.nd.i = 0 ∧ w.nd.o = 0) (h3 : w.bg.i = 0 ∧ w.bg.o = 0) {ρ : Nat → Nat} (p3 : ρ 3 = w.m1) (p4 : ρ 4 = w.m2) (p5 : ρ 5 = w.m3) (p6 : ρ 6 = w.l.g) (p7 : ρ 7 = w.nd.g) (p8 : ρ 8 = w.bg.g) : gy (c.row 0) (lD ρ (dO 6 7 8 w.n w.q w.r)) := by
 rw [e]
 refine ⟨AV.ge.refl _, rfl, AV.ge.hdr p6.symm h1.1 h1.2, rfl, ?_, rfl, AV.ge.hdr p7.symm h2.1 h2.2, rfl, ?_, rfl, AV.ge.hdr p8.symm h3.1 h3.2, rfl, ?_, rfl, trivial⟩
 ·show AV.ge (.mp w.m1) (.mp (ρ 3)); rw [p3]; exact AV.ge.refl _
 ·show AV.ge (.mp w.m2) (.mp (ρ 4)); rw [p4]; exact AV.ge.refl _
 ·show AV.ge (.mp w.m3) (.mp (ρ 5)); rw [p5]; exact AV.ge.refl _
theorem JM {K : Nat} {f : tP} {j : Nat} {u : AV} (h : u ∈ dU f j) : u.low K = true := by rw [List.mem_singleton.1 h]; rfl
/-- a row as a number -/
noncomputable def rC (c : Cont) (j : Nat) : Nat × Nat := (Et (c.row j), Eu (c.row j))
def Fb (l : List AV) : Prop := gy l [.dD true (Et l) (Eu l)]
/-- what put is handed -/
def aiv (x : Tx) (M : tM) (u : Nat) (c : Cont) : Prop := (∀ i, dG seq x M = some i → 0 ≤ i ∧ i < (u : Int)) ∧ ∀ j, j < u → Fb (c.row j)
noncomputable def TB : List AV → Sx.M AV
 | [.ptr aN, .slc _ own aL u, .agg [.str _ x, .fn (.func k) [] []], .dD _ s0 s1] =>
  (Sx.M.dn (kT aN && kT aL && own && (Nat.beq k 21 || Nat.beq k 22))).andThen fun _ => (MP aN.g).andThen fun w => (Sx.M.qm w.m2).andThen fun bm => (Sx.M.bF (Kz bm)).andThen fun M => (jU aL.g).andThen fun c => (Sx.M.dn (c.1 && Nat.beq c.2.1 1)).andThen fun _ => (Sx.M.req (c.2.2.1 = u ∧ aiv x M.2 u c.2.2.2)).andThen fun _ => (Sx.M.setB w.m2 (.aW true M.2)).andThen fun _ => (Sx.M.setB aL.g (.cells true 1 u (.fn (dU (dK (bif Nat.beq k 21 then fU else gI) x M.2 (rC c.2.2.2) (s0, s1)).1)))).andThen fun _ => Sx.M.ret (.aP (dK (bif Nat.beq k 21 then fU else gI) x M.2 (rC c.2.2.2) (s0, s1)).2)
 | _ => Sx.M.no
theorem MQ : ∀ args, aC (TB args) := by
 intro args
 unfold TB
 split
 ·exact (aC.dn _).andThen fun _ => (Hz _).andThen fun _ => (aC.qm _).andThen fun _ => (aC.bF _).andThen fun _ => (aC.jU _).andThen fun _ => (aC.dn _).andThen fun _ => (aC.req _).andThen fun _ => (aC.setB _ _).andThen fun _ => (aC.setB _ _).andThen fun _ => aC.ret _
 ·exact aC.no
theorem aar (k : Nat) (hk : (Nat.beq k 21 || Nat.beq k 22) = true) (n q r u s0 s1 : Nat) (x : Tx) (M2 : tM) (f : tP) (hb : ∀ i, dG seq x M2 = some i → 0 ≤ i ∧ i < (u : Int)) :
  aj Try.prog (ak Try.f48) Try.f48.ntmps 11 11 12 (bJ [ZA 2, sL 10 u, .agg [.str true x, .fn (.func k) [] []], qZ s0 s1] 0 .e) (ZE8 n q r M2 u f) (fun e fr' H' => e = .ret ∧ fr' = aQ [(8, .aP (dK (bif Nat.beq k 21 then fU else gI) x M2 f (s0, s1)).2)] ∧ H' = hpL [(4, .aW true M2), (10, .cells true 1 u (.fn (dU (dK (bif Nat.beq k 21 then fU else gI) x M2 f (s0, s1)).1)))]) := by
 rcases Bool.or_eq_true_iff.1 hk with h | h
 ·obtain rfl := Nat.eq_of_beq_eq_true h
  exact Wq n q r u s0 s1 x M2 f hb
 ·obtain rfl := Nat.eq_of_beq_eq_true h
  exact Ws n q r u s0 s1 x M2 f hb
theorem Q8 : ∀ args v g g', TB args g = .done v g' → bf Try.prog 48 args v g g' := by
 intro args v g g' h
 unfold TB at h
 split at h
 case h_2 => exact (aY h).elim
 rename_i aN s own aL u sx x k sc s0 s1
 obtain ⟨_, g1, a1, h1⟩ := au h
 clear h
 obtain ⟨q0, rfl⟩ := aU a1
 simp only [Bool.and_eq_true] at q0
 obtain ⟨⟨⟨q1, q2⟩, q3⟩, q4⟩ := q0
 subst q3
 have q1 := dX q1
 have q2 := dX q2
 obtain ⟨w, g2, a2, h2⟩ := au h1
 clear h1
 obtain ⟨rfl, ob, cb, t1, t2, t3, hN, eN, f1, f2, f3⟩ := Fa a2
 obtain ⟨bm, g3, a3, h3⟩ := au h2
 clear h2
 obtain ⟨hm, rfl⟩ := jd a3
 obtain ⟨⟨sm, M⟩, g4, a4, h4⟩ := au h3
 clear h3
 obtain ⟨em, rfl⟩ := aJ a4
 have em := oW em
 subst em
 obtain ⟨⟨oL, zL, nL, cL⟩, g5, a5, h5⟩ := au h4
 clear h4
 obtain ⟨hL, rfl⟩ := fK a5
 obtain ⟨_, g6, a6, h6⟩ := au h5
 clear h5
 obtain ⟨c0, rfl⟩ := aU a6
 simp only [Bool.and_eq_true] at c0
 obtain ⟨c1, c2⟩ := c0
 subst c1
 obtain rfl := Nat.eq_of_beq_eq_true c2
 obtain ⟨_, g7, a7, h7⟩ := au h6
 clear h6
 have kk := dR a7
 obtain ⟨_, g8, a8, h8⟩ := au h7
 clear h7
 cases a8
 obtain ⟨_, g9, a9, h9⟩ := au h8
 clear h8
 cases a9
 obtain ⟨rfl, rfl⟩ := aA h9
 dsimp only at hm hL kk ⊢
 have d1 : aN.g ≠ w.m2 := fun c => by rw [c, hm] at hN; cases hN
 have d2 : aN.g ≠ aL.g := fun c => by rw [c, hL] at hN; cases hN
 have d3 : w.m2 ≠ aL.g := fun c => by rw [c, hL] at hm; cases hm
 let ρ : Nat → Nat := fun i => if i = 10 then aL.g else tZ aN.g w i
 refine G8 (c := (ak Try.f48)) Try.func48 (by kernel_rfl) (by kernel_rfl) (dY := [ZA 2, sL 10 u, .agg [.str true x, .fn (.func k) [] []], .dD true s0 s1]) (bl := [(2, .cells false 7 1 (.fn fun _ => dO 6 7 8 w.n w.q w.r)), (4, .aW true M), (10, .cells true 1 u (.fn (dU (rC cL))))]) (iL := [(4, .aW true M), (10, .cells true 1 u (.fn (dU (dK (bif Nat.beq k 21 then fU else gI) x M (rC cL) (s0, s1)).1)))]) (B0 := 11) (K0 := 11) (K' := 12) (v := .aP (dK (bif Nat.beq k 21 then fU else gI) x M (rC cL) (s0, s1)).2) (g' := { g7 with H := (g7.H.upd w.m2 (some (aF.aW true M))).upd aL.g (some (aF.cells true 1 u (.fn (dU (dK (bif Nat.beq k 21 then fU else gI) x M (rC cL) (s0, s1)).1)))), uG := aL.g :: w.m2 :: g7.uG }) (p := _) (fun hc => kk.2.2 hc) kk.2.1 ρ ?_ ?_ ?_ ?_ ?_ ?_
 ·intro hp N μ cs hr
  simp only [aI] at hr ⊢
  obtain ⟨v1, r1, rfl, i1, v2, r2, rfl, i2, v3, r3, rfl, i3, v4, r4, rfl, i4, rfl⟩ := hr
  refine ⟨v1, _, rfl, jS i1 q1.1 q1.2 (by omega) rfl, v2, _, rfl, ?_, v3, _, rfl, ?_, v4, _, rfl, ?_, rfl⟩
  ·exact AV.ge.slc _ _ _ rfl _ _ _ (LV (K0 := 11) (ρ := ρ) (i := 10) i2 q2.1 q2.2 (by omega) rfl)
  ·simp only [Rep, aI] at i3 ⊢
   exact i3
  ·simp only [Rep] at i4 ⊢
   exact i4
 ·intro hp i b hbb
  have hm' := bC hbb
  simp only [List.mem_cons, List.not_mem_nil, or_false] at hm'
  rcases hm' with hm' | hm' | hm'
  ·cases hm'
   exact ⟨by omega, fun j hj v hv => List.all_eq_true.1 (show (dO 6 7 8 w.n w.q w.r).all (fun v => v.low 11) = true from rfl) v hv, _, hN, fun N μ hp k => Wu k (Q7 eN f1 f2 f3 rfl rfl rfl rfl rfl rfl), fun h => (by cases h), fun μ m hr => .inl (by omega)⟩
  ·cases hm'
   exact ⟨by omega, trivial, _, hm, fun N μ hp k => k, fun _ => rfl, fun μ m hr => hr⟩
  ·cases hm'
   obtain ⟨rfl, hp⟩ := hp
   exact ⟨by omega, fun j hj v hv => JM hv, _, hL, fun N μ hpp k => aiu k hp.2, fun _ => rfl, fun μ m hr => hr⟩
 ·intro hp i j b b' hi hj e
  have hm1 := bC hi
  have hm2 := bC hj
  simp only [List.mem_cons, List.not_mem_nil, or_false] at hm1 hm2
  rcases hm1 with hm1 | hm1 | hm1 <;> rcases hm2 with hm2 | hm2 | hm2 <;> cases hm1 <;> cases hm2 <;> first | rfl | exact absurd e d1 | exact absurd e d1.symm | exact absurd e d2 | exact absurd e d2.symm | exact absurd e d3 | exact absurd e d3.symm
 ·intro hp
  refine (aar k q4 w.n w.q w.r u s0 s1 x M (rC cL) hp.2.1).mono fun e fr' H' h => ?_
  obtain ⟨rfl, rfl, rfl⟩ := h
  exact ⟨.inl rfl, _, _, res1 (t := 8) (by kernel_rfl) rfl, trivial, AV.ge.refl _, fG rfl⟩
 ·rfl
 ·intro hp i b hi
  simp only [] at hi
  rw [T.bP] at hi
  split at hi
  ·rename_i e
   cases hi
   exact .inr ⟨10, _, by omega, e.symm, rfl, fun j hj u hu => JM hu, rfl, rfl, fun μ m h => h⟩
  ·rename_i e
   rw [T.bP] at hi
   split at hi
   ·rename_i e2
    cases hi
    exact .inr ⟨4, _, by omega, e2.symm, rfl, trivial, rfl, rfl, fun μ m h => h⟩
   ·rename_i e2
    rw [kk.1] at hi
    refine .inl ⟨hi, fun j bj hj ho e3 => ?_⟩
    have hm' := bC hj
    simp only [List.mem_cons, List.not_mem_nil, or_false] at hm'
    rcases hm' with hm' | hm' | hm'
    ·cases hm'; cases ho
    ·cases hm'; exact e2 e3.symm
    ·cases hm'; exact e e3.symm


noncomputable def ael : Known := kc 36 ofBits (kc 62 toBits (kc 81 lZ (kc 66 qF (kc 63 mW (kc 82 Tj (kc 64 uo (kc 65 uq (kc 37 ER (kc 88 qP (kc 83 JG (kc 68 vJ (kc 10 phS (kc 47 O8 (kc 21 O9 (kc 22 Pg (kc 14 yt (kc 15 O6 (kc 48 TB (kn)))))))))))))))))))
theorem Q9 : eY Try.prog ael := aO ((jf Try.prog).iw Try.func36 (by kernel_rfl) (by kernel_rfl) (by kernel_rfl) (by kernel_rfl)) (aO ((je Try.prog).iw Try.func62 (by kernel_rfl) (by kernel_rfl) (by kernel_rfl) (by kernel_rfl)) (aO jC (aO kQ (aO kC (aO sZ (aO nY (aO nZ (aO tC (aO o7 (aO zJ (aO wJ (aO O7 (aO JJ (aO JK (aO JL (aO AL (aO JF (aO Q8 (mJ)))))))))))))))))))
theorem MR : gG ael := aG aC.ofBits (aG aC.toBits (aG iV (aG jD (aG jr (aG oQ (aG lJ (aG lK (aG pX (aG ng (aG vI (aG tN (aG JI (aG EY (aG EZ (aG E5 (aG yu (aG EX (aG MQ (jH)))))))))))))))))))
noncomputable def Rf : Calls' := Sx.runN Try.prog ael (bY Try.prog) 1000 50
theorem Wx : cO Try.prog Rf := gK Q9 MR (by kernel_rfl) (by kernel_rfl) 1000 50
theorem TD (n : Nat) : gq Try.prog (bY Try.prog Rf n) n := gQ Q9 MR (by kernel_rfl) (by kernel_rfl) 1000 50 n
noncomputable abbrev uf (f : Func) (c : Code) (fr : Fr) (H : T aF) (K : Nat) (path : List Bool) : BU (Ex × Fr) :=
 cu Try.prog Rf (bY Try.prog Rf f.ntmps) lQ f.ntmps 1000 c fr ⟨H, K, [], path, True⟩


theorem rcP {fn : Func} {K K' B : Nat} {e : Ex} {F : tF} {Hl : tH} {c : Code} {fr : Fr} {H : T aF} {path : List Bool} (h : bV K' e F Hl (uf fn c fr H K path)) (hB : B ≤ K) : aj Try.prog c fn.ntmps B K K' fr H fun e' fr' H' => e' = e ∧ fr' = aQ F ∧ H' = hpL Hl := aj.runN Wx (TD _) (iI.none _ _ _) h hB
theorem zQ {fn : Func} {K K' B : Nat} {e : Ex} {F : tF} {Hl : tH} {c : Code} {fr : Fr} {H : T aF} (path : List Bool) {q : Prop} (hq : q) (hB : B ≤ K) (h : jP K' e F Hl (uf fn c fr H K path) = (e = e ∧ uh F ∧ uj Hl ∧ true = true ∧ q) := by kernel_rfl) : aj Try.prog c fn.ntmps B K K' fr H fun e' fr' H' => e' = e ∧ fr' = aQ F ∧ H' = hpL Hl := rcP (eqn h hq) hB
/-- the zero element, as it is built -/
noncomputable def SQ : List AV := [AV.int false .u8 0, AV.str false [], AV.str false [], AV.str false [], AV.str false [], AV.str false [], AV.flt false 0, Uz 0]
/-- a net's elements and the zero element -/
noncomputable def Rh (E : tE) (n j : Nat) : List AV := bif decide (0 + j < n) then bI (E (0 + (0 + j))) else SQ
noncomputable def aas (E : tE) (n j : Nat) : List AV := bif decide (j < n) then bI (E (0 + j)) else SQ
noncomputable abbrev yA (v0 : Nat) (v1 : tX) := (.cells false 1 v0 (.fn (dh v1)) : aF)
noncomputable def Fe (n q r : Nat) (E : tE) (M1 M2 M3 : tM) (nd br : tX) : List (Nat × aF) := [(2, Zq n q r), (3, .aW true M1), (4, .aW true M2), (5, .aW true M3), (6, ZF n E), (7, yA q nd), (8, yA r br)]
noncomputable def rlL (n q r u : Nat) (E : tE) (M1 M2 M3 : tM) (nd br : tX) (f : tP) : List (Nat × aF) := [(2, Zq n q r), (3, .aW true M1), (4, .aW true M2), (5, .aW true M3), (6, ZF n E), (7, yA q nd), (8, yA r br), (9, ZE), (10, Zj u f), (11, ZD n E)]
theorem aem (n q r i : Nat) (E : tE) (M1 M2 M3 : tM) (nd br : tX) (c0 : 0 + n ≤ n) (c1 : n * 104 ≤ 140737488355328) (c2 : n ≤ 9223372036854775807) (c3 : ∀ (i : Nat), i < n → ∀ (o : Nat) (v : AV), (bI (E (0 + i)))[o]? = Option.some v → AV.ji (fun g => Qu [(0, 12), (12, 13), (12, 12)] g = true) v) (c4 : n ≤ n) (c5 : (n + 1) * 104 ≤ 140737488355328) (c6 : n + 1 ≤ 9223372036854775807) (c7 : ∀ (i : Nat), i < n + 1 → ∀ (o : Nat) (v : AV), (aas E n i)[o]? = Option.some v → AV.ji (fun g => Qu [(0, 12), (14, 15), (13, 14), (13, 13), (12, 13), (12, 12)] g = true) v) (c8 : 0 + (n + 1) ≤ n + 1) (c9 : PEQ (n + 1) (Rh E n)) (c10 : decide (Prod.fst (uF (bW (Rh E n)) (n + 1)) = (0 : Int)) = false) (c11 : decide (Prod.fst (uF (bW (Rh E n)) (n + 1)) = (1 : Int)) = false) : bV 40 (Ex.normal) (uw 0 2 3 9) (Fe n q r E M1 M2 M3 nd br ++ [(9, l9)]) (uf Try.f16 ((aT [1,0] (ak Try.f16))) (aQ (uw 0 2 3 9)) (hpL (Fe n q r E M1 M2 M3 nd br ++ [(9, ZE)])) 10 [false, false]) := eN (I9 c0 (ai c1 c2) c3 (ai c4 (ai c5 c6)) c7 c8 c9 c10 c11)
theorem riA (B : Nat) (hB : B ≤ 9) (n q r : Nat) (E : tE) (M1 M2 M3 : tM) (nd br : tX) : aj Try.prog ((aT [0] (ak Try.f16))) Try.f16.ntmps B 9 10 (bJ [ZA 2] 0 .e) (hpL (Fe n q r E M1 M2 M3 nd br)) (pP .normal (uw 0 2 3 9) (Fe n q r E M1 M2 M3 nd br ++ [(9, VQ)])) := zQ [] trivial hB
theorem riC (B : Nat) (hB : B ≤ 10) (n q r : Nat) (E : tE) (M1 M2 M3 : tM) (nd br : tX) (x0 : ((↑q : Int) + (↑r : Int) ≤ 9223372036854775807)) (x1 : ((16 : Int) * ((↑q : Int) + (↑r : Int)) ≤ (140737488355328 : Int))) (x2 : ((↑q : Int) + (↑r : Int) ≤ 9223372036854775807)) : aj Try.prog ((aT [1,1,0] (ak Try.f16))) Try.f16.ntmps B 10 11 (aQ (uw 0 2 3 9)) (hpL (Fe n q r E M1 M2 M3 nd br ++ [(9, ZE)])) (pP .normal [(0, ZA 2), (3, ZA 9), (4, sL 10 (q + r))] (Fe n q r E M1 M2 M3 nd br ++ [(9, l9), (10, .cells true 1 (Int.toNat ((↑q : Int) + (↑r : Int))) (.fn fun x => [.dD false 0 0]))])) := zQ [] (I2 (ai (show -9223372036854775808 ≤ (↑q : Int) + (↑r : Int) by omega) x0) (ai (show 0 ≤ (↑q : Int) + (↑r : Int) by omega) (ai (show (↑q : Int) + (↑r : Int) ≤ (↑q : Int) + (↑r : Int) by omega) (ai x1 x2)))) hB
noncomputable abbrev ZCe (v0 : Nat) (v1 : tE) := (.cells true 8 v0 (.fn fun j => (bI (v1 (0 + j)))) : aF)
theorem riD (B : Nat) (hB : B ≤ 11) (n q r u : Nat) (E : tE) (M1 M2 M3 : tM) (nd br : tX) (f : tP) (x0 : (n * 104 ≤ 140737488355328)) (x1 : (n ≤ 9223372036854775807)) : aj Try.prog ((aT [1,1,1,0,0] (ak Try.f16))) Try.f16.ntmps B 11 12 (aQ [(0, ZA 2), (3, ZA 9), (4, sL 10 u)]) (hpL (Fe n q r E M1 M2 M3 nd br ++ [(9, ZE), (10, Zj u f)])) (pP .normal [(0, ZA 2), (3, ZA 9), (4, sL 10 u), (19, sL 11 n), (20, iT (↑n : Int)), (21, ZC 0)] (Fe n q r E M1 M2 M3 nd br ++ [(9, l9), (10, Zj u f), (11, ZCe n E)])) := zQ [] (I2 (show 0 + n ≤ n by omega) (ai x0 x1)) hB
noncomputable abbrev ZCi := aT [1,1,1,0,1,0,0,0] (ak Try.f16)
noncomputable abbrev ZEw (v0 v1 v2 : Nat) := aQ [(0, ZA 2), (3, ZA 9), (4, sL 10 v0), (19, sL 11 v1), (20, iT v1), (21, iT (v2 : Int))]
theorem reA (B : Nat) (hB : B ≤ 12) (n q r i u : Nat) (E : tE) (M1 M2 M3 : tM) (nd br : tX) (f : tP) : aj Try.prog (ZCi) Try.f16.ntmps B 12 12 (ZEw u n i) (hpL (rlL n q r u E M1 M2 M3 nd br f)) (pP .normal [(0, ZA 2), (3, ZA 9), (4, sL 10 u), (19, sL 11 n), (20, iT (↑n : Int)), (21, iT (↑i : Int)), (22, .aP (decide ((↑i : Int) < (↑n : Int))))] (Fe n q r E M1 M2 M3 nd br ++ [(9, l9), (10, Zj u f), (11, ZD n E)])) := zQ [] trivial hB
noncomputable abbrev ZCf := aT [1,1,1,0,1,0,0,1,0] (ak Try.f16)
noncomputable abbrev ZEx (v0 v1 v2 : Nat) := ([(0, ZA 2), (3, ZA 9), (4, sL 10 v0), (19, sL 11 v1), (20, iT (↑v1 : Int)), (21, iT (↑v2 : Int))] : tF)
theorem reB (B : Nat) (hB : B ≤ 12) (n q r i u : Nat) (E : tE) (M1 M2 M3 : tM) (nd br : tX) (f : tP) (t : Bool) : aj Try.prog (ZCf) Try.f16.ntmps B 12 12 (aQ [(0, ZA 2), (3, ZA 9), (4, sL 10 u), (19, sL 11 n), (20, iT n), (21, iT (i : Int)), (22, .aP t)]) (hpL (rlL n q r u E M1 M2 M3 nd br f)) fun e fr' H' => (cond (t) (pP .normal (ZEx u n i) (Fe n q r E M1 M2 M3 nd br ++ [(9, l9), (10, Zj u f), (11, ZD n E)]) e fr' H') (pP (.exit 0) (ZEx u n i) (Fe n q r E M1 M2 M3 nd br ++ [(9, l9), (10, Zj u f), (11, ZD n E)]) e fr' H')) := cI (fun t0 => zQ [tT] (I1 t0) hB) (fun t0 => zQ [fF] (I1 t0) hB)
noncomputable abbrev ZBj := aT [1,1,1,0,1,0,0,1,1,0,0,0] (ak Try.f16)
theorem reC (B : Nat) (hB : B ≤ 12) (n q r i u : Nat) (E : tE) (M1 M2 M3 : tM) (nd br : tX) (f : tP) (x0 : ((↑i : Int) < (↑n : Int))) (x1 : (0 + i < n)) : aj Try.prog (ZBj) Try.f16.ntmps B 12 13 (ZEw u n i) (hpL (rlL n q r u E M1 M2 M3 nd br f)) (pP .normal [(0, ZA 2), (3, ZA 9), (4, sL 10 u), (5, iT (↑i : Int)), (6, ZA 12), (19, sL 11 n), (20, iT (↑n : Int)), (21, iT (↑i : Int))] (Fe n q r E M1 M2 M3 nd br ++ [(9, l9), (10, Zj u f), (11, ZD n E), (12, .cells true 8 1 (.lit [] (T.n T.e (Option.some (bI (E (0 + i)))) T.e)))])) := zQ [] (I3 (ai (show 0 ≤ (↑i : Int) by omega) x0) x1 (show 8 ≤ 8 by omega)) hB
noncomputable abbrev ZBe := aT [1,1,1,0,1,0,0,1,1,0,0,1,0] (ak Try.f16)
theorem reD (B : Nat) (hB : B ≤ 13) (z : El) (n q r i u : Nat) (E : tE) (M1 M2 M3 : tM) (nd br : tX) (f : tP) : aj Try.prog (ZBe) Try.f16.ntmps B 13 13 (aQ [(0, ZA 2), (3, ZA 9), (4, sL 10 u), (19, sL 11 n), (20, iT n), (21, iT (i : Int)), (5, iT (i : Int)), (6, ZA 12)]) (hpL (rlL n q r u E M1 M2 M3 nd br f ++ [(12, Zh z)])) (pP .normal [(0, ZA 2), (3, ZA 9), (4, sL 10 u), (5, iT (↑i : Int)), (6, ZA 12), (7, .dD true (Jp (El.k z) (El.n z) (El.a z) (El.b z) (El.c z) (El.d z) (El.v z) (El.ph z)) (Jq (El.k z) (El.n z) (El.a z) (El.b z) (El.c z) (El.d z) (El.v z) (El.ph z))), (8, iT (JH (El.k z) (El.n z) (El.a z) (El.b z) (El.c z) (El.d z) (El.v z) (El.ph z))), (19, sL 11 n), (20, iT (↑n : Int)), (21, iT (↑i : Int))] (Fe n q r E M1 M2 M3 nd br ++ [(9, l9), (10, Zj u f), (11, ZD n E), (12, Zh z)])) := zQ [] trivial hB
noncomputable abbrev ZBb := aT [1,1,1,0,1,0,0,1,1,0,0,1,1,0] (ak Try.f16)
theorem reE (B : Nat) (hB : B ≤ 13) (z : El) (n q r i u s0 s1 : Nat) (E : tE) (M1 M2 M3 : tM) (nd br : tX) (f : tP) (e3 : Int) : aj Try.prog (ZBb) Try.f16.ntmps B 13 13 (aQ [(0, ZA 2), (3, ZA 9), (4, sL 10 u), (19, sL 11 n), (20, iT n), (21, iT (i : Int)), (5, iT (i : Int)), (6, ZA 12), (7, qZ s0 s1), (8, iT e3)]) (hpL (rlL n q r u E M1 M2 M3 nd br f ++ [(12, Zh z)])) fun e fr' H' => (cond (decide (e3 = (0 : Int))) (pP .normal [(0, ZA 2), (3, ZA 9), (4, sL 10 u), (5, iT (↑i : Int)), (6, ZA 12), (7, qZ s0 s1), (19, sL 11 n), (20, iT (↑n : Int)), (21, iT (↑i : Int))] (Fe n q r E M1 M2 M3 nd br ++ [(9, l9), (10, Zj u f), (11, ZD n E), (12, Zh z)]) e fr' H') (pP (.exit 1) [(0, ZA 2), (3, ZA 9), (4, sL 10 u), (5, iT (↑i : Int)), (6, ZA 12), (7, qZ s0 s1), (19, sL 11 n), (20, iT (↑n : Int)), (21, iT (↑i : Int))] (Fe n q r E M1 M2 M3 nd br ++ [(9, l9), (10, Zj u f), (11, ZD n E), (12, Zh z)]) e fr' H')) := cD (fun q0 t0 => zQ [fF] (I1 (nt t0)) hB) (fun q0 t0 => zQ [tT] (I1 (nf t0)) hB)
noncomputable abbrev ZBZ := aT [1,1,1,0,1,0,0,1,1,0,0,1,1,1,0] (ak Try.f16)
theorem reF (B : Nat) (hB : B ≤ 13) (z : El) (n q r i u s0 s1 : Nat) (E : tE) (M1 M2 M3 : tM) (nd br : tX) (f : tP) : aj Try.prog (ZBZ) Try.f16.ntmps B 13 13 (aQ [(0, ZA 2), (3, ZA 9), (4, sL 10 u), (19, sL 11 n), (20, iT n), (21, iT (i : Int)), (5, iT (i : Int)), (6, ZA 12), (7, qZ s0 s1)]) (hpL (rlL n q r u E M1 M2 M3 nd br f ++ [(12, Zh z)])) (pP .normal [(0, ZA 2), (3, ZA 9), (4, sL 10 u), (5, iT (↑i : Int)), (6, ZA 12), (7, qZ s0 s1), (9, .bool true), (19, sL 11 n), (20, iT (↑n : Int)), (21, iT (↑i : Int))] (Fe n q r E M1 M2 M3 nd br ++ [(9, l9), (10, Zj u f), (11, ZD n E), (12, Zh z)])) := zQ [] trivial hB
noncomputable abbrev ZBP := aT [1,1,1,0,1,0,0,1,1,0,0,1,1,1,1,0] (ak Try.f16)
noncomputable abbrev ZCM (v0 : Nat) (v1 : El) (v2 : tM) (v3 : tP) (v4 v5 : Nat) := (.cells true 1 v0 (.fn fun j => [.dD true (Prod.fst (Prod.fst (dK gI (El.b v1) v2 (rC (.fn (dU (Prod.fst (dK fU (El.a v1) v2 (rC (.fn (dU v3))) (v4, v5)))))) (v4, v5)) j)) (Prod.snd (Prod.fst (dK gI (El.b v1) v2 (rC (.fn (dU (Prod.fst (dK fU (El.a v1) v2 (rC (.fn (dU v3))) (v4, v5)))))) (v4, v5)) j))]) : aF)
theorem reG (B : Nat) (hB : B ≤ 13) (z : El) (n q r i u s0 s1 : Nat) (E : tE) (M1 M2 M3 : tM) (nd br : tX) (f : tP) (x0 : ((decide (El.k z = (5 : Int))) = true → (q * 16 ≤ 140737488355328))) (x1 : ((decide (El.k z = (5 : Int))) = true → (q ≤ 9223372036854775807))) (x2 : ((decide (El.k z = (5 : Int))) = true → (-9223372036854775808 ≤ (↑q : Int) + Option.getD (dG seq (El.n z) M3) (0 : Int)))) (x3 : ((decide (El.k z = (5 : Int))) = true → ((↑q : Int) + Option.getD (dG seq (El.n z) M3) (0 : Int) ≤ 9223372036854775807))) (x4 : ((decide (El.k z = (5 : Int))) = true → (0 ≤ (↑q : Int) + Option.getD (dG seq (El.n z) M3) (0 : Int)))) (x5 : ((decide (El.k z = (5 : Int))) = true → ((↑q : Int) + Option.getD (dG seq (El.n z) M3) 0 < (↑u : Int)))) (x6 : ((decide (El.k z = (5 : Int))) = true → (0 + Int.toNat ((↑q : Int) + Option.getD (dG seq (El.n z) M3) (0 : Int)) < u))) (x7 : ((decide (El.k z = (5 : Int))) = false → (u = u))) (x8 : ((decide (El.k z = (5 : Int))) = false → (∀ (i : Int), dG seq (El.a z) M2 = Option.some i → (0 : Int) ≤ i ∧ i < (↑u : Int)))) (x9 : ((decide (El.k z = (5 : Int))) = false → (∀ (j : Nat), j < u → Fb (dU f j)))) (x10 : ((decide (El.k z = (5 : Int))) = false → (u = u))) (x11 : ((decide (El.k z = (5 : Int))) = false → (∀ (i : Int), dG seq (El.b z) M2 = Option.some i → (0 : Int) ≤ i ∧ i < (↑u : Int)))) (x12 : ((decide (El.k z = (5 : Int))) = false → (∀ (j : Nat), j < u → Fb (dU (Prod.fst (dK fU (El.a z) M2 (rC (.fn (dU f))) (s0, s1))) j)))) : aj Try.prog (ZBP) Try.f16.ntmps B 13 20 (aQ [(0, ZA 2), (3, ZA 9), (4, sL 10 u), (19, sL 11 n), (20, iT n), (21, iT (i : Int)), (5, iT (i : Int)), (6, ZA 12), (7, qZ s0 s1), (9, .bool true)]) (hpL (rlL n q r u E M1 M2 M3 nd br f ++ [(12, Zh z)])) fun e fr' H' => (cond (decide (El.k z = (5 : Int))) (pP .normal [(0, ZA 2), (3, ZA 9), (4, sL 10 u), (5, iT (↑i : Int)), (9, .aP (kS s0 s1)), (19, sL 11 n), (20, iT (↑n : Int)), (21, iT (↑i : Int))] (Fe n q r E M1 M2 M3 nd br ++ [(9, l9), (10, .cells true 1 u (.fn fun j => bif Nat.beq j (0 + Int.toNat ((↑q : Int) + Option.getD (dG seq (El.n z) M3) (0 : Int))) then [qZ s0 s1] else (dU f j))), (11, ZD n E)]) e fr' H') (cond (Prod.snd (dK gI (El.b z) M2 (rC (.fn (dU (Prod.fst (dK fU (El.a z) M2 (rC (.fn (dU f))) (s0, s1)))))) (s0, s1))) (pP .normal [(0, ZA 2), (3, ZA 9), (4, sL 10 u), (5, iT (↑i : Int)), (9, .aP (Prod.snd (dK fU (El.a z) M2 (rC (.fn (dU f))) (s0, s1)))), (19, sL 11 n), (20, iT (↑n : Int)), (21, iT (↑i : Int))] (Fe n q r E M1 M2 M3 nd br ++ [(9, l9), (10, ZCM u z M2 f s0 s1), (11, ZD n E)]) e fr' H') (pP .normal [(0, ZA 2), (3, ZA 9), (4, sL 10 u), (5, iT (↑i : Int)), (9, .bool false), (19, sL 11 n), (20, iT (↑n : Int)), (21, iT (↑i : Int))] (Fe n q r E M1 M2 M3 nd br ++ [(9, l9), (10, ZCM u z M2 f s0 s1), (11, ZD n E)]) e fr' H'))) := cD (fun q0 t0 => zQ [tT] (I7 t0 (show 0 + q ≤ q by omega) (ai (x0 t0) (x1 t0)) (ai (x2 t0) (x3 t0)) (ai (x4 t0) (x5 t0)) (x6 t0) (show 1 ≤ 1 by omega)) hB) (fun q0 t0 => cI (fun t1 => zQ [fF, tT] (I4 t0 (ai (x7 t0) (ai (x8 t0) (x9 t0))) (ai (x10 t0) (ai (x11 t0) (x12 t0))) t1) hB) (fun t1 => zQ [fF, fF] (I4 t0 (ai (x7 t0) (ai (x8 t0) (x9 t0))) (ai (x10 t0) (ai (x11 t0) (x12 t0))) t1) hB))
noncomputable abbrev ZBQ := aT [1,1,1,0,1,0,0,1,1,0,0,1,1,1,1,1] (ak Try.f16)
theorem reH (B : Nat) (hB : B ≤ 20) (n q r i u : Nat) (E : tE) (M1 M2 M3 : tM) (nd br : tX) (f : tP) (t : Bool) : aj Try.prog (ZBQ) Try.f16.ntmps B 20 20 (aQ [(0, ZA 2), (3, ZA 9), (4, sL 10 u), (19, sL 11 n), (20, iT n), (21, iT (i : Int)), (5, iT (i : Int)), (9, .aP t)]) (hpL (rlL n q r u E M1 M2 M3 nd br f)) fun e fr' H' => (cond (t) (pP .normal (ZEx u n i) (Fe n q r E M1 M2 M3 nd br ++ [(9, l9), (10, Zj u f), (11, ZD n E)]) e fr' H') (pP .ret [(0, ZA 2), (2, .aX), (3, ZA 9), (4, sL 10 u), (19, sL 11 n), (20, iT (↑n : Int)), (21, iT (↑i : Int))] (Fe n q r E M1 M2 M3 nd br ++ [(9, ZD2 i 6), (10, Zj u f), (11, ZD n E)]) e fr' H')) := cI (fun t0 => zQ [fF] (I1 (nt t0)) hB) (fun t0 => zQ [tT] (I1 (nf t0)) hB)
noncomputable abbrev ZCb := aT [1,1,1,0,1,0,0,1,1,1] (ak Try.f16)
theorem reI (B : Nat) (hB : B ≤ 20) (n q r i u : Nat) (E : tE) (M1 M2 M3 : tM) (nd br : tX) (f : tP) (x0 : ((↑i : Int) + 1 ≤ (9223372036854775807 : Int))) : aj Try.prog (ZCb) Try.f16.ntmps B 20 20 (ZEw u n i) (hpL (rlL n q r u E M1 M2 M3 nd br f)) (pP .normal [(0, ZA 2), (3, ZA 9), (4, sL 10 u), (19, sL 11 n), (20, iT (↑n : Int)), (21, Ap i)] (Fe n q r E M1 M2 M3 nd br ++ [(9, l9), (10, Zj u f), (11, ZD n E)])) := zQ [] (I1 (ai (show -9223372036854775808 ≤ (↑i : Int) + 1 by omega) x0)) hB
theorem riE (B : Nat) (hB : B ≤ 12) (n q r u : Nat) (E : tE) (M1 M2 M3 : tM) (nd br : tX) (f : tP) : aj Try.prog ((aT [1,1,1,1] (ak Try.f16))) Try.f16.ntmps B 12 12 (aQ [(0, ZA 2), (3, ZA 9), (4, sL 10 u)]) (hpL (Fe n q r E M1 M2 M3 nd br ++ [(9, ZE), (10, Zj u f)])) (pP .ret [(2, sL 10 u), (3, ZA 9)] [(3, .aW true M1), (4, .aW true M2), (5, .aW true M3), (9, ZDq), (10, Zj u f)]) := zQ [] trivial hB
noncomputable def fE (z : El) : Nat × Nat := (Jp z.k z.n z.a z.b z.c z.d z.v z.ph, Jq z.k z.n z.a z.b z.c z.d z.v z.ph)
noncomputable def gW (z : El) : Int := JH z.k z.n z.a z.b z.c z.d z.v z.ph
/-- what an element does to a net's right side; whether all stays finite -/
noncomputable def lX (nodes brs : List Tx) (z : El) (f : tP) : (Nat → Nat × Nat) × Bool :=
 bif decide (gW z = 0) then (bif decide (z.k = 5) then (sN f (nodes.length + ((pos z.n brs).getD 0)) (fE z), kS (fE z).1 (fE z).2)
  else ((dK gI z.b (aB 0 nodes) (dK fU z.a (aB 0 nodes) f (fE z)).1 (fE z)).1, (dK gI z.b (aB 0 nodes) (dK fU z.a (aB 0 nodes) f (fE z)).1 (fE z)).2 && (dK fU z.a (aB 0 nodes) f (fE z)).2))
 else (f, true)
noncomputable def RF (E : tE) (n : Nat) : Nat → Nat → Nat × Nat
 | 0 => fun _ => (0, 0)
 | i + 1 => (lX (ND E n) (BR E n) (E i) (RF E n i)).1
noncomputable def RB (E : tE) (n i : Nat) : Bool := (lX (ND E n) (BR E n) (E i) (RF E n i)).2
def aS (E : tE) (n : Nat) : Nat := (ND E n).length + (BR E n).length
theorem acg {E : tE} : ∀ {n i : Nat}, i < n → iY (E i) = true → (E i).n ∈ BR E n
 | n + 1, i, h, hb => by
  unfold BR
  by_cases c : i < n
  ·have := acg c hb
   cases iY (E n) <;> simp [this]
  ·obtain rfl : i = n := by omega
   rw [hb]; simp
theorem aaw {E : tE} {n i : Nat} (hi : i < n) (hk : (E i).k = 5) : ∃ m, m < (BR E n).length ∧ pos (E i).n (BR E n) = some m ∧ dG seq (E i).n (aB 0 (BR E n)) = some (m : Int) := by
 obtain ⟨m, hm⟩ := MB (acg hi (EU (decide_eq_true hk)))
 exact ⟨m, (tK hm).1, hm, by rw [qY, hm]; simp⟩
theorem CP {nodes : List Tx} {x : Tx} {u : Nat} (hu : nodes.length ≤ u) : ∀ i, dG seq x (aB 0 nodes) = some i → 0 ≤ i ∧ i < (u : Int) := by
 intro i h
 rw [qY] at h
 cases q : pos x nodes with
 | none => rw [q] at h; cases h
 | some m =>
  rw [q] at h
  cases h
  have := (tK q).1
  simp only [Nat.zero_add]
  omega
theorem JO (f : tP) : rC (.fn (dU f)) = f := by funext j; rfl


noncomputable abbrev ZC7 := aT [1,1,1,0,1,0,0] (ak Try.f16)
theorem aax : ZC7 = .seq ZCi (.seq ZCf (.seq (.block 1 (.seq ZBj (.seq ZBe (.seq ZBb (.seq ZBZ (.seq ZBP ZBQ)))))) ZCb)) := by kernel_rfl
theorem aay {E : tE} {n i : Nat} (h : gW (E i) ≠ 0) : RF E n (i + 1) = RF E n i ∧ RB E n i = true := by
 unfold RB
 rw [RF, lX, decide_eq_false h]
 exact ⟨rfl, rfl⟩
noncomputable abbrev ZM (v0 : Nat) (v1 : tE) := (.cells false 7 1 (.fn fun _ => dO 6 7 8 v0 (ND v1 v0).length (BR v1 v0).length) : aF)
noncomputable abbrev ZP (v0 : tE) (v1 : Nat) := (.cells false 1 ((ND v0 v1).length) (.fn (dh (aH (ND v0 v1)))) : aF)
noncomputable abbrev ZQ (v0 : tE) (v1 : Nat) := (.cells false 1 ((BR v0 v1).length) (.fn (dh (aH (BR v0 v1)))) : aF)
noncomputable abbrev Za (v0 : Nat) (v1 : tE) := (.cells false 8 (v0) (.fn fun j => bI (v1 j)) : aF)
noncomputable abbrev Zp (v0 : tE) (v1 v2 : Nat) := (.cells true 1 (aS v0 v1) (.fn (dU (RF v0 v1 v2))) : aF)
noncomputable abbrev Zr (v0 : tE) (v1 v2 : Nat) := (.cells true 1 (aS v0 v1) (.fn (dU (RF v0 v1 (v2 + 1)))) : aF)
noncomputable abbrev Z6 (v0 : tE) (v1 : Nat) (w0) := sL w0 (aS v0 v1)
noncomputable abbrev ZDH (v0 : Nat) (v1 : tE) (v2 : Nat) := ([(2, ZM v0 v1), (3, ZU v1 v0), (4, ZV v1 v0), (5, ZW v1 v0), (6, Za v0 v1), (7, ZP v1 v0), (8, ZQ v1 v0), (9, ZE), (10, Zr v1 v0 v2), (11, ZD v0 v1)] : tH)
noncomputable abbrev ZDK (v0 : Nat) (v1 : tE) (v2 : Nat) := ([(2, ZM v0 v1), (3, ZU v1 v0), (4, ZV v1 v0), (5, ZW v1 v0), (6, Za v0 v1), (7, ZP v1 v0), (8, ZQ v1 v0), (9, ZE), (10, Zp v1 v0 v2), (11, ZD v0 v1), (12, ZBY v1 v2)] : tH)
noncomputable abbrev ZEy (v0 : tE) (v1 v2 : Nat) := ([(0, ZA 2), (3, ZA 9), (4, Z6 v0 v1 10), (19, sL 11 v1), (20, iT v1), (21, iT (v2 : Int)), (5, iT (v2 : Int)), (6, ZA 12), (7, .dD true (fE (v0 v2)).1 (fE (v0 v2)).2), (9, .bool true)] : tF)
theorem aaz (n i : Nat) (E : tE) (hi : i < n) (hn : n ≤ 256) (hp : gW (E i) = 0) :
  aj Try.prog ZBP Try.f16.ntmps 9 13 20 (aQ (ZEy E n i)) (hpL (ZDK n E i)) (Nm [(0, ZA 2), (3, ZA 9), (4, Z6 E n 10), (19, sL 11 n), (20, iT n), (21, iT (i : Int)), (5, iT (i : Int)), (9, .aP (RB E n i))] (ZDH n E i)) := by
 have lq := VR E n hn
 have lr := VT E n hn
 have hu : (ND E n).length ≤ aS E n := by unfold aS; omega
 have hh := reG 9 (by omega) (E i) n (ND E n).length (BR E n).length i (aS E n) (fE (E i)).1 (fE (E i)).2 E (aB 0 (NM E n)) (aB 0 (ND E n)) (aB 0 (BR E n)) (aH (ND E n)) (aH (BR E n)) (RF E n i)
 by_cases h5 : (E i).k = 5
 ·obtain ⟨m, m1, m2, m3⟩ := aaw hi h5
  have e5 : (((ND E n).length : Int) + (dG seq (E i).n (aB 0 (BR E n))).getD 0) = (((ND E n).length + m : Nat) : Int) := by rw [m3]; simp
  have hlt : (ND E n).length + m < aS E n := by unfold aS; omega
  have e1 : RF E n (i + 1) = sN (RF E n i) ((ND E n).length + m) (fE (E i)) ∧ RB E n i = kS (fE (E i)).1 (fE (E i)).2 := by
   unfold RB
   rw [RF, lX, decide_eq_true hp, decide_eq_true h5, m2]
   exact ⟨rfl, rfl⟩
  refine (hh (fun _ => by omega) (fun _ => by omega) (fun _ => by rw [e5]; omega) (fun _ => by rw [e5]; omega) (fun _ => by rw [e5]; omega) (fun _ => by rw [e5]; omega) (fun _ => by rw [e5, Int.toNat_natCast, Nat.zero_add]; exact hlt) (fun h => absurd h5 (of_decide_eq_false h)) (fun h => absurd h5 (of_decide_eq_false h)) (fun h => absurd h5 (of_decide_eq_false h)) (fun h => absurd h5 (of_decide_eq_false h)) (fun h => absurd h5 (of_decide_eq_false h)) (fun h => absurd h5 (of_decide_eq_false h))).post fun e fr' H' h => ?_
  rw [decide_eq_true h5, cond_true] at h
  obtain ⟨rfl, rfl, rfl⟩ := h
  refine ⟨[(0, ZA 2), (3, ZA 9), (4, Z6 E n 10), (19, sL 11 n), (20, iT n), (21, iT (i : Int)), (5, iT (i : Int)), (9, .aP (RB E n i))], (ZDH n E i), ⟨re rfl, re rfl, re rfl, re rfl, re rfl, re rfl, re rfl, ⟨_, rfl, AV.ge.ou e1.2.symm⟩, trivial⟩, ⟨hs rfl, hs rfl, hs rfl, hs rfl, hs rfl, hs rfl, hs rfl, hs rfl, gR rfl rfl (fun j hj => ?_), hs rfl, trivial⟩, rfl, rfl, rfl⟩
  rw [e1.1, e5, Int.toNat_natCast, Nat.zero_add]
  exact qG (RF E n i) _ j (fE (E i))
 ·have c1 : ∀ (f : tP) (j : Nat), j < aS E n → Fb (dU f j) := fun f j _ => ⟨AV.ge.refl _, rfl, trivial⟩
  have e1 : RF E n (i + 1) = (dK gI (E i).b (aB 0 (ND E n)) (dK fU (E i).a (aB 0 (ND E n)) (RF E n i) (fE (E i))).1 (fE (E i))).1 ∧ RB E n i = ((dK gI (E i).b (aB 0 (ND E n)) (dK fU (E i).a (aB 0 (ND E n)) (RF E n i) (fE (E i))).1 (fE (E i))).2 && (dK fU (E i).a (aB 0 (ND E n)) (RF E n i) (fE (E i))).2) := by
   unfold RB
   rw [RF, lX, decide_eq_true hp, decide_eq_false h5]
   exact ⟨rfl, rfl⟩
  refine (hh (fun h => absurd (of_decide_eq_true h) h5) (fun h => absurd (of_decide_eq_true h) h5) (fun h => absurd (of_decide_eq_true h) h5) (fun h => absurd (of_decide_eq_true h) h5) (fun h => absurd (of_decide_eq_true h) h5) (fun h => absurd (of_decide_eq_true h) h5) (fun h => absurd (of_decide_eq_true h) h5) (fun _ => rfl) (fun _ => CP hu) (fun _ => c1 _) (fun _ => rfl) (fun _ => CP hu) (fun _ => c1 _)).post fun e fr' H' h => ?_
  rw [decide_eq_false h5, cond_false] at h
  simp only [JO] at h
  refine bD h (fun t h => ?_) (fun t h => ?_)
  ·obtain ⟨rfl, rfl, rfl⟩ := h
   refine ⟨[(0, ZA 2), (3, ZA 9), (4, Z6 E n 10), (19, sL 11 n), (20, iT n), (21, iT (i : Int)), (5, iT (i : Int)), (9, .aP (RB E n i))], (ZDH n E i), ⟨re rfl, re rfl, re rfl, re rfl, re rfl, re rfl, re rfl, ⟨_, rfl, AV.ge.ou ?_⟩, trivial⟩, ⟨hs rfl, hs rfl, hs rfl, hs rfl, hs rfl, hs rfl, hs rfl, hs rfl, gR rfl rfl (fun j hj => ?_), hs rfl, trivial⟩, rfl, rfl, rfl⟩
   ·rw [e1.2]
    show _ = ((dK gI (E i).b (aB 0 (ND E n)) (dK fU (E i).a (aB 0 (ND E n)) (RF E n i) ((fE (E i)).1, (fE (E i)).2)).1 ((fE (E i)).1, (fE (E i)).2)).2 && _)
    rw [t, Bool.true_and]
   ·rw [e1.1]; rfl
  ·obtain ⟨rfl, rfl, rfl⟩ := h
   refine ⟨[(0, ZA 2), (3, ZA 9), (4, Z6 E n 10), (19, sL 11 n), (20, iT n), (21, iT (i : Int)), (5, iT (i : Int)), (9, .aP (RB E n i))], (ZDH n E i), ⟨re rfl, re rfl, re rfl, re rfl, re rfl, re rfl, re rfl, ⟨_, rfl, AV.ge.bool' ?_⟩, trivial⟩, ⟨hs rfl, hs rfl, hs rfl, hs rfl, hs rfl, hs rfl, hs rfl, hs rfl, gR rfl rfl (fun j hj => ?_), hs rfl, trivial⟩, rfl, rfl, rfl⟩
   ·rw [e1.2]
    show _ = ((dK gI (E i).b (aB 0 (ND E n)) (dK fU (E i).a (aB 0 (ND E n)) (RF E n i) ((fE (E i)).1, (fE (E i)).2)).1 ((fE (E i)).1, (fE (E i)).2)).2 && _)
    rw [t, Bool.false_and]
   ·rw [e1.1]; rfl
/-- an element's round up to the test of what it sends over -/
noncomputable abbrev ZCt (v0 : tE) (v1 : Nat) := iT (gW (v0 v1))
noncomputable abbrev ZDI (v0 : Nat) (v1 : tE) (v2 : Nat) := ([(2, ZM v0 v1), (3, ZU v1 v0), (4, ZV v1 v0), (5, ZW v1 v0), (6, Za v0 v1), (7, ZP v1 v0), (8, ZQ v1 v0), (9, ZE), (10, Zp v1 v0 v2), (11, ZD v0 v1)] : tH)
noncomputable abbrev ZDP (v0 : tE) (v1 v2 : Nat) := ([(0, ZA 2), (3, ZA 9), (4, Z6 v0 v1 10), (19, sL 11 v1), (20, iT v1), (21, iT (v2 : Int))] : tF)
noncomputable abbrev ZE1 (v0 : tE) (v1 v2 : Nat) := ([(0, ZA 2), (3, ZA 9), (4, Z6 v0 v1 10), (19, sL 11 v1), (20, iT v1), (21, iT (v2 : Int)), (5, iT (v2 : Int)), (6, ZA 12), (7, .dD true (fE (v0 v2)).1 (fE (v0 v2)).2), (8, ZCt v0 v2)] : tF)
noncomputable abbrev ZE9 (v0 : tE) (v1 v2 : Nat) := ([(0, ZA 2), (3, ZA 9), (4, Z6 v0 v1 10), (19, sL 11 v1), (20, iT v1), (21, iT (v2 : Int)), (5, iT (v2 : Int)), (6, ZA 12), (7, .dD true (fE (v0 v2)).1 (fE (v0 v2)).2)] : tF)
theorem Wy (n i : Nat) (E : tE) (hi : i < n) (hn : n ≤ 256) {K' : Nat} (hK : 20 ≤ K') {Post : Po} (hp : gW (E i) = 0)
  (k : aj Try.prog ZBQ Try.f16.ntmps 9 20 K' (aQ [(0, ZA 2), (3, ZA 9), (4, Z6 E n 10), (19, sL 11 n), (20, iT n), (21, iT (i : Int)), (5, iT (i : Int)), (9, .aP (RB E n i))]) (hpL (ZDH n E i)) Post) :
  aj Try.prog (.seq ZBj (.seq ZBe (.seq ZBb (.seq ZBZ (.seq ZBP ZBQ))))) Try.f16.ntmps 9 12 K' (aQ (ZDP E n i)) (hpL (ZDI n E i)) Post := by
 refine aj.aV (K1 := 13) (F1 := [(0, ZA 2), (3, ZA 9), (4, Z6 E n 10), (19, sL 11 n), (20, iT n), (21, iT (i : Int)), (5, iT (i : Int)), (6, ZA 12)]) (H1 := (ZDK n E i)) (aj.toN (reC 9 (by omega) n (ND E n).length (BR E n).length i (aS E n) E (aB 0 (NM E n)) (aB 0 (ND E n)) (aB 0 (BR E n)) (aH (ND E n)) (aH (BR E n)) (RF E n i) (by omega) (by omega)) (dJ rfl) ⟨hs rfl, hs rfl, hs rfl, hs rfl, hs rfl, hs rfl, hs rfl, hs rfl, hs rfl, hs rfl, jI rfl (by show bI (E (0 + i)) = bI (E i); rw [Nat.zero_add]), trivial⟩) (by omega) ?_
 refine aj.aV (K1 := 13) (F1 := (ZE1 E n i)) (H1 := (ZDK n E i)) (aj.toN (reD 9 (by omega) (E i) n (ND E n).length (BR E n).length i (aS E n) E (aB 0 (NM E n)) (aB 0 (ND E n)) (aB 0 (BR E n)) (aH (ND E n)) (aH (BR E n)) (RF E n i)) (dJ rfl) (fG rfl)) (by omega) ?_
 refine aj.aV (K1 := 13) (F1 := (ZE9 E n i)) (H1 := (ZDK n E i)) (aj.toN (F := (ZE9 E n i)) (H1 := (ZDK n E i)) ((reE 9 (by omega) (E i) n (ND E n).length (BR E n).length i (aS E n) (fE (E i)).1 (fE (E i)).2 E (aB 0 (NM E n)) (aB 0 (ND E n)) (aB 0 (BR E n)) (aH (ND E n)) (aH (BR E n)) (RF E n i) (gW (E i))).mono fun e fr' H' h => by
  rw [decide_eq_true hp, cond_true] at h
  exact h) (dJ rfl) (fG rfl)) (by omega) ?_
 refine aj.aV (K1 := 13) (F1 := (ZEy E n i)) (H1 := (ZDK n E i)) (aj.toN (reF 9 (by omega) (E i) n (ND E n).length (BR E n).length i (aS E n) (fE (E i)).1 (fE (E i)).2 E (aB 0 (NM E n)) (aB 0 (ND E n)) (aB 0 (BR E n)) (aH (ND E n)) (aH (BR E n)) (RF E n i)) (dJ rfl) (fG rfl)) (by omega) ?_
 exact aj.aV (K1 := 20) (aaz n i E hi hn hp) hK k


theorem cz1 {b : Bool} {x y : Int} (hx : x ≠ 1) (hy : y ≠ 1) : (bif b then x else y) ≠ 1 := by cases b <;> assumption
theorem aaA (k : Int) (n a b c d : List UInt8) (v : Nat) (ph : Int) : gJ k n a b c d v ph ≠ 1 := by
 unfold gJ
 repeat' (first | decide | apply cz1)
theorem aaB (E : tE) (i : Nat) : eU bU E i ≠ 1 := by
 unfold eU
 refine cz1 (cz1 (by decide) (by decide)) (aaA _ _ _ _ _ _ _ _)
theorem Ri (E : tE) (n : Nat) : ∀ m, (O1 bU E n m).1 ≠ 1
 | 0 => by
  unfold O1
  cases decide (32 < (ND E n).length) || decide (64 < (ND E n).length + (BR E n).length) <;> decide
 | m + 1 => by
  unfold O1
  cases decide (eU bU E (n - (m + 1)) = 0)
  ·exact aaB _ _
  ·exact Ri E n m
theorem aaC (E : tE) (n : Nat) : (ofR bU E n).1 ≠ 1 := by
 unfold ofR
 cases decide (256 < n)
 ·exact Ri _ _ _
 ·show (3 : Int) ≠ 1
  decide
theorem MS {E : tE} {n : Nat} : ∀ m, m ≤ n → (O1 bU E n m).1 = 0 → ∀ j, n - m ≤ j → j < n → eU bU E j = 0
 | 0, _, _, j, h1, h2 => by omega
 | m + 1, hm, h, j, h1, h2 => by
  unfold O1 at h
  by_cases c : eU bU E (n - (m + 1)) = 0
  ·rw [decide_eq_true c, cond_true] at h
   by_cases q : j = n - (m + 1)
   ·rw [q]; exact c
   ·exact MS m (by omega) h j (by omega) h2
  ·rw [decide_eq_false c, cond_false] at h
   exact absurd h c
theorem WA {E : tE} {n : Nat} (h : (ofR bU E n).1 = 0) : n ≤ 256 ∧ ∀ j, j < n → eU bU E j = 0 := by
 unfold ofR at h
 by_cases c : 256 < n
 ·rw [decide_eq_true c] at h; exact absurd (show (3 : Int) = 0 from h) (by decide)
 ·rw [decide_eq_false c, cond_false] at h
  exact ⟨by omega, fun j hj => MS n (Nat.le_refl _) h j (by omega) hj⟩
theorem WB (E : tE) (n : Nat) : bW (Rh E n) n = ⟨0, [], [], [], [], [], 0, 0⟩ := by
 unfold bW Rh
 rw [decide_eq_false (by omega), cond_false]; rfl
theorem Rj (E : tE) (n : Nat) : (uF (bW (Rh E n)) (n + 1)).1 ≠ 0 ∧ (uF (bW (Rh E n)) (n + 1)).1 ≠ 1 := by
 rw [Js]
 refine ⟨fun h => ?_, aaC _ _⟩
 have := (WA h).2 n (by omega)
 have c : bU (bW (Rh E n) n) ≠ 0 := by rw [WB]; decide +kernel
 rw [JD c] at this
 exact c this
theorem TF (s s' : Bool) : AV.ge (.flt s 0) (.raw s' 0) := fun N μ c h => by
 simp only [Rep] at h ⊢
 obtain ⟨x, rfl, h2, h3⟩ := h
 cases q : isnan x with
 | true => unfold cn at h2; rw [q] at h2; exact absurd (show qn = 0 from h2) (by decide)
 | false =>
  rw [iC q] at h2
  subst h2
  exact ⟨rfl, h3⟩
theorem Rk (E : tE) (n : Nat) : PEQ (n + 1) (Rh E n) := by
 refine ⟨⟨fun j hj => ?_⟩, fun j hj u hu => ?_⟩
 ·unfold bW Rh
  by_cases c : 0 + j < n
  ·rw [decide_eq_true c, cond_true]; exact ay _ rfl
  ·rw [decide_eq_false c, cond_false]
   exact ⟨AV.ge.int _ _ _ _, rfl, AV.ge.str' _ _ rfl, rfl, AV.ge.str' _ _ rfl, rfl, AV.ge.str' _ _ rfl, rfl, AV.ge.str' _ _ rfl, rfl, AV.ge.str' _ _ rfl, rfl, TF _ _, rfl, AV.ge.int _ _ _ _, rfl, trivial⟩
 ·unfold Rh at hu
  by_cases c : 0 + j < n
  ·rw [decide_eq_true c, cond_true] at hu; exact List.all_eq_true.1 (jY 0 _) u hu
  ·rw [decide_eq_false c, cond_false] at hu; exact List.all_eq_true.1 (show SQ.all (fun v => v.low 0) = true from rfl) u hu
theorem MV {S : Nat → Prop} {E : tE} {n i o : Nat} {v : AV} (h : (aas E n i)[o]? = some v) : v.ji S := by
 unfold aas at h
 by_cases c : i < n
 ·rw [decide_eq_true c] at h
  exact wI h
 ·rw [decide_eq_false c, cond_false] at h
  unfold SQ at h
  match o, h with
  | 0, h => cases h; trivial
  | 1, h => cases h; trivial
  | 2, h => cases h; trivial
  | 3, h => cases h; trivial
  | 4, h => cases h; trivial
  | 5, h => cases h; trivial
  | 6, h => cases h; trivial
  | 7, h => cases h; trivial
noncomputable def QRP (E : tE) (n : Nat) : Po := fun e fr' H' => e = .ret ∧ ((∃ k, k < n ∧ (∀ j, j < k → RB E n j = true) ∧ RB E n k = false ∧ fr' = aQ [(2, .aX), (3, .ptr ⟨false, 9, 0, 0⟩)] ∧ H' = hpL [(3, .aW true (aB 0 (NM E n))), (4, .aW true (aB 0 (ND E n))), (5, .aW true (aB 0 (BR E n))), (9, .cells true 2 1 (.fn fun _ => [.int false .i64 6, iT (k : Int)]))]) ∨ ((∀ j, j < n → RB E n j = true) ∧ fr' = aQ [(2, sL 10 (aS E n)), (3, .ptr ⟨false, 9, 0, 0⟩)] ∧ H' = hpL [(3, .aW true (aB 0 (NM E n))), (4, .aW true (aB 0 (ND E n))), (5, .aW true (aB 0 (BR E n))), (9, .cells true 2 1 (.fn fun _ => [.int false .i64 (0), .int false .i64 (0)])), (10, .cells true 1 (aS E n) (.fn (dU (RF E n n))))]))
noncomputable abbrev Zy (v0 : tE) (v1 : Nat) := (.cells true 1 (aS v0 v1) (.fn (dU (RF v0 v1 v1))) : aF)
noncomputable abbrev ZD7 (v0 : Nat) (v1 : tE) := ([(2, ZM v0 v1), (3, ZU v1 v0), (4, ZV v1 v0), (5, ZW v1 v0), (6, Za v0 v1), (7, ZP v1 v0), (8, ZQ v1 v0), (9, ZE), (10, Zy v1 v0)] : tH)
noncomputable abbrev ZEL (v0 : tE) (v1 v2 : Nat) := ([(3, ZU v0 v1), (4, ZV v0 v1), (5, ZW v0 v1), (9, .cells true 2 1 (.fn fun _ => [ZC 6, iT (v2 : Int)]))] : tH)
noncomputable abbrev ZEu (v0 : tE) (v1 v2 : Nat) := ([(0, ZA 2), (3, ZA 9), (4, Z6 v0 v1 10), (19, sL 11 v1), (20, iT v1), (21, iT ((v2 + 1 : Nat) : Int))] : tF)
noncomputable abbrev ZFI (v0 : tE) (v1 : Nat) (w0 w1 w2) := ([(0, ZA w0), (3, ZA w1), (4, Z6 v0 v1 w2)] : tF)
theorem aaD (n i : Nat) (E : tE) (hi : i ≤ n) (hn : n ≤ 256) (hg : ∀ j, j < i → RB E n j = true) :
  aj Try.prog ZC7 Try.f16.ntmps 9 12 12 (aQ [(0, .ptr ⟨false, 2, 0, 0⟩), (3, .ptr ⟨false, 9, 0, 0⟩), (4, sL 10 (aS E n)), (19, sL 11 n), (20, iT n), (21, iT (i : Int))]) (hpL [(2, .cells false 7 1 (.fn fun _ => dO 6 7 8 n (ND E n).length (BR E n).length)), (3, .aW true (aB 0 (NM E n))), (4, .aW true (aB 0 (ND E n))), (5, .aW true (aB 0 (BR E n))), (6, .cells false 8 (n) (.fn fun j => bI (E j))), (7, .cells false 1 ((ND E n).length) (.fn (dh (aH (ND E n))))), (8, .cells false 1 ((BR E n).length) (.fn (dh (aH (BR E n))))), (9, .cells true 2 1 (.fn fun _ => [.int false .i64 (0), .int false .i64 (0)])), (10, .cells true 1 (aS E n) (.fn (dU (RF E n i)))), (11, .cells true 8 n (.fn fun j => bI (E j)))]) (fun e fr H => (e = .normal ∧ i < n ∧ (∀ j, j < i + 1 → RB E n j = true) ∧ fr = aQ [(0, .ptr ⟨false, 2, 0, 0⟩), (3, .ptr ⟨false, 9, 0, 0⟩), (4, sL 10 (aS E n)), (19, sL 11 n), (20, iT n), (21, iT ((i + 1 : Nat) : Int))] ∧ H = hpL [(2, .cells false 7 1 (.fn fun _ => dO 6 7 8 n (ND E n).length (BR E n).length)), (3, .aW true (aB 0 (NM E n))), (4, .aW true (aB 0 (ND E n))), (5, .aW true (aB 0 (BR E n))), (6, .cells false 8 (n) (.fn fun j => bI (E j))), (7, .cells false 1 ((ND E n).length) (.fn (dh (aH (ND E n))))), (8, .cells false 1 ((BR E n).length) (.fn (dh (aH (BR E n))))), (9, .cells true 2 1 (.fn fun _ => [.int false .i64 (0), .int false .i64 (0)])), (10, .cells true 1 (aS E n) (.fn (dU (RF E n (i + 1))))), (11, .cells true 8 n (.fn fun j => bI (E j)))]) ∨ (e = .exit 0 ∧ (∀ j, j < n → RB E n j = true) ∧ fr = aQ [(0, .ptr ⟨false, 2, 0, 0⟩), (3, .ptr ⟨false, 9, 0, 0⟩), (4, sL 10 (aS E n))] ∧ H = hpL [(2, .cells false 7 1 (.fn fun _ => dO 6 7 8 n (ND E n).length (BR E n).length)), (3, .aW true (aB 0 (NM E n))), (4, .aW true (aB 0 (ND E n))), (5, .aW true (aB 0 (BR E n))), (6, .cells false 8 (n) (.fn fun j => bI (E j))), (7, .cells false 1 ((ND E n).length) (.fn (dh (aH (ND E n))))), (8, .cells false 1 ((BR E n).length) (.fn (dh (aH (BR E n))))), (9, .cells true 2 1 (.fn fun _ => [.int false .i64 (0), .int false .i64 (0)])), (10, .cells true 1 (aS E n) (.fn (dU (RF E n n))))]) ∨ (e = .ret ∧ QRP E n .ret fr H)) := by
 rw [aax]
 by_cases hlt : i < n
 ·have go : RB E n i = true → aj Try.prog (.block 1 (.seq ZBj (.seq ZBe (.seq ZBb (.seq ZBZ (.seq ZBP ZBQ)))))) Try.f16.ntmps 9 12 20 (aQ [(0, .ptr ⟨false, 2, 0, 0⟩), (3, .ptr ⟨false, 9, 0, 0⟩), (4, sL 10 (aS E n)), (19, sL 11 n), (20, iT n), (21, iT (i : Int))]) (hpL [(2, .cells false 7 1 (.fn fun _ => dO 6 7 8 n (ND E n).length (BR E n).length)), (3, .aW true (aB 0 (NM E n))), (4, .aW true (aB 0 (ND E n))), (5, .aW true (aB 0 (BR E n))), (6, .cells false 8 (n) (.fn fun j => bI (E j))), (7, .cells false 1 ((ND E n).length) (.fn (dh (aH (ND E n))))), (8, .cells false 1 ((BR E n).length) (.fn (dh (aH (BR E n))))), (9, .cells true 2 1 (.fn fun _ => [.int false .i64 (0), .int false .i64 (0)])), (10, .cells true 1 (aS E n) (.fn (dU (RF E n i)))), (11, .cells true 8 n (.fn fun j => bI (E j)))]) (Nm [(0, .ptr ⟨false, 2, 0, 0⟩), (3, .ptr ⟨false, 9, 0, 0⟩), (4, sL 10 (aS E n)), (19, sL 11 n), (20, iT n), (21, iT (i : Int))] [(2, .cells false 7 1 (.fn fun _ => dO 6 7 8 n (ND E n).length (BR E n).length)), (3, .aW true (aB 0 (NM E n))), (4, .aW true (aB 0 (ND E n))), (5, .aW true (aB 0 (BR E n))), (6, .cells false 8 (n) (.fn fun j => bI (E j))), (7, .cells false 1 ((ND E n).length) (.fn (dh (aH (ND E n))))), (8, .cells false 1 ((BR E n).length) (.fn (dh (aH (BR E n))))), (9, .cells true 2 1 (.fn fun _ => [.int false .i64 (0), .int false .i64 (0)])), (10, .cells true 1 (aS E n) (.fn (dU (RF E n (i + 1))))), (11, .cells true 8 n (.fn fun j => bI (E j)))]) → aj Try.prog (.seq ZCi (.seq ZCf (.seq (.block 1 (.seq ZBj (.seq ZBe (.seq ZBb (.seq ZBZ (.seq ZBP ZBQ)))))) ZCb))) Try.f16.ntmps 9 12 12 (aQ [(0, .ptr ⟨false, 2, 0, 0⟩), (3, .ptr ⟨false, 9, 0, 0⟩), (4, sL 10 (aS E n)), (19, sL 11 n), (20, iT n), (21, iT (i : Int))]) (hpL [(2, .cells false 7 1 (.fn fun _ => dO 6 7 8 n (ND E n).length (BR E n).length)), (3, .aW true (aB 0 (NM E n))), (4, .aW true (aB 0 (ND E n))), (5, .aW true (aB 0 (BR E n))), (6, .cells false 8 (n) (.fn fun j => bI (E j))), (7, .cells false 1 ((ND E n).length) (.fn (dh (aH (ND E n))))), (8, .cells false 1 ((BR E n).length) (.fn (dh (aH (BR E n))))), (9, .cells true 2 1 (.fn fun _ => [.int false .i64 (0), .int false .i64 (0)])), (10, .cells true 1 (aS E n) (.fn (dU (RF E n i)))), (11, .cells true 8 n (.fn fun j => bI (E j)))]) (fun e fr H => (e = .normal ∧ i < n ∧ (∀ j, j < i + 1 → RB E n j = true) ∧ fr = aQ [(0, .ptr ⟨false, 2, 0, 0⟩), (3, .ptr ⟨false, 9, 0, 0⟩), (4, sL 10 (aS E n)), (19, sL 11 n), (20, iT n), (21, iT ((i + 1 : Nat) : Int))] ∧ H = hpL [(2, .cells false 7 1 (.fn fun _ => dO 6 7 8 n (ND E n).length (BR E n).length)), (3, .aW true (aB 0 (NM E n))), (4, .aW true (aB 0 (ND E n))), (5, .aW true (aB 0 (BR E n))), (6, .cells false 8 (n) (.fn fun j => bI (E j))), (7, .cells false 1 ((ND E n).length) (.fn (dh (aH (ND E n))))), (8, .cells false 1 ((BR E n).length) (.fn (dh (aH (BR E n))))), (9, .cells true 2 1 (.fn fun _ => [.int false .i64 (0), .int false .i64 (0)])), (10, .cells true 1 (aS E n) (.fn (dU (RF E n (i + 1))))), (11, .cells true 8 n (.fn fun j => bI (E j)))]) ∨ (e = .exit 0 ∧ (∀ j, j < n → RB E n j = true) ∧ fr = aQ [(0, .ptr ⟨false, 2, 0, 0⟩), (3, .ptr ⟨false, 9, 0, 0⟩), (4, sL 10 (aS E n))] ∧ H = hpL [(2, .cells false 7 1 (.fn fun _ => dO 6 7 8 n (ND E n).length (BR E n).length)), (3, .aW true (aB 0 (NM E n))), (4, .aW true (aB 0 (ND E n))), (5, .aW true (aB 0 (BR E n))), (6, .cells false 8 (n) (.fn fun j => bI (E j))), (7, .cells false 1 ((ND E n).length) (.fn (dh (aH (ND E n))))), (8, .cells false 1 ((BR E n).length) (.fn (dh (aH (BR E n))))), (9, .cells true 2 1 (.fn fun _ => [.int false .i64 (0), .int false .i64 (0)])), (10, .cells true 1 (aS E n) (.fn (dU (RF E n n))))]) ∨ (e = .ret ∧ QRP E n .ret fr H)) := fun hb h => by
   have main : aj Try.prog (.seq ZCi (.seq ZCf (.seq (.block 1 (.seq ZBj (.seq ZBe (.seq ZBb (.seq ZBZ (.seq ZBP ZBQ)))))) ZCb))) Try.f16.ntmps 9 12 20 (aQ [(0, .ptr ⟨false, 2, 0, 0⟩), (3, .ptr ⟨false, 9, 0, 0⟩), (4, sL 10 (aS E n)), (19, sL 11 n), (20, iT n), (21, iT (i : Int))]) (hpL [(2, .cells false 7 1 (.fn fun _ => dO 6 7 8 n (ND E n).length (BR E n).length)), (3, .aW true (aB 0 (NM E n))), (4, .aW true (aB 0 (ND E n))), (5, .aW true (aB 0 (BR E n))), (6, .cells false 8 (n) (.fn fun j => bI (E j))), (7, .cells false 1 ((ND E n).length) (.fn (dh (aH (ND E n))))), (8, .cells false 1 ((BR E n).length) (.fn (dh (aH (BR E n))))), (9, .cells true 2 1 (.fn fun _ => [.int false .i64 (0), .int false .i64 (0)])), (10, .cells true 1 (aS E n) (.fn (dU (RF E n i)))), (11, .cells true 8 n (.fn fun j => bI (E j)))]) (Nm [(0, .ptr ⟨false, 2, 0, 0⟩), (3, .ptr ⟨false, 9, 0, 0⟩), (4, sL 10 (aS E n)), (19, sL 11 n), (20, iT n), (21, iT ((i : Int) + 1 : Int))] [(2, .cells false 7 1 (.fn fun _ => dO 6 7 8 n (ND E n).length (BR E n).length)), (3, .aW true (aB 0 (NM E n))), (4, .aW true (aB 0 (ND E n))), (5, .aW true (aB 0 (BR E n))), (6, .cells false 8 (n) (.fn fun j => bI (E j))), (7, .cells false 1 ((ND E n).length) (.fn (dh (aH (ND E n))))), (8, .cells false 1 ((BR E n).length) (.fn (dh (aH (BR E n))))), (9, .cells true 2 1 (.fn fun _ => [.int false .i64 (0), .int false .i64 (0)])), (10, .cells true 1 (aS E n) (.fn (dU (RF E n (i + 1))))), (11, .cells true 8 n (.fn fun j => bI (E j)))]) := by
    refine aj.aV (K1 := 12) (reA 9 (by omega) n (ND E n).length (BR E n).length i (aS E n) E (aB 0 (NM E n)) (aB 0 (ND E n)) (aB 0 (BR E n)) (aH (ND E n)) (aH (BR E n)) (RF E n i)) (by omega) ?_
    refine aj.aV (K1 := 12) (F1 := [(0, .ptr ⟨false, 2, 0, 0⟩), (3, .ptr ⟨false, 9, 0, 0⟩), (4, sL 10 (aS E n)), (19, sL 11 n), (20, iT n), (21, iT (i : Int))]) (H1 := [(2, .cells false 7 1 (.fn fun _ => dO 6 7 8 n (ND E n).length (BR E n).length)), (3, .aW true (aB 0 (NM E n))), (4, .aW true (aB 0 (ND E n))), (5, .aW true (aB 0 (BR E n))), (6, .cells false 8 (n) (.fn fun j => bI (E j))), (7, .cells false 1 ((ND E n).length) (.fn (dh (aH (ND E n))))), (8, .cells false 1 ((BR E n).length) (.fn (dh (aH (BR E n))))), (9, .cells true 2 1 (.fn fun _ => [.int false .i64 (0), .int false .i64 (0)])), (10, .cells true 1 (aS E n) (.fn (dU (RF E n i)))), (11, .cells true 8 n (.fn fun j => bI (E j)))]) ((reB 9 (by omega) n (ND E n).length (BR E n).length i (aS E n) E (aB 0 (NM E n)) (aB 0 (ND E n)) (aB 0 (BR E n)) (aH (ND E n)) (aH (BR E n)) (RF E n i) (decide ((i : Int) < (n : Int)))).mono fun e fr' H' h => ?_) (by omega) ?_
    ·rw [decide_eq_true (by omega), cond_true] at h
     exact h
    exact aj.aV (K1 := 20) h (by omega) (reI 9 (by omega) n (ND E n).length (BR E n).length i (aS E n) E (aB 0 (NM E n)) (aB 0 (ND E n)) (aB 0 (BR E n)) (aH (ND E n)) (aH (BR E n)) (RF E n (i + 1)) (by omega))
   refine main.renG fun e fr' H' h => ?_
   obtain ⟨rfl, rfl, rfl⟩ := h
   exact ⟨id, [(0, .ptr ⟨false, 2, 0, 0⟩), (3, .ptr ⟨false, 9, 0, 0⟩), (4, sL 10 (aS E n)), (19, sL 11 n), (20, iT n), (21, iT ((i + 1 : Nat) : Int))], [(2, .cells false 7 1 (.fn fun _ => dO 6 7 8 n (ND E n).length (BR E n).length)), (3, .aW true (aB 0 (NM E n))), (4, .aW true (aB 0 (ND E n))), (5, .aW true (aB 0 (BR E n))), (6, .cells false 8 (n) (.fn fun j => bI (E j))), (7, .cells false 1 ((ND E n).length) (.fn (dh (aH (ND E n))))), (8, .cells false 1 ((BR E n).length) (.fn (dh (aH (BR E n))))), (9, .cells true 2 1 (.fn fun _ => [.int false .i64 (0), .int false .i64 (0)])), (10, .cells true 1 (aS E n) (.fn (dU (RF E n (i + 1))))), (11, .cells true 8 n (.fn fun j => bI (E j)))], fun g hg => rfl, (vk rfl), ⟨jk rfl rfl rfl (by omega), lG rfl rfl (by omega), lG rfl rfl (by omega), lG rfl rfl (by omega), fD rfl rfl (fun j _ => rfl) (fun j _ => rfl) (by omega), fD rfl rfl (fun j _ => rfl) (fun j _ => rfl) (by omega), fD rfl rfl (fun j _ => rfl) (fun j _ => rfl) (by omega), jk rfl rfl rfl (by omega), fD rfl rfl (fun j _ => rfl) (fun j _ => rfl) (by omega), fD rfl rfl (fun j _ => rfl) (fun j _ => rfl) (by omega), trivial⟩, fun i j _ _ h => h, .inl ⟨rfl, hlt, fun j hj => by
    by_cases c : j < i
    ·exact hg j c
    ·obtain rfl : j = i := by omega
     exact hb, rfl, rfl⟩⟩
  by_cases hp : gW (E i) = 0
  ·by_cases hb : RB E n i = true
   ·refine go hb (aj.jQ (Wy n i E hlt hn (by omega) hp ((reH 9 (by omega) n (ND E n).length (BR E n).length i (aS E n) E (aB 0 (NM E n)) (aB 0 (ND E n)) (aB 0 (BR E n)) (aH (ND E n)) (aH (BR E n)) (RF E n (i + 1)) (RB E n i)).mono fun e fr' H' h => ?_)))
    rw [hb, cond_true] at h
    exact h
   ·have hb : RB E n i = false := Bool.eq_false_iff.2 hb
    have inn : aj Try.prog (.block 1 (.seq ZBj (.seq ZBe (.seq ZBb (.seq ZBZ (.seq ZBP ZBQ)))))) Try.f16.ntmps 9 12 20 (aQ [(0, .ptr ⟨false, 2, 0, 0⟩), (3, .ptr ⟨false, 9, 0, 0⟩), (4, sL 10 (aS E n)), (19, sL 11 n), (20, iT n), (21, iT (i : Int))]) (hpL [(2, .cells false 7 1 (.fn fun _ => dO 6 7 8 n (ND E n).length (BR E n).length)), (3, .aW true (aB 0 (NM E n))), (4, .aW true (aB 0 (ND E n))), (5, .aW true (aB 0 (BR E n))), (6, .cells false 8 (n) (.fn fun j => bI (E j))), (7, .cells false 1 ((ND E n).length) (.fn (dh (aH (ND E n))))), (8, .cells false 1 ((BR E n).length) (.fn (dh (aH (BR E n))))), (9, .cells true 2 1 (.fn fun _ => [.int false .i64 (0), .int false .i64 (0)])), (10, .cells true 1 (aS E n) (.fn (dU (RF E n i)))), (11, .cells true 8 n (.fn fun j => bI (E j)))]) (fun e fr' H' => e = .ret ∧ fr' = aQ [(2, .aX), (3, .ptr ⟨false, 9, 0, 0⟩)] ∧ H' = hpL [(3, .aW true (aB 0 (NM E n))), (4, .aW true (aB 0 (ND E n))), (5, .aW true (aB 0 (BR E n))), (9, .cells true 2 1 (.fn fun _ => [.int false .i64 6, iT (i : Int)]))]) := VN (Wy n i E hlt hn (by omega) hp ((reH 9 (by omega) n (ND E n).length (BR E n).length i (aS E n) E (aB 0 (NM E n)) (aB 0 (ND E n)) (aB 0 (BR E n)) (aH (ND E n)) (aH (BR E n)) (RF E n (i + 1)) (RB E n i)).post fun e fr' H' h => by
     rw [hb, cond_false] at h
     obtain ⟨rfl, rfl, rfl⟩ := h
     exact ⟨[(2, .aX), (3, .ptr ⟨false, 9, 0, 0⟩)], [(3, .aW true (aB 0 (NM E n))), (4, .aW true (aB 0 (ND E n))), (5, .aW true (aB 0 (BR E n))), (9, .cells true 2 1 (.fn fun _ => [.int false .i64 6, iT (i : Int)]))], (dJ rfl), ⟨hs rfl, hs rfl, hs rfl, ⟨_, rfl, rfl, rfl, rfl, zO (p := fun j => _ = _) rfl⟩, trivial⟩, rfl, rfl, rfl⟩))
    have main : aj Try.prog (.seq ZCi (.seq ZCf (.seq (.block 1 (.seq ZBj (.seq ZBe (.seq ZBb (.seq ZBZ (.seq ZBP ZBQ)))))) ZCb))) Try.f16.ntmps 9 12 20 (aQ [(0, .ptr ⟨false, 2, 0, 0⟩), (3, .ptr ⟨false, 9, 0, 0⟩), (4, sL 10 (aS E n)), (19, sL 11 n), (20, iT n), (21, iT (i : Int))]) (hpL [(2, .cells false 7 1 (.fn fun _ => dO 6 7 8 n (ND E n).length (BR E n).length)), (3, .aW true (aB 0 (NM E n))), (4, .aW true (aB 0 (ND E n))), (5, .aW true (aB 0 (BR E n))), (6, .cells false 8 (n) (.fn fun j => bI (E j))), (7, .cells false 1 ((ND E n).length) (.fn (dh (aH (ND E n))))), (8, .cells false 1 ((BR E n).length) (.fn (dh (aH (BR E n))))), (9, .cells true 2 1 (.fn fun _ => [.int false .i64 (0), .int false .i64 (0)])), (10, .cells true 1 (aS E n) (.fn (dU (RF E n i)))), (11, .cells true 8 n (.fn fun j => bI (E j)))]) (fun e fr' H' => e = .ret ∧ fr' = aQ [(2, .aX), (3, .ptr ⟨false, 9, 0, 0⟩)] ∧ H' = hpL [(3, .aW true (aB 0 (NM E n))), (4, .aW true (aB 0 (ND E n))), (5, .aW true (aB 0 (BR E n))), (9, .cells true 2 1 (.fn fun _ => [.int false .i64 6, iT (i : Int)]))]) := by
     refine aj.aV (K1 := 12) (reA 9 (by omega) n (ND E n).length (BR E n).length i (aS E n) E (aB 0 (NM E n)) (aB 0 (ND E n)) (aB 0 (BR E n)) (aH (ND E n)) (aH (BR E n)) (RF E n i)) (by omega) ?_
     refine aj.aV (K1 := 12) (F1 := [(0, .ptr ⟨false, 2, 0, 0⟩), (3, .ptr ⟨false, 9, 0, 0⟩), (4, sL 10 (aS E n)), (19, sL 11 n), (20, iT n), (21, iT (i : Int))]) (H1 := [(2, .cells false 7 1 (.fn fun _ => dO 6 7 8 n (ND E n).length (BR E n).length)), (3, .aW true (aB 0 (NM E n))), (4, .aW true (aB 0 (ND E n))), (5, .aW true (aB 0 (BR E n))), (6, .cells false 8 (n) (.fn fun j => bI (E j))), (7, .cells false 1 ((ND E n).length) (.fn (dh (aH (ND E n))))), (8, .cells false 1 ((BR E n).length) (.fn (dh (aH (BR E n))))), (9, .cells true 2 1 (.fn fun _ => [.int false .i64 (0), .int false .i64 (0)])), (10, .cells true 1 (aS E n) (.fn (dU (RF E n i)))), (11, .cells true 8 n (.fn fun j => bI (E j)))]) ((reB 9 (by omega) n (ND E n).length (BR E n).length i (aS E n) E (aB 0 (NM E n)) (aB 0 (ND E n)) (aB 0 (BR E n)) (aH (ND E n)) (aH (BR E n)) (RF E n i) (decide ((i : Int) < (n : Int)))).mono fun e fr' H' h => ?_) (by omega) ?_
     ·rw [decide_eq_true (by omega), cond_true] at h
      exact h
     exact MF (K1 := 20) (by omega) inn
    refine main.renG fun e fr' H' h => ?_
    obtain ⟨rfl, rfl, rfl⟩ := h
    exact ⟨id, [(2, .aX), (3, .ptr ⟨false, 9, 0, 0⟩)], [(3, .aW true (aB 0 (NM E n))), (4, .aW true (aB 0 (ND E n))), (5, .aW true (aB 0 (BR E n))), (9, .cells true 2 1 (.fn fun _ => [.int false .i64 6, iT (i : Int)]))], fun g hg => rfl, (vk rfl), ⟨lG rfl rfl (by omega), lG rfl rfl (by omega), lG rfl rfl (by omega), jk rfl rfl rfl (by omega), trivial⟩, fun i j _ _ h => h, .inr (.inr ⟨rfl, rfl, .inl ⟨i, hlt, hg, hb, rfl, rfl⟩⟩)⟩
  ·obtain ⟨s1, s2⟩ := aay hp
   refine go s2 (aj.block (Post := Nm [(0, .ptr ⟨false, 2, 0, 0⟩), (3, .ptr ⟨false, 9, 0, 0⟩), (4, sL 10 (aS E n)), (19, sL 11 n), (20, iT n), (21, iT (i : Int))] [(2, .cells false 7 1 (.fn fun _ => dO 6 7 8 n (ND E n).length (BR E n).length)), (3, .aW true (aB 0 (NM E n))), (4, .aW true (aB 0 (ND E n))), (5, .aW true (aB 0 (BR E n))), (6, .cells false 8 (n) (.fn fun j => bI (E j))), (7, .cells false 1 ((ND E n).length) (.fn (dh (aH (ND E n))))), (8, .cells false 1 ((BR E n).length) (.fn (dh (aH (BR E n))))), (9, .cells true 2 1 (.fn fun _ => [.int false .i64 (0), .int false .i64 (0)])), (10, .cells true 1 (aS E n) (.fn (dU (RF E n (i + 1))))), (11, .cells true 8 n (.fn fun j => bI (E j)))]) ?_)
   rw [s1]
   refine aj.aV (K1 := 13) (F1 := [(0, .ptr ⟨false, 2, 0, 0⟩), (3, .ptr ⟨false, 9, 0, 0⟩), (4, sL 10 (aS E n)), (19, sL 11 n), (20, iT n), (21, iT (i : Int)), (5, iT (i : Int)), (6, .ptr ⟨false, 12, 0, 0⟩)]) (H1 := [(2, .cells false 7 1 (.fn fun _ => dO 6 7 8 n (ND E n).length (BR E n).length)), (3, .aW true (aB 0 (NM E n))), (4, .aW true (aB 0 (ND E n))), (5, .aW true (aB 0 (BR E n))), (6, .cells false 8 (n) (.fn fun j => bI (E j))), (7, .cells false 1 ((ND E n).length) (.fn (dh (aH (ND E n))))), (8, .cells false 1 ((BR E n).length) (.fn (dh (aH (BR E n))))), (9, .cells true 2 1 (.fn fun _ => [.int false .i64 (0), .int false .i64 (0)])), (10, .cells true 1 (aS E n) (.fn (dU (RF E n i)))), (11, .cells true 8 n (.fn fun j => bI (E j))), (12, .cells true 8 1 (.fn fun _ => bI (E i)))]) (aj.toN (reC 9 (by omega) n (ND E n).length (BR E n).length i (aS E n) E (aB 0 (NM E n)) (aB 0 (ND E n)) (aB 0 (BR E n)) (aH (ND E n)) (aH (BR E n)) (RF E n i) (by omega) (by omega)) (dJ rfl) ⟨hs rfl, hs rfl, hs rfl, hs rfl, hs rfl, hs rfl, hs rfl, hs rfl, hs rfl, hs rfl, jI rfl (by show bI (E (0 + i)) = bI (E i); rw [Nat.zero_add]), trivial⟩) (by omega) ?_
   refine aj.aV (K1 := 13) (F1 := [(0, .ptr ⟨false, 2, 0, 0⟩), (3, .ptr ⟨false, 9, 0, 0⟩), (4, sL 10 (aS E n)), (19, sL 11 n), (20, iT n), (21, iT (i : Int)), (5, iT (i : Int)), (6, .ptr ⟨false, 12, 0, 0⟩), (7, .dD true (fE (E i)).1 (fE (E i)).2), (8, iT (gW (E i)))]) (H1 := [(2, .cells false 7 1 (.fn fun _ => dO 6 7 8 n (ND E n).length (BR E n).length)), (3, .aW true (aB 0 (NM E n))), (4, .aW true (aB 0 (ND E n))), (5, .aW true (aB 0 (BR E n))), (6, .cells false 8 (n) (.fn fun j => bI (E j))), (7, .cells false 1 ((ND E n).length) (.fn (dh (aH (ND E n))))), (8, .cells false 1 ((BR E n).length) (.fn (dh (aH (BR E n))))), (9, .cells true 2 1 (.fn fun _ => [.int false .i64 (0), .int false .i64 (0)])), (10, .cells true 1 (aS E n) (.fn (dU (RF E n i)))), (11, .cells true 8 n (.fn fun j => bI (E j))), (12, .cells true 8 1 (.fn fun _ => bI (E i)))]) (aj.toN (reD 9 (by omega) (E i) n (ND E n).length (BR E n).length i (aS E n) E (aB 0 (NM E n)) (aB 0 (ND E n)) (aB 0 (BR E n)) (aH (ND E n)) (aH (BR E n)) (RF E n i)) (dJ rfl) (fG rfl)) (by omega) ?_
   refine aj.seq (K1 := 13) (by omega) ((reE 9 (by omega) (E i) n (ND E n).length (BR E n).length i (aS E n) (fE (E i)).1 (fE (E i)).2 E (aB 0 (NM E n)) (aB 0 (ND E n)) (aB 0 (BR E n)) (aH (ND E n)) (aH (BR E n)) (RF E n i) (gW (E i))).post fun e fr' H' h => ?_)
   rw [decide_eq_false hp, cond_false] at h
   obtain ⟨rfl, rfl, rfl⟩ := h
   exact ⟨[(0, .ptr ⟨false, 2, 0, 0⟩), (3, .ptr ⟨false, 9, 0, 0⟩), (4, sL 10 (aS E n)), (19, sL 11 n), (20, iT n), (21, iT (i : Int))], [(2, .cells false 7 1 (.fn fun _ => dO 6 7 8 n (ND E n).length (BR E n).length)), (3, .aW true (aB 0 (NM E n))), (4, .aW true (aB 0 (ND E n))), (5, .aW true (aB 0 (BR E n))), (6, .cells false 8 (n) (.fn fun j => bI (E j))), (7, .cells false 1 ((ND E n).length) (.fn (dh (aH (ND E n))))), (8, .cells false 1 ((BR E n).length) (.fn (dh (aH (BR E n))))), (9, .cells true 2 1 (.fn fun _ => [.int false .i64 (0), .int false .i64 (0)])), (10, .cells true 1 (aS E n) (.fn (dU (RF E n i)))), (11, .cells true 8 n (.fn fun j => bI (E j)))], (dJ rfl), (fG rfl), by
    show (if 1 = 1 then Nm _ _ Ex.normal _ _ else _)
    rw [if_pos rfl]; exact ⟨rfl, rfl, rfl⟩⟩
 ·obtain rfl : i = n := by omega
  refine aj.aV (K1 := 12) (reA 9 (by omega) i (ND E i).length (BR E i).length i (aS E i) E (aB 0 (NM E i)) (aB 0 (ND E i)) (aB 0 (BR E i)) (aH (ND E i)) (aH (BR E i)) (RF E i i)) (by omega) ?_
  refine aj.seq (K1 := 12) (by omega) ((reB 9 (by omega) i (ND E i).length (BR E i).length i (aS E i) E (aB 0 (NM E i)) (aB 0 (ND E i)) (aB 0 (BR E i)) (aH (ND E i)) (aH (BR E i)) (RF E i i) (decide ((i : Int) < (i : Int)))).post fun e fr' H' h => ?_)
  rw [decide_eq_false (by omega), cond_false] at h
  obtain ⟨rfl, rfl, rfl⟩ := h
  exact ⟨[(0, .ptr ⟨false, 2, 0, 0⟩), (3, .ptr ⟨false, 9, 0, 0⟩), (4, sL 10 (aS E i))], [(2, .cells false 7 1 (.fn fun _ => dO 6 7 8 i (ND E i).length (BR E i).length)), (3, .aW true (aB 0 (NM E i))), (4, .aW true (aB 0 (ND E i))), (5, .aW true (aB 0 (BR E i))), (6, .cells false 8 (i) (.fn fun j => bI (E j))), (7, .cells false 1 ((ND E i).length) (.fn (dh (aH (ND E i))))), (8, .cells false 1 ((BR E i).length) (.fn (dh (aH (BR E i))))), (9, .cells true 2 1 (.fn fun _ => [.int false .i64 (0), .int false .i64 (0)])), (10, .cells true 1 (aS E i) (.fn (dU (RF E i i))))], (dJ rfl), (fG rfl), .inr (.inl ⟨rfl, hg, rfl, rfl⟩)⟩


theorem agy : (ak Try.f16) = .seq (aT [0] (ak Try.f16)) (.seq (aT [1,0] (ak Try.f16)) (.seq (aT [1,1,0] (ak Try.f16)) (.seq (.seq (aT [1,1,1,0,0] (ak Try.f16)) (.block 0 (.loop ZC7))) (aT [1,1,1,1] (ak Try.f16))))) := by kernel_rfl
noncomputable abbrev ZCF (v0 : tE) (v1 : Nat) := (.cells true 1 (aS v0 v1) (.fn (dU (RF v0 v1 0))) : aF)
noncomputable abbrev ZEl (v0 : Nat) (v1 : tE) := ([(2, ZM v0 v1), (3, ZU v1 v0), (4, ZV v1 v0), (5, ZW v1 v0), (6, Za v0 v1), (7, ZP v1 v0), (8, ZQ v1 v0), (9, ZE)] : tH)
theorem Fg (n : Nat) (E : tE) (hn : n ≤ 256) :
  aj Try.prog (ak Try.f16) Try.f16.ntmps 9 9 12 (bJ [ZA 2] 0 .e) (hpL [(2, ZM n E), (3, ZU E n), (4, ZV E n), (5, ZW E n), (6, Za n E), (7, ZP E n), (8, ZQ E n)]) (QRP E n) := by
 have lq := VR E n hn
 have lr := VT E n hn
 rw [agy]
 refine aj.aV (K1 := 10) (F1 := (uw 0 2 3 9)) (H1 := (ZEl n E)) (aj.toN (riA 9 (by omega) n (ND E n).length (BR E n).length E (aB 0 (NM E n)) (aB 0 (ND E n)) (aB 0 (BR E n)) (aH (ND E n)) (aH (BR E n))) (dJ rfl) ⟨hs rfl, hs rfl, hs rfl, hs rfl, hs rfl, hs rfl, hs rfl, jI rfl, trivial⟩) (by omega) ?_
 refine aj.aV (K1 := 10) (F1 := (uw 0 2 3 9)) (H1 := (ZEl n E)) ?_ (by omega) ?_
 ·obtain ⟨z0, z1⟩ := Rj E n
  refine (rcP (aem n (ND E n).length (BR E n).length 0 E (aB 0 (NM E n)) (aB 0 (ND E n)) (aB 0 (BR E n)) (aH (ND E n)) (aH (BR E n)) (by omega) (by omega) (by omega) (fun i hi o v hv => wI hv) (Nat.le_refl _) (by omega) (by omega) (fun i hi o v hv => MV hv) (by omega) (Rk E n) (decide_eq_false z0) (decide_eq_false z1)) (show 9 ≤ 10 by omega)).renG fun e fr' H' h => ?_
  obtain ⟨rfl, rfl, rfl⟩ := h
  exact ⟨id, (uw 0 2 3 9), (ZEl n E), fun g hg => rfl, (vk rfl), ⟨jk rfl rfl rfl (by omega), lG rfl rfl (by omega), lG rfl rfl (by omega), lG rfl rfl (by omega), fD rfl rfl (fun j _ => rfl) (fun j _ => rfl) (by omega), fD rfl rfl (fun j _ => rfl) (fun j _ => rfl) (by omega), fD rfl rfl (fun j _ => rfl) (fun j _ => rfl) (by omega), jk rfl rfl rfl (by omega), trivial⟩, fun i j _ _ h => h, rfl, rfl, rfl⟩
 refine aj.seq (K1 := 11) (by omega) ((riC 9 (by omega) n (ND E n).length (BR E n).length E (aB 0 (NM E n)) (aB 0 (ND E n)) (aB 0 (BR E n)) (aH (ND E n)) (aH (BR E n)) (by omega) (by omega) (by omega)).mono fun e fr' H' h => ?_)
 obtain ⟨rfl, rfl, rfl⟩ := h
 refine aj.jh (fl := (ZFI E n 2 9 10)) (bl := [(2, ZM n E), (3, ZU E n), (4, ZV E n), (5, ZW E n), (6, Za n E), (7, ZP E n), (8, ZQ E n), (9, ZE), (10, ZCF E n)]) ⟨re rfl, re rfl, ⟨_, rfl, AV.ge.slc _ _ _ (by unfold aS; first | omega | rfl | simp)⟩, trivial⟩ ⟨⟨_, rfl, rfl, rfl, rfl, fun j _ => ay _ rfl⟩, ⟨_, rfl, rfl⟩, ⟨_, rfl, rfl⟩, ⟨_, rfl, rfl⟩, ⟨_, rfl, rfl, rfl, rfl, fun j _ => ay _ rfl⟩, ⟨_, rfl, rfl, rfl, rfl, fun j _ => ay _ rfl⟩, ⟨_, rfl, rfl, rfl, rfl, fun j _ => ay _ rfl⟩, ⟨_, rfl, rfl, rfl, rfl, fun j _ => ay _ rfl⟩, ⟨_, rfl, rfl, rfl, by unfold aS; first | omega | rfl | simp, fun j _ => ⟨AV.ge.SI _ _ rfl rfl, rfl, trivial⟩⟩, trivial⟩ ?_
 refine aj.seq (K1 := 12) (by omega) (aj.aV (K1 := 12) (F1 := [(0, ZA 2), (3, ZA 9), (4, Z6 E n 10), (19, sL 11 n), (20, iT n), (21, Zc 0)]) (H1 := [(2, ZM n E), (3, ZU E n), (4, ZV E n), (5, ZW E n), (6, Za n E), (7, ZP E n), (8, ZQ E n), (9, ZE), (10, ZCF E n), (11, ZD n E)]) (aj.toN (riD 9 (by omega) n (ND E n).length (BR E n).length (aS E n) E (aB 0 (NM E n)) (aB 0 (ND E n)) (aB 0 (BR E n)) (aH (ND E n)) (aH (BR E n)) (RF E n 0) (by omega) (by omega)) ⟨re rfl, re rfl, re rfl, re rfl, re rfl, ⟨_, rfl, AV.ge.int _ _ _ _⟩, trivial⟩ ⟨hs rfl, hs rfl, hs rfl, hs rfl, hs rfl, hs rfl, hs rfl, hs rfl, hs rfl, gR rfl rfl (fun j _ => by rw [Nat.zero_add]), trivial⟩) (by omega) ((aj.count (P := Try.prog) (n := Try.f16.ntmps) (B := 9) (K := 12) (c := ZC7) (id := 0) n (fun i => [(0, ZA 2), (3, ZA 9), (4, Z6 E n 10), (19, sL 11 n), (20, iT n), (21, iT (i : Int))]) (fun i => [(2, ZM n E), (3, ZU E n), (4, ZV E n), (5, ZW E n), (6, Za n E), (7, ZP E n), (8, ZQ E n), (9, ZE), (10, .cells true 1 (aS E n) (.fn (dU (RF E n i)))), (11, ZD n E)]) (ZFI E n 2 9 10) (ZD7 n E) (fun i => ∀ j, j < i → RB E n j = true) (QRP E n .ret) (fun j hj => absurd hj (Nat.not_lt_zero _)) (fun i hi hg => aaD n i E hi hn hg)).mono fun e fr' H' h => ?_))
 rcases h with ⟨rfl, hg, rfl, rfl⟩ | ⟨rfl, h⟩
 ·refine (riE 9 (by omega) n (ND E n).length (BR E n).length (aS E n) E (aB 0 (NM E n)) (aB 0 (ND E n)) (aB 0 (BR E n)) (aH (ND E n)) (aH (BR E n)) (RF E n n)).post fun e fr' H' h => ?_
  obtain ⟨rfl, rfl, rfl⟩ := h
  exact ⟨[(2, Z6 E n 10), (3, ZA 9)], [(3, ZU E n), (4, ZV E n), (5, ZW E n), (9, ZE), (10, Zy E n)], (dJ rfl), ⟨hs rfl, hs rfl, hs rfl, ⟨_, rfl, rfl, rfl, rfl, zO (p := fun j => _ = _) rfl⟩, hs rfl, trivial⟩, rfl, .inr ⟨hg, rfl, rfl⟩⟩
 ·exact h


/-- what a net's blocks hold -/
structure aaE (n q r nl nn nb : Nat) (M1 M2 M3 : tM) (cl cn cb : Nat → List AV) : Prop where
 n256 : n ≤ 256
 ln : nl = n
 lq : nn = q
 lr : nb = r
 WC : q = (ND (bW cl) n).length
 WE : r = (BR (bW cl) n).length
 m1 : M1 = aB 0 (NM (bW cl) n)
 m2 : M2 = aB 0 (ND (bW cl) n)
 m3 : M3 = aB 0 (BR (bW cl) n)
 rl : ∀ j, j < n → gy (cl j) (bI (bW cl j))
 rn : ∀ j, j < q → gy (cn j) (dh (aH (ND (bW cl) n)) j)
 rb : ∀ j, j < r → gy (cb j) (dh (aH (BR (bW cl) n)) j)
/-- the net at a name, its elements -/
noncomputable def netRd (N : Nat) : M (tV × (Nat → El)) :=
 (MP N).andThen fun w => (M.dn (nodupB [N, w.m1, w.m2, w.m3, w.l.g, w.nd.g, w.bg.g])).andThen fun _ => (M.qm w.m1).andThen fun b1 => (M.bF (Kz b1)).andThen fun M1 => (M.qm w.m2).andThen fun b2 => (M.bF (Kz b2)).andThen fun M2 => (M.qm w.m3).andThen fun b3 => (M.bF (Kz b3)).andThen fun M3 =>
  (jU w.l.g).andThen fun cl => (jU w.nd.g).andThen fun cn => (jU w.bg.g).andThen fun cb => (M.dn (Nat.beq cl.2.1 8 && Nat.beq cn.2.1 1 && Nat.beq cb.2.1 1)).andThen fun _ =>
   (M.req (aaE w.n w.q w.r cl.2.2.1 cn.2.2.1 cb.2.2.1 M1.2 M2.2 M3.2 cl.2.2.2.row cn.2.2.2.row cb.2.2.2.row)).andThen fun _ => M.ret (w, bW cl.2.2.2.row)
theorem HY (N : Nat) : aC (netRd N) := (Hz _).andThen fun _ => (aC.dn _).andThen fun _ => (aC.qm _).andThen fun _ => (aC.bF _).andThen fun _ => (aC.qm _).andThen fun _ => (aC.bF _).andThen fun _ => (aC.qm _).andThen fun _ => (aC.bF _).andThen fun _ => (aC.jU _).andThen fun _ => (aC.jU _).andThen fun _ => (aC.jU _).andThen fun _ => (aC.dn _).andThen fun _ => (aC.req _).andThen fun _ => aC.ret _
/-- what netRd found -/
structure WG (g : G) (N : Nat) (w : tV) (E : tE) : Prop where
 net : ∃ ob c s1 s2 s3, g.H.get N = some (.cells ob 7 1 c) ∧ c.row 0 = [.bool true, .slc s1 true w.l w.n, .mp w.m1, .slc s2 true w.nd w.q, .mp w.m2, .slc s3 true w.bg w.r, .mp w.m3]
 l0 : w.l.i = 0 ∧ w.l.o = 0
 nd0 : w.nd.i = 0 ∧ w.nd.o = 0
 bg0 : w.bg.i = 0 ∧ w.bg.o = 0
 dup : [N, w.m1, w.m2, w.m3, w.l.g, w.nd.g, w.bg.g].Nodup
 n256 : w.n ≤ 256
 WC : w.q = (ND E w.n).length
 WE : w.r = (BR E w.n).length
 m1 : ∃ s, g.H.get w.m1 = some (.aW s (aB 0 (NM E w.n)))
 m2 : ∃ s, g.H.get w.m2 = some (.aW s (aB 0 (ND E w.n)))
 m3 : ∃ s, g.H.get w.m3 = some (.aW s (aB 0 (BR E w.n)))
 l : ∃ o c, g.H.get w.l.g = some (.cells o 8 w.n c) ∧ ∀ j, j < w.n → gy (c.row j) (bI (E j))
 nd : ∃ o c, g.H.get w.nd.g = some (.cells o 1 w.q c) ∧ ∀ j, j < w.q → gy (c.row j) (dh (aH (ND E w.n)) j)
 bg : ∃ o c, g.H.get w.bg.g = some (.cells o 1 w.r c) ∧ ∀ j, j < w.r → gy (c.row j) (dh (aH (BR E w.n)) j)
theorem Fh {N : Nat} {y : tV × (Nat → El)} {g g' : G} (h : netRd N g = .done y g') : ∃ q, Keep g g' q ∧ (q → WG g N y.1 y.2) := by
 unfold netRd at h
 obtain ⟨w, g1, a1, h⟩ := au h
 obtain ⟨rfl, ob, c, s1, s2, s3, hN, eN, f1, f2, f3⟩ := Fa a1
 obtain ⟨_, g2, a2, h⟩ := au h
 obtain ⟨dd, rfl⟩ := aU a2
 obtain ⟨b1, g3, a3, h⟩ := au h
 obtain ⟨hb1, rfl⟩ := jd a3
 obtain ⟨⟨t1, M1⟩, g4, a4, h⟩ := au h
 obtain ⟨e1, rfl⟩ := aJ a4
 obtain ⟨b2, g5, a5, h⟩ := au h
 obtain ⟨hb2, rfl⟩ := jd a5
 obtain ⟨⟨t2, M2⟩, g6, a6, h⟩ := au h
 obtain ⟨e2, rfl⟩ := aJ a6
 obtain ⟨b3, g7, a7, h⟩ := au h
 obtain ⟨hb3, rfl⟩ := jd a7
 obtain ⟨⟨t3, M3⟩, g8, a8, h⟩ := au h
 obtain ⟨e3, rfl⟩ := aJ a8
 obtain ⟨⟨o1, z1, k1, cl⟩, g9, a9, h⟩ := au h
 obtain ⟨hl, rfl⟩ := fK a9
 obtain ⟨⟨o2, z2, k2, cn⟩, g10, a10, h⟩ := au h
 obtain ⟨hn, rfl⟩ := fK a10
 obtain ⟨⟨o3, z3, k3, cb⟩, g11, a11, h⟩ := au h
 obtain ⟨hbb, rfl⟩ := fK a11
 obtain ⟨_, g12, a12, h⟩ := au h
 obtain ⟨zz, rfl⟩ := aU a12
 obtain ⟨_, g13, a13, h⟩ := au h
 have kk := dR a13
 obtain ⟨rfl, rfl⟩ := aA h
 have e1 := oW e1
 have e2 := oW e2
 have e3 := oW e3
 subst e1 e2 e3
 simp only [Bool.and_eq_true] at zz
 obtain ⟨⟨y1, y2⟩, y3⟩ := zz
 obtain rfl := Nat.eq_of_beq_eq_true y1
 obtain rfl := Nat.eq_of_beq_eq_true y2
 obtain rfl := Nat.eq_of_beq_eq_true y3
 refine ⟨_, kk, fun Q => ?_⟩
 dsimp only at Q hl hn hbb hb1 hb2 hb3 ⊢
 have i1 := Q.ln
 have i2 := Q.lq
 have i3 := Q.lr
 subst i1 i2 i3
 refine ⟨⟨ob, c, s1, s2, s3, hN, eN⟩, f1, f2, f3, EH dd, Q.n256, Q.WC, Q.WE, ⟨t1, by rw [hb1, Q.m1]⟩, ⟨t2, by rw [hb2, Q.m2]⟩, ⟨t3, by rw [hb3, Q.m3]⟩, ⟨_, _, hl, Q.rl⟩, ⟨_, _, hn, Q.rn⟩, ⟨_, _, hbb, Q.rb⟩⟩
theorem Rl {N : Nat} {μ : MM} {hp : Array Obj} {g sz m : Nat} {own : Bool} {c : Cont} {rows : Nat → List AV} (h : dw N μ hp g (.cells own sz m c)) (k : ∀ j, j < m → gy (c.row j) (rows j)) : dw N μ hp g (.cells false sz m (.fn rows)) := by
 refine ⟨h.1, h.2.1, fun hr => ?_⟩
 obtain ⟨cur, ty, fz, p1, p2, p3, p4⟩ := h.2.2 (hr.elim .inl fun c => by cases c.1)
 exact ⟨cur, ty, fz, p1, p2, fun h => (by cases h), fun i hi => jv.ge (p4 i hi) (k i hi)⟩


def qX (p : Nat → Bool) : Nat → Nat → Nat
 | i, 0 => i
 | i, m + 1 => bif p i then qX p (i + 1) m else i
theorem CQ {p : Nat → Bool} : ∀ (m i : Nat), (∀ j, i ≤ j → j < i + m → p j = true) → qX p i m = i + m
 | 0, i, _ => rfl
 | m + 1, i, h => by
  unfold qX
  rw [h i (Nat.le_refl _) (by omega), cond_true, CQ m (i + 1) fun j a b => h j (by omega) (by omega)]
  omega
theorem Fj {p : Nat → Bool} {k : Nat} (hk : p k = false) : ∀ (m i : Nat), i ≤ k → k < i + m → (∀ j, i ≤ j → j < k → p j = true) → qX p i m = k
 | 0, i, h1, h2, _ => by omega
 | m + 1, i, h1, h2, h => by
  unfold qX
  by_cases c : i = k
  ·subst c; rw [hk, cond_false]
  ·rw [h i (Nat.le_refl _) (by omega), cond_true]
   exact Fj hk m (i + 1) (by omega) (by omega) fun j a b => h j (by omega) b
noncomputable def Fp : List AV → M AV
 | [.ptr aN] => (M.dn (kT aN)).andThen fun _ => (netRd aN.g).andThen fun y => (M.setB y.1.m1 (.aW true (aB 0 (NM y.2 y.1.n)))).andThen fun _ => (M.setB y.1.m2 (.aW true (aB 0 (ND y.2 y.1.n)))).andThen fun _ => (M.setB y.1.m3 (.aW true (aB 0 (BR y.2 y.1.n)))).andThen fun _ => (M.dec (decide (qX (RB y.2 y.1.n) 0 y.1.n = y.1.n))).andThen fun d =>
   bif d then (M.iR (.cells true 1 (aS y.2 y.1.n) (.fn (dU (RF y.2 y.1.n y.1.n))))).andThen fun N => M.ret (.iD [.slc true true ⟨false, N, 0, 0⟩ (aS y.2 y.1.n), .agg [ZC 0, ZC 0]])
   else M.ret (.iD [.aX, .agg [ZC 6, iT ((qX (RB y.2 y.1.n) 0 y.1.n : Nat) : Int)]])
 | _ => M.no
theorem Pj : ∀ args, aC (Fp args) := by
 intro args
 unfold Fp
 split
 ·exact (aC.dn _).andThen fun _ => (HY _).andThen fun _ => (aC.setB _ _).andThen fun _ => (aC.setB _ _).andThen fun _ => (aC.setB _ _).andThen fun _ => (aC.dec _).andThen fun d => aC.cond ((aC.iR _).andThen fun _ => aC.ret _) (aC.ret _)
 ·exact aC.no
/-- the net's blocks, told in the small heap -/
noncomputable abbrev Z2 (v0 : tV) (v1 : tE) := ([(2, .cells false 7 1 (.fn fun _ => dO 6 7 8 v0.n v0.q v0.r)), (3, .aW true (aB 0 (NM v1 v0.n))), (4, .aW true (aB 0 (ND v1 v0.n))), (5, .aW true (aB 0 (BR v1 v0.n))), (6, .cells false 8 v0.n (.fn fun j => bI (v1 j))), (7, .cells false 1 v0.q (.fn (dh (aH (ND v1 v0.n))))), (8, .cells false 1 v0.r (.fn (dh (aH (BR v1 v0.n)))))] : tH)
theorem Fq {g : G} {N : Nat} {w : tV} {E : tE} (F : WG g N w E) : ∀ i b, (hpL (Z2 w E)).get i = some b → Sx.Told g (tZ N w) 9 i b := by
 intro i b hbb
 have hm' := bC hbb
 simp only [List.mem_cons, List.not_mem_nil, or_false] at hm'
 rcases hm' with h | h | h | h | h | h | h <;> cases h
 ·obtain ⟨ob, c, s1, s2, s3, hN, eN⟩ := F.net
  exact ⟨by omega, fun j hj v hv => List.all_eq_true.1 (show (dO 6 7 8 w.n w.q w.r).all (fun v => v.low 9) = true from rfl) v hv, _, hN, fun N μ hp k => Wu k (Q7 eN F.l0 F.nd0 F.bg0 rfl rfl rfl rfl rfl rfl), fun h => (by cases h), fun μ m hr => .inl (by omega)⟩
 ·obtain ⟨s, h⟩ := F.m1
  exact ⟨by omega, trivial, _, h, fun N μ hp k => k, fun _ => rfl, fun μ m hr => hr⟩
 ·obtain ⟨s, h⟩ := F.m2
  exact ⟨by omega, trivial, _, h, fun N μ hp k => k, fun _ => rfl, fun μ m hr => hr⟩
 ·obtain ⟨s, h⟩ := F.m3
  exact ⟨by omega, trivial, _, h, fun N μ hp k => k, fun _ => rfl, fun μ m hr => hr⟩
 ·obtain ⟨o, c, h, hr⟩ := F.l
  exact ⟨by omega, fun j hj v hv => List.all_eq_true.1 (jY 9 _) v hv, _, h, fun N μ hp k => Rl k hr, fun h => (by cases h), fun μ m hr => hr.elim .inl fun c => by cases c.1⟩
 ·obtain ⟨o, c, h, hr⟩ := F.nd
  exact ⟨by omega, fun j hj v hv => by rw [List.mem_singleton.1 hv]; rfl, _, h, fun N μ hp k => Rl k hr, fun h => (by cases h), fun μ m hr => hr.elim .inl fun c => by cases c.1⟩
 ·obtain ⟨o, c, h, hr⟩ := F.bg
  exact ⟨by omega, fun j hj v hv => by rw [List.mem_singleton.1 hv]; rfl, _, h, fun N μ hp k => Rl k hr, fun h => (by cases h), fun μ m hr => hr.elim .inl fun c => by cases c.1⟩
theorem JQ {g : G} {N : Nat} {w : tV} {E : tE} (F : WG g N w E) : ∀ i j b b', (hpL (Z2 w E)).get i = some b → (hpL (Z2 w E)).get j = some b' → tZ N w i = tZ N w j → i = j := by
 intro i j b b' hi hj e
 have d := F.dup
 simp only [List.nodup_cons, List.mem_cons, List.not_mem_nil, or_false, not_or, not_false_eq_true, List.nodup_nil, and_true] at d
 obtain ⟨⟨d1, d2, d3, d4, d5, d6⟩, ⟨d7, d8, d9, d10, d11⟩, ⟨d12, d13, d14, d15⟩, ⟨d16, d17, d18⟩, ⟨d19, d20⟩, d21⟩ := d
 have hm1 := bC hi
 have hm2 := bC hj
 simp only [List.mem_cons, List.not_mem_nil, or_false] at hm1 hm2
 rcases hm1 with h | h | h | h | h | h | h <;> cases h <;> rcases hm2 with h | h | h | h | h | h | h <;> cases h <;> first | rfl | exact absurd e (by assumption) | exact absurd e.symm (by assumption)


def oz (w : tV) (x i : Nat) : Nat := if i = w.m1 then 3 else if i = w.m2 then 4 else if i = w.m3 then 5 else if i = x then 10 else 11
theorem TG : ∀ args v g g', Fp args g = .done v g' → bf Try.prog 16 args v g g' := by
 intro args v g g' h
 unfold Fp at h
 split at h
 case h_2 => exact (aY h).elim
 rename_i aN
 obtain ⟨_, g1, a1, h⟩ := au h
 obtain ⟨q0, rfl⟩ := aU a1
 have q0 := dX q0
 obtain ⟨⟨w, E⟩, g3, a3, h⟩ := au h
 obtain ⟨qf, kk0, f0⟩ := Fh a3
 dsimp only at h f0
 obtain ⟨_, g4, a4, h⟩ := au h
 obtain ⟨_, g5, a5, h⟩ := au h
 obtain ⟨_, g55, a55, h⟩ := au h
 obtain ⟨b1, b2, b3⟩ := lI a4
 obtain ⟨b4, b5, b6⟩ := lI a5
 obtain ⟨b7, b8, b9⟩ := lI a55
 obtain ⟨d, g6, a6, h⟩ := au h
 have k6 := jc a6
 have hnx : g6.nx = g.nx := by rw [k6.2.1, b8, b5, b2, kk0.2.1]
 have hH : g6.H = ((g3.H.upd w.m1 (some (aF.aW true (aB 0 (NM E w.n))))).upd w.m2 (some (aF.aW true (aB 0 (ND E w.n))))).upd w.m3 (some (aF.aW true (aB 0 (BR E w.n)))) := by rw [k6.1, b7, b4, b1]
 have kk : g6.cs → g.cs ∧ (qf ∧ decide (qX (RB E w.n) 0 w.n = w.n) = d) := fun hc => by
  obtain ⟨c1, c2⟩ := k6.2.2 hc
  rw [b9, b6, b3] at c1
  exact ⟨(kk0.2.2 c1).1, (kk0.2.2 c1).2, c2⟩
 have kk : True ∧ True ∧ (g6.cs → g.cs ∧ (qf ∧ decide (qX (RB E w.n) 0 w.n = w.n) = d)) := ⟨trivial, trivial, kk⟩
 have ff : (qf ∧ decide (qX (RB E w.n) 0 w.n = w.n) = d) → WG g aN.g w E := fun h => f0 h.1
 cases d with
 | true =>
  rw [cond_true] at h
  obtain ⟨N, g7, a7, h⟩ := au h
  obtain ⟨rfl, rfl⟩ := aA h
  cases a7
  rw [hnx]
  refine sJ (c := (ak Try.f16)) Try.func16 (by kernel_rfl) (by kernel_rfl) (dY := [uz false 2]) (bl := [(2, .cells false 7 1 (.fn fun _ => dO 6 7 8 w.n w.q w.r)), (3, .aW true (aB 0 (NM E w.n))), (4, .aW true (aB 0 (ND E w.n))), (5, .aW true (aB 0 (BR E w.n))), (6, .cells false 8 w.n (.fn fun j => bI (E j))), (7, .cells false 1 w.q (.fn (dh (aH (ND E w.n))))), (8, .cells false 1 w.r (.fn (dh (aH (BR E w.n)))))]) (iL := [(w.m1, .aW true (aB 0 (NM E w.n))), (w.m2, .aW true (aB 0 (ND E w.n))), (w.m3, .aW true (aB 0 (BR E w.n))), (g.nx, .cells true 1 (aS E w.n) (.fn (dU (RF E w.n w.n))))]) (K0 := 9) (K' := 12) (p := _) (fun hc => kk.2.2 hc) (tZ aN.g w) (oz w g.nx) (nms := [10]) (g' := { g6 with H := g6.H.upd g.nx (some (aF.cells true 1 (aS E w.n) (.fn (dU (RF E w.n w.n))))), nx := g.nx + 1 }) (show g.nx + 1 = g.nx + 1 from rfl) (v := .iD [.slc true true ⟨false, g.nx, 0, 0⟩ (aS E w.n), .agg [NJ false, NJ false]]) (fun i => i = w.m1 ∨ i = w.m2 ∨ i = w.m3 ∨ i = g.nx) ?_ ?_ ?_ (fun nm h => by rw [List.mem_singleton.1 h]; omega) (by decide) ?_ ?_ ?_ ?_ ?_ ?_ ?_
  ·intro hp N μ cs hr
   simp only [aI] at hr ⊢
   obtain ⟨v1, r1, rfl, i1, rfl⟩ := hr
   exact ⟨v1, _, rfl, jS i1 q0.1 q0.2 (by omega) rfl, rfl⟩
  ·exact fun hp => Fq (ff hp)
  ·exact fun hp => JQ (ff hp)
  ·intro hp hL j hj
   obtain rfl : j = 0 := by simpa using hj
   obtain ⟨⟨_, h1⟩, ⟨_, h2⟩, ⟨_, h3⟩⟩ := (⟨(ff hp).m1, (ff hp).m2, (ff hp).m3⟩ : _ ∧ _ ∧ _)
   have := hL _ _ h1; have := hL _ _ h2; have := hL _ _ h3
   show oz w g.nx (g.nx + 0) = 10
   unfold oz
   rw [if_neg (by omega), if_neg (by omega), if_neg (by omega), if_pos (by omega)]
  ·intro hp hL i hi
   have d := (ff hp).dup
   simp only [List.nodup_cons, List.mem_cons, List.not_mem_nil, or_false, not_or, not_false_eq_true, List.nodup_nil, and_true] at d
   obtain ⟨⟨d1, d2, d3, d4, d5, d6⟩, ⟨d7, d8, d9, d10, d11⟩, ⟨d12, d13, d14, d15⟩, ⟨d16, d17, d18⟩, ⟨d19, d20⟩, d21⟩ := d
   obtain ⟨⟨_, h1⟩, ⟨_, h2⟩, ⟨_, h3⟩⟩ := (⟨(ff hp).m1, (ff hp).m2, (ff hp).m3⟩ : _ ∧ _ ∧ _)
   have l1 := hL _ _ h1
   have l2 := hL _ _ h2
   have l3 := hL _ _ h3
   have k1 : (oz w g.nx) w.m1 = 3 := if_pos rfl
   have k2 : (oz w g.nx) w.m2 = 4 := (if_neg (fun c => d7 c.symm)).trans (if_pos rfl)
   have k3 : (oz w g.nx) w.m3 = 5 := (if_neg (fun c => d8 c.symm)).trans ((if_neg (fun c => d12 c.symm)).trans (if_pos rfl))
   have k4 : (oz w g.nx) g.nx = 10 := (if_neg (by omega)).trans ((if_neg (by omega)).trans ((if_neg (by omega)).trans (if_pos rfl)))
   rcases hi with rfl | rfl | rfl | rfl
   ·exact ⟨by show _ < g.nx + 1; omega, fun _ => by rw [k1]; exact ⟨by omega, rfl⟩⟩
   ·exact ⟨by show _ < g.nx + 1; omega, fun _ => by rw [k2]; exact ⟨by omega, rfl⟩⟩
   ·exact ⟨by show _ < g.nx + 1; omega, fun _ => by rw [k3]; exact ⟨by omega, rfl⟩⟩
   ·exact ⟨by show _ < g.nx + 1; omega, fun h => by omega⟩
  ·intro hp hL
   have d := (ff hp).dup
   simp only [List.nodup_cons, List.mem_cons, List.not_mem_nil, or_false, not_or, not_false_eq_true, List.nodup_nil, and_true] at d
   obtain ⟨⟨d1, d2, d3, d4, d5, d6⟩, ⟨d7, d8, d9, d10, d11⟩, ⟨d12, d13, d14, d15⟩, ⟨d16, d17, d18⟩, ⟨d19, d20⟩, d21⟩ := d
   obtain ⟨⟨_, h1⟩, ⟨_, h2⟩, ⟨_, h3⟩⟩ := (⟨(ff hp).m1, (ff hp).m2, (ff hp).m3⟩ : _ ∧ _ ∧ _)
   have l1 := hL _ _ h1
   have l2 := hL _ _ h2
   have l3 := hL _ _ h3
   have k1 : (oz w g.nx) w.m1 = 3 := if_pos rfl
   have k2 : (oz w g.nx) w.m2 = 4 := (if_neg (fun c => d7 c.symm)).trans (if_pos rfl)
   have k3 : (oz w g.nx) w.m3 = 5 := (if_neg (fun c => d8 c.symm)).trans ((if_neg (fun c => d12 c.symm)).trans (if_pos rfl))
   have k4 : (oz w g.nx) g.nx = 10 := (if_neg (by omega)).trans ((if_neg (by omega)).trans ((if_neg (by omega)).trans (if_pos rfl)))
   rw [(ff hp).WC, (ff hp).WE]
   refine (Fg w.n E (ff hp).n256).mono fun e fr' H' h => ?_
   have hd := of_decide_eq_true hp.2
   obtain ⟨rfl, ⟨k, hk, ha, hb, rfl, rfl⟩ | ⟨ha, rfl, rfl⟩⟩ := h
   ·have e1 : qX (RB E w.n) 0 w.n = k := Fj hb w.n 0 (by omega) (by omega) fun j _ hj => ha j hj
    omega
   ·have e1 : qX (RB E w.n) 0 w.n = w.n := by rw [CQ w.n 0 fun j _ hj => ha j (by omega), Nat.zero_add]
    refine ⟨.inl rfl, [sL 10 (aS E w.n), .agg [NJ false, NJ false]], _, rfl, trivial, ?_, ?_⟩
    ·simp only [AV.ren, lD, AA.ren, k4]
     exact AV.ge.refl _
    intro q hq
    simp only [List.mem_cons, List.not_mem_nil, or_false] at hq
    rcases hq with rfl | rfl | rfl | rfl
    ·exact ⟨_, (by rw [k1]; rfl), dN.refl _⟩
    ·exact ⟨_, (by rw [k2]; rfl), dN.refl _⟩
    ·exact ⟨_, (by rw [k3]; rfl), dN.refl _⟩
    ·exact ⟨.cells true 1 (aS E w.n) (.fn (dU (RF E w.n w.n))), (by rw [k4]; rfl), ⟨rfl, rfl, rfl, fun j hj => rfl⟩⟩
  ·intro hp hL
   have : Nat.blt g.nx (g.nx + 1) = true := Nat.ble_eq_true_of_le (Nat.le_refl _)
   simp [AV.low, jw, this]
  ·intro hp hL
   simp only [AV.ji, jg]
   exact ⟨.inr (.inr (.inr trivial)), ⟨trivial, trivial, trivial⟩, trivial⟩
  ·intro hp hL q hq
   have d := (ff hp).dup
   simp only [List.nodup_cons, List.mem_cons, List.not_mem_nil, or_false, not_or, not_false_eq_true, List.nodup_nil, and_true] at d
   obtain ⟨⟨d1, d2, d3, d4, d5, d6⟩, ⟨d7, d8, d9, d10, d11⟩, ⟨d12, d13, d14, d15⟩, ⟨d16, d17, d18⟩, ⟨d19, d20⟩, d21⟩ := d
   obtain ⟨⟨_, h1⟩, ⟨_, h2⟩, ⟨_, h3⟩⟩ := (⟨(ff hp).m1, (ff hp).m2, (ff hp).m3⟩ : _ ∧ _ ∧ _)
   have l1 := hL _ _ h1
   have l2 := hL _ _ h2
   have l3 := hL _ _ h3
   have k1 : (oz w g.nx) w.m1 = 3 := if_pos rfl
   have k2 : (oz w g.nx) w.m2 = 4 := (if_neg (fun c => d7 c.symm)).trans (if_pos rfl)
   have k3 : (oz w g.nx) w.m3 = 5 := (if_neg (fun c => d8 c.symm)).trans ((if_neg (fun c => d12 c.symm)).trans (if_pos rfl))
   have k4 : (oz w g.nx) g.nx = 10 := (if_neg (by omega)).trans ((if_neg (by omega)).trans ((if_neg (by omega)).trans (if_pos rfl)))
   simp only [List.mem_cons, List.not_mem_nil, or_false] at hq
   rcases hq with rfl | rfl | rfl | rfl
   ·exact ⟨.inl rfl, trivial, trivial, fun _ => ⟨_, (by rw [k1]; rfl), rfl, fun μ m h => h⟩, fun _ => rfl⟩
   ·exact ⟨.inr (.inl rfl), trivial, trivial, fun _ => ⟨_, (by rw [k2]; rfl), rfl, fun μ m h => h⟩, fun _ => rfl⟩
   ·exact ⟨.inr (.inr (.inl rfl)), trivial, trivial, fun _ => ⟨_, (by rw [k3]; rfl), rfl, fun μ m h => h⟩, fun _ => rfl⟩
   ·refine ⟨.inr (.inr (.inr rfl)), fun j hj o v hv => ?_, fun j hj v hv => JM hv, fun h => (by omega), fun _ => rfl⟩
    match o, hv with
    | 0, hv => cases hv; trivial
  ·intro hp hL i b hi
   have hi : (g6.H.upd g.nx (some (aF.cells true 1 (aS E w.n) (.fn (dU (RF E w.n w.n)))))).get i = some b := hi
   rw [hH] at hi
   rw [T.bP] at hi
   split at hi
   ·rename_i e; cases hi; subst e; exact .inr (by simp)
   rename_i n4
   rw [T.bP] at hi
   split at hi
   ·rename_i e; cases hi; subst e; exact .inr (by simp)
   rename_i n3
   rw [T.bP] at hi
   split at hi
   ·rename_i e; cases hi; subst e; exact .inr (by simp)
   rename_i n2
   rw [T.bP] at hi
   split at hi
   ·rename_i e; cases hi; subst e; exact .inr (by simp)
   rename_i n1
   rw [kk0.1] at hi
   refine .inl ⟨hi, fun j bj hj ho e => ?_⟩
   have hm' := bC hj
   simp only [List.mem_cons, List.not_mem_nil, or_false] at hm'
   rcases hm' with h | h | h | h | h | h | h <;> cases h
   ·cases ho
   ·exact n1 e.symm
   ·exact n2 e.symm
   ·exact n3 e.symm
   ·cases ho
   ·cases ho
   ·cases ho
 | false =>
  rw [cond_false] at h
  obtain ⟨rfl, rfl⟩ := aA h
  refine sJ (c := (ak Try.f16)) Try.func16 (by kernel_rfl) (by kernel_rfl) (dY := [uz false 2]) (bl := [(2, .cells false 7 1 (.fn fun _ => dO 6 7 8 w.n w.q w.r)), (3, .aW true (aB 0 (NM E w.n))), (4, .aW true (aB 0 (ND E w.n))), (5, .aW true (aB 0 (BR E w.n))), (6, .cells false 8 w.n (.fn fun j => bI (E j))), (7, .cells false 1 w.q (.fn (dh (aH (ND E w.n))))), (8, .cells false 1 w.r (.fn (dh (aH (BR E w.n)))))]) (iL := [(w.m1, .aW true (aB 0 (NM E w.n))), (w.m2, .aW true (aB 0 (ND E w.n))), (w.m3, .aW true (aB 0 (BR E w.n)))]) (K0 := 9) (K' := 12) (p := _) (fun hc => kk.2.2 hc) (tZ aN.g w) (oz w g.nx) (nms := [])  (show g6.nx = g.nx from hnx) (v := .iD [.aX, .agg [.int false .i64 6, iT ((qX (RB E w.n) 0 w.n : Nat) : Int)]]) (fun i => i = w.m1 ∨ i = w.m2 ∨ i = w.m3) ?_ ?_ ?_ (fun nm h => by cases h) List.nodup_nil ?_ ?_ ?_ ?_ ?_ ?_ ?_
  ·intro hp N μ cs hr
   simp only [aI] at hr ⊢
   obtain ⟨v1, r1, rfl, i1, rfl⟩ := hr
   exact ⟨v1, _, rfl, jS i1 q0.1 q0.2 (by omega) rfl, rfl⟩
  ·exact fun hp => Fq (ff hp)
  ·exact fun hp => JQ (ff hp)
  ·intro hp hL j hj
   exact absurd hj (Nat.not_lt_zero _)
  ·intro hp hL i hi
   have d := (ff hp).dup
   simp only [List.nodup_cons, List.mem_cons, List.not_mem_nil, or_false, not_or, not_false_eq_true, List.nodup_nil, and_true] at d
   obtain ⟨⟨d1, d2, d3, d4, d5, d6⟩, ⟨d7, d8, d9, d10, d11⟩, ⟨d12, d13, d14, d15⟩, ⟨d16, d17, d18⟩, ⟨d19, d20⟩, d21⟩ := d
   obtain ⟨⟨_, h1⟩, ⟨_, h2⟩, ⟨_, h3⟩⟩ := (⟨(ff hp).m1, (ff hp).m2, (ff hp).m3⟩ : _ ∧ _ ∧ _)
   have l1 := hL _ _ h1
   have l2 := hL _ _ h2
   have l3 := hL _ _ h3
   have k1 : (oz w g.nx) w.m1 = 3 := if_pos rfl
   have k2 : (oz w g.nx) w.m2 = 4 := (if_neg (fun c => d7 c.symm)).trans (if_pos rfl)
   have k3 : (oz w g.nx) w.m3 = 5 := (if_neg (fun c => d8 c.symm)).trans ((if_neg (fun c => d12 c.symm)).trans (if_pos rfl))
   rcases hi with rfl | rfl | rfl
   ·exact ⟨by show _ < g6.nx; rw [hnx]; omega, fun _ => by rw [k1]; exact ⟨by omega, rfl⟩⟩
   ·exact ⟨by show _ < g6.nx; rw [hnx]; omega, fun _ => by rw [k2]; exact ⟨by omega, rfl⟩⟩
   ·exact ⟨by show _ < g6.nx; rw [hnx]; omega, fun _ => by rw [k3]; exact ⟨by omega, rfl⟩⟩
  ·intro hp hL
   have d := (ff hp).dup
   simp only [List.nodup_cons, List.mem_cons, List.not_mem_nil, or_false, not_or, not_false_eq_true, List.nodup_nil, and_true] at d
   obtain ⟨⟨d1, d2, d3, d4, d5, d6⟩, ⟨d7, d8, d9, d10, d11⟩, ⟨d12, d13, d14, d15⟩, ⟨d16, d17, d18⟩, ⟨d19, d20⟩, d21⟩ := d
   obtain ⟨⟨_, h1⟩, ⟨_, h2⟩, ⟨_, h3⟩⟩ := (⟨(ff hp).m1, (ff hp).m2, (ff hp).m3⟩ : _ ∧ _ ∧ _)
   have l1 := hL _ _ h1
   have l2 := hL _ _ h2
   have l3 := hL _ _ h3
   have k1 : (oz w g.nx) w.m1 = 3 := if_pos rfl
   have k2 : (oz w g.nx) w.m2 = 4 := (if_neg (fun c => d7 c.symm)).trans (if_pos rfl)
   have k3 : (oz w g.nx) w.m3 = 5 := (if_neg (fun c => d8 c.symm)).trans ((if_neg (fun c => d12 c.symm)).trans (if_pos rfl))
   rw [(ff hp).WC, (ff hp).WE]
   refine (Fg w.n E (ff hp).n256).mono fun e fr' H' h => ?_
   have hd := of_decide_eq_false hp.2
   obtain ⟨rfl, ⟨k, hk, ha, hb, rfl, rfl⟩ | ⟨ha, rfl, rfl⟩⟩ := h
   ·have e1 : qX (RB E w.n) 0 w.n = k := Fj hb w.n 0 (by omega) (by omega) fun j _ hj => ha j hj
    refine ⟨.inl rfl, [.aX, .agg [.int false .i64 6, iT (k : Int)]], _, rfl, trivial, ?_, ?_⟩
    ·rw [e1]; simp only [AV.ren, lD]
     exact AV.ge.refl _
    intro q hq
    simp only [List.mem_cons, List.not_mem_nil, or_false] at hq
    rcases hq with rfl | rfl | rfl
    ·exact ⟨_, (by rw [k1]; rfl), dN.refl _⟩
    ·exact ⟨_, (by rw [k2]; rfl), dN.refl _⟩
    ·exact ⟨_, (by rw [k3]; rfl), dN.refl _⟩
   ·have e1 : qX (RB E w.n) 0 w.n = w.n := by rw [CQ w.n 0 fun j _ hj => ha j (by omega), Nat.zero_add]
    exact absurd e1 hd
  ·intro hp hL
   simp [AV.low, jw]
  ·intro hp hL
   simp [AV.ji, jg]
  ·intro hp hL q hq
   have d := (ff hp).dup
   simp only [List.nodup_cons, List.mem_cons, List.not_mem_nil, or_false, not_or, not_false_eq_true, List.nodup_nil, and_true] at d
   obtain ⟨⟨d1, d2, d3, d4, d5, d6⟩, ⟨d7, d8, d9, d10, d11⟩, ⟨d12, d13, d14, d15⟩, ⟨d16, d17, d18⟩, ⟨d19, d20⟩, d21⟩ := d
   obtain ⟨⟨_, h1⟩, ⟨_, h2⟩, ⟨_, h3⟩⟩ := (⟨(ff hp).m1, (ff hp).m2, (ff hp).m3⟩ : _ ∧ _ ∧ _)
   have l1 := hL _ _ h1
   have l2 := hL _ _ h2
   have l3 := hL _ _ h3
   have k1 : (oz w g.nx) w.m1 = 3 := if_pos rfl
   have k2 : (oz w g.nx) w.m2 = 4 := (if_neg (fun c => d7 c.symm)).trans (if_pos rfl)
   have k3 : (oz w g.nx) w.m3 = 5 := (if_neg (fun c => d8 c.symm)).trans ((if_neg (fun c => d12 c.symm)).trans (if_pos rfl))
   simp only [List.mem_cons, List.not_mem_nil, or_false] at hq
   rcases hq with rfl | rfl | rfl
   ·exact ⟨.inl rfl, trivial, trivial, fun _ => ⟨_, (by rw [k1]; rfl), rfl, fun μ m h => h⟩, fun _ => rfl⟩
   ·exact ⟨.inr (.inl rfl), trivial, trivial, fun _ => ⟨_, (by rw [k2]; rfl), rfl, fun μ m h => h⟩, fun _ => rfl⟩
   ·exact ⟨.inr (.inr rfl), trivial, trivial, fun _ => ⟨_, (by rw [k3]; rfl), rfl, fun μ m h => h⟩, fun _ => rfl⟩
  ·intro hp hL i b hi
   rw [hH] at hi
   rw [T.bP] at hi
   split at hi
   ·rename_i e; cases hi; subst e; exact .inr (by simp)
   rename_i n3
   rw [T.bP] at hi
   split at hi
   ·rename_i e; cases hi; subst e; exact .inr (by simp)
   rename_i n2
   rw [T.bP] at hi
   split at hi
   ·rename_i e; cases hi; subst e; exact .inr (by simp)
   rename_i n1
   rw [kk0.1] at hi
   refine .inl ⟨hi, fun j bj hj ho e => ?_⟩
   have hm' := bC hj
   simp only [List.mem_cons, List.not_mem_nil, or_false] at hm'
   rcases hm' with h | h | h | h | h | h | h <;> cases h
   ·cases ho
   ·exact n1 e.symm
   ·exact n2 e.symm
   ·exact n3 e.symm
   ·cases ho
   ·cases ho
   ·cases ho


def newL : List aF → Nat → List (Nat × aF)
 | [], _ => []
 | b :: l, i => (i, b) :: newL l (i + 1)
theorem vK : ∀ {l : List aF} {i : Nat} {q : Nat × aF}, q ∈ newL l i → ∃ j b, l[j]? = some b ∧ q = (i + j, b)
 | [], i, q, h => by cases h
 | b :: l, i, q, h => by
  rcases List.mem_cons.1 h with rfl | h
  ·exact ⟨0, b, rfl, rfl⟩
  ·obtain ⟨j, u, h1, rfl⟩ := vK h
   exact ⟨j + 1, u, by simpa using h1, by rw [show i + 1 + j = i + (j + 1) by omega]⟩
theorem JR : ∀ {l : List aF} {i j : Nat} {b : aF}, l[j]? = some b → (i + j, b) ∈ newL l i
 | b0 :: l, i, 0, b, h => by cases h; exact List.mem_cons_self
 | b0 :: l, i, j + 1, b, h => by
  have h' : l[j]? = some b := by simpa using h
  have := JR (i := i + 1) h'
  rw [show i + 1 + j = i + (j + 1) by omega] at this
  exact List.mem_cons_of_mem _ this
/-- the document's net: its list's address, its length -/
structure RfA where
 l : AA
 n : Nat
def aen : List AV → Option RfA
 | [.slc _ true a n, .bool true] => bif kT a then some ⟨a, n⟩ else none
 | _ => none
noncomputable def agA (N : Nat) : M RfA := (jU N).andThen fun b => (M.dn (Nat.beq b.2.1 2 && Nat.beq b.2.2.1 1)).andThen fun _ => M.bF (aen (b.2.2.2.row 0))
theorem TI {l : List AV} {w : RfA} (h : aen l = some w) : ∃ s, l = [.slc s true w.l w.n, .bool true] ∧ (w.l.i = 0 ∧ w.l.o = 0) := by
 unfold aen at h
 split at h
 ·rename_i s a n
  cases c : kT a with
  | false => rw [c] at h; cases h
  | true => rw [c] at h; cases h; exact ⟨s, rfl, dX c⟩
 ·cases h
structure Rn (n k : Nat) (f : Nat → List AV) : Prop where
 n256 : n ≤ 256
 aiD : k = n
 rl : ∀ j, j < n → gy (f j) (bI (bW f j))
 v64 : ∀ j, j < n → (bW f j).v < 18446744073709551616
noncomputable def Gj (N : Nat) : M (RfA × (Nat → El)) :=
 (agA N).andThen fun w => (M.dn (!Nat.beq N w.l.g)).andThen fun _ => (jU w.l.g).andThen fun c => (M.dn (Nat.beq c.2.1 8)).andThen fun _ => (M.req (Rn w.n c.2.2.1 c.2.2.2.row)).andThen fun _ => M.ret (w, bW c.2.2.2.row)
theorem qg (N : Nat) : aC (Gj N) := ((aC.jU _).andThen fun _ => (aC.dn _).andThen fun _ => aC.bF _).andThen fun _ => (aC.dn _).andThen fun _ => (aC.jU _).andThen fun _ => (aC.dn _).andThen fun _ => (aC.req _).andThen fun _ => aC.ret _
structure RfF (g : G) (N : Nat) (w : RfA) (E : tE) : Prop where
 net : ∃ ob c s, g.H.get N = some (.cells ob 2 1 c) ∧ c.row 0 = [.slc s true w.l w.n, .bool true]
 l0 : w.l.i = 0 ∧ w.l.o = 0
 ne : N ≠ w.l.g
 n256 : w.n ≤ 256
 l : ∃ o c, g.H.get w.l.g = some (.cells o 8 w.n c) ∧ ∀ j, j < w.n → gy (c.row j) (bI (E j))
 v64 : ∀ j, j < w.n → (E j).v < 18446744073709551616
theorem ni {N : Nat} {y : RfA × (Nat → El)} {g g' : G} (h : Gj N g = .done y g') : ∃ q, Keep g g' q ∧ (q → RfF g N y.1 y.2) := by
 unfold Gj at h
 obtain ⟨w, g1, a1, h⟩ := au h
 unfold agA at a1
 obtain ⟨⟨ob, zb, mb, cb⟩, g2, b1, a1⟩ := au a1
 obtain ⟨t1, rfl⟩ := fK b1
 obtain ⟨_, g3, b2, a1⟩ := au a1
 obtain ⟨hq, rfl⟩ := aU b2
 obtain ⟨b3, rfl⟩ := aJ a1
 simp only [Bool.and_eq_true] at hq
 obtain rfl := Nat.eq_of_beq_eq_true hq.1
 obtain rfl := Nat.eq_of_beq_eq_true hq.2
 obtain ⟨s, e, f0⟩ := TI b3
 obtain ⟨_, g4, a2, h⟩ := au h
 obtain ⟨dd, rfl⟩ := aU a2
 obtain ⟨⟨o1, z1, k1, cl⟩, g5, a3, h⟩ := au h
 obtain ⟨hl, rfl⟩ := fK a3
 obtain ⟨_, g6, a4, h⟩ := au h
 obtain ⟨zz, rfl⟩ := aU a4
 obtain ⟨_, g7, a5, h⟩ := au h
 have kk := dR a5
 obtain ⟨rfl, rfl⟩ := aA h
 obtain rfl := Nat.eq_of_beq_eq_true zz
 refine ⟨_, kk, fun Q => ?_⟩
 dsimp only at Q hl ⊢
 have i1 := Q.aiD
 subst i1
 exact ⟨⟨ob, cb, s, t1, e⟩, f0, fun c => by simp [c] at dd, Q.n256, ⟨_, _, hl, Q.rl⟩, Q.v64⟩
noncomputable abbrev ZN (v0 : Nat) := (.cells false 2 1 (.fn fun _ => [sL 1 v0, .bool true]) : aF)
noncomputable def AO (n : Nat) (E : tE) : List (Nat × aF) := [(0, ZN n), (1, ZF n E)]
def H6 (N : Nat) (w : RfA) (i : Nat) : Nat := if i = 0 then N else w.l.g
theorem aaO {g : G} {N : Nat} {w : RfA} {E : tE} (F : RfF g N w E) : ∀ i b, (hpL (AO w.n E)).get i = some b → Sx.Told g (H6 N w) 2 i b := by
 intro i b hbb
 have hm' := bC hbb
 simp only [AO, List.mem_cons, List.not_mem_nil, or_false] at hm'
 rcases hm' with h | h <;> cases h
 ·obtain ⟨ob, c, s, hN, eN⟩ := F.net
  refine ⟨by omega, fun j hj v hv => List.all_eq_true.1 (show [sL 1 w.n, .bool true].all (fun v => v.low 2) = true from rfl) v hv, _, hN, fun N μ hp k => Wu k ?_, fun h => (by cases h), fun μ m hr => hr.elim .inl fun c => by cases c.1⟩
  rw [eN]
  exact ⟨AV.ge.hdr rfl F.l0.1 F.l0.2, rfl, AV.ge.refl _, rfl, trivial⟩
 ·obtain ⟨o, c, h, hr⟩ := F.l
  exact ⟨by omega, fun j hj v hv => List.all_eq_true.1 (jY 2 _) v hv, _, h, fun N μ hp k => Rl k hr, fun h => (by cases h), fun μ m hr => hr.elim .inl fun c => by cases c.1⟩
/-- a function that reads the document's net and makes blocks, from its walk in a small heap -/
theorem nK {f : FuncId} {fn : Func} {c : Code} (hf : Try.prog.funcs[f]? = some fn) (hb : fn.body = some c) (hname : (fn.name == "runtime.NumGoroutine") = false) {args dY : List AV} {g g' : G} {p : Prop} (hcs : g'.cs → g.cs ∧ p)
  {N : Nat} {w : RfA} {E : tE} (ff : p → RfF g N w E) {K' : Nat}
  (hA : p → ∀ M μ (cs : List Value), aI M μ args cs → aI 2 (μ.via (H6 N w)) dY cs)
  {bs : List aF} {nms : List Nat} (hl : nms.length = bs.length) (hnew : ∀ nm ∈ nms, 2 ≤ nm) (hnd : nms.Nodup)
  (hH : g'.H = oq g.H g.nx bs) (hnx : g'.nx = g.nx + bs.length)
  (hbs : ∀ b ∈ bs, b.owned = true ∧ (∀ K, b.kM K) ∧ ∀ S : Nat → Prop, b.ji S)
  {v : AV} (hv : v.low (g.nx + bs.length) = true) (hvS : v.ji fun i => g.nx ≤ i ∧ i < g.nx + bs.length)
  (h : p → aj Try.prog c fn.ntmps 2 2 K' (bJ dY 0 .e) (hpL (AO w.n E)) fun e fr' H' => (e = .ret ∨ e = .normal) ∧ ∃ vs gr, dA Try.prog fr' fn.results.toList ⟨H', K', [], [], True⟩ = .done vs gr ∧ gr.cs ∧ AV.ge (mG vs) (v.ren (fun i => nms.getD (i - g.nx) 0)) ∧
   ∀ j b, bs[j]? = some b → ∃ b0, H'.get (nms.getD j 0) = some b0 ∧ dN b0 (b.ren (fun i => nms.getD (i - g.nx) 0))) :
  bf Try.prog f args v g g' := by
 refine sJ (c := c) hf hb hname (dY := dY) (bl := AO w.n E) (iL := newL bs g.nx) (K0 := 2) (K' := K') (p := p) hcs (H6 N w) (fun i => nms.getD (i - g.nx) 0) (nms := nms) (by rw [hnx, hl]) (v := v) (fun i => g.nx ≤ i ∧ i < g.nx + bs.length) hA (fun hp => aaO (ff hp)) ?_ hnew hnd ?_ ?_ ?_ ?_ ?_ ?_ ?_
 ·intro hp i j b b' hi hj e
  have hm1 := bC hi
  have hm2 := bC hj
  simp only [AO, List.mem_cons, List.not_mem_nil, or_false] at hm1 hm2
  rcases hm1 with h | h <;> cases h <;> rcases hm2 with h | h <;> cases h <;> first | rfl | exact absurd e (ff hp).ne | exact absurd e.symm (ff hp).ne
 ·intro hp hL j hj
  show nms.getD (g.nx + j - g.nx) 0 = _
  rw [Nat.add_sub_cancel_left]
 ·intro hp hL i hi
  exact ⟨by omega, fun h => by omega⟩
 ·intro hp hL
  refine (h hp).mono fun e fr' H' ⟨e1, vs, gr, e2, e3, e4, e8⟩ => ⟨e1, vs, gr, e2, e3, e4, fun q hq => ?_⟩
  obtain ⟨j, b, hj, rfl⟩ := vK hq
  obtain ⟨b0, q1, q2⟩ := e8 j b hj
  exact ⟨b0, by show H'.get (nms.getD (g.nx + j - g.nx) 0) = _; rw [Nat.add_sub_cancel_left]; exact q1, q2⟩
 ·intro hp hL; rw [hnx]; exact hv
 ·intro hp hL; exact hvS
 ·intro hp hL q hq
  obtain ⟨j, b, hj, rfl⟩ := vK hq
  have hlt := (List.getElem?_eq_some_iff.1 hj).1
  obtain ⟨b1, b2, b3⟩ := hbs b (List.mem_of_getElem? hj)
  exact ⟨⟨by omega, by omega⟩, b3 _, b2 _, fun h => absurd h (by omega), fun _ => b1⟩
 ·intro hp hL i b hi
  rw [hH, pU] at hi
  split at hi
  ·rename_i hb
   refine .inr ?_
   have := JR (i := g.nx) hi
   rwa [show g.nx + (i - g.nx) = i by omega] at this
  ·refine .inl ⟨hi, fun j bj hj ho e => ?_⟩
   have hm' := bC hj
   simp only [AO, List.mem_cons, List.not_mem_nil, or_false] at hm'
   rcases hm' with h | h <;> cases h <;> cases ho


/-- a net's blocks in a small heap -/
noncomputable def qj (w : tV) (E : tE) : List (Nat × aF) := [(2, .cells false 7 1 (.fn fun _ => dO 6 7 8 w.n w.q w.r)), (3, .aW true (aB 0 (NM E w.n))), (4, .aW true (aB 0 (ND E w.n))), (5, .aW true (aB 0 (BR E w.n))), (6, .cells false 8 w.n (.fn fun j => bI (E j))), (7, .cells false 1 w.q (.fn (dh (aH (ND E w.n))))), (8, .cells false 1 w.r (.fn (dh (aH (BR E w.n)))))]
def roG (N : Nat) (w : tV) (rx : Nat → Nat) (i : Nat) : Nat := if i < 9 then tZ N w i else rx i
def J7 (w : tV) (nx : Nat) (nms : List Nat) (i : Nat) : Nat := if i = w.m1 then 3 else if i = w.m2 then 4 else if i = w.m3 then 5 else nms.getD (i - nx) 0
noncomputable def aeo (H : T aF) (w : tV) (E : tE) : T aF := ((H.upd w.m1 (some (aF.aW true (aB 0 (NM E w.n))))).upd w.m2 (some (aF.aW true (aB 0 (ND E w.n))))).upd w.m3 (some (aF.aW true (aB 0 (BR E w.n))))
theorem WH {N : Nat} {w : tV} {E : tE} {rx : Nat → Nat} : ∀ i b, (hpL (qj w E)).get i = some b → b.ren (roG N w rx) = b.ren (tZ N w) ∧ b.kM 9 := by
 intro i b hb
 have hm := bC hb
 simp only [qj, List.mem_cons, List.not_mem_nil, or_false] at hm
 rcases hm with h | h | h | h | h | h | h <;> cases h
 ·exact ⟨rfl, fun j hj v hv => List.all_eq_true.1 (show (dO 6 7 8 w.n w.q w.r).all (fun v => v.low 9) = true from rfl) v hv⟩
 ·exact ⟨rfl, trivial⟩
 ·exact ⟨rfl, trivial⟩
 ·exact ⟨rfl, trivial⟩
 ·exact ⟨rfl, fun j hj v hv => List.all_eq_true.1 (jY 9 _) v hv⟩
 ·exact ⟨rfl, fun j hj v hv => by rw [List.mem_singleton.1 hv]; rfl⟩
 ·exact ⟨rfl, fun j hj v hv => by rw [List.mem_singleton.1 hv]; rfl⟩
mutual
theorem acj {K K' : Nat} (hK : K ≤ K') : ∀ {v : AV}, v.low K = true → v.low K' = true
 | .top, _ => rfl
 | .bool _, _ => rfl
 | .aP _, _ => rfl
 | .int .., _ => rfl
 | .flt .., _ => rfl
 | .raw .., _ => rfl
 | .bits .., _ => rfl
 | .dD .., _ => rfl
 | .str .., _ => rfl
 | .bG, _ => rfl
 | .aX, _ => rfl
 | .zS, _ => rfl
 | .xu, _ => rfl
 | .C9, _ => rfl
 | .ptr a, h => by simp only [AV.low] at h ⊢; exact Nat.ble_eq_true_of_le (Nat.lt_of_lt_of_le (lV h) hK)
 | .slc _ _ a _, h => by simp only [AV.low] at h ⊢; exact Nat.ble_eq_true_of_le (Nat.lt_of_lt_of_le (lV h) hK)
 | .mp g, h => by simp only [AV.low] at h ⊢; exact Nat.ble_eq_true_of_le (Nat.lt_of_lt_of_le (lV h) hK)
 | .fn _ x c, h => by
  simp only [AV.low, Bool.and_eq_true] at h ⊢
  exact ⟨Fv hK h.1, Fv hK h.2⟩
 | .agg l, h => by simp only [AV.low] at h ⊢; exact Fv hK h
 | .iD l, h => by simp only [AV.low] at h ⊢; exact Fv hK h
theorem Fv {K K' : Nat} (hK : K ≤ K') : ∀ {l : List AV}, jw K l = true → jw K' l = true
 | [], _ => rfl
 | v :: l, h => by
  simp only [jw, Bool.and_eq_true] at h ⊢
  exact ⟨acj hK h.1, Fv hK h.2⟩
end
theorem aep (v : AV) {K K' : Nat} (h : v.low K = true) (hK : K ≤ K') : v.low K' = true := acj hK h
theorem aaP {b : aF} {K K' : Nat} (h : b.kM K) (hK : K ≤ K') : b.kM K' := by
 cases b with
 | cells own sz m c => exact fun i hi v hv => aep v (h i hi v hv) hK
 | _ => trivial
theorem Ro {P : Program} {f : FuncId} {fn : Func} {c : Code} (hf : P.funcs[f]? = some fn) (hb : fn.body = some c) (hname : (fn.name == "runtime.NumGoroutine") = false) {args dY : List AV} {g g' : G} {p : Prop} (hcs : g'.cs → g.cs ∧ p)
  {N : Nat} {w : tV} {E : tE} (ff : p → WG g N w E) {xl : tH} {rx : Nat → Nat} {K0 K' : Nat} (hK0 : 9 ≤ K0)
  (hA : p → ∀ M μ (cs : List Value), aI M μ args cs → aI K0 (μ.via (roG N w rx)) dY cs)
  (tx : p → ∀ i b, (hpL xl).get i = some b → 9 ≤ i ∧ Sx.Told g (roG N w rx) K0 i b ∧ b.owned = false)
  (ix : p → ∀ i j b b', (hpL xl).get i = some b → (hpL (qj w E ++ xl)).get j = some b' → roG N w rx i = roG N w rx j → i = j)
  {bs : List aF} {nms : List Nat} (hl : nms.length = bs.length) (hnew : ∀ nm ∈ nms, K0 ≤ nm) (hnd : nms.Nodup)
  (hH : g'.H = oq (aeo g.H w E) g.nx bs) (hnx : g'.nx = g.nx + bs.length)
  (hbs : ∀ b ∈ bs, b.owned = true ∧ (∀ K, b.kM K) ∧ ∀ S : Nat → Prop, b.ji S)
  {v : AV} (hv : v.low (g.nx + bs.length) = true) (hvS : v.ji fun i => g.nx ≤ i ∧ i < g.nx + bs.length)
  (h : p → (∀ j, j < nms.length → J7 w g.nx nms (g.nx + j) = nms.getD j 0) → aj P c fn.ntmps K0 K0 K' (bJ dY 0 .e) (hpL (qj w E ++ xl)) fun e fr' H' => (e = .ret ∨ e = .normal) ∧ ∃ vs gr, dA P fr' fn.results.toList ⟨H', K', [], [], True⟩ = .done vs gr ∧ gr.cs ∧ AV.ge (mG vs) (v.ren (J7 w g.nx nms)) ∧
   (H'.get 3 = some (.aW true (aB 0 (NM E w.n))) ∧ H'.get 4 = some (.aW true (aB 0 (ND E w.n))) ∧ H'.get 5 = some (.aW true (aB 0 (BR E w.n)))) ∧ ∀ j b, bs[j]? = some b → ∃ b0, H'.get (nms.getD j 0) = some b0 ∧ dN b0 (b.ren (J7 w g.nx nms))) :
  bf P f args v g g' := by
 have nb : ∀ i b, (hpL (qj w E)).get i = some b → 2 ≤ i ∧ i < 9 := fun i b hb => by
  have hm := bC hb
  simp only [qj, List.mem_cons, List.not_mem_nil, or_false] at hm
  rcases hm with h | h | h | h | h | h | h <;> cases h <;> omega
 have ro : ∀ i, i < 9 → roG N w rx i = tZ N w i := fun i hi => if_pos hi
 have split : p → ∀ i b, (hpL (qj w E ++ xl)).get i = some b → ((hpL (qj w E)).get i = some b ∧ i < 9) ∨ ((hpL xl).get i = some b ∧ 9 ≤ i) := fun hp i b hb => by
  rw [gY] at hb
  cases h1 : (hpL (qj w E)).get i with
  | some b1 => rw [h1] at hb; cases hb; exact .inl ⟨rfl, (nb _ _ h1).2⟩
  | none => rw [h1] at hb; exact .inr ⟨hb, (tx hp _ _ hb).1⟩
 refine sJ (c := c) hf hb hname (dY := dY) (bl := qj w E ++ xl) (iL := [(w.m1, .aW true (aB 0 (NM E w.n))), (w.m2, .aW true (aB 0 (ND E w.n))), (w.m3, .aW true (aB 0 (BR E w.n)))] ++ newL bs g.nx) (K0 := K0) (K' := K') (p := p) hcs (roG N w rx) (J7 w g.nx nms) (nms := nms) (by rw [hnx, hl]) (v := v) (fun i => i = w.m1 ∨ i = w.m2 ∨ i = w.m3 ∨ (g.nx ≤ i ∧ i < g.nx + bs.length)) (fun hp M μ cs hr => hA hp M μ cs hr) ?_ ?_ hnew hnd ?_ ?_ ?_ ?_ ?_ ?_ ?_
 ·intro hp i b hb
  rcases split hp i b hb with ⟨hb, hi⟩ | ⟨hb, hi⟩
  ·have t := Fq (ff hp) i b hb
   obtain ⟨b1, t1, t2, t3, t4⟩ := t.of
   refine ⟨by omega, ?_, b1, by rw [ro i hi]; exact t1, fun M μ hpp k => ?_, t3, t4⟩
   ·exact aaP t.low hK0
   ·rw [ro i hi] at k ⊢
    rw [(WH i b hb).1]
    exact t2 M μ hpp k
  ·exact (tx hp i b hb).2.1
 ·intro hp i j b b' hi hj e
  rcases split hp i b hi with ⟨hi', li⟩ | ⟨hi', li⟩
  ·rcases split hp j b' hj with ⟨hj', lj⟩ | ⟨hj', lj⟩
   ·rw [ro i li, ro j lj] at e
    exact JQ (ff hp) i j b b' hi' hj' e
   ·exact (ix hp j i b' b hj' hi e.symm).symm
  ·exact ix hp i j b b' hi' hj e
 ·-- κ at the new names
  intro hp hL j hj
  obtain ⟨⟨_, h1⟩, ⟨_, h2⟩, ⟨_, h3⟩⟩ := (⟨(ff hp).m1, (ff hp).m2, (ff hp).m3⟩ : _ ∧ _ ∧ _)
  have l1 := hL _ _ h1; have l2 := hL _ _ h2; have l3 := hL _ _ h3
  show J7 w g.nx nms (g.nx + j) = _
  unfold J7
  rw [if_neg (by omega), if_neg (by omega), if_neg (by omega), Nat.add_sub_cancel_left]
 ·intro hp hL i hi
  have d := (ff hp).dup
  simp only [List.nodup_cons, List.mem_cons, List.not_mem_nil, or_false, not_or, not_false_eq_true, List.nodup_nil, and_true] at d
  obtain ⟨⟨d1, d2, d3, d4, d5, d6⟩, ⟨d7, d8, d9, d10, d11⟩, ⟨d12, d13, d14, d15⟩, ⟨d16, d17, d18⟩, ⟨d19, d20⟩, d21⟩ := d
  obtain ⟨⟨_, h1⟩, ⟨_, h2⟩, ⟨_, h3⟩⟩ := (⟨(ff hp).m1, (ff hp).m2, (ff hp).m3⟩ : _ ∧ _ ∧ _)
  have l1 := hL _ _ h1; have l2 := hL _ _ h2; have l3 := hL _ _ h3
  have k1 : J7 w g.nx nms w.m1 = 3 := if_pos rfl
  have k2 : J7 w g.nx nms w.m2 = 4 := (if_neg (fun c => d7 c.symm)).trans (if_pos rfl)
  have k3 : J7 w g.nx nms w.m3 = 5 := (if_neg (fun c => d8 c.symm)).trans ((if_neg (fun c => d12 c.symm)).trans (if_pos rfl))
  rcases hi with rfl | rfl | rfl | ⟨h4, h5⟩
  ·exact ⟨by omega, fun _ => by rw [k1]; exact ⟨by omega, ro 3 (by omega)⟩⟩
  ·exact ⟨by omega, fun _ => by rw [k2]; exact ⟨by omega, ro 4 (by omega)⟩⟩
  ·exact ⟨by omega, fun _ => by rw [k3]; exact ⟨by omega, ro 5 (by omega)⟩⟩
  ·exact ⟨by omega, fun h => by omega⟩
 ·-- the walk
  intro hp hL
  have d := (ff hp).dup
  simp only [List.nodup_cons, List.mem_cons, List.not_mem_nil, or_false, not_or, not_false_eq_true, List.nodup_nil, and_true] at d
  obtain ⟨⟨d1, d2, d3, d4, d5, d6⟩, ⟨d7, d8, d9, d10, d11⟩, ⟨d12, d13, d14, d15⟩, ⟨d16, d17, d18⟩, ⟨d19, d20⟩, d21⟩ := d
  obtain ⟨⟨_, h1⟩, ⟨_, h2⟩, ⟨_, h3⟩⟩ := (⟨(ff hp).m1, (ff hp).m2, (ff hp).m3⟩ : _ ∧ _ ∧ _)
  have l1 := hL _ _ h1; have l2 := hL _ _ h2; have l3 := hL _ _ h3
  have k1 : J7 w g.nx nms w.m1 = 3 := if_pos rfl
  have k2 : J7 w g.nx nms w.m2 = 4 := (if_neg (fun c => d7 c.symm)).trans (if_pos rfl)
  have k3 : J7 w g.nx nms w.m3 = 5 := (if_neg (fun c => d8 c.symm)).trans ((if_neg (fun c => d12 c.symm)).trans (if_pos rfl))
  have kN : ∀ j, j < nms.length → J7 w g.nx nms (g.nx + j) = nms.getD j 0 := fun j hj => by
   unfold J7
   rw [if_neg (by omega), if_neg (by omega), if_neg (by omega), Nat.add_sub_cancel_left]
  refine (h hp kN).mono fun e fr' H' ⟨e1, vs, gr, e2, e3, e4, ⟨e5, e6, e7⟩, e8⟩ => ⟨e1, vs, gr, e2, e3, e4, fun q hq => ?_⟩
  rcases List.mem_append.1 hq with hq | hq
  ·simp only [List.mem_cons, List.not_mem_nil, or_false] at hq
   rcases hq with rfl | rfl | rfl
   ·exact ⟨_, by rw [k1]; exact e5, dN.refl _⟩
   ·exact ⟨_, by rw [k2]; exact e6, dN.refl _⟩
   ·exact ⟨_, by rw [k3]; exact e7, dN.refl _⟩
  ·obtain ⟨j, b, hj, rfl⟩ := vK hq
   obtain ⟨b0, q1, q2⟩ := e8 j b hj
   exact ⟨b0, by rw [kN j (by rw [hl]; exact (List.getElem?_eq_some_iff.1 hj).1)]; exact q1, q2⟩
 ·intro hp hL; rw [hnx]; exact hv
 ·intro hp hL
  exact AV.ji.mono (fun i hi => .inr (.inr (.inr hi))) hvS
 ·intro hp hL q hq
  have d := (ff hp).dup
  simp only [List.nodup_cons, List.mem_cons, List.not_mem_nil, or_false, not_or, not_false_eq_true, List.nodup_nil, and_true] at d
  obtain ⟨⟨d1, d2, d3, d4, d5, d6⟩, ⟨d7, d8, d9, d10, d11⟩, ⟨d12, d13, d14, d15⟩, ⟨d16, d17, d18⟩, ⟨d19, d20⟩, d21⟩ := d
  obtain ⟨⟨_, h1⟩, ⟨_, h2⟩, ⟨_, h3⟩⟩ := (⟨(ff hp).m1, (ff hp).m2, (ff hp).m3⟩ : _ ∧ _ ∧ _)
  have l1 := hL _ _ h1; have l2 := hL _ _ h2; have l3 := hL _ _ h3
  have k1 : J7 w g.nx nms w.m1 = 3 := if_pos rfl
  have k2 : J7 w g.nx nms w.m2 = 4 := (if_neg (fun c => d7 c.symm)).trans (if_pos rfl)
  have k3 : J7 w g.nx nms w.m3 = 5 := (if_neg (fun c => d8 c.symm)).trans ((if_neg (fun c => d12 c.symm)).trans (if_pos rfl))
  have nbl : ∀ i b, (hpL (qj w E)).get i = some b → (hpL (qj w E ++ xl)).get i = some b := fun i b hb => by rw [gY, hb]; rfl
  rcases List.mem_append.1 hq with hq | hq
  ·simp only [List.mem_cons, List.not_mem_nil, or_false] at hq
   rcases hq with rfl | rfl | rfl
   ·exact ⟨.inl rfl, trivial, trivial, fun _ => ⟨_, by rw [k1]; exact nbl 3 _ rfl, rfl, fun μ m h => h⟩, fun _ => rfl⟩
   ·exact ⟨.inr (.inl rfl), trivial, trivial, fun _ => ⟨_, by rw [k2]; exact nbl 4 _ rfl, rfl, fun μ m h => h⟩, fun _ => rfl⟩
   ·exact ⟨.inr (.inr (.inl rfl)), trivial, trivial, fun _ => ⟨_, by rw [k3]; exact nbl 5 _ rfl, rfl, fun μ m h => h⟩, fun _ => rfl⟩
  ·obtain ⟨j, b, hj, rfl⟩ := vK hq
   have hlt := (List.getElem?_eq_some_iff.1 hj).1
   obtain ⟨b1, b2, b3⟩ := hbs b (List.mem_of_getElem? hj)
   exact ⟨.inr (.inr (.inr ⟨by omega, by omega⟩)), b3 _, b2 _, fun h => absurd h (by omega), fun _ => b1⟩
 ·intro hp hL i b hi
  rw [hH, pU] at hi
  split at hi
  ·rename_i hb
   refine .inr (List.mem_append_right _ ?_)
   have := JR (i := g.nx) hi
   rwa [show g.nx + (i - g.nx) = i by omega] at this
  ·unfold aeo at hi
   rw [T.bP] at hi
   split at hi
   ·rename_i e; cases hi; subst e; exact .inr (by simp)
   rename_i n3
   rw [T.bP] at hi
   split at hi
   ·rename_i e; cases hi; subst e; exact .inr (by simp)
   rename_i n2
   rw [T.bP] at hi
   split at hi
   ·rename_i e; cases hi; subst e; exact .inr (by simp)
   rename_i n1
   refine .inl ⟨hi, fun j bj hj ho e => ?_⟩
   rcases split hp j bj hj with ⟨hj, lj⟩ | ⟨hj, lj⟩
   ·rw [ro j lj] at e
    have hm' := bC hj
    simp only [qj, List.mem_cons, List.not_mem_nil, or_false] at hm'
    rcases hm' with h | h | h | h | h | h | h <;> cases h
    ·cases ho
    ·exact n1 e.symm
    ·exact n2 e.symm
    ·exact n3 e.symm
    ·cases ho
    ·cases ho
    ·cases ho
   ·rw [(tx hp j bj hj).2.2] at ho; cases ho


def seen (l : List Tx) (x : Tx) : Nat → Bool
 | 0 => false
 | j + 1 => seen l x j || (aH l j == x)
theorem Fz {l : List Tx} {x : Tx} : ∀ {j : Nat}, seen l x j = true ↔ ∃ i, i < j ∧ aH l i = x
 | 0 => ⟨fun h => (by cases h), fun ⟨i, h, _⟩ => absurd h (Nat.not_lt_zero i)⟩
 | j + 1 => by
  unfold seen
  rw [Bool.or_eq_true, Fz (j := j), beq_iff_eq]
  constructor
  ·rintro (⟨i, h1, h2⟩ | h)
   ·exact ⟨i, by omega, h2⟩
   ·exact ⟨j, by omega, h⟩
  ·rintro ⟨i, h1, h2⟩
   by_cases e : i = j
   ·subst e; exact .inr h2
   ·exact .inl ⟨i, by omega, h2⟩
theorem MW {l : List Tx} {i : Nat} (h : i < l.length) : aH l i ∈ l := by
 unfold aH
 rw [List.getD_eq_getElem?_getD, List.getElem?_eq_getElem h]
 exact List.getElem_mem h
theorem WI (l : List Tx) (x : Tx) : seen l x l.length = (pos x l).isSome := by
 cases e : pos x l with
 | none =>
  have h := vF.1 e
  cases q : seen l x l.length with
  | false => rfl
  | true =>
   obtain ⟨i, h1, h2⟩ := Fz.1 q
   exact absurd (h2 ▸ MW h1) h
 | some i =>
  obtain ⟨h1, h2⟩ := tK e
  exact Fz.2 ⟨i, h1, h2⟩
theorem pos_at {s : Tx} : ∀ {l : List Tx} {j : Nat}, j < l.length → aH l j = s → (∀ i, i < j → aH l i ≠ s) → pos s l = some j
 | y :: l, 0, _, h, _ => by
  have e : y = s := h
  unfold pos
  rw [e, beq_self_eq_true, cond_true]
 | y :: l, j + 1, hj, h, ha => by
  have e : y ≠ s := ha 0 (by omega)
  have e2 : (s == y) = false := by simp [Ne.symm e]
  unfold pos
  rw [e2, cond_false, pos_at (j := j) (by simpa using hj) h fun i hi => ha (i + 1) (by omega)]
  rfl
theorem Pm {s : Tx} {l : List Tx} (h : ∀ i, i < l.length → aH l i ≠ s) : pos s l = none := by
 cases e : pos s l with
 | none => rfl
 | some i =>
  obtain ⟨h1, h2⟩ := tK e
  exact absurd h2 (h i h1)
noncomputable abbrev Zx (v0 : Nat) := (.cells false 2 1 (.fn fun x => [sL 1 v0, .bool true]) : aF)
noncomputable abbrev ZEi (v0 : Nat) (v1 : tE) := hpL [(0, ZN v0), (1, ZF v0 v1)]
noncomputable abbrev ZEs := bJ [ZA 0] 0 .e
theorem ndA (B : Nat) (hB : B ≤ 2) (n j : Nat) (E : tE) : aj Try.prog ((aT [0] (ak Try.f51))) Try.f51.ntmps B 2 2 ZEs (ZEi n E) (pP .normal [(0, ZA 0)] [(0, Zx n), (1, Zn n E)]) := jJ [] trivial hB
theorem ndB (B : Nat) (hB : B ≤ 2) (n j : Nat) (E : tE) : aj Try.prog ((aT [1,0] (ak Try.f51))) Try.f51.ntmps B 2 2 (aQ [(0, ZA 0)]) (ZEi n E) (pP .normal [(0, ZA 0), (3, .aX)] [(0, Zx n), (1, Zn n E)]) := jJ [] trivial hB
theorem ndC (B : Nat) (hB : B ≤ 3) (n j : Nat) (E : tE) (f : tX) (x0 : (n * 104 ≤ 140737488355328)) (x1 : (n ≤ 9223372036854775807)) : aj Try.prog ((aT [1,1,0] (ak Try.f51))) Try.f51.ntmps B 3 4 (aQ [(0, ZA 0), (3, sL 2 0)]) (hpL [(0, ZN n), (1, ZF n E), (2, Yi f 0)]) (pP .normal [(3, sL 2 0), (4, sL 3 n)] [(2, Yi f 0), (3, ZCe n E)]) := jJ [] (I2 (show 0 + n ≤ n by omega) (ai x0 x1)) hB
theorem ndD (B : Nat) (hB : B ≤ 4) (n j q : Nat) (E : tE) (f : tX) : aj Try.prog ((aT [1,1,1,0,0] (ak Try.f51))) Try.f51.ntmps B 4 4 (aQ [(3, sL 2 q), (4, sL 3 n)]) (hpL [(2, Ze q f), (3, ZD n E)]) (pP .normal [(3, sL 2 q), (4, sL 3 n), (5, ZC 0)] [(2, Ze q f), (3, Zg n E)]) := jJ [] trivial hB
theorem ndE (B : Nat) (hB : B ≤ 4) (n i j q : Nat) (E : tE) (f : tX) : aj Try.prog ((aT [1,1,1,0,1,0,0,0] (ak Try.f51))) Try.f51.ntmps B 4 4 (aQ [(3, sL 2 q), (4, sL 3 n), (5, iT (i : Int))]) (hpL [(2, Ze q f), (3, ZD n E)]) fun e fr' H' => (cond (decide ((↑i : Int) < (↑n : Int))) (pP .normal [(3, sL 2 q), (4, sL 3 n), (5, iT (↑i : Int))] [(2, Ze q f), (3, Zg n E)] e fr' H') (pP (.exit 0) [(3, sL 2 q), (4, sL 3 n), (5, iT (↑i : Int))] [(2, Ze q f), (3, Zg n E)] e fr' H')) := cD (fun q0 t0 => jJ [tT] (I1 t0) hB) (fun q0 t0 => jJ [fF] (I1 t0) hB)
theorem ndF (B : Nat) (hB : B ≤ 4) (n i j q : Nat) (E : tE) (f : tX) (x0 : ((↑i : Int) < (↑n : Int))) (x1 : (0 + i < n)) : aj Try.prog ((aT [1,1,1,0,1,0,0,1,0,0,0] (ak Try.f51))) Try.f51.ntmps B 4 5 (aQ [(3, sL 2 q), (4, sL 3 n), (5, iT (i : Int))]) (hpL [(2, Ze q f), (3, ZD n E)]) (pP .normal [(3, sL 2 q), (4, sL 3 n), (5, iT (↑i : Int)), (6, ZE7 4 4)] [(2, Ze q f), (3, Zg n E), (4, .cells true 1 4 (.lit [.str false []] (T.n (T.n (.n .e (some [.str true (El.d (E (0 + i)))]) T.e) (Option.some [.str true (El.b (E (0 + i)))]) T.e) (Option.some [.str true (El.a (E (0 + i)))]) (.n .e (some [.str true (El.c (E (0 + i)))]) .e))))]) := jJ [] (I8 (ai (show 0 ≤ (↑i : Int) by omega) x0) x1 (ai (show 0 ≤ (↑i : Int) by omega) x0) x1 (ai (show 0 ≤ (↑i : Int) by omega) x0) x1 (ai (show 0 ≤ (↑i : Int) by omega) x0) x1) hB
noncomputable abbrev Z4 (v0 : El) := (.cells true 1 4 (.fn fun j => [.str true (four v0 j)]) : aF)
noncomputable abbrev WJ (v0 : Nat) (v1 : tX) (v2 : Nat) (v3 : tE) (v4 : El) := ([(2, Ze v0 v1), (3, Zg v2 v3), (4, Z4 v4)] : tH)
noncomputable abbrev ZE2 (v0 : Nat) (v1 : tX) (v2 : Nat) (v3 : tE) (v4 : El) := hpL [(2, Ze v0 v1), (3, ZD v2 v3), (4, Z4 v4)]
theorem ndG (B : Nat) (hB : B ≤ 5) (n i j q : Nat) (E : tE) (z : El) (f : tX) : aj Try.prog ((aT [1,1,1,0,1,0,0,1,0,0,1,0] (ak Try.f51))) Try.f51.ntmps B 5 5 (aQ [(3, sL 2 q), (4, sL 3 n), (5, iT (i : Int)), (6, sL 4 4)]) (ZE2 q f n E z) (pP .normal [(3, sL 2 q), (4, sL 3 n), (5, iT (↑i : Int)), (6, sL 4 4), (7, ZC 0)] (WJ q f n E z)) := jJ [] trivial hB
noncomputable abbrev ZC9 (v0 v1 v2 v3 : Nat) := aQ [(3, sL 2 v0), (4, sL 3 v1), (5, iT (v2 : Int)), (6, sL 4 4), (7, iT (v3 : Int))]
theorem ndH (B : Nat) (hB : B ≤ 5) (n i k j q : Nat) (E : tE) (z : El) (f : tX) : aj Try.prog ((aT [1,1,1,0,1,0,0,1,0,0,1,1,0,0,0] (ak Try.f51))) Try.f51.ntmps B 5 5 (ZC9 q n i k) (ZE2 q f n E z) fun e fr' H' => (cond (decide ((↑k : Int) < 4)) (pP .normal [(3, sL 2 q), (4, sL 3 n), (5, iT (↑i : Int)), (6, sL 4 4), (7, iT (↑k : Int))] (WJ q f n E z) e fr' H') (pP (.exit 2) [(3, sL 2 q), (4, sL 3 n), (5, iT (↑i : Int)), (6, sL 4 4), (7, iT (↑k : Int))] (WJ q f n E z) e fr' H')) := cD (fun q0 t0 => jJ [tT] (I1 t0) hB) (fun q0 t0 => jJ [fF] (I1 t0) hB)
theorem ndI (B : Nat) (hB : B ≤ 5) (n i k j q : Nat) (E : tE) (z : El) (f : tX) (x0 : ((↑k : Int) < 4)) (x1 : (0 + k < 4)) : aj Try.prog ((aT [1,1,1,0,1,0,0,1,0,0,1,1,0,0,1,0,0,0] (ak Try.f51))) Try.f51.ntmps B 5 5 (ZC9 q n i k) (ZE2 q f n E z) fun e fr' H' => (cond (four z (0 + k) == []) (pP .normal [(3, sL 2 q), (4, sL 3 n), (5, iT (↑i : Int)), (6, sL 4 4), (7, iT (↑k : Int)), (8, .bool true)] (WJ q f n E z) e fr' H') (pP .normal [(3, sL 2 q), (4, sL 3 n), (5, iT (↑i : Int)), (6, sL 4 4), (7, iT (↑k : Int)), (8, .aP (four z (0 + k) == [(48 : UInt8)]))] (WJ q f n E z) e fr' H')) := cI (fun t0 => jJ [tT] (I3 (ai (show 0 ≤ (↑k : Int) by omega) x0) x1 t0) hB) (fun t0 => jJ [fF] (I5 (ai (show 0 ≤ (↑k : Int) by omega) x0) x1 t0 (ai (show 0 ≤ (↑k : Int) by omega) x0) x1) hB)
theorem ndQ (B : Nat) (hB : B ≤ 5) (n i k j q : Nat) (E : tE) (z : El) (f : tX) (t : Bool) : aj Try.prog ((aT [1,1,1,0,1,0,0,1,0,0,1,1,0,0,1,0,0,1,0,0] (ak Try.f51))) Try.f51.ntmps B 5 5 (aQ [(3, sL 2 q), (4, sL 3 n), (5, iT (i : Int)), (6, sL 4 4), (7, iT (k : Int)), (8, .aP t)]) (ZE2 q f n E z) (pP .normal [(3, sL 2 q), (4, sL 3 n), (5, iT (↑i : Int)), (6, sL 4 4), (7, iT (↑k : Int)), (8, .aP t), (9, ZC 0)] (WJ q f n E z)) := jJ [] trivial hB
theorem ndJ (B : Nat) (hB : B ≤ 5) (n i k j q : Nat) (E : tE) (z : El) (f : tX) (t : Bool) (x0 : ((decide ((↑j : Int) < (↑q : Int))) = true → ((↑j : Int) + 1 ≤ (9223372036854775807 : Int)))) (x1 : ((decide ((↑j : Int) < (↑q : Int))) = true → ((t) = false → ((↑k : Int) < 4)))) (x2 : ((decide ((↑j : Int) < (↑q : Int))) = true → ((t) = false → (0 + k < 4)))) : aj Try.prog ((aT [1,1,1,0,1,0,0,1,0,0,1,1,0,0,1,0,0,1,0,1,0,0] (ak Try.f51))) Try.f51.ntmps B 5 5 (aQ [(3, sL 2 q), (4, sL 3 n), (5, iT (i : Int)), (6, sL 4 4), (7, iT (k : Int)), (8, .aP t), (9, iT (j : Int))]) (ZE2 q f n E z) fun e fr' H' => (cond (decide ((↑j : Int) < (↑q : Int))) (cond (t) (pP .normal [(3, sL 2 q), (4, sL 3 n), (5, iT (↑i : Int)), (6, sL 4 4), (7, iT (↑k : Int)), (8, .bool true), (9, Ap j)] (WJ q f n E z) e fr' H') (pP .normal [(3, sL 2 q), (4, sL 3 n), (5, iT (↑i : Int)), (6, sL 4 4), (7, iT (↑k : Int)), (8, .aP (f (0 + j) == four z (0 + k))), (9, Ap j)] (WJ q f n E z) e fr' H')) (pP (.exit 4) [(3, sL 2 q), (4, sL 3 n), (5, iT (↑i : Int)), (6, sL 4 4), (7, iT (↑k : Int)), (8, .aP t), (9, iT (↑j : Int))] (WJ q f n E z) e fr' H')) := cD (fun q0 t0 => cI (fun t1 => jJ [tT, tT] (I3 t0 t1 (ai (show -9223372036854775808 ≤ (↑j : Int) + 1 by omega) (x0 t0))) hB) (fun t1 => jJ [tT, fF] (I7 t0 t1 (ai (show 0 ≤ (↑j : Int) by omega) (show (↑j : Int) < (↑q : Int) by omega)) (show 0 + j < q by omega) (ai (show 0 ≤ (↑k : Int) by omega) (x1 t0 t1)) (x2 t0 t1) (ai (show -9223372036854775808 ≤ (↑j : Int) + 1 by omega) (x0 t0))) hB)) (fun q0 t0 => jJ [fF] (I1 t0) hB)
theorem ndK (B : Nat) (hB : B ≤ 5) (n i k j q : Nat) (E : tE) (z : El) (f : tX) (t : Bool) (x0 : ((t) = false → ((↑k : Int) < 4))) (x1 : ((t) = false → (0 + k < 4))) (x2 : ((t) = false → ((q + 1) * 16 ≤ 140737488355328))) (x3 : ((t) = false → (q + 1 ≤ 9223372036854775807))) : aj Try.prog ((aT [1,1,1,0,1,0,0,1,0,0,1,1,0,0,1,0,0,1,1] (ak Try.f51))) Try.f51.ntmps B 5 7 (aQ [(3, sL 2 q), (4, sL 3 n), (5, iT (i : Int)), (6, sL 4 4), (7, iT (k : Int)), (8, .aP t)]) (ZE2 q f n E z) fun e fr' H' => (cond (t) (pP .normal [(3, sL 2 q), (4, sL 3 n), (5, iT (↑i : Int)), (6, sL 4 4), (7, iT (↑k : Int))] (WJ q f n E z) e fr' H') (pP .normal [(3, sL 6 (q + 1)), (4, sL 3 n), (5, iT (↑i : Int)), (6, sL 4 4), (7, iT (↑k : Int))] [(3, Zg n E), (4, Z4 z), (5, .cells true 1 1 (.lit [.str false []] (.n .e (some [.str true (four z (0 + k))]) .e))), (6, .cells true 1 (q + 1) (.fn fun j => bif decide (j < q) then (dh f j) else [.str true (four z (0 + k))]))] e fr' H')) := cI (fun t0 => jJ [fF] (I1 (nt t0)) hB) (fun t0 => jJ [tT] (I4 (nf t0) (ai (show 0 ≤ (↑k : Int) by omega) (x0 t0)) (x1 t0) (ai (show q ≤ q by omega) (ai (x2 t0) (x3 t0)))) hB)
theorem ndL (B : Nat) (hB : B ≤ 5) (n i k j q : Nat) (E : tE) (z : El) (f : tX) (x0 : ((↑k : Int) + 1 ≤ (9223372036854775807 : Int))) : aj Try.prog ((aT [1,1,1,0,1,0,0,1,0,0,1,1,0,0,1,1] (ak Try.f51))) Try.f51.ntmps B 5 5 (ZC9 q n i k) (ZE2 q f n E z) (pP .normal [(3, sL 2 q), (4, sL 3 n), (5, iT (↑i : Int)), (6, sL 4 4), (7, Ap k)] (WJ q f n E z)) := jJ [] (I1 (ai (show -9223372036854775808 ≤ (↑k : Int) + 1 by omega) x0)) hB
theorem ndM (B : Nat) (hB : B ≤ 4) (n i j q : Nat) (E : tE) (f : tX) (x0 : ((↑i : Int) + 1 ≤ (9223372036854775807 : Int))) : aj Try.prog ((aT [1,1,1,0,1,0,0,1,1] (ak Try.f51))) Try.f51.ntmps B 4 4 (aQ [(3, sL 2 q), (4, sL 3 n), (5, iT (i : Int))]) (hpL [(2, Ze q f), (3, ZD n E)]) (pP .normal [(3, sL 2 q), (4, sL 3 n), (5, Ap i)] [(2, Ze q f), (3, Zg n E)]) := jJ [] (I1 (ai (show -9223372036854775808 ≤ (↑i : Int) + 1 by omega) x0)) hB
theorem ndN (B : Nat) (hB : B ≤ 4) (q : Nat) (f : tX) : aj Try.prog ((aT [1,1,1,1] (ak Try.f51))) Try.f51.ntmps B 4 4 (aQ [(3, sL 2 q)]) (hpL [(2, Ze q f)]) (pP .ret [(2, sL 2 q)] [(2, Ze q f)]) := jJ [] trivial hB
theorem brA (B : Nat) (hB : B ≤ 2) (n j : Nat) (E : tE) : aj Try.prog ((aT [0] (ak Try.f76))) Try.f76.ntmps B 2 2 ZEs (ZEi n E) (pP .normal [(0, ZA 0)] [(0, Zx n), (1, Zn n E)]) := jJ [] trivial hB
theorem brB (B : Nat) (hB : B ≤ 2) (n j : Nat) (E : tE) : aj Try.prog ((aT [1,0] (ak Try.f76))) Try.f76.ntmps B 2 2 (aQ [(0, ZA 0)]) (ZEi n E) (pP .normal [(0, ZA 0), (3, .aX)] [(0, Zx n), (1, Zn n E)]) := jJ [] trivial hB
theorem brC (B : Nat) (hB : B ≤ 3) (n j : Nat) (E : tE) (f : tX) (x0 : (n * 104 ≤ 140737488355328)) (x1 : (n ≤ 9223372036854775807)) : aj Try.prog ((aT [1,1,0] (ak Try.f76))) Try.f76.ntmps B 3 4 (aQ [(0, ZA 0), (3, sL 2 0)]) (hpL [(0, ZN n), (1, ZF n E), (2, Yi f 0)]) (pP .normal [(3, sL 2 0), (4, sL 3 n)] [(2, Yi f 0), (3, ZCe n E)]) := jJ [] (I2 (show 0 + n ≤ n by omega) (ai x0 x1)) hB
theorem brD (B : Nat) (hB : B ≤ 4) (n j q : Nat) (E : tE) (f : tX) : aj Try.prog ((aT [1,1,1,0,0] (ak Try.f76))) Try.f76.ntmps B 4 4 (aQ [(3, sL 2 q), (4, sL 3 n)]) (hpL [(2, Ze q f), (3, ZD n E)]) (pP .normal [(3, sL 2 q), (4, sL 3 n), (5, ZC 0)] [(2, Ze q f), (3, Zg n E)]) := jJ [] trivial hB
noncomputable abbrev ZEp (v0 : Nat) (v1 : tE) (v2 v3 : Nat) (v4 : tX) := ([(3, Zg v0 v1), (4, .cells true 1 1 (.lit [.str false []] (.n .e (some [.str true (El.n (v1 (0 + v2)))]) .e))), (5, .cells true 1 (v3 + 1) (.fn fun j => bif decide (j < v3) then (dh v4 j) else [.str true (El.n (v1 (0 + v2)))]))] : tH)
theorem brL (B : Nat) (hB : B ≤ 4) (n i j q : Nat) (E : tE) (f : tX) (x0 : ((decide ((↑i : Int) < (↑n : Int))) = true → ((q + 1) * 16 ≤ 140737488355328))) (x1 : ((decide ((↑i : Int) < (↑n : Int))) = true → (q + 1 ≤ 9223372036854775807))) (x2 : ((decide ((↑i : Int) < (↑n : Int))) = true → ((↑i : Int) + 1 ≤ (9223372036854775807 : Int)))) : aj Try.prog ((aT [1,1,1,0,1,0,0] (ak Try.f76))) Try.f76.ntmps B 4 6 (aQ [(3, sL 2 q), (4, sL 3 n), (5, iT (i : Int))]) (hpL [(2, Ze q f), (3, ZD n E)]) fun e fr' H' => (cond (decide ((↑i : Int) < (↑n : Int))) (cond (decide (El.k (E (0 + i)) = (5 : Int))) (pP .normal [(3, sL 5 (q + 1)), (4, sL 3 n), (5, Ap i)] (ZEp n E i q f) e fr' H') (cond (decide (El.k (E (0 + i)) = (7 : Int))) (pP .normal [(3, sL 5 (q + 1)), (4, sL 3 n), (5, Ap i)] (ZEp n E i q f) e fr' H') (pP .normal [(3, sL 2 q), (4, sL 3 n), (5, Ap i)] [(2, Ze q f), (3, Zg n E)] e fr' H'))) (pP (.exit 0) [(3, sL 2 q), (4, sL 3 n), (5, iT (↑i : Int))] [(2, Ze q f), (3, Zg n E)] e fr' H')) := cD (fun q0 t0 => cD (fun q1 t1 => jJ [tT, tT] (I8 t0 (ai (show 0 ≤ (↑i : Int) by omega) (show (↑i : Int) < (↑n : Int) by omega)) (show 0 + i < n by omega) t1 (ai (show 0 ≤ (↑i : Int) by omega) (show (↑i : Int) < (↑n : Int) by omega)) (show 0 + i < n by omega) (ai (show q ≤ q by omega) (ai (x0 t0) (x1 t0))) (ai (show -9223372036854775808 ≤ (↑i : Int) + 1 by omega) (x2 t0))) hB) (fun q1 t1 => cD (fun q2 t2 => jJ [tT, fF, tT] (I11 t0 (ai (show 0 ≤ (↑i : Int) by omega) (show (↑i : Int) < (↑n : Int) by omega)) (show 0 + i < n by omega) t1 (ai (show 0 ≤ (↑i : Int) by omega) (show (↑i : Int) < (↑n : Int) by omega)) (show 0 + i < n by omega) t2 (ai (show 0 ≤ (↑i : Int) by omega) (show (↑i : Int) < (↑n : Int) by omega)) (show 0 + i < n by omega) (ai (show q ≤ q by omega) (ai (x0 t0) (x1 t0))) (ai (show -9223372036854775808 ≤ (↑i : Int) + 1 by omega) (x2 t0))) hB) (fun q2 t2 => jJ [tT, fF, fF] (I8 t0 (ai (show 0 ≤ (↑i : Int) by omega) (show (↑i : Int) < (↑n : Int) by omega)) (show 0 + i < n by omega) t1 (ai (show 0 ≤ (↑i : Int) by omega) (show (↑i : Int) < (↑n : Int) by omega)) (show 0 + i < n by omega) t2 (ai (show -9223372036854775808 ≤ (↑i : Int) + 1 by omega) (x2 t0))) hB))) (fun q0 t0 => jJ [fF] (I1 t0) hB)
theorem brN (B : Nat) (hB : B ≤ 4) (q : Nat) (f : tX) : aj Try.prog ((aT [1,1,1,1] (ak Try.f76))) Try.f76.ntmps B 4 4 (aQ [(3, sL 2 q)]) (hpL [(2, Ze q f)]) (pP .ret [(2, sL 2 q)] [(2, Ze q f)]) := jJ [] trivial hB
theorem plA (B : Nat) (hB : B ≤ 1) (q : Nat) (f : tX) (s : Tx) : aj Try.prog ((aT [0] (ak Try.f78))) Try.f78.ntmps B 1 1 (bJ [gU 0 q, .str true s] 0 .e) (hpL [(0, yA q f)]) (pP .normal [(0, ZG q), (1, .str true s)] [(0, yA q f)]) := jJ [] trivial hB
theorem plB (B : Nat) (hB : B ≤ 1) (q : Nat) (f : tX) (s : Tx) : aj Try.prog ((aT [1,0,0] (ak Try.f78))) Try.f78.ntmps B 1 1 (aQ [(0, gU 0 q), (1, .str true s)]) (hpL [(0, yA q f)]) (pP .normal [(0, ZG q), (1, .str true s), (6, ZC 0)] [(0, yA q f)]) := jJ [] trivial hB
theorem plL (B : Nat) (hB : B ≤ 1) (j q : Nat) (f : tX) (s : Tx) (x0 : ((decide ((↑j : Int) < (↑q : Int))) = true → ((f (0 + j) == s) = false → ((↑j : Int) + 1 ≤ (9223372036854775807 : Int))))) : aj Try.prog ((aT [1,0,1,0,0] (ak Try.f78))) Try.f78.ntmps B 1 1 (aQ [(0, gU 0 q), (1, .str true s), (6, iT (j : Int))]) (hpL [(0, yA q f)]) fun e fr' H' => (cond (decide ((↑j : Int) < (↑q : Int))) (cond (f (0 + j) == s) (pP .ret [(0, ZG q), (1, .str true s), (4, iT (↑j : Int)), (5, .bool true), (6, iT (↑j : Int))] [(0, yA q f)] e fr' H') (pP .normal [(0, ZG q), (1, .str true s), (6, Ap j)] [(0, yA q f)] e fr' H')) (pP (.exit 0) [(0, ZG q), (1, .str true s), (6, iT (↑j : Int))] [(0, yA q f)] e fr' H')) := cD (fun q0 t0 => cI (fun t1 => jJ [tT, tT] (I4 t0 (ai (show 0 ≤ (↑j : Int) by omega) (show (↑j : Int) < (↑q : Int) by omega)) (show 0 + j < q by omega) t1) hB) (fun t1 => jJ [tT, fF] (I5 t0 (ai (show 0 ≤ (↑j : Int) by omega) (show (↑j : Int) < (↑q : Int) by omega)) (show 0 + j < q by omega) t1 (ai (show -9223372036854775808 ≤ (↑j : Int) + 1 by omega) (x0 t0 t1))) hB)) (fun q0 t0 => jJ [fF] (I1 t0) hB)
theorem plN (B : Nat) (hB : B ≤ 1) (q : Nat) (f : tX) (s : Tx) : aj Try.prog ((aT [1,1] (ak Try.f78))) Try.f78.ntmps B 1 1 (aQ [(0, gU 0 q), (1, .str true s)]) (hpL [(0, yA q f)]) (pP .ret [(4, ZC 0), (5, .bool false)] [(0, yA q f)]) := jJ [] trivial hB
theorem WL (E : tE) (n i k : Nat) (hi : i < n) (hn : n ≤ 256) (hk : k ≤ 4) : (dP (ND E i) (E i) k).length ≤ 1028 := by
 have h1 := Jz E i
 have h2 := CO (ND E i) (E i) k
 omega
theorem aes (l : List Tx) (x : Tx) : addN l x = bif (x == [] || x == [48]) || seen l x l.length then l else l ++ [x] := by
 unfold addN
 rw [WI]
 cases (pos x l).isSome <;> cases (x == []) <;> cases (x == [48]) <;> rfl
noncomputable abbrev Zu (v0 : tE) (v1 : Nat) := (.cells true 1 4 (.fn fun j => [.str true (four (v0 v1) j)]) : aF)
noncomputable abbrev Z0 (v0 : tE) (v1 v2 : Nat) := (.cells true 1 (dP (ND v0 v1) (v0 v1) v2).length (.fn (dh (aH (dP (ND v0 v1) (v0 v1) v2)))) : aF)
noncomputable abbrev WM (v0 : Nat) := iT (((v0 + 1) : Nat) : Int)
noncomputable abbrev Rq (v0 : tE) (v1 v2 : Nat) := sL 2 (dP (ND v0 v1) (v0 v1) v2).length
noncomputable abbrev Rt (v0 : tE) (v1 v2 v3 : Nat) := ([(2, Z0 v0 v1 v2), (3, ZD v3 v0), (4, Zu v0 v1)] : tH)
theorem aiH (n i k : Nat) (E : tE) (hi : i < n) (hn : n ≤ 256) (hk : k < 4) (j : Nat) (hj : j < (dP (ND E i) (E i) k).length) :
  aj Try.prog (aT [1,1,1,0,1,0,0,1,0,0,1,1,0,0,1,0,0,1,0,1,0,0] (ak Try.f51)) Try.f51.ntmps 2 5 5 (aQ [(3, Rq E i k), (4, sL 3 n), (5, ZS i), (6, sL 4 4), (7, ZS k), (8, .aP (((four (E i) k) == [] || (four (E i) k) == [48]) || seen (dP (ND E i) (E i) k) (four (E i) k) j)), (9, ZS j)]) (hpL (Rt E i k n)) (Nm [(3, Rq E i k), (4, sL 3 n), (5, ZS i), (6, sL 4 4), (7, ZS k), (8, .aP (((four (E i) k) == [] || (four (E i) k) == [48]) || seen (dP (ND E i) (E i) k) (four (E i) k) (j + 1))), (9, WM j)] (Rt E i k n)) := by
 have hl := WL E n i k hi hn (by omega)
 refine (ndJ 2 (by omega) n i k j (dP (ND E i) (E i) k).length E (E i) (aH (dP (ND E i) (E i) k)) (((four (E i) k) == [] || (four (E i) k) == [48]) || seen (dP (ND E i) (E i) k) (four (E i) k) j) (fun _ => by omega) (fun _ _ => by omega) (fun _ _ => by omega)).post fun e fr' H' h => ?_
 rw [decide_eq_true (by omega), cond_true] at h
 refine bD h (fun t h => ?_) (fun t h => ?_)
 ·obtain ⟨rfl, rfl, rfl⟩ := h
  exact ⟨[(3, Rq E i k), (4, sL 3 n), (5, ZS i), (6, sL 4 4), (7, ZS k), (8, .aP (((four (E i) k) == [] || (four (E i) k) == [48]) || seen (dP (ND E i) (E i) k) (four (E i) k) (j + 1))), (9, WM j)], (Rt E i k n), ⟨re rfl, re rfl, re rfl, re rfl, re rfl, ⟨_, rfl, AV.ge.bool' (by show true = (_ || (seen _ _ j || _)); rw [← Bool.or_assoc, t]; rfl)⟩, ⟨_, rfl, AV.ge.int' _ _ _ (by omega)⟩, trivial⟩, (fG rfl), rfl, rfl, rfl⟩
 ·obtain ⟨rfl, rfl, rfl⟩ := h
  exact ⟨[(3, Rq E i k), (4, sL 3 n), (5, ZS i), (6, sL 4 4), (7, ZS k), (8, .aP (((four (E i) k) == [] || (four (E i) k) == [48]) || seen (dP (ND E i) (E i) k) (four (E i) k) (j + 1))), (9, WM j)], (Rt E i k n), ⟨re rfl, re rfl, re rfl, re rfl, re rfl, ⟨_, rfl, AV.ge.ou (by show _ = (_ || (seen _ _ j || (aH _ j == _))); rw [← Bool.or_assoc, t, Bool.false_or, Nat.zero_add, Nat.zero_add])⟩, ⟨_, rfl, AV.ge.int' _ _ _ (by omega)⟩, trivial⟩, (fG rfl), rfl, rfl, rfl⟩
theorem agB (n i k : Nat) (E : tE) (hi : i < n) (hn : n ≤ 256) (hk : k < 4) :
  aj Try.prog (aT [1,1,1,0,1,0,0,1,0,0,1,1,0,0] (ak Try.f51)) Try.f51.ntmps 2 5 5 (aQ [(3, Rq E i k), (4, sL 3 n), (5, ZS i), (6, sL 4 4), (7, ZS k)]) (hpL (Rt E i k n)) (Nm [(3, sL 2 (dP (ND E i) (E i) (k + 1)).length), (4, sL 3 n), (5, ZS i), (6, sL 4 4), (7, WM k)] [(2, .cells true 1 (dP (ND E i) (E i) (k + 1)).length (.fn (dh (aH (dP (ND E i) (E i) (k + 1)))))), (3, ZD n E), (4, Zu E i)]) := by
 have hl := WL E n i k hi hn (by omega)
 rw [show (aT [1,1,1,0,1,0,0,1,0,0,1,1,0,0] (ak Try.f51)) = .seq (aT [1,1,1,0,1,0,0,1,0,0,1,1,0,0,0] (ak Try.f51)) (.seq (.block 3 (.seq (aT [1,1,1,0,1,0,0,1,0,0,1,1,0,0,1,0,0,0] (ak Try.f51)) (.seq (.seq (aT [1,1,1,0,1,0,0,1,0,0,1,1,0,0,1,0,0,1,0,0] (ak Try.f51)) (.block 4 (.loop (aT [1,1,1,0,1,0,0,1,0,0,1,1,0,0,1,0,0,1,0,1,0,0] (ak Try.f51))))) (aT [1,1,1,0,1,0,0,1,0,0,1,1,0,0,1,0,0,1,1] (ak Try.f51))))) (aT [1,1,1,0,1,0,0,1,0,0,1,1,0,0,1,1] (ak Try.f51))) by kernel_rfl]
 refine aj.aV (K1 := 5) (F1 := [(3, Rq E i k), (4, sL 3 n), (5, ZS i), (6, sL 4 4), (7, ZS k)]) (H1 := (Rt E i k n)) (aj.toN ((ndH 2 (by omega) n i k 0 (dP (ND E i) (E i) k).length E (E i) (aH (dP (ND E i) (E i) k))).mono fun e fr' H' h => by rw [decide_eq_true (by omega), cond_true] at h; exact h) (dJ rfl) (fG rfl)) (by omega) ?_
 refine aj.aV (K1 := 5) (F1 := [(3, sL 2 (dP (ND E i) (E i) (k + 1)).length), (4, sL 3 n), (5, ZS i), (6, sL 4 4), (7, ZS k)]) (H1 := [(2, .cells true 1 (dP (ND E i) (E i) (k + 1)).length (.fn (dh (aH (dP (ND E i) (E i) (k + 1)))))), (3, ZD n E), (4, Zu E i)]) (aj.jQ ?_) (by omega) (aj.toN (ndL 2 (by omega) n i k 0 (dP (ND E i) (E i) (k + 1)).length E (E i) (aH (dP (ND E i) (E i) (k + 1))) (by omega)) ⟨re rfl, re rfl, re rfl, re rfl, ⟨_, rfl, AV.ge.int' _ _ _ (by omega)⟩, trivial⟩ (fG rfl))
 refine aj.aV (K1 := 5) (F1 := [(3, Rq E i k), (4, sL 3 n), (5, ZS i), (6, sL 4 4), (7, ZS k), (8, .aP (((four (E i) k) == [] || (four (E i) k) == [48])))]) (H1 := (Rt E i k n)) ((ndI 2 (by omega) n i k 0 (dP (ND E i) (E i) k).length E (E i) (aH (dP (ND E i) (E i) k)) (by omega) (by omega)).post fun e fr' H' h => ?_) (by omega) ?_
 ·refine bD h (fun t h => ?_) (fun t h => ?_)
  ·obtain ⟨rfl, rfl, rfl⟩ := h
   exact ⟨[(3, Rq E i k), (4, sL 3 n), (5, ZS i), (6, sL 4 4), (7, ZS k), (8, .aP (((four (E i) k) == [] || (four (E i) k) == [48])))], (Rt E i k n), ⟨re rfl, re rfl, re rfl, re rfl, re rfl, ⟨_, rfl, AV.ge.bool' (by rw [Nat.zero_add] at t; rw [t]; rfl)⟩, trivial⟩, (fG rfl), rfl, rfl, rfl⟩
  ·obtain ⟨rfl, rfl, rfl⟩ := h
   exact ⟨[(3, Rq E i k), (4, sL 3 n), (5, ZS i), (6, sL 4 4), (7, ZS k), (8, .aP (((four (E i) k) == [] || (four (E i) k) == [48])))], (Rt E i k n), ⟨re rfl, re rfl, re rfl, re rfl, re rfl, ⟨_, rfl, AV.ge.ou (by rw [Nat.zero_add] at t ⊢; rw [t, Bool.false_or])⟩, trivial⟩, (fG rfl), rfl, rfl, rfl⟩
 refine aj.aV (K1 := 5) (F1 := [(3, Rq E i k), (4, sL 3 n), (5, ZS i), (6, sL 4 4), (7, ZS k), (8, .aP (((four (E i) k) == [] || (four (E i) k) == [48]) || seen (dP (ND E i) (E i) k) (four (E i) k) (dP (ND E i) (E i) k).length))]) (H1 := (Rt E i k n)) ?_ (by omega) ?_
 ·refine aj.aV (K1 := 5) (F1 := [(3, Rq E i k), (4, sL 3 n), (5, ZS i), (6, sL 4 4), (7, ZS k), (8, .aP (((four (E i) k) == [] || (four (E i) k) == [48]) || seen (dP (ND E i) (E i) k) (four (E i) k) 0)), (9, Zc 0)]) (H1 := (Rt E i k n)) (aj.toN (ndQ 2 (by omega) n i k 0 (dP (ND E i) (E i) k).length E (E i) (aH (dP (ND E i) (E i) k)) ((four (E i) k) == [] || (four (E i) k) == [48])) ⟨re rfl, re rfl, re rfl, re rfl, re rfl, ⟨_, rfl, AV.ge.ou (Bool.or_false _).symm⟩, ⟨_, rfl, AV.ge.int _ _ _ _⟩, trivial⟩ (fG rfl)) (by omega) ?_
  refine aj.rounds (dP (ND E i) (E i) k).length (fun j => [(3, Rq E i k), (4, sL 3 n), (5, ZS i), (6, sL 4 4), (7, ZS k), (8, .aP (((four (E i) k) == [] || (four (E i) k) == [48]) || seen (dP (ND E i) (E i) k) (four (E i) k) j)), (9, iT ((j : Nat) : Int))]) (fun _ => (Rt E i k n)) (fun j hj => aiH n i k E hi hn hk j hj) ?_
  refine (ndJ 2 (by omega) n i k (dP (ND E i) (E i) k).length (dP (ND E i) (E i) k).length E (E i) (aH (dP (ND E i) (E i) k)) (((four (E i) k) == [] || (four (E i) k) == [48]) || seen (dP (ND E i) (E i) k) (four (E i) k) (dP (ND E i) (E i) k).length) (fun h => absurd (of_decide_eq_true h) (by omega)) (fun h => absurd (of_decide_eq_true h) (by omega)) (fun h => absurd (of_decide_eq_true h) (by omega))).post fun e fr' H' h => ?_
  rw [decide_eq_false (by omega), cond_false] at h
  obtain ⟨rfl, rfl, rfl⟩ := h
  exact ⟨[(3, Rq E i k), (4, sL 3 n), (5, ZS i), (6, sL 4 4), (7, ZS k), (8, .aP (((four (E i) k) == [] || (four (E i) k) == [48]) || seen (dP (ND E i) (E i) k) (four (E i) k) (dP (ND E i) (E i) k).length))], (Rt E i k n), (dJ rfl), (fG rfl), rfl, rfl, rfl⟩
 have e1 : (dP (ND E i) (E i) (k + 1)) = addN (dP (ND E i) (E i) k) (four (E i) k) := rfl
 have e2 := aes (dP (ND E i) (E i) k) (four (E i) k)
 refine (ndK 2 (by omega) n i k 0 (dP (ND E i) (E i) k).length E (E i) (aH (dP (ND E i) (E i) k)) (((four (E i) k) == [] || (four (E i) k) == [48]) || seen (dP (ND E i) (E i) k) (four (E i) k) (dP (ND E i) (E i) k).length) (fun _ => by omega) (fun _ => by omega) (fun _ => by omega) (fun _ => by omega)).renG fun e fr' H' h => ?_
 refine bD h (fun t h => ?_) (fun t h => ?_)
 ·obtain ⟨rfl, rfl, rfl⟩ := h
  rw [e1, e2, t, cond_true]
  exact ⟨id, [(3, Rq E i k), (4, sL 3 n), (5, ZS i), (6, sL 4 4), (7, ZS k)], (Rt E i k n), fun g hg => rfl, (vk rfl), ⟨fD rfl rfl (fun j _ => rfl) (fun j _ => rfl) (by omega), fD rfl rfl (fun j _ => rfl) (fun j _ => rfl) (by omega), fD rfl rfl (fun j _ => rfl) (fun j _ => rfl) (by omega), trivial⟩, fun i j _ _ h => h, rfl, rfl, rfl⟩
 ·obtain ⟨rfl, rfl, rfl⟩ := h
  rw [e1, e2, t, cond_false]
  refine ⟨sg 2 6, [(3, sL 2 ((dP (ND E i) (E i) k) ++ [(four (E i) k)]).length), (4, sL 3 n), (5, ZS i), (6, sL 4 4), (7, ZS k)], [(2, .cells true 1 ((dP (ND E i) (E i) k) ++ [(four (E i) k)]).length (.fn (dh (aH ((dP (ND E i) (E i) k) ++ [(four (E i) k)]))))), (3, ZD n E), (4, Zu E i)], qc (by omega), ⟨⟨_, rfl, AV.ge.slc _ _ _ (by rw [List.length_append]; rfl), rfl⟩, vk rfl⟩, ⟨fD rfl (by rw [List.length_append]; rfl) (fun j hj => ?_) (fun j _ => rfl) (by omega), fD rfl rfl (fun j _ => rfl) (fun j _ => rfl) (by omega), fD rfl rfl (fun j _ => rfl) (fun j _ => rfl) (by omega), trivial⟩, pY (by omega), rfl, rfl, rfl⟩
  rw [Nat.zero_add]
  exact vH (dP (ND E i) (E i) k) (four (E i) k) j hj


noncomputable abbrev ZBl (v0 : tE) (v1 : Nat) := (.cells true 1 (ND v0 (v1 + 1)).length (.fn (dh (aH (ND v0 (v1 + 1))))) : aF)
noncomputable abbrev ZC3 (v0 : tE) (v1 : Nat) (w0) := (.cells true 1 (dP (ND v0 v1) (v0 v1) w0).length (.fn (dh (aH (dP (ND v0 v1) (v0 v1) w0)))) : aF)
noncomputable abbrev ZFL (v0 : tE) (v1 v2 : Nat) := ([(3, sL 2 (ND v0 (v1 + 1)).length), (4, sL 3 v2), (5, WM v1)] : tF)
theorem aev (n i : Nat) (E : tE) (hi : i < n) (hn : n ≤ 256) :
  aj Try.prog (aT [1,1,1,0,1,0,0] (ak Try.f51)) Try.f51.ntmps 2 4 4 (aQ [(3, sL 2 (ND E i).length), (4, sL 3 n), (5, ZS i)]) (hpL [(2, Y8 E i), (3, ZD n E)]) (Nm (ZFL E i n) [(2, ZBl E i), (3, ZD n E)]) := by
 rw [show (aT [1,1,1,0,1,0,0] (ak Try.f51)) = .seq (aT [1,1,1,0,1,0,0,0] (ak Try.f51)) (.seq (.block 1 (.seq (aT [1,1,1,0,1,0,0,1,0,0,0] (ak Try.f51)) (.seq (aT [1,1,1,0,1,0,0,1,0,0,1,0] (ak Try.f51)) (.block 2 (.loop (aT [1,1,1,0,1,0,0,1,0,0,1,1,0,0] (ak Try.f51))))))) (aT [1,1,1,0,1,0,0,1,1] (ak Try.f51))) by kernel_rfl]
 have main : aj Try.prog (.seq (aT [1,1,1,0,1,0,0,0] (ak Try.f51)) (.seq (.block 1 (.seq (aT [1,1,1,0,1,0,0,1,0,0,0] (ak Try.f51)) (.seq (aT [1,1,1,0,1,0,0,1,0,0,1,0] (ak Try.f51)) (.block 2 (.loop (aT [1,1,1,0,1,0,0,1,0,0,1,1,0,0] (ak Try.f51))))))) (aT [1,1,1,0,1,0,0,1,1] (ak Try.f51)))) Try.f51.ntmps 2 4 5 (aQ [(3, sL 2 (ND E i).length), (4, sL 3 n), (5, ZS i)]) (hpL [(2, Y8 E i), (3, ZD n E)]) (Nm (ZFL E i n) [(2, ZBl E i), (3, ZD n E)]) := by
  refine aj.aV (K1 := 4) (F1 := [(3, sL 2 (ND E i).length), (4, sL 3 n), (5, ZS i)]) (H1 := [(2, Y8 E i), (3, ZD n E)]) (aj.toN ((ndE 2 (by omega) n i 0 (ND E i).length E (aH (ND E i))).mono fun e fr' H' h => by rw [decide_eq_true (by omega), cond_true] at h; exact h) (dJ rfl) (fG rfl)) (by omega) ?_
  refine aj.aV (K1 := 4) (F1 := [(3, sL 2 (ND E (i + 1)).length), (4, sL 3 n), (5, ZS i)]) (H1 := [(2, ZBl E i), (3, ZD n E)]) (aj.jQ ((show aj Try.prog _ _ 2 4 5 _ _ (Nm [(3, sL 2 (ND E (i + 1)).length), (4, sL 3 n), (5, ZS i)] [(2, ZBl E i), (3, ZD n E)]) from ?_).renG fun e fr' H' ⟨h1, h2, h3⟩ => by
   subst h1 h2 h3
   exact ⟨id, [(3, sL 2 (ND E (i + 1)).length), (4, sL 3 n), (5, ZS i)], [(2, ZBl E i), (3, ZD n E)], fun g hg => rfl, (vk rfl), ⟨fD rfl rfl (fun j _ => rfl) (fun j _ => rfl) (by omega), fD rfl rfl (fun j _ => rfl) (fun j _ => rfl) (by omega), trivial⟩, fun i j _ _ h => h, rfl, rfl, rfl⟩)) (by omega) ((aj.toN (F' := (ZFL E i n)) (YN := [(2, ZBl E i), (3, ZD n E)]) (ndM 2 (by omega) n i 0 (ND E (i + 1)).length E (aH (ND E (i + 1))) (by omega)) ⟨re rfl, re rfl, ⟨_, rfl, AV.ge.int' _ _ _ (by omega)⟩, trivial⟩ (fG rfl)).up (by omega))
  ·refine aj.aV (K1 := 5) (F1 := [(3, sL 2 (ND E i).length), (4, sL 3 n), (5, ZS i), (6, sL 4 4)]) (H1 := [(2, Y8 E i), (3, ZD n E), (4, Zu E i)]) (aj.toN (ndF 2 (by omega) n i 0 (ND E i).length E (aH (ND E i)) (by omega) (by omega)) ⟨re rfl, re rfl, re rfl, ⟨_, rfl, AV.ge.slc _ _ _ rfl⟩, trivial⟩ ⟨hs rfl, hs rfl, ⟨_, rfl, ⟨rfl, rfl, rfl, fun j hj => ?_⟩⟩, trivial⟩) (by omega) ?_
   ·rw [Nat.zero_add]
    match j, hj with
    | 0, _ => rfl
    | 1, _ => rfl
    | 2, _ => rfl
    | 3, _ => rfl
    | j + 4, hj => omega
   refine aj.aV (K1 := 5) (F1 := [(3, sL 2 (dP (ND E i) (E i) 0).length), (4, sL 3 n), (5, ZS i), (6, sL 4 4), (7, Zc 0)]) (H1 := [(2, ZC3 E i 0), (3, ZD n E), (4, Zu E i)]) (aj.toN (ndG 2 (by omega) n i 0 (ND E i).length E (E i) (aH (ND E i))) ⟨re rfl, re rfl, re rfl, re rfl, ⟨_, rfl, AV.ge.int _ _ _ _⟩, trivial⟩ (fG rfl)) (by omega) ?_
   refine aj.toN (aj.rounds 4 (fun k => [(3, sL 2 (dP (ND E i) (E i) k).length), (4, sL 3 n), (5, ZS i), (6, sL 4 4), (7, iT ((k : Nat) : Int))]) (fun k => [(2, .cells true 1 (dP (ND E i) (E i) k).length (.fn (dh (aH (dP (ND E i) (E i) k))))), (3, ZD n E), (4, Zu E i)]) (Z := [(3, sL 2 (dP (ND E i) (E i) 4).length), (4, sL 3 n), (5, ZS i), (6, sL 4 4)]) (ZH := [(2, ZC3 E i 4), (3, ZD n E), (4, Zu E i)]) (fun k hk => agB n i k E hi hn hk) ?_) (dJ rfl) (fG rfl)
   rw [show (aT [1,1,1,0,1,0,0,1,0,0,1,1,0,0] (ak Try.f51)) = .seq (aT [1,1,1,0,1,0,0,1,0,0,1,1,0,0,0] (ak Try.f51)) (.seq (.block 3 (.seq (aT [1,1,1,0,1,0,0,1,0,0,1,1,0,0,1,0,0,0] (ak Try.f51)) (.seq (.seq (aT [1,1,1,0,1,0,0,1,0,0,1,1,0,0,1,0,0,1,0,0] (ak Try.f51)) (.block 4 (.loop (aT [1,1,1,0,1,0,0,1,0,0,1,1,0,0,1,0,0,1,0,1,0,0] (ak Try.f51))))) (aT [1,1,1,0,1,0,0,1,0,0,1,1,0,0,1,0,0,1,1] (ak Try.f51))))) (aT [1,1,1,0,1,0,0,1,0,0,1,1,0,0,1,1] (ak Try.f51))) by kernel_rfl]
   refine aj.Jl (K1 := 5) ?_ (by omega)
   refine (ndH 2 (by omega) n i 4 0 (dP (ND E i) (E i) 4).length E (E i) (aH (dP (ND E i) (E i) 4))).post fun e fr' H' h => ?_
   rw [decide_eq_false (by omega), cond_false] at h
   obtain ⟨rfl, rfl, rfl⟩ := h
   exact ⟨[(3, sL 2 (dP (ND E i) (E i) 4).length), (4, sL 3 n), (5, ZS i), (6, sL 4 4)], [(2, ZC3 E i 4), (3, ZD n E), (4, Zu E i)], (dJ rfl), (fG rfl), rfl, rfl, rfl⟩
 exact main.renG fun e fr' H' ⟨h1, h2, h3⟩ => by
  subst h1 h2 h3
  exact ⟨id, (ZFL E i n), [(2, ZBl E i), (3, ZD n E)], fun g hg => rfl, (vk rfl), ⟨fD rfl rfl (fun j _ => rfl) (fun j _ => rfl) (by omega), fD rfl rfl (fun j _ => rfl) (fun j _ => rfl) (by omega), trivial⟩, fun i j _ _ h => h, rfl, rfl, rfl⟩
end Go.Proofs.Ytdagokpedjfepaa
