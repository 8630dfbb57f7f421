/- PIECES OF CODE IN A CANONICAL HEAP: what they lead to; loops by induction. -/
import Derived.Test.YtehhljcjdiokjaaSyJ
set_option linter.unusedSimpArgs false
set_option linter.unusedVariables false
noncomputable section
namespace Go.Sx
open M

def frL : List (Nat × AV) → Fr
  | [] => .e
  | p :: l => (frL l).upd p.1 (some p.2)
def hpL : List (Nat × ABk) → T ABk
  | [] => .e
  | p :: l => (hpL l).upd p.1 (some p.2)
theorem frL_get : ∀ {l : List (Nat × AV)} {t : Nat} {v : AV}, (frL l).get t = some v → (t, v) ∈ l
  | [], t, v, h => by simp [frL, T.get_e] at h
  | p :: l, t, v, h => by
    simp only [frL, T.get_upd] at h
    split at h
    · rename_i e; cases h; subst e; exact List.mem_cons_self
    · exact List.mem_cons_of_mem _ (frL_get h)
theorem hpL_get : ∀ {l : List (Nat × ABk)} {t : Nat} {v : ABk}, (hpL l).get t = some v → (t, v) ∈ l
  | [], t, v, h => by simp [hpL, T.get_e] at h
  | p :: l, t, v, h => by
    simp only [hpL, T.get_upd] at h
    split at h
    · rename_i e; cases h; subst e; exact List.mem_cons_self
    · exact List.mem_cons_of_mem _ (hpL_get h)
/-- what is asked of a run of a piece: how it ends, some temporaries, some blocks -/
def Wants (fr : Fr) : List (Nat × AV) → Prop
  | [] => True
  | p :: l => fr.get p.1 = some p.2 ∧ Wants fr l
def WantsH (H : T ABk) : List (Nat × ABk) → Prop
  | [] => True
  | p :: l => H.get p.1 = some p.2 ∧ WantsH H l
theorem Wants.get {fr : Fr} : ∀ {l : List (Nat × AV)} {p : Nat × AV}, Wants fr l → p ∈ l → fr.get p.1 = some p.2
  | q :: l, p, h, hp => by
    rcases List.mem_cons.1 hp with rfl | hp
    · exact h.1
    · exact Wants.get h.2 hp
theorem WantsH.get {H : T ABk} : ∀ {l : List (Nat × ABk)} {p : Nat × ABk}, WantsH H l → p ∈ l → H.get p.1 = some p.2
  | q :: l, p, h, hp => by
    rcases List.mem_cons.1 hp with rfl | hp
    · exact h.1
    · exact WantsH.get h.2 hp
def pieceP (e : Ex) (fl : List (Nat × AV)) (hl : List (Nat × ABk)) : Res (Ex × Fr) → Prop
  | .done r g => r.1 = e ∧ Wants r.2 fl ∧ WantsH g.H hl ∧ g.cs
  | _ => False
structure PieceP (e : Ex) (fl : List (Nat × AV)) (hl : List (Nat × ABk)) (r : Res (Ex × Fr)) : Prop where
  of : pieceP e fl hl r
/-- no name from K on in it -/
def lowF (K : Nat) (fl : List (Nat × AV)) : Prop := ∀ p ∈ fl, p.2.low K = true
def lowH (K : Nat) (hl : List (Nat × ABk)) : Prop := ∀ p ∈ hl, p.1 < K ∧ p.2.bare
/-- behind a piece, from K names to K' names -/
structure At (n K K' : Nat) (H : T ABk) (μ : MM) (w : World) (H' : T ABk) (fr' : Fr) (a a' : Act) (w' : World) : Prop where
  of : ∃ μ', GOk K' μ' w'.heap H' ∧ Ext ⟨H, K, [], [], True⟩ μ w ⟨H', K', [], [], True⟩ μ' w' ∧ FrOk K' μ' fr' a'.tmps n ∧ a'.defers = a.defers
/-- the piece leads from here to what Post says -/
def Goes (P : Program) (c : Code) (n K K' : Nat) (fr : Fr) (H : T ABk) (Post : Ex → Fr → T ABk → Prop) : Prop :=
  ∀ μ w (a : Act), GOk K μ w.heap H → FrOk K μ fr a.tmps n → ∀ Q : Exit → Act → World → Prop, (∀ e fr' H' a' w', Post e fr' H' → At n K K' H μ w H' fr' a a' w' → Q e.ex a' w') → c.wp P Q a w
theorem At.trans {n K K' K'' : Nat} {H H' H'' : T ABk} {μ : MM} {w w' w'' : World} {fr'' : Fr} {a a' a'' : Act} {μ' : MM} (h1 : Ext ⟨H, K, [], [], True⟩ μ w ⟨H', K', [], [], True⟩ μ' w') (h2 : a'.defers = a.defers) (h : At n K' K'' H' μ' w' H'' fr'' a' a'' w'') : At n K K'' H μ w H'' fr'' a a'' w'' := by
  obtain ⟨μ'', k1, k2, k3, k4⟩ := h.of
  exact ⟨μ'', k1, h1.trans k2, k3, k4.trans h2⟩
theorem At.up {n K K' K'' : Nat} {H H' : T ABk} {μ : MM} {w w' : World} {fr' : Fr} {a a' : Act} (h : At n K K' H μ w H' fr' a a' w') (hK : K' ≤ K'') : At n K K'' H μ w H' fr' a a' w' := by
  obtain ⟨μ', k1, k2, k3, k4⟩ := h.of
  exact ⟨μ', k1.up hK fun _ _ h => h, ⟨Nat.le_trans k2.nx hK, k2.names, k2.os, k2.tape, k2.output, k2.size, k2.block, k2.may⟩, k3.later (.refl _ _) hK, k4⟩
theorem Goes.mono {P : Program} {c : Code} {n K K' : Nat} {fr : Fr} {H : T ABk} {Post Post' : Ex → Fr → T ABk → Prop} (h : Goes P c n K K' fr H Post) (k : ∀ e fr' H', Post e fr' H' → Post' e fr' H') : Goes P c n K K' fr H Post' :=
  fun μ w a hg hf Q hQ => h μ w a hg hf Q fun e fr' H' a' w' hp ha => hQ e fr' H' a' w' (k _ _ _ hp) ha
theorem Goes.up {P : Program} {c : Code} {n K K' K'' : Nat} {fr : Fr} {H : T ABk} {Post : Ex → Fr → T ABk → Prop} (h : Goes P c n K K' fr H Post) (hK : K' ≤ K'') : Goes P c n K K'' fr H Post :=
  fun μ w a hg hf Q hQ => h μ w a hg hf Q fun e fr' H' a' w' hp ha => hQ e fr' H' a' w' hp (ha.up hK)
/-- from a run of the engine -/
theorem Goes.run {P : Program} {call : Calls'} (hcall : CallOk P call) {region : List Oper → Fr → M Fr} {loops : Loops} {n rounds K K' : Nat} (hreg : RegionOk P region n) {c : Code} (hl : LoopsIn P loops n c) {fr : Fr} {H : T ABk} {path : List Bool}
    {e : Ex} {fl : List (Nat × AV)} {bl : List (Nat × ABk)} (h : PieceP e fl bl (codeA P call region loops n rounds c fr ⟨H, K, [], path, True⟩)) (h1 : lowF K' fl) (h2 : lowH K' bl) (hK : K ≤ K') :
    Goes P c n K K' fr H fun e' fr' H' => e' = e ∧ fr' = frL fl ∧ H' = hpL bl := by
  have h := h.of
  generalize hr : codeA P call region loops n rounds c fr ⟨H, K, [], path, True⟩ = res at h
  unfold pieceP at h
  split at h
  · rename_i r g
    obtain ⟨rfl, hw, hh, hcs⟩ := h
    obtain ⟨_, hs⟩ := codeA_sound hcall hreg c hl _ _ _ _ hr
    intro μ w a hg hf Q hQ
    refine hs hcs μ w a hg hf Q fun a' w' hk => hQ r.1 _ _ a' w' ⟨rfl, rfl, rfl⟩ ⟨?_⟩
    obtain ⟨μ', k1, k2, k3, k4⟩ := hk
    have sub : ∀ i b, (hpL bl).get i = some b → g.H.get i = some b ∧ i < K' ∧ b.bare := fun i b hb => by
      have hm := hpL_get hb
      exact ⟨hh.get hm, (h2 _ hm).1, (h2 _ hm).2⟩
    refine ⟨μ', ⟨fun i b hb => (sub i b hb).2.1, fun i b hb => (k1.ok _ _ (sub i b hb).1).bare (sub i b hb).2.2 rfl rfl rfl rfl, fun i b j b' hi hj => k1.sep _ _ _ _ (sub i b hi).1 (sub j b' hj).1⟩, ?_, ⟨k3.size, fun t v ht => ?_⟩, k4⟩
    · exact ⟨hK, k2.names, k2.os, k2.tape, k2.output, k2.size, k2.block, fun B hB hm => k2.may B hB (by
        obtain ⟨i, b, m1, m2, m3, m4⟩ := hm
        exact ⟨i, b, (sub i b m1).1, m2, m3, m4⟩)⟩
    · have hm := frL_get ht
      exact Rep.ofLow (.refl _ _) (h1 _ hm) (k3.val t v (hw.get hm))
  · exact h.elim
/-- less is known ahead -/
theorem Goes.weak {P : Program} {c : Code} {n K K' : Nat} {fr fr0 : Fr} {H H0 : T ABk} {Post : Ex → Fr → T ABk → Prop} (hf : ∀ t v, fr0.get t = some v → fr.get t = some v) (hH : ∀ i b, H0.get i = some b → H.get i = some b) (h : Goes P c n K K' fr0 H0 Post) : Goes P c n K K' fr H Post := by
  intro μ w a hg hfr Q hQ
  refine h μ w a (hg.sub hH) ⟨hfr.size, fun t v ht => hfr.val t v (hf t v ht)⟩ Q fun e fr' H' a' w' hp ha => hQ e fr' H' a' w' hp ⟨?_⟩
  obtain ⟨μ', k1, k2, k3, k4⟩ := ha.of
  have may : ∀ B, May μ H0 B → May μ H B := fun B ⟨i, b, m1, m2⟩ => ⟨i, b, hH i b m1, m2⟩
  exact ⟨μ', k1, ⟨k2.nx, k2.names, k2.os, k2.tape, k2.output, k2.size, fun B hB hn => k2.block B hB fun hm => hn (may B hm), fun B hB hm => may B (k2.may B hB hm)⟩, k3, k4⟩
/-- likewise, told in other words -/
theorem Goes.weakR {P : Program} {c : Code} {n K K' : Nat} {fr fr0 : Fr} {H : T ABk} {Post : Ex → Fr → T ABk → Prop} (hf : ∀ t v, fr0.get t = some v → ∃ u, fr.get t = some u ∧ ∀ N μ cv, Rep N μ u cv → Rep N μ v cv) (h : Goes P c n K K' fr0 H Post) : Goes P c n K K' fr H Post := by
  intro μ w a hg hfr Q hQ
  exact h μ w a hg ⟨hfr.size, fun t v ht => let ⟨u, h1, h2⟩ := hf t v ht; h2 _ _ _ (hfr.val t u h1)⟩ Q hQ
theorem Goes.seq {P : Program} {x y : Code} {n K K1 K' : Nat} {fr : Fr} {H : T ABk} {Post : Ex → Fr → T ABk → Prop} (hK : K1 ≤ K')
    (h : Goes P x n K K1 fr H fun e fr' H' => match e with
      | .normal => Goes P y n K1 K' fr' H' Post
      | e => Post e fr' H') : Goes P (.seq x y) n K K' fr H Post := by
  intro μ w a hg hf Q hQ
  refine wp_seq (h μ w a hg hf _ fun e fr' H' a' w' hp ha => ?_)
  cases e with
  | normal =>
    obtain ⟨μ', k1, k2, k3, k4⟩ := ha.of
    exact hp μ' w' a' k1 k3 Q fun e'' fr'' H'' a'' w'' hp' ha' => hQ _ _ _ _ _ hp' (At.trans k2 k4 ha')
  | exit id => exact hQ _ _ _ _ _ hp (ha.up hK)
  | ret => exact hQ _ _ _ _ _ hp (ha.up hK)
theorem Goes.block {P : Program} {id : Nat} {c : Code} {n K K' : Nat} {fr : Fr} {H : T ABk} {Post : Ex → Fr → T ABk → Prop}
    (h : Goes P c n K K' fr H fun e fr' H' => match e with
      | .exit id' => if id' = id then Post .normal fr' H' else Post (.exit id') fr' H'
      | e => Post e fr' H') : Goes P (.block id c) n K K' fr H Post := by
  intro μ w a hg hf Q hQ
  refine wp_block (h μ w a hg hf _ fun e fr' H' a' w' hp ha => ?_)
  cases e with
  | normal => exact hQ _ _ _ _ _ hp ha
  | ret => exact hQ _ _ _ _ _ hp ha
  | exit id' =>
    simp only [Ex.ex, Exit.inBlock]
    by_cases he : id' = id
    · simp only [he, if_true] at hp ⊢
      exact hQ .normal _ _ _ _ hp ha
    · simp only [if_neg he] at hp ⊢
      exact hQ (.exit id') _ _ _ _ hp ha
/-- a loop -/
theorem Goes.loop {P : Program} {c : Code} {n K : Nat} {Post : Ex → Fr → T ABk → Prop} (I : Nat → Fr → T ABk → Prop)
    (h : ∀ k fr H, I k fr H → Goes P c n K K fr H fun e fr' H' => match e with
      | .normal => ∃ k', k' < k ∧ I k' fr' H'
      | e => Post e fr' H') : ∀ k fr H, I k fr H → Goes P (.loop c) n K K fr H Post := by
  have key : ∀ R k fr H, k < R → I k fr H → ∀ μ w (a : Act), GOk K μ w.heap H → FrOk K μ fr a.tmps n → ∀ Q : Exit → Act → World → Prop, (∀ e fr' H' a' w', Post e fr' H' → At n K K H μ w H' fr' a a' w' → Q e.ex a' w') → Code.rounds P c Q R a w := by
    intro R
    induction R with
    | zero => intro k fr H hk; omega
    | succ R ih =>
      intro k fr H hkR hI μ w a hg hf Q hQ
      rw [rounds_succ]
      refine wp_mono (h k fr H hI μ w a hg hf (fun e a' w' => (e = .normal ∧ ∃ k' fr' H', k' < k ∧ I k' fr' H' ∧ At n K K H μ w H' fr' a a' w') ∨ (e ≠ .normal ∧ Q e a' w')) fun e fr' H' a' w' hp ha => ?_) ?_
      · cases e with
        | normal =>
          obtain ⟨k', hk, hI'⟩ := hp
          exact .inl ⟨rfl, k', fr', H', hk, hI', ha⟩
        | exit id => exact .inr ⟨by simp [Ex.ex], hQ (.exit id) _ _ _ _ hp ha⟩
        | ret => exact .inr ⟨by simp [Ex.ex], hQ .ret _ _ _ _ hp ha⟩
      · rintro e a' w' (⟨rfl, k', fr', H', hk, hI', ha⟩ | ⟨hne, hq⟩)
        · obtain ⟨μ', k1, k2, k3, k4⟩ := ha.of
          exact ih k' fr' H' (by omega) hI' μ' w' a' k1 k3 Q fun e'' fr'' H'' a'' w'' hp' ha' => hQ _ _ _ _ _ hp' (At.trans k2 k4 ha')
        · cases e <;> first | exact absurd rfl hne | exact hq
  intro k fr H hI μ w a hg hf Q hQ
  exact wp_loop_rounds (k + 1) (key (k + 1) k fr H (by omega) hI μ w a hg hf Q hQ)
/-- a function of one result, from its code -/
theorem Goes.call {P : Program} {f : FuncId} {fn : Func} {c : Code} (hf : P.funcs[f]? = some fn) (hb : fn.body = some c) (hname : (fn.name == "runtime.NumGoroutine") = false) {K K' : Nat} {args : List AV} {H : T ABk} {t : Tmp} (hres : fn.results.toList = [.tmp t]) {V : AV → Prop}
    (h : Goes P c fn.ntmps K K' (frameOf args 0 .e) H fun e fr' H' => (e = .ret ∨ e = .normal) ∧ ∃ v, fr'.get t = some v ∧ V v)
    (μ : MM) (w : World) {cargs : Array Value} (hg : GOk K μ w.heap H) (ha : Reps K μ args cargs.toList) :
    CF P f cargs w fun cv w' => ∃ v μ' H', V v ∧ Rep K' μ' v cv ∧ GOk K' μ' w'.heap H' ∧ Ext ⟨H, K, [], [], True⟩ μ w ⟨H', K', [], [], True⟩ μ' w' := by
  refine .inr ⟨f, cargs, w, run_enter hf hname hb cargs w, calls_of_wp hf hb (h μ w _ hg (FrOk.start ha fn.ntmps) _ fun e fr' H' a' w' hp hA => ?_)⟩
  obtain ⟨he, v, hv, hV⟩ := hp
  obtain ⟨μ', k1, k2, k3, k4⟩ := hA.of
  have hrep := k3.val t v hv
  have hrun : (results fn a'.tmps).run P w' = .ok (a'.tmps.getD t undef) w' := by
    have e1 : (fn.results.toList.mapM (resultV a'.tmps)).run P w' = .ok [a'.tmps.getD t undef] w' := by rw [hres]; simp [List.mapM_cons, resultV]
    obtain ⟨cv, e2, hcv⟩ := results_run (N := 0) (μ := μ') (vs := [.top]) e1 (by simp [Reps, Rep])
    have e3 : (fn.results.mapM (resultV a'.tmps)).run P w' = .ok #[a'.tmps.getD t undef] w' := by
      rw [Array.mapM_eq_mapM_toList, map_eq_pure_bind, Sem.run_bind, e1]; rfl
    have e4 : results fn a'.tmps = (do
        let vs ← fn.results.mapM (resultV a'.tmps)
        pure (if h : vs.size = 1 then vs[0] else .tuple vs)) := by
      unfold results
      congr 1
    rw [e4, Sem.run_bind, e3]; rfl
  have hd : a'.defers = [] := k4
  have post : a'.defers = [] ∧ ∃ x, (results fn a'.tmps).run P w' = .ok x w' ∧ ∃ c0, Ending.returned x = .returned c0 ∧ ∃ v μ' H', V v ∧ Rep K' μ' v c0 ∧ GOk K' μ' w'.heap H' ∧ Ext ⟨H, K, [], [], True⟩ μ w ⟨H', K', [], [], True⟩ μ' w' :=
    ⟨hd, _, hrun, _, rfl, v, μ', H', hV, hrep, k1, k2⟩
  rcases he with rfl | rfl
  · exact post
  · exact post
/-- a function's code in the empty heap: a summary's entry -/
theorem goes_scal {P : Program} {f : FuncId} {fn : Func} {c : Code} (hf : P.funcs[f]? = some fn) (hb : fn.body = some c) (hname : (fn.name == "runtime.NumGoroutine") = false) {K' : Nat} {args args' : List AV} {t : Tmp} (hres : fn.results.toList = [.tmp t]) {lv v : AV} {g : G}
    (h : Goes P c fn.ntmps 0 K' (frameOf args' 0 .e) .e fun e fr' H' => (e = .ret ∨ e = .normal) ∧ ∃ u, fr'.get t = some u ∧ u = lv) (hl : lv.low 0 = true) (hargs : ∀ (N : Nat) μ (cargs : List Value), Reps N μ args cargs → Reps 0 MM.none args' cargs)
    (hv : ∀ N μ cv, Rep N μ lv cv → Rep N μ v cv) : CallIs P f args v g g := by
  refine ⟨id, fun _ μ w cargs hg ha => ?_⟩
  refine (Goes.call hf hb hname hres h MM.none w (GOk.start _ _) (hargs _ _ _ ha)).mono ?_
  rintro cv w' ⟨u, μ', H', rfl, hrep, _, hE⟩
  refine After.below hg (hv _ _ _ (hrep.bare hl)) ⟨hE.os, hE.tape, hE.output, hE.size, fun k hk => hE.block k hk ?_⟩
  rintro ⟨g1, b, h1, _⟩
  simp [T.get_e] at h1
theorem runN_region {P : Program} {Γ : Known} (hΓ : KnownOk P Γ) (hT : KnownT Γ) (hn : noSuch P = true) (hm : P.follows .mixedOrders = true) (rounds fuel n : Nat) : RegionOk P (regionA P (runN P Γ (regionA P) rounds fuel) n) n :=
  regionA_ok (engine hΓ hT hn hm rounds fuel) (runA_tch hT (fun _ _ _ h => by cases h) (fun call hc n l fr => regionA_tch hc n l fr) fuel) hm n
end Go.Sx
