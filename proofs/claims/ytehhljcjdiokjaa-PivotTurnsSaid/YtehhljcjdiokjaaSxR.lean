/- THE ENGINE IS SOUND: functions. -/
import Derived.Test.YtehhljcjdiokjaaSxQ
set_option linter.unusedSimpArgs false
set_option linter.unusedVariables false
noncomputable section
namespace Go.Sx
open M

/-! ### results -/
def resultV (tmps : Array Value) : ResultVar → Sem Value
  | .tmp t => pure (tmps.getD t undef)
  | .cell a t => do loadVar t (← asAddr (tmps.getD a undef))
theorem resultA_sound {P : Program} {fr : Fr} {r : ResultVar} {v : AV} {g g' : G} (h : resultA P fr r g = .done v g') :
    Keep g g' True ∧ (g'.cs → ∀ μ w (tmps : Array Value) n, GOk g.nx μ w.heap g.H → FrOk g.nx μ fr tmps n → ∃ c, (resultV tmps r).run P w = .ok c w ∧ Rep g.nx μ v c) := by
  have ev : ∀ N μ (tmps : Array Value) n t, FrOk N μ fr tmps n → Rep N μ ((fr.get t).getD .top) (tmps.getD t undef) := fun N μ tmps n t hf => hf.eval (a := ⟨tmps, []⟩) (.tmp t)
  cases r with
  | tmp t =>
    unfold resultA at h
    obtain ⟨rfl, rfl⟩ := ret_done h
    exact ⟨Keep.refl g, fun _ μ w tmps n _ hf => ⟨_, rfl, ev _ _ _ _ t hf⟩⟩
  | cell t ty =>
    replace h : (match (fr.get t).getD .top with
      | .ptr ad => loadA P ty ad
      | _ => no : M AV) g = .done v g' := h
    generalize hx : (fr.get t).getD .top = x at h
    split at h
    · rename_i ad
      obtain ⟨k, hs⟩ := loadA_sound h
      refine ⟨k, fun hc μ w tmps n hg hf => ?_⟩
      obtain ⟨c, e, hv⟩ := hs hc g.nx μ w hg
      have h2 := ev _ _ _ _ t hf
      rw [hx] at h2
      simp only [Rep] at h2
      exact ⟨c, by simp only [resultV, h2.2, asAddr, Sem.run_bind]; exact e, hv⟩
    · exact (no_done h).elim
theorem resultsA_sound {P : Program} {fr : Fr} : ∀ {l : List ResultVar} {vs : List AV} {g g' : G}, resultsA P fr l g = .done vs g' →
    Keep g g' True ∧ (g'.cs → ∀ μ w (tmps : Array Value) n, GOk g.nx μ w.heap g.H → FrOk g.nx μ fr tmps n → ∃ cs, (l.mapM (resultV tmps)).run P w = .ok cs w ∧ Reps g.nx μ vs cs)
  | [], vs, g, g', h => by
    unfold resultsA at h
    obtain ⟨rfl, rfl⟩ := ret_done h
    exact ⟨Keep.refl g, fun _ μ w tmps n _ _ => ⟨[], rfl, by simp [Reps]⟩⟩
  | r :: l, vs, g, g', h => by
    unfold resultsA at h
    obtain ⟨v, g1, a1, h1⟩ := done_of h
    obtain ⟨us, g2, a2, h2⟩ := done_of h1
    obtain ⟨rfl, rfl⟩ := ret_done h2
    obtain ⟨k1, hs1⟩ := resultA_sound a1
    obtain ⟨k2, hs2⟩ := resultsA_sound a2
    refine ⟨(k1.trans k2).mono fun _ => trivial, fun hc μ w tmps n hg hf => ?_⟩
    obtain ⟨c, e1, hv⟩ := hs1 (k2.2.2 hc).1 μ w tmps n hg hf
    obtain ⟨cs, e2, hvs⟩ := hs2 hc μ w tmps n (by rw [k1.1, k1.2.1]; exact hg) (by rw [k1.2.1]; exact hf)
    refine ⟨c :: cs, by simp [List.mapM_cons, e1, e2], ?_⟩
    simp only [Reps]
    rw [k1.2.1] at hvs
    exact ⟨c, cs, rfl, hv, hvs⟩
def packA : List AV → AV
  | [v] => v
  | vs => .tup vs
theorem results_run {P : Program} {fn : Func} {tmps : Array Value} {w : World} {cs : List Value} (h : (fn.results.toList.mapM (resultV tmps)).run P w = .ok cs w) {N : Nat} {μ : MM} {vs : List AV} (hr : Reps N μ vs cs) :
    ∃ c, (results fn tmps).run P w = .ok c w ∧ Rep N μ (packA vs) c := by
  have e : (fn.results.mapM (resultV tmps)).run P w = .ok cs.toArray w := by
    rw [Array.mapM_eq_mapM_toList, map_eq_pure_bind, Sem.run_bind, h]
    rfl
  have e2 : results fn tmps = (do
      let vs ← fn.results.mapM (resultV tmps)
      pure (if h : vs.size = 1 then vs[0] else .tuple vs)) := by
    unfold results
    congr 1
  rw [e2, Sem.run_bind, e]
  refine ⟨_, rfl, ?_⟩
  match vs, cs, hr with
  | [], cs, hr => simp only [Reps] at hr; subst hr; simp [packA, Rep, Reps]
  | [v], cs, hr =>
    simp only [Reps] at hr
    obtain ⟨c, r, rfl, hv, rfl⟩ := hr
    simpa [packA] using hv
  | v :: u :: l, cs, hr =>
    have hr0 := hr
    simp only [Reps] at hr
    obtain ⟨c, r, rfl, _, d, r', rfl, _, _⟩ := hr
    simp only [packA, Rep]
    exact ⟨_, by simp, hr0⟩

/-! ### frames at the beginning -/
theorem frameOf_get : ∀ (l : List AV) (i : Nat) (fr : Fr) (t : Nat), (frameOf l i fr).get t = if i ≤ t ∧ t < i + l.length then l[t - i]? else fr.get t
  | [], i, fr, t => by simp [frameOf]; omega
  | v :: l, i, fr, t => by
    simp only [frameOf, frameOf_get l (i + 1), T.get_upd, List.length_cons]
    by_cases h1 : t = i
    · subst h1; simp; omega
    · by_cases h2 : i + 1 ≤ t ∧ t < i + 1 + l.length
      · rw [if_pos h2, if_pos (by omega)]
        have : t - i = (t - (i + 1)) + 1 := by omega
        rw [this, List.getElem?_cons_succ]
      · rw [if_neg h2, if_neg h1, if_neg (by omega)]
theorem FrOk.start {N : Nat} {μ : MM} {l : List AV} {args : Array Value} (h : Reps N μ l args.toList) (n : Nat) : FrOk N μ (frameOf l 0 .e) (args ++ Array.replicate (n - args.size) undef) n where
  size := by simp; omega
  val := fun t v ht => by
    rw [frameOf_get] at ht
    split at ht
    · obtain ⟨c, hc, hv⟩ := h.get ht
      have hc' : args[t]? = some c := by simpa using hc
      have hlt : t < args.size := (Array.getElem?_eq_some_iff.1 hc').1
      rw [Array.getD_eq_getD_getElem?, Array.getElem?_append_left hlt, hc']
      exact hv
    · simp [T.get] at ht

/-! ### functions -/
def KnownOk (P : Program) (Γ : Known) : Prop := ∀ f s, Γ f = some s → ∀ args v g g', s args g = .done v g' → CallIs P f args v g g'
def NoSuch (P : Program) : Prop := ∀ (f : FuncId) (fn : Func), P.funcs[f]? = some fn → fn.body.isSome = true → (fn.name == "runtime.NumGoroutine") = false
def noSuch (P : Program) : Bool := P.funcs.toList.all fun fn => fn.body.isNone || !(fn.name == "runtime.NumGoroutine")
theorem NoSuch.of {P : Program} (h : noSuch P = true) : NoSuch P := fun f fn hf hb => by
  unfold noSuch at h
  rw [List.all_eq_true] at h
  have := h fn (List.mem_of_getElem? (i := f) (by simpa using hf))
  cases hbd : fn.body with
  | none => rw [hbd] at hb; cases hb
  | some c => rw [hbd] at this; simpa using this
theorem run_enter {P : Program} {f : FuncId} {fn : Func} {c : Code} (hf : P.funcs[f]? = some fn) (hname : (fn.name == "runtime.NumGoroutine") = false) (hb : fn.body = some c) (args : Array Value) (w : World) :
    (callFunc f args).run P w = .ok (.enter f args) w := by
  have h1 : fn.name ≠ "runtime.NumGoroutine" := by simpa using hname
  simp [callFunc, hf, h1, hb]
/-- the body's run, as a call -/
theorem call_of {P : Program} {f : FuncId} {fn : Func} {c : Code} (hf : P.funcs[f]? = some fn) (hb : fn.body = some c) {args : List AV} {g g1 : G} {e : Ex} {fr : Fr} {g' : G} {vs : List AV}
    (hl : Leads P c fn.ntmps (frameOf args 0 .e) g (e, fr) g1) (he : ∀ id, e ≠ .exit id) (hr : resultsA P fr fn.results.toList g1 = .done vs g') :
    (g'.cs → g.cs) ∧ (g'.cs → ∀ μ w (cargs : Array Value), GOk g.nx μ w.heap g.H → Reps g.nx μ args cargs.toList → Calls P f cargs w fun e w' => ∃ c, e = .returned c ∧ After g μ w g' (packA vs) c w') := by
  obtain ⟨k, hs⟩ := resultsA_sound hr
  refine ⟨fun hc => hl.1 (k.2.2 hc).1, fun hc μ w cargs hg ha => ?_⟩
  refine calls_of_wp hf hb (hl.2 (k.2.2 hc).1 μ w _ hg (FrOk.start ha fn.ntmps) _ fun a' w' hk => ?_)
  obtain ⟨μ', hg', hext, hf', hd⟩ := hk
  obtain ⟨cs, e1, hvs⟩ := hs hc μ' w' a'.tmps _ hg' hf'
  obtain ⟨cv, e2, hcv⟩ := results_run e1 hvs
  have post : a'.defers = [] ∧ ∃ v, (results fn a'.tmps).run P w' = .ok v w' ∧ ∃ c, Ending.returned v = .returned c ∧ After g μ w g' (packA vs) c w' :=
    ⟨hd, cv, e2, cv, rfl, μ', by rw [k.2.1]; exact hcv, by rw [k.1, k.2.1]; exact hg', hext.trans (Ext.same μ' w' k.1 k.2.1)⟩
  cases e with
  | normal => exact post
  | ret => exact post
  | exit id => exact absurd rfl (he id)
def LoopsOk (P : Program) (Λ : FuncId → Loops) : Prop := ∀ f fn c, P.funcs[f]? = some fn → fn.body = some c → LoopsIn P (Λ f) fn.ntmps c
theorem runA_sound {P : Program} {Γ : Known} {Λ : FuncId → Loops} {region : Calls' → Nat → List Oper → Fr → M Fr} {rounds : Nat} (hΓ : KnownOk P Γ) (hΛ : LoopsOk P Λ) (hreg : ∀ fuel, CallOk P (runA P Γ Λ region rounds fuel) → ∀ n, RegionOk P (region (runA P Γ Λ region rounds fuel) n) n) (hn : NoSuch P) :
    ∀ fuel, CallOk P (runA P Γ Λ region rounds fuel)
  | 0 => fun f args v g g' h => (no_done h).elim
  | fuel + 1 => fun f args v g g' h => by
    have ih := runA_sound (rounds := rounds) hΓ hΛ hreg hn fuel
    unfold runA at h
    generalize hs : Γ f = s0 at h
    split at h
    · rename_i s
      exact hΓ f s hs args v g g' h
    · generalize hf : P.funcs[f]? = fn0 at h
      split at h
      · exact (no_done h).elim
      · rename_i fn
        generalize hb : fn.body = c0 at h
        split at h
        · exact (no_done h).elim
        · rename_i c
          obtain ⟨⟨e, fr⟩, g1, a1, h1⟩ := done_of h
          have hl := codeA_sound ih (hreg fuel ih fn.ntmps) _ (hΛ f fn c hf hb) _ _ _ _ a1
          have fin : ∀ {vs g2 v}, (match vs with
            | [v] => ret v
            | _ => ret (.tup vs) : M AV) g2 = .done v g' → v = packA vs ∧ g2 = g' := by
            intro vs g2 v h
            match vs, h with
            | [], h => exact ret_done h
            | [u], h => exact ret_done h
            | u :: t :: l, h => exact ret_done h
          have main : ∀ (he : ∀ id, e ≠ .exit id) vs, resultsA P fr fn.results.toList g1 = .done vs g' → v = packA vs → CallIs P f args v g g' := fun he vs hr hv => by
            obtain ⟨hc0, hs⟩ := call_of hf hb hl he hr
            refine ⟨hc0, fun hc μ w cargs hg ha => .inr ⟨f, cargs, w, run_enter hf (hn f fn hf (by rw [hb]; rfl)) hb cargs w, ?_⟩⟩
            rw [hv]
            exact hs hc μ w cargs hg ha
          cases e with
          | exit id => exact (no_done h1).elim
          | normal =>
            obtain ⟨vs, g2, a2, h2⟩ := done_of h1
            obtain ⟨rfl, rfl⟩ := fin h2
            exact main (by simp) vs a2 rfl
          | ret =>
            obtain ⟨vs, g2, a2, h2⟩ := done_of h1
            obtain ⟨rfl, rfl⟩ := fin h2
            exact main (by simp) vs a2 rfl
end Go.Sx
