/- THE ENGINE IS SOUND: built-in functions, operands, calls, operations. -/
import Derived.Test.YtehhljcjdiokjaaSxN
set_option linter.unusedSimpArgs false
set_option linter.unusedVariables false
noncomputable section
namespace Go.Sx
open M

/-- behind a step that gave v for c -/
def After (g : G) (μ : MM) (w : World) (g' : G) (v : AV) (c : Value) (w' : World) : Prop :=
  ∃ μ', Rep g'.nx μ' v c ∧ GOk g'.nx μ' w'.heap g'.H ∧ Ext g μ w g' μ' w'
theorem After.keep {g g' : G} {μ : MM} {w : World} {v : AV} {c : Value} {p : Prop} (n : Nat) (k : Keep g g' p) (hg : GOk g.nx μ w.heap g.H) (hv : Rep g.nx μ v c) : After g μ w g' v c { w with drawn := n } :=
  ⟨μ, by rw [k.2.1]; exact hv, by rw [k.1, k.2.1]; exact hg, Ext.drawn μ w n k.1 k.2.1⟩
theorem After.keep0 {g g' : G} {μ : MM} {w : World} {v : AV} {c : Value} {p : Prop} (k : Keep g g' p) (hg : GOk g.nx μ w.heap g.H) (hv : Rep g.nx μ v c) : After g μ w g' v c w :=
  After.keep w.drawn k hg hv
theorem Gives.after {g g' : G} {μ : MM} {w : World} {v : AV} {r : Result Value} (h : Gives g μ w g' v r) : ∃ c w', r = .ok c w' ∧ After g μ w g' v c w' := by
  obtain ⟨c, w', μ', e, h1, h2, h3⟩ := h
  exact ⟨c, w', e, μ', h1, h2, h3⟩
/-- the run of a Sem that gives a value -/
theorem run_val {P : Program} {w w' : World} {s : Sem Value} {c : Value} (h : s.run P w = .ok c w') : (do pure (Next.value (← s)) : Sem Next).run P w = .ok (.value c) w' := by
  simp [h]
theorem run_skip {P : Program} {w w' : World} {s : Sem Unit} (h : s.run P w = .ok () w') : (do s; pure Next.skip : Sem Next).run P w = .ok .skip w' := by
  simp [h]

theorem Reps.one {N : Nat} {μ : MM} {x : AV} {args : Array Value} (h : Reps N μ [x] args.toList) : ∃ c, args = #[c] ∧ Rep N μ x c := by
  simp only [Reps] at h
  obtain ⟨c, r, e, h1, rfl⟩ := h
  exact ⟨c, by rw [← Array.toArray_toList (xs := args), e], h1⟩
theorem Reps.two {N : Nat} {μ : MM} {x y : AV} {args : Array Value} (h : Reps N μ [x, y] args.toList) : ∃ c d, args = #[c, d] ∧ Rep N μ x c ∧ Rep N μ y d := by
  simp only [Reps] at h
  obtain ⟨c, r, e, h1, d, r', rfl, h2, rfl⟩ := h
  exact ⟨c, d, by rw [← Array.toArray_toList (xs := args), e], h1, h2⟩

theorem builtinA_sound {P : Program} {b : Builtin} {ts : Array TypeId} {l : List AV} {v : AV} {g g' : G} (h : builtinA P b ts.toList l g = .done v g') (ty : TypeId) (cst : Array Bool) :
    (g'.cs → g.cs) ∧ (g'.cs → ∀ μ w (args : Array Value), GOk g.nx μ w.heap g.H → Reps g.nx μ l args.toList → ∃ c w', (builtin b ts ty cst args).run P w = .ok (.value c) w' ∧ After g μ w g' v c w') := by
  generalize hts : ts.toList = tl at h
  unfold builtinA at h
  split at h
  · rename_i t x
    have ets : ts = #[t] := by rw [← Array.toArray_toList (xs := ts), hts]
    obtain ⟨rfl, hs⟩ := lenA_sound (ty := ty) h
    refine ⟨id, fun _ μ w args hg hr => ?_⟩
    obtain ⟨c, rfl, hx⟩ := hr.one
    obtain ⟨c', e, hv⟩ := hs g.nx μ w c hx
    exact ⟨c', w, run_val (by rw [ets]; exact e), .keep0 (Keep.refl g) hg hv⟩
  · rename_i s x y
    obtain ⟨rfl, rfl⟩ := ret_done h
    refine ⟨id, fun _ μ w args hg hr => ?_⟩
    obtain ⟨c, rfl, hx⟩ := hr.one
    simp only [Rep] at hx
    obtain ⟨a, b, rfl, ha, hb⟩ := hx
    exact ⟨_, w, run_val (s := Builtin.real_ ts ty _) (by rfl), .keep0 (Keep.refl g) hg (by simp only [Rep]; exact ⟨a, rfl, ha⟩)⟩
  · rename_i s x y
    obtain ⟨rfl, rfl⟩ := ret_done h
    refine ⟨id, fun _ μ w args hg hr => ?_⟩
    obtain ⟨c, rfl, hx⟩ := hr.one
    simp only [Rep] at hx
    obtain ⟨a, b, rfl, ha, hb⟩ := hx
    exact ⟨_, w, run_val (s := Builtin.imag_ ts ty _) (by rfl), .keep0 (Keep.refl g) hg (by simp only [Rep]; exact ⟨b, rfl, hb⟩)⟩
  · rename_i s x s' y
    obtain ⟨rfl, rfl⟩ := ret_done h
    refine ⟨id, fun _ μ w args hg hr => ?_⟩
    obtain ⟨c, d, rfl, hx, hy⟩ := hr.two
    simp only [Rep] at hx hy
    obtain ⟨a, rfl, ha⟩ := hx
    obtain ⟨b, rfl, hb⟩ := hy
    exact ⟨_, w, run_val (s := Builtin.complex_ ts ty _) (by rfl), .keep0 (Keep.refl g) hg (by simp only [Rep]; exact ⟨a, b, rfl, ha, hb⟩)⟩
  · rename_i t u x y
    have ets : ts = #[t, u] := by rw [← Array.toArray_toList (xs := ts), hts]
    obtain ⟨h1, h2⟩ := appendA_sound (ty := ty) h
    refine ⟨h1, fun hc μ w args hg hr => ?_⟩
    obtain ⟨c, d, rfl, hx, hy⟩ := hr.two
    obtain ⟨c', w', e, ha⟩ := (h2 hc μ w c d hg hx hy).after
    exact ⟨c', w', run_val (by rw [ets]; exact e), ha⟩
  · rename_i x l
    obtain ⟨rfl, hs⟩ := mm_sound (P := P) (isMax := true) (fun h => maxA_sound h) h
    refine ⟨id, fun _ μ w args hg hr => ?_⟩
    simp only [Reps] at hr
    obtain ⟨c, r, e, hx, hl⟩ := hr
    obtain ⟨c', n, e', hv⟩ := hs g.nx μ w c r hx hl
    exact ⟨c', _, run_val (s := Builtin.max_ ts ty _) (by simp only [Builtin.max_, e]; exact e'), .keep n (Keep.refl g) hg hv⟩
  · rename_i x l
    obtain ⟨rfl, hs⟩ := mm_sound (P := P) (isMax := false) (fun h => minA_sound h) h
    refine ⟨id, fun _ μ w args hg hr => ?_⟩
    simp only [Reps] at hr
    obtain ⟨c, r, e, hx, hl⟩ := hr
    obtain ⟨c', n, e', hv⟩ := hs g.nx μ w c r hx hl
    exact ⟨c', _, run_val (s := Builtin.min_ ts ty _) (by simp only [Builtin.min_, e]; exact e'), .keep n (Keep.refl g) hg hv⟩
  · exact (no_done h).elim

/-! ### frames -/
structure FrOk (N : Nat) (μ : MM) (fr : Fr) (tmps : Array Value) (n : Nat) : Prop where
  size : n ≤ tmps.size
  val : ∀ t v, fr.get t = some v → Rep N μ v (tmps.getD t undef)
theorem FrOk.eval {N : Nat} {μ : MM} {fr : Fr} {a : Act} {n : Nat} (h : FrOk N μ fr a.tmps n) (x : Operand) : Rep N μ (evalA fr x) (a.eval x) := by
  cases x with
  | tmp t =>
    simp only [evalA, Act.eval]
    cases ht : fr.get t with
    | none => simp [Rep]
    | some v => exact h.val t v ht
  | const v => exact Rep.ofVal N μ v
  | global g => simp [evalA, Rep]
  | func f => simp [evalA, Act.eval, Rep, Reps]
theorem FrOk.evals {N : Nat} {μ : MM} {fr : Fr} {a : Act} {n : Nat} (h : FrOk N μ fr a.tmps n) (l : Array Operand) : Reps N μ (l.toList.map (evalA fr)) (l.map a.eval).toList := by
  rw [Array.toList_map]; exact Reps.map _ _ _ fun x _ => h.eval x
theorem FrOk.evalsF {N : Nat} {μ : MM} {fr : Fr} {a : Act} {n : Nat} (h : FrOk N μ fr a.tmps n) (l : Array Operand) : Reps N μ (l.toList.map fun x => (evalA fr x).fl) (l.map a.eval).toList := by
  rw [Array.toList_map]; exact Reps.map _ _ _ fun x _ => (h.eval x).fl
theorem FrOk.evalO {N : Nat} {μ : MM} {fr : Fr} {a : Act} {n : Nat} (h : FrOk N μ fr a.tmps n) (o : Option Operand) : RepO N μ (o.map (evalA fr)) (o.map a.eval) := by
  cases o with
  | none => trivial
  | some x => exact h.eval x
theorem FrOk.later {N N' : Nat} {μ μ' : MM} {fr : Fr} {tmps : Array Value} {n : Nat} (h : FrOk N μ fr tmps n) (hu : MM.upto N μ μ') (hN : N ≤ N') : FrOk N' μ' fr tmps n :=
  ⟨h.size, fun t v ht => (h.val t v ht).later hu hN⟩
theorem FrOk.upd {N : Nat} {μ : MM} {fr : Fr} {tmps : Array Value} {n : Nat} (h : FrOk N μ fr tmps n) {d : Nat} (hd : d < n) {v : AV} {c : Value} (hv : Rep N μ v c) : FrOk N μ (fr.upd d (some v)) (tmps.setIfInBounds d c) n where
  size := by simpa using h.size
  val := fun t u ht => by
    have hs := h.size
    rw [T.get_upd] at ht
    split at ht
    · rename_i e
      cases ht
      rw [e]
      have : d < (tmps.setIfInBounds d c).size := by simp; omega
      simp only [Array.getD_eq_getD_getElem?, Array.getElem?_eq_getElem this]
      simpa using hv
    · rename_i e
      have := h.val t u ht
      simp only [Array.getD_eq_getD_getElem?] at this ⊢
      rw [Array.getElem?_setIfInBounds_ne (Ne.symm e)]
      exact this
theorem FrOk.know {N : Nat} {μ : MM} {fr : Fr} {tmps : Array Value} {n : Nat} (h : FrOk N μ fr tmps n) {d : Nat} {v u : AV} (hd : fr.get d = some u) (hu : ∀ c, Rep N μ u c → Rep N μ v c) : FrOk N μ (fr.upd d (some v)) tmps n where
  size := h.size
  val := fun t u' ht => by
    rw [T.get_upd] at ht
    split at ht
    · rename_i e
      cases ht
      rw [e]
      exact hu _ (h.val d u hd)
    · exact h.val t u' ht
theorem putA_sound {n : Nat} {fr fr' : Fr} {dst : Option Tmp} {v : AV} {g g' : G} (h : putA n fr dst v g = .done fr' g') :
    g = g' ∧ ∀ N μ (a : Act) c, FrOk N μ fr a.tmps n → Rep N μ v c → FrOk N μ fr' (a.put dst c).tmps n := by
  unfold putA at h
  cases dst with
  | none =>
    obtain ⟨rfl, rfl⟩ := ret_done h
    exact ⟨rfl, fun N μ a c hf _ => hf⟩
  | some d =>
    cases hd : Nat.blt d n with
    | false => simp only [hd, cond_false] at h; exact (no_done h).elim
    | true =>
      simp only [hd, cond_true] at h
      obtain ⟨rfl, rfl⟩ := ret_done h
      refine ⟨rfl, fun N μ a c hf hv => hf.upd (Nat.le_of_ble_eq_true hd) hv⟩

/-! ### calls -/
/-- a function is called, or what stands in for it -/
def CF (P : Program) (f : FuncId) (args : Array Value) (w : World) (R : Value → World → Prop) : Prop :=
  (∃ c w', (callFunc f args).run P w = .ok (.value c) w' ∧ R c w') ∨
  (∃ f' args' w', (callFunc f args).run P w = .ok (.enter f' args') w' ∧ Calls P f' args' w' fun e w'' => ∃ c, e = .returned c ∧ R c w'')
def CallIs (P : Program) (f : FuncId) (args : List AV) (v : AV) (g g' : G) : Prop :=
  (g'.cs → g.cs) ∧ (g'.cs → ∀ μ w (cargs : Array Value), GOk g.nx μ w.heap g.H → Reps g.nx μ args cargs.toList → CF P f cargs w fun c w' => After g μ w g' v c w')
def CallOk (P : Program) (call : Calls') : Prop := ∀ f args v g g', call f args g = .done v g' → CallIs P f args v g g'

/-! ### operations -/
def OpWp (P : Program) (o : Oper) (g : G) (μ : MM) (w : World) (g' : G) (v : AV) (a : Act) : Prop :=
  ∀ (next : Act → World → Prop) (Q : Exit → Act → World → Prop), (∀ c w', After g μ w g' v c w' → next (a.put o.dst c) w') → o.wp P a w next Q
theorem OpWp.value {P : Program} {o : Oper} {g : G} {μ : MM} {w w' : World} {g' : G} {v : AV} {a : Act} {c : Value} (h : (execOp a.eval o).run P w = .ok (.value c) w') (ha : After g μ w g' v c w') : OpWp P o g μ w g' v a := by
  intro next Q hn
  unfold Oper.wp
  rw [h]
  exact hn c w' ha
theorem OpWp.skip {P : Program} {o : Oper} {g : G} {μ : MM} {w w' : World} {g' : G} {v : AV} {a : Act} (h : (execOp a.eval o).run P w = .ok .skip w') (ha : After g μ w g' v undef w') : OpWp P o g μ w g' v a := by
  intro next Q hn
  unfold Oper.wp
  rw [h]
  exact hn undef w' ha
theorem OpWp.call {P : Program} {o : Oper} {g : G} {μ : MM} {w : World} {g' : G} {v : AV} {a : Act} {f : FuncId} {args : Array Value} (h : (execOp a.eval o).run P w = (callFunc f args).run P w)
    (hc : CF P f args w fun c w' => After g μ w g' v c w') : OpWp P o g μ w g' v a := by
  intro next Q hn
  unfold Oper.wp
  rw [h]
  rcases hc with ⟨c, w', e, ha⟩ | ⟨f', args', w', e, hcalls⟩
  · rw [e]; exact hn c w' ha
  · rw [e, Oper.upon_enter]
    refine hcalls.mono ?_
    rintro e1 w1 ⟨c, rfl, ha⟩
    exact hn c w1 ha
end Go.Sx
