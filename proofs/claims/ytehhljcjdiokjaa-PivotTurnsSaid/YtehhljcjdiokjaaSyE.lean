/- WHAT IS KNOWN BEFOREHAND: functions of plain values that leave the old memory alone, from runs along each road. -/
import Derived.Test.YtehhljcjdiokjaaSyC
set_option linter.unusedSimpArgs false
set_option linter.unusedVariables false
noncomputable section
namespace Go.Sx
open M

/-- the start of a run along a road, nothing in memory -/
def G.on (path : List Bool) : G := ⟨.e, 0, [], path, True⟩
def pureP (v : AV) : Res AV → Prop
  | .done v' g => v' = v ∧ g.cs
  | _ => False
/-- the same, closed to the elaborator -/
structure PureP (v : AV) (r : Res AV) : Prop where
  of : pureP v r
/-- of old memory nothing has turned -/
theorem GOk.below {N : Nat} {μ : MM} {w w' : World} {H : T ABk} (h : GOk N μ w.heap H) (b : RowKit.Below w.heap.size w w') : GOk N μ w'.heap H where
  lt := h.lt
  sep := h.sep
  ok := fun g bk hg => (h.ok g bk hg).later (MM.upto.refl _ _) (Nat.le_refl _) (h.lt g bk hg) fun hr => b.block _ ((h.ok g bk hg).lt_size hr)
theorem Ext.below {g : G} {μ : MM} {w w' : World} (b : RowKit.Below w.heap.size w w') : Ext g μ w g μ w' where
  nx := Nat.le_refl _
  names := .refl _ _
  os := b.os
  tape := b.tape
  output := b.output
  size := b.size
  block := fun B hB _ => b.block B hB
  may := fun B _ h => h
theorem After.below {g : G} {μ : MM} {w w' : World} {v : AV} {c : Value} (hg : GOk g.nx μ w.heap g.H) (hv : Rep g.nx μ v c) (b : RowKit.Below w.heap.size w w') : After g μ w g v c w' :=
  ⟨μ, hv, hg.below b, .below b⟩
theorem CF.mono {P : Program} {f : FuncId} {args : Array Value} {w : World} {R R' : Value → World → Prop} (h : CF P f args w R) (k : ∀ c w', R c w' → R' c w') : CF P f args w R' := by
  rcases h with ⟨c, w', e, hr⟩ | ⟨f', args', w', e, hc⟩
  · exact .inl ⟨c, w', e, k _ _ hr⟩
  · exact .inr ⟨f', args', w', e, hc.mono fun e w'' ⟨c, h1, h2⟩ => ⟨c, h1, k _ _ h2⟩⟩
theorem pure_call {P : Program} {call : Calls'} (hcall : CallOk P call) {f : FuncId} {args : List AV} {path : List Bool} {v : AV} (h : PureP v (call f args (G.on path))) (hv : v.low 0 = true) (w : World) {cargs : Array Value} (ha : Reps 0 MM.none args cargs.toList) :
    CF P f cargs w fun c w' => (∀ N μ, Rep N μ v c) ∧ RowKit.Below w.heap.size w w' := by
  have h := h.of
  unfold pureP at h
  split at h
  · rename_i v' g hr
    obtain ⟨rfl, hcs⟩ := h
    obtain ⟨_, hs⟩ := hcall _ _ _ _ _ hr
    refine (hs hcs MM.none w cargs (GOk.start _ _) ha).mono ?_
    rintro c w' ⟨μ', hv', _, hE⟩
    refine ⟨fun N μ => ?_, hE.os, hE.tape, hE.output, hE.size, fun k hk => hE.block k hk (by rintro ⟨g, b, h, _⟩; simp [G.on, T.get_e] at h)⟩
    have h1 : Rep 0 μ v' c := Rep.ofLow ⟨fun g hg => by omega, fun g hg => by omega, fun g hg => by omega, fun g hg => by omega⟩ hv hv'
    exact h1.later (.refl _ _) (Nat.zero_le _)
  · exact h.elim
theorem After.keepR {g g' : G} {μ : MM} {w w' : World} {v : AV} {c : Value} {p : Prop} (h : After g μ w g v c w') (k : Keep g g' p) : After g μ w g' v c w' := by
  obtain ⟨μ', h1, h2, h3⟩ := h
  exact ⟨μ', by rw [k.2.1]; exact h1, by rw [k.1, k.2.1]; exact h2, h3.swap rfl rfl k.1 k.2.1⟩
/-- a summary's entry: whatever the arguments, some road leads to what it says -/
theorem scal {P : Program} {call : Calls'} (hcall : CallOk P call) {f : FuncId} {args : List AV} {v : AV} {g : G}
    (H : ∀ μ (cargs : Array Value), Reps g.nx μ args cargs.toList → ∃ args' path lv, Reps 0 MM.none args' cargs.toList ∧ PureP lv (call f args' (G.on path)) ∧ lv.low 0 = true ∧ ∀ c, (∀ N μ, Rep N μ lv c) → Rep g.nx μ v c) : CallIs P f args v g g := by
  refine ⟨id, fun _ μ w cargs hg ha => ?_⟩
  obtain ⟨args', path, lv, h1, h2, h3, h4⟩ := H μ cargs ha
  exact (pure_call hcall h2 h3 w h1).mono fun c w' ⟨h5, h6⟩ => .below hg (h4 c h5) h6
/-- likewise, with something to be shown first -/
theorem scalK {P : Program} {call : Calls'} (hcall : CallOk P call) {f : FuncId} {args : List AV} {v : AV} {g g' : G} {p : Prop} (k : Keep g g' p)
    (H : p → ∀ μ (cargs : Array Value), Reps g.nx μ args cargs.toList → ∃ args' path lv, Reps 0 MM.none args' cargs.toList ∧ PureP lv (call f args' (G.on path)) ∧ lv.low 0 = true ∧ ∀ c, (∀ N μ, Rep N μ lv c) → Rep g.nx μ v c) : CallIs P f args v g g' := by
  refine ⟨fun hc => (k.2.2 hc).1, fun hc μ w cargs hg ha => ?_⟩
  obtain ⟨args', path, lv, h1, h2, h3, h4⟩ := H (k.2.2 hc).2 μ cargs ha
  exact (pure_call hcall h2 h3 w h1).mono fun c w' ⟨h5, h6⟩ => (After.below hg (h4 c h5) h6 : After g μ w g v c w').keepR k
theorem Rep_cmpB {N : Nat} {μ : MM} {s b : Bool} {c : Value} : Rep N μ (cmpB s b) c ↔ c = .bool b := by
  cases s <;> simp [cmpB, Rep]
/-- a law's call, from a road that ends in true -/
theorem pure_true {P : Program} {call : Calls'} (hcall : CallOk P call) {f : FuncId} {fn : Func} {c : Code} (hf : P.funcs[f]? = some fn) (hb : fn.body = some c) (hname : (fn.name == "runtime.NumGoroutine") = false) {args : List AV} {path : List Bool} {v : AV}
    (h : PureP v (call f args (G.on path))) (hv : v.low 0 = true) (ht : ∀ c, (∀ N μ, Rep N μ v c) → c = .bool true) (w : World) {cargs : Array Value} (ha : Reps 0 MM.none args cargs.toList) :
    Calls P f cargs w fun e w' => e = .returned (.bool true) ∧ RowKit.Below w.heap.size w w' := by
  rcases pure_call hcall h hv w ha with ⟨cv, w', e, _⟩ | ⟨f', args', w', e, hc⟩
  · rw [run_enter hf hname hb] at e; cases e
  · rw [run_enter hf hname hb] at e
    cases e
    refine hc.mono ?_
    rintro e1 w1 ⟨cv, rfl, h1, h2⟩
    exact ⟨by rw [ht cv h1], h2⟩
end Go.Sx
