/- WHAT IS KNOWN BEFOREHAND: functions without a body. -/
import Derived.Test.YtehhljcjdiokjaaSyB
set_option linter.unusedSimpArgs false
set_option linter.unusedVariables false
noncomputable section
namespace Go.Sx
open M

/-- a summary of a function without a body that turns nothing -/
def ExtIs (P : Program) (e : Array Value → Sem Value) (s : List AV → M AV) : Prop :=
  ∀ args v g g', s args g = .done v g' → ∃ p, Keep g g' p ∧ (p → ∀ N μ (w : World) (cargs : Array Value), Reps N μ args cargs.toList → ∃ c, (e cargs).run P w = .ok c w ∧ Rep N μ v c)
theorem ExtIs.callIs {P : Program} {f : FuncId} {fn : Func} {e : Array Value → Sem Value} {s : List AV → M AV} (h : ExtIs P e s) (hf : P.funcs[f]? = some fn) (hname : (fn.name == "runtime.NumGoroutine") = false)
    (hb : fn.body.isNone = true) (hn : Extern.findNext fn = none) (he : Extern.find fn = some e) : ∀ args v g g', s args g = .done v g' → CallIs P f args v g g' := fun args v g g' hs => by
  obtain ⟨p, k, hr⟩ := h args v g g' hs
  refine ⟨fun hc => (k.2.2 hc).1, fun hc μ w cargs hg ha => .inl ?_⟩
  obtain ⟨c, e1, hv⟩ := hr (k.2.2 hc).2 g.nx μ w cargs ha
  refine ⟨c, w, ?_, .keep0 k hg hv⟩
  rw [run_callFunc_extern hf hname hb hn he, e1]
  rfl
/-- math.Float64bits -/
def toBits : List AV → M AV
  | [.flt s x] => ret (.bits s x)
  | [.raw s x] => ret (.int s .u64 x)
  | _ => no
/-- math.Float64frombits -/
def ofBits : List AV → M AV
  | [.bits s x] => ret (.flt s x)
  | [.int s .u64 n] => (ck s (0 ≤ n ∧ n < 18446744073709551616)).andThen fun _ => ret (.raw s n.toNat)
  | _ => no
theorem toBits_is (P : Program) : ExtIs P Extern.MathFloatBits.float64bits toBits := fun args v g g' h => by
  unfold toBits at h
  split at h
  · rename_i s x
    obtain ⟨rfl, rfl⟩ := ret_done h
    refine ⟨_, Keep.refl _, fun _ N μ w cargs hr => ?_⟩
    obtain ⟨c, rfl, hx⟩ := hr.one
    simp only [Rep] at hx
    obtain ⟨b, rfl, hb⟩ := hx
    exact ⟨.int .u64 b, rfl, by simp only [Rep]; exact ⟨b, rfl, hb⟩⟩
  · rename_i s x
    obtain ⟨rfl, rfl⟩ := ret_done h
    refine ⟨_, Keep.refl _, fun _ N μ w cargs hr => ?_⟩
    obtain ⟨c, rfl, hx⟩ := hr.one
    simp only [Rep] at hx
    obtain ⟨rfl, hb⟩ := hx
    exact ⟨.int .u64 x, rfl, by simp only [Rep]⟩
  · exact (no_done h).elim
theorem ofBits_is (P : Program) : ExtIs P Extern.MathFloatBits.float64frombits ofBits := fun args v g g' h => by
  unfold ofBits at h
  split at h
  · rename_i s x
    obtain ⟨rfl, rfl⟩ := ret_done h
    refine ⟨_, Keep.refl _, fun _ N μ w cargs hr => ?_⟩
    obtain ⟨c, rfl, hx⟩ := hr.one
    simp only [Rep] at hx
    obtain ⟨b, rfl, hb⟩ := hx
    exact ⟨.float .f64 b, rfl, by simp only [Rep]; exact ⟨b, rfl, hb⟩⟩
  · rename_i s n
    obtain ⟨_, g1, a1, h1⟩ := done_of h
    obtain ⟨rfl, rfl⟩ := ret_done h1
    refine ⟨_, ck_done a1, fun hp N μ w cargs hr => ?_⟩
    obtain ⟨c, rfl, hx⟩ := hr.one
    simp only [Rep] at hx
    subst hx
    exact ⟨.float .f64 n.toNat, rfl, by simp only [Rep]; exact ⟨trivial, by omega⟩⟩
  · exact (no_done h).elim
theorem Tch.toBits (l : List AV) : Tch (Sx.toBits l) := by
  unfold Sx.toBits; split
  · exact Tch.ret _
  · exact Tch.ret _
  · exact Tch.no
theorem Tch.ofBits (l : List AV) : Tch (Sx.ofBits l) := by
  unfold Sx.ofBits; split
  · exact Tch.ret _
  · exact (Tch.ck _ _).andThen fun _ => Tch.ret _
  · exact Tch.no

/-! ### closed statements -/
def G.start : G := ⟨.e, 0, [], [], True⟩
def MM.none : MM := ⟨fun _ => 0, fun _ => 0, fun _ => 0, fun _ => 0⟩
def isTrueP : Res AV → Prop
  | .done (.bool true) g => g.cs
  | _ => False
theorem GOk.start (μ : MM) (hp : Array Obj) : GOk 0 μ hp .e :=
  ⟨fun _ _ h => by simp [T.get] at h, fun _ _ h => by simp [T.get] at h, fun _ _ _ _ h => by simp [T.get] at h⟩
/-- a closed run that ends in 'true': the call returns true, of old memory nothing has turned -/
theorem closed {P : Program} {call : Calls'} (hcall : CallOk P call) {f : FuncId} {fn : Func} {c : Code} (hf : P.funcs[f]? = some fn) (hb : fn.body = some c) (hname : (fn.name == "runtime.NumGoroutine") = false)
    (h : isTrueP (call f [] G.start) = True) (w : World) :
    Calls P f #[] w fun e w' => e = .returned (.bool true) ∧ RowKit.Below w.heap.size w w' := by
  replace h := of_eq_true h
  unfold isTrueP at h
  split at h
  · rename_i g hr
    obtain ⟨_, hs⟩ := hcall _ _ _ _ _ hr
    have := hs h MM.none w #[] (GOk.start _ _) (by simp [Reps])
    rcases this with ⟨cv, w', e, _⟩ | ⟨f', args', w', e, hc⟩
    · rw [run_enter hf hname hb] at e; cases e
    · rw [run_enter hf hname hb] at e
      cases e
      refine hc.mono ?_
      rintro e1 w1 ⟨cv, rfl, μ', hv, _, hE⟩
      simp only [Rep] at hv
      subst hv
      exact ⟨rfl, hE.os, hE.tape, hE.output, hE.size, fun k hk => hE.block k hk (by rintro ⟨g, b, h, _⟩; simp [G.start, T.get] at h)⟩
  · exact h.elim
end Go.Sx
