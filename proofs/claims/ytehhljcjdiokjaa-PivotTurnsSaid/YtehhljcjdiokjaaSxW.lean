/- DRAWN REGIONS: how the engine runs them: definitions, and the law of one operation. -/
import Derived.Test.YtehhljcjdiokjaaSxV
set_option linter.unusedSimpArgs false
set_option linter.unusedVariables false
noncomputable section
namespace Go.Sx
open M

/-- an operation, or its being left out by its guard -/
def guardA (P : Program) (call : Calls') (all : List Oper) (fr : Fr) (o : Oper) : M AV :=
  match o.guard with
  | none => opA P call fr o
  | some (j, want) =>
    match (all[j]?).bind (·.dst) with
    | none => no
    | some d =>
      match fr.get d with
      | some (.bool b) => bif b == want then opA P call fr o else ret (.tup [])
      | some (.sbool b) => (dec b).andThen fun t => bif t == want then opA P call (fr.upd d (some (.bool t))) o else ret (.tup [])
      | some (.tup _) => ret (.tup [])
      | _ => no
/-- a test that guards others is decided at once -/
def settleA (isg : Bool) (v : AV) : M AV :=
  match v with
  | .sbool b => bif isg then (dec b).andThen fun t => ret (.bool t) else ret (.sbool b)
  | v => ret v
theorem Tch.guardA (P : Program) {call : Calls'} (hc : CallT call) (all : List Oper) (fr : Fr) (o : Oper) : Tch (Sx.guardA P call all fr o) := by
  unfold Sx.guardA
  repeat (first | with_reducible exact Tch.ret _ | with_reducible exact Tch.no | with_reducible exact Tch.dec _ | with_reducible exact Tch.opA _ hc _ _ | with_reducible apply Tch.cond | with_reducible apply Tch.andThen | intro _ | split)
theorem Tch.settleA (isg : Bool) (v : AV) : Tch (Sx.settleA isg v) := by
  unfold Sx.settleA
  repeat (first | with_reducible exact Tch.ret _ | with_reducible exact Tch.no | with_reducible exact Tch.dec _ | with_reducible apply Tch.cond | with_reducible apply Tch.andThen | intro _ | split)
theorem After.keepL {g g1 g' : G} {μ : MM} {w : World} {v : AV} {c : Value} {w' : World} {p : Prop} (k : Keep g g1 p) (h : After g1 μ w g' v c w') : After g μ w g' v c w' := by
  obtain ⟨μ', h1, h2, h3⟩ := h
  exact ⟨μ', h1, h2, h3.swap k.1.symm k.2.1.symm rfl rfl⟩
theorem guardA_sound {P : Program} {call : Calls'} (hcall : CallOk P call) {ops : Array Oper} {fr : Fr} {o : Oper} {v : AV} {g g' : G} (h : guardA P call ops.toList fr o g = .done v g') :
    (g'.cs → g.cs) ∧ (g'.cs → ∀ μ w (a : Act) n, GOk g.nx μ w.heap g.H → FrOk g.nx μ fr a.tmps n → StepWp P ops o g μ w g' v a) := by
  unfold guardA at h
  generalize hgd : o.guard = gd at h
  split at h
  · obtain ⟨hc, hs⟩ := opA_sound hcall h
    refine ⟨hc, fun hcs μ w a n hg hf next Q hn => ?_⟩
    rw [if_pos (by simp [Region.wanted, hgd])]
    exact hs hcs μ w a n hg hf next Q hn
  · rename_i j want
    generalize hd : (ops.toList[j]?).bind (·.dst) = dd at h
    rw [Array.getElem?_toList] at hd
    split at h
    · exact (no_done h).elim
    · rename_i d
      generalize hfd : fr.get d = fd at h
      split at h
      · rename_i b
        have key : ∀ N μ (a : Act) n, FrOk N μ fr a.tmps n → Region.wanted o (yielded ops a.tmps) = (b == want) := fun N μ a n hf =>
          wanted_eq hgd (yielded_of hd (by have := hf.val d _ hfd; simpa [Rep] using this))
        cases hb : (b == want) with
        | true =>
          rw [hb] at h key
          obtain ⟨hc, hs⟩ := opA_sound hcall h
          refine ⟨hc, fun hcs μ w a n hg hf next Q hn => ?_⟩
          rw [if_pos (key _ _ a n hf)]
          exact hs hcs μ w a n hg hf next Q hn
        | false =>
          rw [hb] at h key
          obtain ⟨rfl, rfl⟩ := ret_done h
          refine ⟨id, fun hcs μ w a n hg hf next Q hn => ?_⟩
          rw [if_neg (by rw [key _ _ a n hf]; simp)]
          exact hn undef w (.keep0 (Keep.refl g) hg Rep.undef)
      · rename_i b
        obtain ⟨t, g1, a1, h1⟩ := done_of h
        have k := dec_done a1
        have know : ∀ N μ (a : Act) n, b = t → FrOk N μ fr a.tmps n → FrOk N μ (fr.upd d (some (.bool t))) a.tmps n := fun N μ a n e hf =>
          hf.know hfd fun c hc => by simpa [Rep, e] using hc
        have key : ∀ N μ (a : Act) n, b = t → FrOk N μ fr a.tmps n → Region.wanted o (yielded ops a.tmps) = (t == want) := fun N μ a n e hf =>
          wanted_eq hgd (yielded_of hd (by have := hf.val d _ hfd; rw [← e]; simpa [Rep] using this))
        cases hb : (t == want) with
        | true =>
          simp only [hb, cond_true] at h1
          simp only [hb] at key
          obtain ⟨hc, hs⟩ := opA_sound hcall h1
          refine ⟨fun hcs => (k.2.2 (hc hcs)).1, fun hcs μ w a n hg hf next Q hn => ?_⟩
          have e := (k.2.2 (hc hcs)).2
          rw [if_pos (key _ _ a n e hf)]
          exact hs hcs μ w a n (by rw [k.1, k.2.1]; exact hg) (by rw [k.2.1]; exact know _ _ a n e hf) next Q fun c w' ha => hn c w' (ha.keepL k)
        | false =>
          simp only [hb, cond_false] at h1
          simp only [hb] at key
          obtain ⟨rfl, rfl⟩ := ret_done h1
          refine ⟨fun hcs => (k.2.2 hcs).1, fun hcs μ w a n hg hf next Q hn => ?_⟩
          have e := (k.2.2 hcs).2
          rw [if_neg (by rw [key _ _ a n e hf]; simp)]
          exact hn undef w (.keep0 k hg Rep.undef)
      · rename_i l
        have key : ∀ N μ (a : Act) n, FrOk N μ fr a.tmps n → Region.wanted o (yielded ops a.tmps) = false := fun N μ a n hf => by
          have := hf.val d _ hfd
          simp only [Rep] at this
          obtain ⟨cs, e, _⟩ := this
          exact wanted_no hgd (yielded_tup hd e)
        obtain ⟨rfl, rfl⟩ := ret_done h
        refine ⟨id, fun hcs μ w a n hg hf next Q hn => ?_⟩
        rw [if_neg (by rw [key _ _ a n hf]; simp)]
        exact hn undef w (.keep0 (Keep.refl g) hg Rep.undef)
      · exact (no_done h).elim
theorem settleA_sound {isg : Bool} {v u : AV} {g g' : G} (h : settleA isg v g = .done u g') : ∃ p, Keep g g' p ∧ (p → ∀ N μ c, Rep N μ v c → Rep N μ u c) := by
  unfold settleA at h
  split at h
  · rename_i b
    cases isg with
    | true =>
      obtain ⟨t, g1, a1, h1⟩ := done_of h
      have k := dec_done a1
      obtain ⟨rfl, rfl⟩ := ret_done h1
      exact ⟨_, k, fun e N μ c hc => by simpa [Rep, e] using hc⟩
    | false =>
      obtain ⟨rfl, rfl⟩ := ret_done h
      exact ⟨_, Keep.refl _, fun _ _ _ _ hc => hc⟩
  · obtain ⟨rfl, rfl⟩ := ret_done h
    exact ⟨_, Keep.refl _, fun _ _ _ _ hc => hc⟩
/-- one operation, its test decided -/
def oneA (P : Program) (call : Calls') (all : List Oper) (isg : Bool) (fr : Fr) (o : Oper) : M AV := (guardA P call all fr o).andThen fun v => settleA isg v
theorem Tch.oneA (P : Program) {call : Calls'} (hc : CallT call) (all : List Oper) (isg : Bool) (fr : Fr) (o : Oper) : Tch (Sx.oneA P call all isg fr o) := (Tch.guardA P hc all fr o).andThen fun v => Tch.settleA isg v
theorem oneA_sound {P : Program} {call : Calls'} (hcall : CallOk P call) {ops : Array Oper} {isg : Bool} {fr : Fr} {o : Oper} {v : AV} {g g' : G} (h : oneA P call ops.toList isg fr o g = .done v g') :
    (g'.cs → g.cs) ∧ (g'.cs → ∀ μ w (a : Act) n, GOk g.nx μ w.heap g.H → FrOk g.nx μ fr a.tmps n → StepWp P ops o g μ w g' v a) := by
  obtain ⟨u, g1, a1, h1⟩ := done_of h
  obtain ⟨hc, hs⟩ := guardA_sound hcall a1
  obtain ⟨p, k, hv⟩ := settleA_sound h1
  refine ⟨fun hcs => hc (k.2.2 hcs).1, fun hcs μ w a n hg hf next Q hn => hs (k.2.2 hcs).1 μ w a n hg hf next Q fun c w' ha => ?_⟩
  obtain ⟨μ', e1, e2, e3⟩ := ha
  exact hn c w' ⟨μ', by rw [k.2.1]; exact hv (k.2.2 hcs).2 _ _ _ e1, by rw [k.1, k.2.1]; exact e2, e3.swap rfl rfl k.1 k.2.1⟩
end Go.Sx
