/- DRAWN REGIONS: the pass gives a plan. -/
import Derived.Test.YtehhljcjdiokjaaSxY
set_option linter.unusedSimpArgs false
set_option linter.unusedVariables false
noncomputable section
namespace Go.Sx
open M

def nextFr (o : Oper) (fr : Fr) (v : AV) : Fr :=
  match o.dst with
  | some d => fr.upd d (some v)
  | none => fr
structure RcOk (P : Program) (call : Calls') (C : Cfg) (j : Nat) (o : Oper) (fr : Fr) (chs : List (Nat × Nat)) (g : G) (rc : Rc) (g' : G) : Prop where
  fin : rc.fin = C.fin j fr
  lim : rc.lim = limOf C.nx0 (C.ms.getD j 0) chs
  fr0 : rc.fr0 = fr
  fr1 : rc.fr1 = nextFr o fr rc.v
  g0 : rc.g0 = g
  g1 : rc.g1 = g'
  run : oneA P call C.all (C.isg j) rc.fin o rc.gin = .done rc.v rc.gout
  csin : rc.gin.cs = g.cs
  csout : g'.cs = rc.gout.cs
  tin : rc.gin.tch = []
  nxs : rc.gin.nx ≤ rc.gout.nx
  read : rc.ch = false → rc.T = [] ∧ rc.gin = readIn C j o rc.lim g ∧ (∀ nm ∈ rc.gout.tch, C.NX ≤ nm) ∧ rc.v.low rc.lim = true ∧ g'.H = g.H ∧ g'.nx = g.nx ∧ g'.tch = g.tch
  chain : rc.ch = true → rc.gin.H = g.H ∧ rc.gin.nx = g.nx ∧ rc.T = rc.gout.tch ∧ g'.H = rc.gout.H ∧ g'.nx = rc.gout.nx ∧ g'.tch = rc.gout.tch ++ g.tch ∧ ∀ c ∈ chs, befM C.ms c.1 j = true
theorem readR_done {P : Program} {call : Calls'} {C : Cfg} {j : Nat} {o : Oper} {fr : Fr} {chs : List (Nat × Nat)} {g : G} {rc : Rc} {g' : G} (h : readR P call C j o fr (limOf C.nx0 (C.ms.getD j 0) chs) g = .done rc g') : RcOk P call C j o fr chs g rc g' := by
  unfold readR at h
  generalize hone : oneA P call C.all (C.isg j) (C.fin j fr) o (readIn C j o (limOf C.nx0 (C.ms.getD j 0) chs) g) = r at h
  split at h
  · rename_i v go
    cases hb : ((go.tch.all fun nm => Nat.ble C.NX nm) && v.low (limOf C.nx0 (C.ms.getD j 0) chs) && Nat.ble C.NX go.nx) with
    | false => rw [hb] at h; cases h
    | true =>
      rw [hb] at h
      cases h
      simp only [Bool.and_eq_true, List.all_eq_true] at hb
      exact ⟨rfl, rfl, rfl, rfl, rfl, rfl, hone, rfl, rfl, rfl, Nat.le_of_ble_eq_true hb.2, fun _ => ⟨rfl, rfl, fun nm hn => Nat.le_of_ble_eq_true (hb.1.1 nm hn), hb.1.2, rfl, rfl, rfl⟩, fun h => by cases h⟩
  · cases h
  · cases h
theorem chainR_done {P : Program} {call : Calls'} {C : Cfg} {j : Nat} {o : Oper} {fr : Fr} {chs : List (Nat × Nat)} {g : G} {rc : Rc} {g' : G} (h : chainR P call C j o fr chs (limOf C.nx0 (C.ms.getD j 0) chs) g = .done rc g') : RcOk P call C j o fr chs g rc g' := by
  unfold chainR at h
  generalize hone : oneA P call C.all (C.isg j) (C.fin j fr) o { g with tch := [] } = r at h
  split at h
  · rename_i v go
    cases hb : ((chs.all fun c => befM C.ms c.1 j) && Nat.ble g.nx go.nx) with
    | false => rw [hb] at h; cases h
    | true =>
      rw [hb] at h
      cases h
      simp only [Bool.and_eq_true, List.all_eq_true] at hb
      exact ⟨rfl, rfl, rfl, rfl, rfl, rfl, hone, rfl, rfl, rfl, Nat.le_of_ble_eq_true hb.2, (fun h => by cases h), fun _ => ⟨rfl, rfl, rfl, rfl, rfl, rfl, hb.1⟩⟩
  · cases h
  · cases h
theorem stepR_done {P : Program} {call : Calls'} {C : Cfg} {j : Nat} {o : Oper} {fr : Fr} {chs : List (Nat × Nat)} {g : G} {rc : Rc} {g' : G} (h : stepR P call C j o fr chs g = .done rc g') : RcOk P call C j o fr chs g rc g' := by
  unfold stepR at h
  cases hm : makes P o with
  | true => rw [hm] at h; exact chainR_done h
  | false =>
    rw [hm] at h
    simp only [cond_false] at h
    split at h
    · rename_i rc' g1 hr
      cases h
      exact readR_done hr
    · cases h
    · exact chainR_done h

/-! ### the pass -/
def frAt (fr : Fr) (rcs : List Rc) : Nat → Fr
  | 0 => fr
  | i + 1 => ((rcs[i]?).map (·.fr1)).getD fr
def gAt (g : G) (rcs : List Rc) : Nat → G
  | 0 => g
  | i + 1 => ((rcs[i]?).map (·.g1)).getD g
theorem frAt_cons (fr : Fr) (rc : Rc) (rcs : List Rc) : ∀ i, i ≤ rcs.length → frAt fr (rc :: rcs) (i + 1) = frAt rc.fr1 rcs i
  | 0, _ => by simp [frAt]
  | i + 1, h => by
    have : rcs[i]? = some rcs[i] := List.getElem?_eq_getElem (by omega)
    simp [frAt, this]
theorem gAt_cons (g : G) (rc : Rc) (rcs : List Rc) : ∀ i, i ≤ rcs.length → gAt g (rc :: rcs) (i + 1) = gAt rc.g1 rcs i
  | 0, _ => by simp [gAt]
  | i + 1, h => by
    have : rcs[i]? = some rcs[i] := List.getElem?_eq_getElem (by omega)
    simp [gAt, this]
theorem passA_at {P : Program} {call : Calls'} {C : Cfg} : ∀ {l : List Oper} {j : Nat} {fr : Fr} {chs : List (Nat × Nat)} {g : G} {rcs : List Rc} {g' : G}, passA P call C j l fr chs g = .done rcs g' →
    rcs.length = l.length ∧ gAt g rcs l.length = g' ∧ frAt fr rcs l.length = lastFr fr rcs ∧ ∀ i o, l[i]? = some o → ∃ rc chs', rcs[i]? = some rc ∧ RcOk P call C (j + i) o (frAt fr rcs i) chs' (gAt g rcs i) rc (gAt g rcs (i + 1)) ∧
      (∀ c ∈ chs', c ∈ chs ∨ ∃ m r, m < i ∧ rcs[m]? = some r ∧ r.ch = true ∧ c = (j + m, r.g1.nx)) ∧ (∀ c ∈ chs, c ∈ chs') ∧ (∀ m r, m < i → rcs[m]? = some r → r.ch = true → (j + m, r.g1.nx) ∈ chs')
  | [], j, fr, chs, g, rcs, g', h => by
    unfold passA at h
    obtain ⟨rfl, rfl⟩ := ret_done h
    exact ⟨rfl, rfl, rfl, fun i o hi => by simp at hi⟩
  | o :: l, j, fr, chs, g, rcs, g', h => by
    unfold passA at h
    obtain ⟨rc, g1, a1, h1⟩ := done_of h
    obtain ⟨rcs', g2, a2, h2⟩ := done_of h1
    obtain ⟨rfl, rfl⟩ := ret_done h2
    have hr := stepR_done a1
    obtain ⟨p1, p2, p3, p4⟩ := passA_at a2
    refine ⟨by simp [p1], ?_, ?_, fun i o' hi => ?_⟩
    · rw [List.length_cons, gAt_cons _ _ _ _ (by omega), hr.g1]; exact p2
    · rw [List.length_cons, frAt_cons _ _ _ _ (by omega)]; exact p3
    · cases i with
      | zero =>
        simp only [List.getElem?_cons_zero, Option.some.injEq] at hi
        subst hi
        refine ⟨rc, chs, rfl, ?_, fun c hc => .inl hc, fun c hc => hc, fun m r hm => by omega⟩
        have e : gAt g (rc :: rcs') (0 + 1) = g1 := by simp [gAt, hr.g1]
        rw [e]
        exact hr
      | succ i =>
        have hi' : l[i]? = some o' := by simpa using hi
        have hlt : i < l.length := (List.getElem?_eq_some_iff.1 hi').1
        obtain ⟨r', chs', q1, q2, q3, q4, q5⟩ := p4 i o' hi'
        refine ⟨r', chs', by simpa using q1, ?_, fun c hc => ?_, fun c hc => ?_, fun m r hm hr1 hr2 => ?_⟩
        · rw [frAt_cons _ _ _ _ (by omega), gAt_cons _ _ _ _ (by omega), gAt_cons _ _ _ _ (by omega), hr.g1, show j + (i + 1) = j + 1 + i by omega]
          exact q2
        · rcases q3 c hc with h3 | ⟨m, r, m1, m2, m3, m4⟩
          · cases hch : rc.ch with
            | false => rw [hch] at h3; exact .inl h3
            | true =>
              rw [hch] at h3
              rcases List.mem_cons.1 h3 with rfl | h3
              · exact .inr ⟨0, rc, by omega, rfl, hch, rfl⟩
              · exact .inl h3
          · exact .inr ⟨m + 1, r, by omega, by simpa using m2, m3, by rw [m4, show j + (m + 1) = j + 1 + m by omega]⟩
        · refine q4 c ?_
          cases rc.ch
          · exact hc
          · exact List.mem_cons_of_mem _ hc
        · cases m with
          | zero =>
            simp only [List.getElem?_cons_zero, Option.some.injEq] at hr1
            subst hr1
            refine q4 _ ?_
            rw [hr2]
            exact List.mem_cons_self
          | succ m =>
            rw [show j + (m + 1) = j + 1 + m by omega]
            exact q5 m r (by omega) (by simpa using hr1) hr2
theorem seenOk_at {C : Cfg} : ∀ {l : List Rc} {j : Nat}, seenOk C j l = true → ∀ i rc, l[i]? = some rc → (∀ nm ∈ rc.T, nm ∈ C.Ts.getD (j + i) []) ∨ ∀ k ∈ C.inc (j + i), ∀ o, C.all[k]? = some o → light o.op = true
  | [], j, h, i, rc, hi => by simp at hi
  | r :: l, j, h, i, rc, hi => by
    simp only [seenOk, Bool.and_eq_true] at h
    cases i with
    | zero =>
      simp only [List.getElem?_cons_zero, Option.some.injEq] at hi
      subst hi
      rcases Bool.or_eq_true _ _ ▸ h.1 with h | h
      · left
        rw [List.all_eq_true] at h
        exact fun nm hn => by simpa using h nm hn
      · right
        rw [List.all_eq_true] at h
        intro k hk o ho
        have := h k hk
        rw [ho] at this
        simpa using this
    | succ i =>
      rw [show j + (i + 1) = j + 1 + i by omega]
      exact seenOk_at h.2 i rc (by simpa using hi)
end Go.Sx
