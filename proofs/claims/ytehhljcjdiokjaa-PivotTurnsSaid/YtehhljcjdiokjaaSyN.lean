/- DRAWN REGIONS WITH MAKERS OF MEMORY IN NO ORDER: how the engine runs them: each operation in the part of the heap that is surely there. -/
import Derived.Test.YtehhljcjdiokjaaSyM
import Derived.Test.YtehhljcjdiokjaaSyB
set_option linter.unusedSimpArgs false
set_option linter.unusedVariables false
noncomputable section
namespace Go.Sx
open M

/-! ### names in ranges, decided -/
abbrev Rg := List (Nat × Nat)
def inR (l : Rg) (g : Nat) : Bool := l.any fun p => Nat.ble p.1 g && Nat.blt g p.2
mutual
def AV.inB (l : Rg) : AV → Bool
  | .ptr a => inR l a.g
  | .slc _ _ a _ => inR l a.g
  | .mp g => inR l g
  | .fn _ x c => insB l x && insB l c
  | .agg x => insB l x
  | .tup x => insB l x
  | _ => true
def insB (l : Rg) : List AV → Bool
  | [] => true
  | v :: x => v.inB l && insB l x
end
mutual
theorem AV.inS_of {l : Rg} : ∀ {v : AV}, v.inB l = true → v.inS fun g => inR l g = true
  | .top, _ => trivial
  | .bool _, _ => trivial
  | .sbool _, _ => trivial
  | .int .., _ => trivial
  | .flt .., _ => trivial
  | .raw .., _ => trivial
  | .bits .., _ => trivial
  | .cpx .., _ => trivial
  | .str .., _ => trivial
  | .ptr a, k => by simpa [AV.inB, AV.inS] using k
  | .nilp, _ => trivial
  | .slc _ _ a _, k => by simpa [AV.inB, AV.inS] using k
  | .nils, _ => trivial
  | .mp g, k => by simpa [AV.inB, AV.inS] using k
  | .nilm, _ => trivial
  | .fn f x c, k => by
    have k' : insB l x = true ∧ insB l c = true := by simpa [AV.inB] using k
    simp only [AV.inS]; exact ⟨insS_of k'.1, insS_of k'.2⟩
  | .nilf, _ => trivial
  | .nili, _ => trivial
  | .agg x, k => by simp only [AV.inS]; exact insS_of (by simpa [AV.inB] using k)
  | .tup x, k => by simp only [AV.inS]; exact insS_of (by simpa [AV.inB] using k)
theorem insS_of {l : Rg} : ∀ {x : List AV}, insB l x = true → insS (fun g => inR l g = true) x
  | [], _ => trivial
  | v :: x, k => by
    have k' : v.inB l = true ∧ insB l x = true := by simpa [insB] using k
    simp only [insS]; exact ⟨AV.inS_of k'.1, insS_of k'.2⟩
end
theorem insS.get {S : Nat → Prop} : ∀ {x : List AV}, insS S x → ∀ {o : Nat} {v : AV}, x[o]? = some v → v.inS S
  | [], _, o, v, h => by simp at h
  | u :: x, k, 0, v, h => by simp at h; subst h; exact k.1
  | u :: x, k, o + 1, v, h => insS.get k.2 (by simpa using h)
def T.allB {α : Type} (p : α → Bool) : T α → Bool
  | .e => true
  | .n l v r => T.allB p l && (match v with
    | some a => p a
    | none => true) && T.allB p r
theorem T.allB_get {α : Type} {p : α → Bool} : ∀ {t : T α}, T.allB p t = true → ∀ {i : Nat} {a : α}, t.get i = some a → p a = true
  | .e, _, i, a, h => by simp [T.get_e] at h
  | .n l v r, k, 0, a, h => by
    simp only [T.allB, Bool.and_eq_true] at k
    rw [T.get_n0] at h
    subst h
    exact k.1.2
  | .n l v r, k, i + 1, a, h => by
    simp only [T.allB, Bool.and_eq_true] at k
    rw [T.get_ns] at h
    cases hb : Nat.beq (i % 2) 0 with
    | true => rw [hb, cond_true] at h; exact T.allB_get k.1.1 h
    | false => rw [hb, cond_false] at h; exact T.allB_get k.2 h
/-- decided, but for contents that are told by a function -/
def Cont.inB (l : Rg) : Cont → Bool
  | .lit d t => insB l d && T.allB (insB l) t
  | .fn _ => true
def ABk.inB (l : Rg) : ABk → Bool
  | .cells own _ _ c => own && c.inB l
  | _ => true
def needsF (l : Rg) (n : Nat) (f : Nat → List AV) : Prop := ∀ i, i < n → ∀ (o : Nat) (v : AV), (f i)[o]? = some v → v.inS fun g => inR l g = true
def addN (l : Rg) (cs : Prop) : Option ABk → Prop
  | some (.cells true _ n (.fn f)) => cs ∧ needsF l n f
  | _ => cs
def keepB (l : Rg) : Option ABk → Option ABk
  | some b => bif b.inB l then some b else none
  | none => none
theorem keepB_some {l : Rg} {o : Option ABk} {b : ABk} (h : keepB l o = some b) : o = some b ∧ b.inB l = true := by
  cases o with
  | none => cases h
  | some b' =>
    simp only [keepB] at h
    cases hb : b'.inB l with
    | true => rw [hb, cond_true] at h; cases h; exact ⟨rfl, hb⟩
    | false => rw [hb, cond_false] at h; cases h
theorem ABk.inS_of {l : Rg} {b : ABk} {cs : Prop} (h : b.inB l = true) (hn : addN l cs (some b)) : b.owned = true ∧ b.inS fun g => inR l g = true := by
  cases b with
  | cells own sz n c =>
    simp only [ABk.inB, Bool.and_eq_true] at h
    obtain ⟨rfl, h⟩ := h
    refine ⟨rfl, fun i hi o v hv => ?_⟩
    cases c with
    | lit d t =>
      simp only [Cont.inB, Bool.and_eq_true] at h
      simp only [Cont.row] at hv
      cases hg : t.get i with
      | none => rw [hg] at hv; exact (insS_of h.1).get hv
      | some r => rw [hg] at hv; exact (insS_of (T.allB_get h.2 hg)).get hv
    | fn f => exact hn.2 i hi o v hv
  | mSI s x => exact ⟨rfl, trivial⟩
  | mII s x => exact ⟨rfl, trivial⟩
  | sit s x p => exact ⟨rfl, trivial⟩
theorem addN_cs {l : Rg} {cs : Prop} {o : Option ABk} (h : addN l cs o) : cs := by
  unfold addN at h
  split at h
  · exact h.1
  · exact h
theorem addN_mono {l : Rg} {cs cs' : Prop} {o : Option ABk} (hc : cs → cs') (h : addN l cs o) : addN l cs' o := by
  cases o with
  | none => exact hc h
  | some b =>
    cases b with
    | cells own sz n c => cases own <;> cases c <;> first | exact hc h | exact ⟨hc h.1, h.2⟩
    | _ => exact hc h
/-- the names of ns as src has them, where they may be kept -/
def putH (l : Rg) (src : T ABk) : List Nat → T ABk → T ABk
  | [], H => H
  | nm :: r, H => putH l src r (H.upd nm (keepB l (src.get nm)))
def putP (l : Rg) (src : T ABk) : List Nat → Prop → Prop
  | [], cs => cs
  | nm :: r, cs => putP l src r (addN l cs (src.get nm))
theorem get_putH (l : Rg) (src : T ABk) : ∀ (ns : List Nat) (H : T ABk) (i : Nat), (putH l src ns H).get i = if i ∈ ns then keepB l (src.get i) else H.get i
  | [], H, i => by simp [putH]
  | k :: r, H, i => by
    simp only [putH, get_putH l src r, T.get_upd, List.mem_cons]
    by_cases h1 : i ∈ r
    · simp [h1]
    · by_cases h2 : i = k
      · subst h2; simp [h1]
      · simp [h1, h2]
theorem putP_cs {l : Rg} {src : T ABk} : ∀ {ns : List Nat} {cs : Prop}, putP l src ns cs → cs
  | [], cs, h => h
  | nm :: r, cs, h => addN_cs (putP_cs (ns := r) h)
theorem putP_at {l : Rg} {src : T ABk} : ∀ {ns : List Nat} {cs : Prop}, putP l src ns cs → ∀ nm ∈ ns, addN l True (src.get nm)
  | [], cs, h, nm, hn => by cases hn
  | k :: r, cs, h, nm, hn => by
    rcases List.mem_cons.1 hn with rfl | hn
    · exact addN_mono (fun _ => trivial) (putP_cs (ns := r) h)
    · exact putP_at (ns := r) h nm hn

/-! ### the pass -/
structure RcB where
  v : AV
  fin : Fr
  gin : G
  gout : G
  T : List Nat
  fr1 : Fr
  g1 : G
abbrev Mk := List (Nat × Nat × Nat)
def rgOf (ms : List Nat) (nx0 j : Nat) (mk : Mk) (a b : Nat) : Rg := (0, nx0) :: (a, b) :: ((mk.filter fun p => befM ms p.1 j).map (·.2))
def hidOf (ms : List Nat) (j : Nat) (mk : Mk) : List Nat := (mk.filter fun p => !befM ms p.1 j).flatMap fun p => List.range' p.2.1 (p.2.2 - p.2.1)
def viewB (C : Cfg) (j : Nat) (o : Oper) (mk : Mk) (g : G) : G :=
  { g with H := bif light o.op then .e else eraseAll (eraseAll g.H ((C.inc j).flatMap fun k => C.Ts.getD k [])) (hidOf C.ms j mk), tch := [] }
def tOf (gi go : G) : List Nat := go.tch.filter fun nm => (gi.H.get nm).isSome
def nsOf (gi go : G) : List Nat := tOf gi go ++ List.range' gi.nx (go.nx - gi.nx)
def outB (C : Cfg) (j : Nat) (mk : Mk) (g gi go : G) : G :=
  { go with H := putH (rgOf C.ms C.nx0 j mk g.nx go.nx) go.H (nsOf gi go) g.H, tch := tOf gi go ++ g.tch, cs := putP (rgOf C.ms C.nx0 j mk g.nx go.nx) go.H (nsOf gi go) go.cs }
def stepB (P : Program) (call : Calls') (C : Cfg) (j : Nat) (o : Oper) (fr : Fr) (mk : Mk) : M RcB := fun g =>
  match oneA P call C.all (C.isg j) (C.fin j fr) o (viewB C j o mk g) with
  | .done v go =>
    bif Nat.ble g.nx go.nx && v.inB (rgOf C.ms C.nx0 j mk g.nx go.nx) then
      .done ⟨v, C.fin j fr, viewB C j o mk g, go, tOf (viewB C j o mk g) go, nextFr o fr v, outB C j mk g (viewB C j o mk g) go⟩ (outB C j mk g (viewB C j o mk g) go)
    else .fail
  | .need b => .need b
  | .fail => .fail
def passB (P : Program) (call : Calls') (C : Cfg) : Nat → List Oper → Fr → Mk → M (List RcB)
  | _, [], _, _ => ret []
  | j, o :: l, fr, mk => (stepB P call C j o fr mk).andThen fun rc =>
    (passB P call C (j + 1) l rc.fr1 ((j, rc.gin.nx, rc.g1.nx) :: mk)).andThen fun rcs => ret (rc :: rcs)
def seenOkB (C : Cfg) : Nat → List RcB → Bool
  | _, [] => true
  | j, rc :: l => ((rc.T.all fun nm => (C.Ts.getD j []).contains nm) || ((C.inc j).all fun k => ((C.all[k]?).map fun o => light o.op).getD true)) && seenOkB C (j + 1) l
def lastFrB : Fr → List RcB → Fr
  | fr, [] => fr
  | _, rc :: l => lastFrB rc.fr1 l
def regionB (P : Program) (call : Calls') (nT : Nat) (ops : List Oper) (fr : Fr) : M Fr := fun g =>
  bif staticOk (masksOf [] ops) nT 0 0 ops then
    match passB P call ⟨nT, ops, masksOf [] ops, [], 0, g.nx⟩ 0 ops fr [] g with
    | .done rcs g' =>
      bif seenOkB ⟨nT, ops, masksOf [] ops, [], 0, g.nx⟩ 0 rcs then .done (lastFrB fr rcs) g' else
        match passB P call ⟨nT, ops, masksOf [] ops, rcs.map (·.T), 0, g.nx⟩ 0 ops fr [] g with
        | .done rcs' g'' => bif seenOkB ⟨nT, ops, masksOf [] ops, rcs.map (·.T), 0, g.nx⟩ 0 rcs' then .done (lastFrB fr rcs') g'' else .fail
        | .need b => .need b
        | .fail => .fail
    | .need b => .need b
    | .fail => .fail
  else .fail
/-- a drawn region: by the narrower plan, or by the wider one -/
def regionC (P : Program) (call : Calls') (nT : Nat) (ops : List Oper) (fr : Fr) : M Fr := fun g =>
  match regionA P call nT ops fr g with
  | .fail => regionB P call nT ops fr g
  | r => r

/-! ### what a pass gives -/
structure RcOkB (P : Program) (call : Calls') (C : Cfg) (j : Nat) (o : Oper) (fr : Fr) (mk : Mk) (g : G) (rc : RcB) (g' : G) : Prop where
  fin : rc.fin = C.fin j fr
  gin : rc.gin = viewB C j o mk g
  fr1 : rc.fr1 = nextFr o fr rc.v
  g1 : rc.g1 = g'
  run : oneA P call C.all (C.isg j) rc.fin o rc.gin = .done rc.v rc.gout
  T : rc.T = tOf rc.gin rc.gout
  nxs : g.nx ≤ rc.gout.nx
  inB : rc.v.inB (rgOf C.ms C.nx0 j mk g.nx rc.gout.nx) = true
  out : g' = outB C j mk g rc.gin rc.gout
theorem stepB_done {P : Program} {call : Calls'} {C : Cfg} {j : Nat} {o : Oper} {fr : Fr} {mk : Mk} {g : G} {rc : RcB} {g' : G} (h : stepB P call C j o fr mk g = .done rc g') : RcOkB P call C j o fr mk g rc g' := by
  unfold stepB at h
  generalize hone : oneA P call C.all (C.isg j) (C.fin j fr) o (viewB C j o mk g) = r at h
  split at h
  · rename_i v go
    cases hb : (Nat.ble g.nx go.nx && v.inB (rgOf C.ms C.nx0 j mk g.nx go.nx)) with
    | false => rw [hb] at h; cases h
    | true =>
      rw [hb] at h
      cases h
      simp only [Bool.and_eq_true] at hb
      exact ⟨rfl, rfl, rfl, rfl, hone, rfl, Nat.le_of_ble_eq_true hb.1, hb.2, rfl⟩
  · cases h
  · cases h
def frAtB (fr : Fr) (rcs : List RcB) : Nat → Fr
  | 0 => fr
  | i + 1 => ((rcs[i]?).map (·.fr1)).getD fr
def gAtB (g : G) (rcs : List RcB) : Nat → G
  | 0 => g
  | i + 1 => ((rcs[i]?).map (·.g1)).getD g
theorem frAtB_cons (fr : Fr) (rc : RcB) (rcs : List RcB) : ∀ i, i ≤ rcs.length → frAtB fr (rc :: rcs) (i + 1) = frAtB rc.fr1 rcs i
  | 0, _ => by simp [frAtB]
  | i + 1, h => by
    have : rcs[i]? = some rcs[i] := List.getElem?_eq_getElem (by omega)
    simp [frAtB, this]
theorem gAtB_cons (g : G) (rc : RcB) (rcs : List RcB) : ∀ i, i ≤ rcs.length → gAtB g (rc :: rcs) (i + 1) = gAtB rc.g1 rcs i
  | 0, _ => by simp [gAtB]
  | i + 1, h => by
    have : rcs[i]? = some rcs[i] := List.getElem?_eq_getElem (by omega)
    simp [gAtB, this]
theorem passB_at {P : Program} {call : Calls'} {C : Cfg} : ∀ {l : List Oper} {j : Nat} {fr : Fr} {mk : Mk} {g : G} {rcs : List RcB} {g' : G}, passB P call C j l fr mk g = .done rcs g' →
    rcs.length = l.length ∧ gAtB g rcs l.length = g' ∧ frAtB fr rcs l.length = lastFrB fr rcs ∧ ∀ i o, l[i]? = some o → ∃ rc mk', rcs[i]? = some rc ∧ RcOkB P call C (j + i) o (frAtB fr rcs i) mk' (gAtB g rcs i) rc (gAtB g rcs (i + 1)) ∧
      (∀ p ∈ mk', p ∈ mk ∨ ∃ m r, m < i ∧ rcs[m]? = some r ∧ p = (j + m, r.gin.nx, r.g1.nx)) ∧ (∀ p ∈ mk, p ∈ mk') ∧ (∀ m r, m < i → rcs[m]? = some r → (j + m, r.gin.nx, r.g1.nx) ∈ mk')
  | [], j, fr, mk, g, rcs, g', h => by
    unfold passB at h
    obtain ⟨rfl, rfl⟩ := ret_done h
    exact ⟨rfl, rfl, rfl, fun i o hi => by simp at hi⟩
  | o :: l, j, fr, mk, g, rcs, g', h => by
    unfold passB at h
    obtain ⟨rc, g1, a1, h1⟩ := done_of h
    obtain ⟨rcs', g2, a2, h2⟩ := done_of h1
    obtain ⟨rfl, rfl⟩ := ret_done h2
    have hr := stepB_done a1
    obtain ⟨p1, p2, p3, p4⟩ := passB_at a2
    refine ⟨by simp [p1], ?_, ?_, fun i o' hi => ?_⟩
    · rw [List.length_cons, gAtB_cons _ _ _ _ (by omega), hr.g1]; exact p2
    · rw [List.length_cons, frAtB_cons _ _ _ _ (by omega)]; exact p3
    · cases i with
      | zero =>
        simp only [List.getElem?_cons_zero, Option.some.injEq] at hi
        subst hi
        refine ⟨rc, mk, rfl, ?_, fun c hc => .inl hc, fun c hc => hc, fun m r hm => by omega⟩
        have e : gAtB g (rc :: rcs') (0 + 1) = g1 := by simp [gAtB, hr.g1]
        rw [e]
        exact hr
      | succ i =>
        have hi' : l[i]? = some o' := by simpa using hi
        have hlt : i < l.length := (List.getElem?_eq_some_iff.1 hi').1
        obtain ⟨r', mk', q1, q2, q3, q4, q5⟩ := p4 i o' hi'
        refine ⟨r', mk', by simpa using q1, ?_, fun c hc => ?_, fun c hc => ?_, fun m r hm hr1 => ?_⟩
        · rw [frAtB_cons _ _ _ _ (by omega), gAtB_cons _ _ _ _ (by omega), gAtB_cons _ _ _ _ (by omega), hr.g1, show j + (i + 1) = j + 1 + i by omega]
          exact q2
        · rcases q3 c hc with h3 | ⟨m, r, m1, m2, m4⟩
          · rcases List.mem_cons.1 h3 with rfl | h3
            · exact .inr ⟨0, rc, by omega, rfl, rfl⟩
            · exact .inl h3
          · exact .inr ⟨m + 1, r, by omega, by simpa using m2, by rw [m4, show j + (m + 1) = j + 1 + m by omega]⟩
        · exact q4 c (List.mem_cons_of_mem _ hc)
        · cases m with
          | zero =>
            simp only [List.getElem?_cons_zero, Option.some.injEq] at hr1
            subst hr1
            exact q4 _ List.mem_cons_self
          | succ m =>
            rw [show j + (m + 1) = j + 1 + m by omega]
            exact q5 m r (by omega) (by simpa using hr1)
theorem seenOkB_at {C : Cfg} : ∀ {l : List RcB} {j : Nat}, seenOkB C j l = true → ∀ i rc, l[i]? = some rc → (∀ nm ∈ rc.T, nm ∈ C.Ts.getD (j + i) []) ∨ ∀ k ∈ C.inc (j + i), ∀ o, C.all[k]? = some o → light o.op = true
  | [], j, h, i, rc, hi => by simp at hi
  | r :: l, j, h, i, rc, hi => by
    simp only [seenOkB, Bool.and_eq_true] at h
    cases i with
    | zero =>
      simp only [List.getElem?_cons_zero, Option.some.injEq] at hi
      subst hi
      rcases Bool.or_eq_true _ _ ▸ h.1 with h | h
      · left
        rw [List.all_eq_true] at h
        exact fun nm hn => by simpa using h nm hn
      · right
        rw [List.all_eq_true] at h
        intro k hk o ho
        have := h k hk
        rw [ho] at this
        simpa using this
    | succ i =>
      rw [show j + (i + 1) = j + 1 + i by omega]
      exact seenOkB_at h.2 i rc (by simpa using hi)
theorem stepB_tch {P : Program} {call : Calls'} (hct : CallT call) {C : Cfg} {j : Nat} {o : Oper} {fr : Fr} {mk : Mk} : Tch (stepB P call C j o fr mk) := ⟨fun g rc g' h => by
  have hr := stepB_done h
  refine ⟨tOf rc.gin rc.gout, by rw [hr.out]; rfl, by rw [hr.out]; exact hr.nxs, fun nm hn hl => ?_⟩
  rw [hr.out]
  show (putH _ rc.gout.H (nsOf rc.gin rc.gout) g.H).get nm = _
  rw [get_putH, if_neg]
  unfold nsOf
  rw [List.mem_append, not_or]
  refine ⟨hl, fun hm => ?_⟩
  have := (List.mem_range'_1.1 hm).1
  rw [hr.gin] at this
  have e : (viewB C j o mk g).nx = g.nx := rfl
  omega⟩
theorem passB_tch {P : Program} {call : Calls'} (hct : CallT call) {C : Cfg} : ∀ (l : List Oper) (j : Nat) (fr : Fr) (mk : Mk), Tch (passB P call C j l fr mk)
  | [], j, fr, mk => Tch.ret _
  | o :: l, j, fr, mk => (stepB_tch hct).andThen fun rc => (passB_tch hct l _ _ _).andThen fun _ => Tch.ret _
theorem regionB_done {P : Program} {call : Calls'} {nT : Nat} {ops : List Oper} {fr fr' : Fr} {g g' : G} (h : regionB P call nT ops fr g = .done fr' g') :
    staticOk (masksOf [] ops) nT 0 0 ops = true ∧ ∃ Ts rcs, passB P call ⟨nT, ops, masksOf [] ops, Ts, 0, g.nx⟩ 0 ops fr [] g = .done rcs g' ∧ seenOkB ⟨nT, ops, masksOf [] ops, Ts, 0, g.nx⟩ 0 rcs = true ∧ fr' = lastFrB fr rcs := by
  unfold regionB at h
  cases hst : staticOk (masksOf [] ops) nT 0 0 ops with
  | false => rw [hst] at h; cases h
  | true =>
    rw [hst, cond_true] at h
    refine ⟨rfl, ?_⟩
    generalize hp : passB P call ⟨nT, ops, masksOf [] ops, [], 0, g.nx⟩ 0 ops fr [] g = r at h
    split at h
    · rename_i rcs g1
      cases hb : seenOkB ⟨nT, ops, masksOf [] ops, [], 0, g.nx⟩ 0 rcs with
      | true =>
        rw [hb, cond_true] at h
        cases h
        exact ⟨_, _, hp, hb, rfl⟩
      | false =>
        rw [hb, cond_false] at h
        generalize hp2 : passB P call ⟨nT, ops, masksOf [] ops, rcs.map (·.T), 0, g.nx⟩ 0 ops fr [] g = r2 at h
        split at h
        · rename_i rcs2 g2
          cases hb2 : seenOkB ⟨nT, ops, masksOf [] ops, rcs.map (·.T), 0, g.nx⟩ 0 rcs2 with
          | true =>
            rw [hb2, cond_true] at h
            cases h
            exact ⟨_, _, hp2, hb2, rfl⟩
          | false => rw [hb2, cond_false] at h; cases h
        · cases h
        · cases h
    · cases h
    · cases h
theorem regionB_tch {P : Program} {call : Calls'} (hct : CallT call) (n : Nat) (ops : List Oper) (fr : Fr) : Tch (regionB P call n ops fr) := ⟨fun g fr' g' h => by
  obtain ⟨_, Ts, rcs, hp, _⟩ := regionB_done h
  exact (passB_tch hct ops _ _ _).of _ _ _ hp⟩
theorem regionC_tch {P : Program} {call : Calls'} (hct : CallT call) (n : Nat) (ops : List Oper) (fr : Fr) : Tch (regionC P call n ops fr) := ⟨fun g fr' g' h => by
  unfold regionC at h
  split at h
  · exact (regionB_tch hct n ops fr).of _ _ _ h
  · exact (regionA_tch hct n ops fr).of _ _ _ h⟩
end Go.Sx
