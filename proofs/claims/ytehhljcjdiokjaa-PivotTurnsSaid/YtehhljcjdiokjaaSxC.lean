/- THE ENGINE IS SOUND, first part: what the steps of its state say; memory: reading, writing, new blocks. -/
import Derived.Test.YtehhljcjdiokjaaSxB
set_option linter.unusedSimpArgs false
set_option linter.unusedVariables false
noncomputable section
namespace Go.Sx
open M

/-! ### the steps of the state -/
/-- the state stays, but for what is to be proved -/
def Keep (g g' : G) (p : Prop) : Prop := g'.H = g.H ∧ g'.nx = g.nx ∧ (g'.cs → g.cs ∧ p)
theorem Keep.refl (g : G) : Keep g g True := ⟨rfl, rfl, fun h => ⟨h, trivial⟩⟩
theorem Keep.trans {a b c : G} {p q : Prop} (h : Keep a b p) (k : Keep b c q) : Keep a c (p ∧ q) :=
  ⟨k.1.trans h.1, k.2.1.trans h.2.1, fun hc => ⟨(h.2.2 (k.2.2 hc).1).1, (h.2.2 (k.2.2 hc).1).2, (k.2.2 hc).2⟩⟩
theorem Keep.mono {a b : G} {p q : Prop} (h : Keep a b p) (k : p → q) : Keep a b q := ⟨h.1, h.2.1, fun hc => ⟨(h.2.2 hc).1, k (h.2.2 hc).2⟩⟩
theorem done_of {α β : Type} {x : M α} {f : α → M β} {g g'' : G} {b : β} (h : x.andThen f g = .done b g'') : ∃ a g', x g = .done a g' ∧ f a g' = .done b g'' := by
  unfold M.andThen at h
  cases hx : x g with
  | done a g' => rw [hx] at h; exact ⟨a, g', rfl, h⟩
  | need b => rw [hx] at h; cases h
  | fail => rw [hx] at h; cases h
theorem ret_done {α : Type} {a b : α} {g g' : G} (h : ret a g = .done b g') : b = a ∧ g = g' := by
  unfold ret at h; cases h; exact ⟨rfl, rfl⟩
theorem ofOpt_done {α : Type} {o : Option α} {b : α} {g g' : G} (h : ofOpt o g = .done b g') : o = some b ∧ g = g' := by
  cases o with
  | none => cases h
  | some a => obtain ⟨rfl, rfl⟩ := ret_done h; exact ⟨rfl, rfl⟩
theorem req_done {p : Prop} {u : Unit} {g g' : G} (h : req p g = .done u g') : Keep g g' p := by
  unfold req at h; cases h; exact ⟨rfl, rfl, id⟩
theorem ck_done {s : Bool} {p : Prop} [Decidable p] {u : Unit} {g g' : G} (h : ck s p g = .done u g') : Keep g g' p := by
  unfold ck at h
  cases s with
  | true => exact req_done h
  | false =>
    by_cases hp : p
    · simp only [cond_false, hp, decide_true, cond_true] at h
      obtain ⟨_, rfl⟩ := ret_done h
      exact (Keep.refl _).mono fun _ => hp
    · simp only [cond_false, hp, decide_false] at h; cases h
theorem dec_done {b d : Bool} {g g' : G} (h : dec b g = .done d g') : Keep g g' (b = d) := by
  unfold dec at h
  split at h
  · cases h
  · cases h; exact ⟨rfl, rfl, id⟩
theorem getB_done {nm : Nat} {b : ABk} {g g' : G} (h : getB nm g = .done b g') : g.H.get nm = some b ∧ g = g' := by
  unfold getB at h
  split at h
  · rename_i b' hb; cases h; exact ⟨hb, rfl⟩
  · cases h
theorem setB_done {nm : Nat} {b : ABk} {u : Unit} {g g' : G} (h : setB nm b g = .done u g') : g'.H = g.H.upd nm (some b) ∧ g'.nx = g.nx ∧ g'.cs = g.cs := by
  unfold setB at h; cases h; exact ⟨rfl, rfl, rfl⟩
theorem delB_done {nm : Nat} {u : Unit} {g g' : G} (h : delB nm g = .done u g') : g'.H = g.H.upd nm none ∧ g'.nx = g.nx ∧ g'.cs = g.cs := by
  unfold delB at h; cases h; exact ⟨rfl, rfl, rfl⟩
theorem newB_done {b : ABk} {nm : Nat} {g g' : G} (h : newB b g = .done nm g') : nm = g.nx ∧ g'.H = g.H.upd g.nx (some b) ∧ g'.nx = g.nx + 1 ∧ g'.cs = g.cs := by
  unfold newB at h; cases h; exact ⟨rfl, rfl, rfl, rfl⟩
theorem okIf_done {b : Bool} {u : Unit} {g g' : G} (h : okIf b g = .done u g') : b = true ∧ g = g' := by
  unfold okIf at h
  cases b with
  | true => exact ⟨rfl, (ret_done h).2⟩
  | false => cases h
theorem asInt_some {v : AV} {y : Bool × Int} (h : asInt v = some y) : ∃ k, v = .int y.1 k y.2 := by
  unfold asInt at h; split at h <;> cases h; exact ⟨_, rfl⟩
theorem asPtr_some {v : AV} {a : AA} (h : asPtr v = some a) : v = .ptr a := by
  unfold asPtr at h; split at h <;> cases h; rfl
theorem asAgg_some {v : AV} {l : List AV} (h : asAgg v = some l) : v = .agg l := by
  unfold Sx.asAgg at h; split at h <;> cases h; rfl
theorem sliceE_some {P : Program} {t e : TypeId} (h : sliceE P t = some e) : P.underlying t = some (.slice e) := by
  unfold sliceE at h; split at h <;> cases h; assumption
theorem arrayE_some {P : Program} {t : TypeId} {ne : Nat × TypeId} (h : arrayE P t = some ne) : P.underlying t = some (.array ne.1 ne.2) := by
  unfold arrayE at h; split at h <;> cases h; assumption
theorem getC_done {nm : Nat} {b : Bool × Nat × Nat × Cont} {g g' : G} (h : getC nm g = .done b g') : g.H.get nm = some (.cells b.1 b.2.1 b.2.2.1 b.2.2.2) ∧ g = g' := by
  unfold getC at h
  obtain ⟨x, g1, a1, h1⟩ := done_of h
  obtain ⟨hx, rfl⟩ := getB_done a1
  obtain ⟨hy, rfl⟩ := ofOpt_done h1
  refine ⟨?_, rfl⟩
  rw [hx]
  unfold asCells at hy
  split at hy <;> cases hy
  rfl
theorem no_done {α : Type} {a : α} {g g' : G} (h : (no : M α) g = .done a g') : False := by cases h

/-! ### the heap goes on -/
theorem GOk.upd {N N' : Nat} {μ μ' : MM} {hp hp' : Array Obj} {H : T ABk} {nm : Nat} {ob : Option ABk} (h : GOk N μ hp H) (hu : MM.upto N μ μ') (hN : N ≤ N') (hnm : nm < N')
    (hb : ∀ b, ob = some b → BkOk N' μ' hp' nm b)
    (hkeep : ∀ g b, H.get g = some b → g ≠ nm → b.real μ g → hp'[μ.blk g]? = hp[μ.blk g]?)
    (hsep : ∀ b, ob = some b → b.real μ' nm → ∀ g b', H.get g = some b' → g ≠ nm → b'.real μ g → (b.owned = true ∨ b'.owned = true) → μ'.blk nm ≠ μ.blk g) : GOk N' μ' hp' (H.upd nm ob) where
  lt := fun g b hg => by
    rw [T.get_upd] at hg
    split at hg
    · subst_vars; exact hnm
    · exact Nat.lt_of_lt_of_le (h.lt g b hg) hN
  ok := fun g b hg => by
    rw [T.get_upd] at hg
    split at hg
    · subst_vars; exact hb b rfl
    · rename_i hne; exact (h.ok g b hg).later hu hN (h.lt g b hg) (hkeep g b hg hne)
  sep := fun g b g' b' hg hg' ho hr hr' he => by
    rw [T.get_upd] at hg hg'
    split at hg
    · rename_i e1
      split at hg'
      · rename_i e2; rw [e1, e2]
      · rename_i e2
        rw [e1] at hr he
        rw [ABk.real_later hu (h.lt _ _ hg')] at hr'
        rw [hu.blk g' (h.lt _ _ hg')] at he
        exact absurd he (hsep b hg hr g' b' hg' e2 hr' (.inl ho))
    · rename_i e1
      rw [ABk.real_later hu (h.lt _ _ hg)] at hr
      split at hg'
      · rename_i e2
        rw [e2] at hr' he
        rw [hu.blk g (h.lt _ _ hg)] at he
        exact absurd he.symm (hsep b' hg' hr' g b hg e1 hr (.inr ho))
      · rename_i e2
        rw [ABk.real_later hu (h.lt _ _ hg')] at hr'
        rw [hu.blk g (h.lt _ _ hg), hu.blk g' (h.lt _ _ hg')] at he
        exact h.sep g b g' b' hg hg' ho hr hr' he
/-- a smaller heap -/
theorem GOk.sub {N : Nat} {μ : MM} {hp : Array Obj} {H H' : T ABk} (h : GOk N μ hp H) (hs : ∀ g b, H'.get g = some b → H.get g = some b) : GOk N μ hp H' :=
  ⟨fun g b hg => h.lt g b (hs g b hg), fun g b hg => h.ok g b (hs g b hg), fun g b g' b' hg hg' => h.sep g b g' b' (hs _ _ hg) (hs _ _ hg')⟩
/-- a name more -/
def MM.set (μ : MM) (nm blk cap sz : Nat) : MM :=
  ⟨fun g => if g = nm then blk else μ.blk g, fun g => if g = nm then cap else μ.cap g, fun g => if g = nm then sz else μ.sz g, fun g => if g = nm then 0 else μ.base g⟩
theorem MM.upto_set (μ : MM) {N nm blk cap sz : Nat} (h : N ≤ nm) : MM.upto N μ (μ.set nm blk cap sz) :=
  ⟨fun g hg => if_neg (by omega), fun g hg => if_neg (by omega), fun g hg => if_neg (by omega), fun g hg => if_neg (by omega)⟩
theorem MM.set_blk (μ : MM) (nm blk cap sz : Nat) : (μ.set nm blk cap sz).blk nm = blk := if_pos rfl
theorem MM.set_cap (μ : MM) (nm blk cap sz : Nat) : (μ.set nm blk cap sz).cap nm = cap := if_pos rfl
theorem MM.set_sz (μ : MM) (nm blk cap sz : Nat) : (μ.set nm blk cap sz).sz nm = sz := if_pos rfl
theorem MM.set_base (μ : MM) (nm blk cap sz : Nat) : (μ.set nm blk cap sz).base nm = 0 := if_pos rfl

/-! ### reading -/
theorem lay_some {P : Program} {t : TypeId} {y : Nat × Bool} (h : lay P t = some y) : ∃ i d, P.info? t = some i ∧ P.underlying t = some d ∧ i.size = y.1 ∧ isAggD d = y.2 := by
  unfold lay at h
  split at h
  · rename_i i d hi hd; cases h; exact ⟨i, d, hi, hd, rfl, rfl⟩
  · cases h
theorem run_sizeOf {P : Program} {t : TypeId} {i : TypeInfo} (hi : P.info? t = some i) (w : World) : (sizeOf t).run P w = .ok i.size w := by simp [sizeOf, typeInfo, hi]
theorem run_isAgg {P : Program} {t : TypeId} {d : TypeDesc} (hd : P.underlying t = some d) (w : World) : (isAgg t).run P w = .ok (isAggD d) w := by
  cases d <;> simp [isAgg, run_underlying hd, isAggD]
theorem cell_of {w : World} {B o : Nat} {cur : Array Value} {ty : TypeId} {fz : Nat × Nat} (h : w.heap[B]? = some (.cells cur ty fz)) : w.cell? ⟨B, o, none⟩ = cur[o]? := cell_of_row w B o cur ty fz h
theorem run_load_at {P : Program} {w : World} {a : Addr} {c : Value} (h : w.cell? a = some c) : (load a).run P w = .ok c w := by simp [load, Sem.run, h]
theorem run_loadAt {P : Program} {w : World} {t : TypeId} {i : TypeInfo} {d : TypeDesc} (hi : P.info? t = some i) (hd : P.underlying t = some d) {B o : Nat} {cur : Array Value} {ty : TypeId} {fz : Nat × Nat}
    (h : w.heap[B]? = some (.cells cur ty fz)) (hfit : isAggD d = true → o + i.size ≤ cur.size) (h1 : isAggD d = false → o < cur.size) :
    (loadVar t ⟨B, o, none⟩).run P w = .ok (if isAggD d then .agg ((cur.toList.drop o).take i.size).toArray else cur.getD o undef) w := by
  unfold loadVar
  cases hA : isAggD d with
  | true =>
    have hl : ((cur.toList.drop o).take i.size).length = i.size := by
      have := hfit hA
      simp; omega
    have hrun := run_loadCells_list (P := P) w ⟨B, o, none⟩ ((cur.toList.drop o).take i.size) fun j v hv => by
      rw [Addr.add_lit, cell_of h]
      rw [List.getElem?_take] at hv
      split at hv
      · rw [List.getElem?_drop] at hv; simpa using hv
      · cases hv
    rw [hl] at hrun
    simp [run_isAgg hd, hA, run_sizeOf hi, hrun]
  | false =>
    have hc : w.cell? ⟨B, o, none⟩ = some (cur.getD o undef) := by
      rw [cell_of h]; simp [h1 hA]
    simp only [Sem.run_bind, run_isAgg hd, hA, Result.andThen_ok, run_load_at hc, if_neg Bool.false_ne_true]
/-- the row at i of a block, as cells of the world -/
theorem RowOk.reps {N : Nat} {μ : MM} {row : List AV} {sz : Nat} {cur : Array Value} {base : Nat} (h : RowOk N μ row sz cur base) (hf : base + sz ≤ cur.size) : Reps N μ row ((cur.toList.drop base).take sz) :=
  .of_get (by simp [h.1]; omega) fun i v hv => by
    obtain ⟨_, c, hc, hr⟩ := h.2 i v hv
    refine ⟨c, ?_, hr⟩
    have hi : i < sz := by
      have := (List.getElem?_eq_some_iff.1 hv).1
      rw [h.1] at this; exact this
    rw [List.getElem?_take, if_pos hi, List.getElem?_drop]
    simpa using hc
theorem row_fits {n sz i size : Nat} (hi : i < n) (h : n * sz ≤ size) : i * sz + sz ≤ size := by
  have : (i + 1) * sz ≤ n * sz := Nat.mul_le_mul_right _ hi
  rw [Nat.add_mul] at this; omega
theorem loadA_sound {P : Program} {t : TypeId} {a : AA} {g g' : G} {v : AV} (h : loadA P t a g = .done v g') :
    Keep g g' True ∧ (g'.cs → ∀ N μ w, GOk N μ w.heap g.H → ∃ c, (loadVar t (μ.addr a)).run P w = .ok c w ∧ Rep N μ v c) := by
  unfold loadA at h
  obtain ⟨y, g1, a1, h1⟩ := done_of h
  obtain ⟨hy, rfl⟩ := ofOpt_done a1
  obtain ⟨i, d, hi, hd, e1, e2⟩ := lay_some hy
  obtain ⟨⟨own, sz, n, c⟩, g2, a2, h2⟩ := done_of h1
  obtain ⟨hb, rfl⟩ := getC_done a2
  simp only at h2 hb
  obtain ⟨u, g3, a3, h3⟩ := done_of h2
  have k3 := ck_done a3
  cases hA : y.2 with
  | true =>
    rw [hA, cond_true] at h3
    obtain ⟨u, g4, a4, h4⟩ := done_of h3
    have k4 := ck_done a4
    obtain ⟨rfl, rfl⟩ := ret_done h4
    refine ⟨(k3.trans k4).mono fun _ => trivial, fun hc N μ w hg => ?_⟩
    have hq := (k3.trans k4).2.2 hc
    have hn := hq.2.1
    have hf := hq.2.2
    obtain ⟨hsz, _, hcur⟩ := hg.ok _ _ hb
    obtain ⟨cur, ty, fz, hB, hfit, _, hrows⟩ := hcur (.inl (by omega))
    have hrf : μ.base a.g + a.i * sz + sz ≤ cur.size := by have := row_fits hn (Nat.le_refl (n * sz)); omega
    have hrun := run_loadAt (P := P) (t := t) hi hd (o := μ.base a.g + a.i * sz + a.o) hB (fun _ => by omega) (fun hx => by rw [e2, hA] at hx; cases hx)
    rw [e2, hA, if_pos rfl] at hrun
    refine ⟨_, by unfold MM.addr; rw [hsz]; exact hrun, ?_⟩
    simp only [Rep]
    refine ⟨_, rfl, ?_⟩
    have hr := ((hrows a.i hn).reps hrf).drop a.o
    have hr2 := hr.take i.size
    rw [← e1]
    have : (((cur.toList.drop (μ.base a.g + a.i * sz)).take sz).drop a.o).take i.size = (cur.toList.drop (μ.base a.g + a.i * sz + a.o)).take i.size := by
      apply List.ext_getElem?
      intro j
      simp only [List.getElem?_take, List.getElem?_drop]
      by_cases hj : j < i.size
      · rw [if_pos hj, if_pos (by omega), if_pos hj]; congr 1; omega
      · rw [if_neg hj, if_neg hj]
    rw [this] at hr2
    simpa using hr2
  | false =>
    rw [hA, cond_false] at h3
    obtain ⟨hv, rfl⟩ := ofOpt_done h3
    refine ⟨k3.mono fun _ => trivial, fun hc N μ w hg => ?_⟩
    have hn := (k3.2.2 hc).2
    obtain ⟨hsz, _, hcur⟩ := hg.ok _ _ hb
    obtain ⟨cur, ty, fz, hB, hfit, _, hrows⟩ := hcur (.inl (by omega))
    obtain ⟨_, c', hc', hrep⟩ := (hrows a.i hn).2 _ _ hv
    have hlt : μ.base a.g + a.i * sz + a.o < cur.size := (Array.getElem?_eq_some_iff.1 hc').1
    have hrun := run_loadAt (P := P) (t := t) hi hd (o := μ.base a.g + a.i * sz + a.o) hB (fun hx => by rw [e2, hA] at hx; cases hx) (fun _ => hlt)
    rw [e2, hA] at hrun
    have : cur.getD (μ.base a.g + a.i * sz + a.o) undef = c' := by
      have := (Array.getElem?_eq_some_iff.1 hc').2
      simp [Array.getD, hlt, this]
    simp only [this] at hrun
    exact ⟨c', by unfold MM.addr; rw [hsz]; simpa using hrun, hrep⟩
end Go.Sx
