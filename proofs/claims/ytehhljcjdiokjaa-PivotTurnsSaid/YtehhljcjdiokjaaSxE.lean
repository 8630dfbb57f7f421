/- THE ENGINE IS SOUND, third part: constants; new blocks: variables, make, literals of slices; append. -/
import Derived.Test.YtehhljcjdiokjaaSxD
set_option linter.unusedSimpArgs false
set_option linter.unusedVariables false
noncomputable section
namespace Go.Sx
open M

/-! ### constants -/
theorem Rep.ofVal1 (N : Nat) (μ : MM) (v : Value) : Rep N μ (ofVal1 v) v := by
  unfold Sx.ofVal1
  split
  · simp [Rep]
  · simp [Rep]
  · rename_i b
    by_cases h : b < 18446744073709551616
    · simp only [h, decide_true, cond_true, Rep]; exact ⟨b, rfl, rfl, h⟩
    · simp [h, Rep]
  · rename_i a b
    by_cases h : a < 18446744073709551616 ∧ b < 18446744073709551616
    · simp only [h, and_self, decide_true, cond_true, Rep]; exact ⟨a, b, rfl, ⟨rfl, h.1⟩, ⟨rfl, h.2⟩⟩
    · simp [h, Rep]
  · simp only [Rep, Array.toArray_toList]
  all_goals simp [Rep]
theorem Rep.ofVal (N : Nat) (μ : MM) (v : Value) : Rep N μ (ofVal v) v := by
  unfold Sx.ofVal
  split
  · rename_i cs
    simp only [Rep]
    exact ⟨cs, rfl, by have := Reps.map (N := N) (μ := μ) Sx.ofVal1 id cs.toList fun x _ => Rep.ofVal1 N μ x; simpa using this⟩
  · rename_i cs
    simp only [Rep]
    exact ⟨cs, rfl, by have := Reps.map (N := N) (μ := μ) Sx.ofVal1 id cs.toList fun x _ => Rep.ofVal1 N μ x; simpa using this⟩
  · exact Rep.ofVal1 N μ v
theorem zeroOf_some {P : Program} {t : TypeId} {z : AV} (h : zeroOf P t = some z) : ∃ i v, P.info? t = some i ∧ i.zero = some v ∧ z = ofVal v := by
  unfold zeroOf at h
  split at h
  · rename_i i hi
    cases hz : i.zero with
    | none => rw [hz] at h; cases h
    | some v => rw [hz] at h; cases h; exact ⟨i, v, hi, hz, rfl⟩
  · cases h

/-! ### new blocks -/
/-- the world with a block more (and whatever draws) -/
structure Pushed (w w' : World) (o : Obj) : Prop where
  heap : w'.heap = w.heap.push o
  os : w'.os = w.os
  tape : w'.tape = w.tape
  output : w'.output = w.output
theorem Pushed.alloc (w : World) (o : Obj) : Pushed w (w.alloc o) o := ⟨rfl, rfl, rfl, rfl⟩
theorem Pushed.drew (w : World) (o : Obj) : Pushed w (w.drew.alloc o) o := ⟨rfl, rfl, rfl, rfl⟩
theorem Pushed.new {w w' : World} {o : Obj} (h : Pushed w w' o) : w'.heap[w.heap.size]? = some o := by rw [h.heap]; simp
theorem Pushed.old {w w' : World} {o : Obj} (h : Pushed w w' o) {B : Nat} (hB : B < w.heap.size) : w'.heap[B]? = w.heap[B]? := by
  rw [h.heap, Array.getElem?_push, if_neg (by omega)]
theorem newB_ok {g g' : G} {nm sz n : Nat} {c : Cont} (h : newB (.cells true sz n c) g = .done nm g') {μ : MM} {w w' : World} (hg : GOk g.nx μ w.heap g.H) (hpos : 0 < sz) {cur : Array Value} {ty : TypeId}
    (hw : Pushed w w' (.cells cur ty (0, 0))) (cap : Nat) (hcap : cur.size = cap * sz) (hn : n ≤ cap) (hrows : ∀ i, i < n → RowOk g.nx μ (c.row i) sz cur (i * sz)) :
    GOk g'.nx (μ.set g.nx w.heap.size cap sz) w'.heap g'.H ∧ Ext g μ w g' (μ.set g.nx w.heap.size cap sz) w' := by
  obtain ⟨_, hH, hnx, _⟩ := newB_done h
  have hu : MM.upto g.nx μ (μ.set g.nx w.heap.size cap sz) := MM.upto_set μ (Nat.le_refl _)
  constructor
  · rw [hH, hnx]
    refine hg.upd hu (by omega) (by omega) ?_ ?_ ?_
    · rintro _ ⟨⟩
      simp only [BkOk, MM.set_sz, MM.set_blk, MM.set_cap, MM.set_base, Nat.zero_add]
      refine ⟨trivial, hpos, fun _ => ⟨cur, ty, (0, 0), hw.new, ?_, fun _ => ⟨rfl, hcap, trivial⟩, fun i hi => (hrows i hi).later hu (by omega)⟩⟩
      rw [hcap]; exact Nat.mul_le_mul_right _ hn
    · intro g1 b1 hg1 _ hr1
      exact hw.old ((hg.ok _ _ hg1).lt_size hr1)
    · rintro _ ⟨⟩ _ g1 b1 hg1 _ hr1 _ e
      have := (hg.ok _ _ hg1).lt_size hr1
      rw [MM.set_blk] at e; omega
  · refine ⟨by omega, hu, hw.os, hw.tape, hw.output, by rw [hw.heap]; simp, fun B hB _ => hw.old hB, fun B hB hm => ?_⟩
    obtain ⟨g1, b1, hg1, ho1, hr1, e⟩ := hm
    rw [hH, T.get_upd] at hg1
    split at hg1
    · rename_i e1
      rw [e1, MM.set_blk] at e; omega
    · have hlt := hg.lt _ _ hg1
      rw [ABk.real_later hu hlt] at hr1
      rw [hu.blk _ hlt] at e
      exact ⟨g1, b1, hg1, ho1, hr1, e⟩
/-- what a step gives: a value of the world behind it -/
def Gives (g : G) (μ : MM) (w : World) (g' : G) (v : AV) (r : Result Value) : Prop :=
  ∃ c w' μ', r = .ok c w' ∧ Rep g'.nx μ' v c ∧ GOk g'.nx μ' w'.heap g'.H ∧ Ext g μ w g' μ' w'
theorem Gives.keep {g g' : G} {μ : MM} {w : World} {v : AV} {c : Value} {n : Nat} {p : Prop} (k : Keep g g' p) (hg : GOk g.nx μ w.heap g.H) (hv : Rep g.nx μ v c) : Gives g μ w g' v (.ok c { w with drawn := n }) :=
  ⟨c, _, μ, rfl, by rw [k.2.1]; exact hv, by rw [k.1, k.2.1]; exact hg, Ext.drawn μ w n k.1 k.2.1⟩
theorem Gives.keep0 {g g' : G} {μ : MM} {w : World} {v : AV} {c : Value} {p : Prop} (k : Keep g g' p) (hg : GOk g.nx μ w.heap g.H) (hv : Rep g.nx μ v c) : Gives g μ w g' v (.ok c w) :=
  Gives.keep (n := w.drawn) k hg hv
theorem boxA_sound {P : Program} {t : TypeId} {v r : AV} {g g' : G} (h : boxA v g = .done r g') :
    (g'.cs → g.cs) ∧ ∀ μ w cv, GOk g.nx μ w.heap g.H → Rep g.nx μ v cv → Gives g μ w g' r ((do pure (.pointer (some (← newVar t cv))) : Sem Value).run P w) := by
  unfold boxA at h
  obtain ⟨_, g1, a1, h1⟩ := done_of h
  obtain ⟨hq, rfl⟩ := okIf_done a1
  rw [Bool.and_eq_true] at hq
  obtain ⟨nm, g2, a2, h2⟩ := done_of h1
  obtain ⟨rfl, rfl⟩ := ret_done h2
  obtain ⟨hnm, hH, hnx, hcs⟩ := newB_done a2
  refine ⟨fun hc => by rw [hcs] at hc; exact hc, fun μ w cv hg hv => ?_⟩
  obtain ⟨hreps, _⟩ := hv.cells hq.1
  have hl : cv.cells.size = v.cells.length := by rw [← hreps.length, Array.length_toList]
  have hpos : 0 < v.cells.length := by
    cases hvc : v.cells with
    | nil => simp [hvc] at hq
    | cons => simp
  obtain ⟨hg', he⟩ := newB_ok a2 hg hpos (w' := w.alloc (.cells cv.cells t (0, 0))) (.alloc _ _) 1 (by omega) (Nat.le_refl _) (by
    intro i hi
    obtain rfl : i = 0 := by omega
    refine ⟨rfl, fun o x hx => ?_⟩
    obtain ⟨c', h1, h2⟩ := hreps.get hx
    exact ⟨List.all_eq_true.1 hq.1 _ (List.mem_of_getElem? hx), c', by simpa using h1, h2⟩)
  refine ⟨.pointer (some ⟨w.heap.size, 0, none⟩), w.alloc (.cells cv.cells t (0, 0)), _, rfl, ?_, hg', he⟩
  simp only [Rep]
  refine ⟨by omega, ?_⟩
  rw [hnm]
  simp [MM.addr, MM.set_blk, MM.set_base]
theorem Keep.of_newB {g g1 g2 : G} {p : Prop} (k : Keep g g1 p) (hcs : g2.cs = g1.cs) : g2.cs → g.cs ∧ p := fun hc => k.2.2 (hcs ▸ hc)
/-- from a state that differs in nothing but what is to be proved -/
theorem Ext.of_keep {g g1 g2 : G} {μ μ' : MM} {w w' : World} {p : Prop} (k : Keep g g1 p) (h : Ext g1 μ w g2 μ' w') : Ext g μ w g2 μ' w' :=
  (Ext.same μ w k.1 k.2.1).trans h
theorem zeroRow_some {P : Program} {e : TypeId} {z : List AV × Nat} (h : zeroRow P e = some z) : ∃ i v, P.info? e = some i ∧ i.zero = some v ∧ i.bytes = z.2 ∧ i.size = z.1.length ∧ 0 < z.1.length ∧ v.cells.size = z.1.length ∧
    z.1.all AV.one = true ∧ ∀ N μ, Reps N μ z.1 v.cells.toList := by
  unfold zeroRow at h
  split at h
  · rename_i i zv hi hz
    obtain ⟨i', v, hi', hzv, rfl⟩ := zeroOf_some hz
    rw [hi] at hi'; cases hi'
    cases hq : (Nat.beq (ofVal v).cells.length i.size && (ofVal v).cells.all AV.one && !Nat.beq i.size 0) with
    | false => rw [hq] at h; cases h
    | true =>
      rw [hq] at h; cases h
      simp only [Bool.and_eq_true, Bool.not_eq_true'] at hq
      obtain ⟨⟨hl, hone⟩, hpos⟩ := hq
      have hl' := Nat.eq_of_beq_eq_true hl
      have hpos' : 0 < i.size := Nat.pos_of_ne_zero (Nat.ne_of_beq_eq_false hpos)
      have hr := fun N μ => ((Rep.ofVal N μ v).cells hone).1
      refine ⟨i, v, hi, hzv, rfl, hl'.symm, by rw [hl']; exact hpos', ?_, hone, hr⟩
      have := (hr 0 ⟨fun _ => 0, fun _ => 0, fun _ => 0, fun _ => 0⟩).length
      rw [Array.length_toList] at this; exact this
  · cases h
theorem makeSliceA_sound {P : Program} {t : TypeId} {l c v : AV} {g g' : G} (h : makeSliceA P t l c g = .done v g') :
    (g'.cs → g.cs) ∧ (g'.cs → ∀ μ w cl cc, GOk g.nx μ w.heap g.H → Rep g.nx μ l cl → Rep g.nx μ c cc → Gives g μ w g' v ((Instr.makeSlice t cl cc).run P w)) := by
  unfold makeSliceA at h
  obtain ⟨⟨s, n⟩, g1, a1, h1⟩ := done_of h
  obtain ⟨hl, rfl⟩ := ofOpt_done a1
  obtain ⟨⟨s', m⟩, g2, a2, h2⟩ := done_of h1
  obtain ⟨hm, rfl⟩ := ofOpt_done a2
  obtain ⟨k, rfl⟩ := asInt_some hl
  obtain ⟨k', rfl⟩ := asInt_some hm
  obtain ⟨e, g3, a3, h3⟩ := done_of h2
  obtain ⟨ht, rfl⟩ := ofOpt_done a3
  obtain ⟨z, g4, a4, h4⟩ := done_of h3
  obtain ⟨hz, rfl⟩ := ofOpt_done a4
  obtain ⟨i, zv, hi, hzv, hby, hsz, hpos, hzl, hone, hzr⟩ := zeroRow_some hz
  obtain ⟨u, g5, a5, h5⟩ := done_of h4
  have k1 := ck_done a5
  obtain ⟨nm, g6, a6, h6⟩ := done_of h5
  obtain ⟨rfl, rfl⟩ := ret_done h6
  obtain ⟨hnm, hH, hnx, hcs⟩ := newB_done a6
  have hk := Keep.of_newB k1 hcs
  refine ⟨fun hc => (hk hc).1, fun hc μ w cl cc hg hcl hcc => ?_⟩
  obtain ⟨h0, hnm', hb, h63⟩ := (hk hc).2
  simp only [Rep] at hcl hcc
  subst hcl hcc
  simp only at h0 hnm' hb h63
  have hrun := run_make (P := P) w t e i zv (sliceE_some ht) hi hzv k k' n m h0 hnm' (by rw [hby]; omega) h63
  rw [hsz] at hrun
  rw [← k1.1, ← k1.2.1] at hg
  obtain ⟨hg', he⟩ := newB_ok a6 hg hpos (w' := w.alloc (.cells (madeCells zv.cells (m.toNat * z.1.length)) e (0, 0))) (.alloc _ _) m.toNat (size_madeCells _ _) (by omega) (by
    intro j hj
    have hrow : (bif s then Cont.fn fun _ => z.1 else Cont.lit z.1 T.e).row j = z.1 := by cases s <;> simp [Cont.row, T.get]
    simp only
    rw [hrow]
    refine ⟨rfl, fun o x hx => ?_⟩
    have ho : o < z.1.length := (List.getElem?_eq_some_iff.1 hx).1
    obtain ⟨c', h1, h2⟩ := (hzr g.nx μ).get hx
    refine ⟨List.all_eq_true.1 hone _ (List.mem_of_getElem? hx), c', ?_, by rw [k1.2.1]; exact h2⟩
    have hjm : j * z.1.length + o < m.toNat * z.1.length := by
      have : (j + 1) * z.1.length ≤ m.toNat * z.1.length := Nat.mul_le_mul_right _ (by omega)
      rw [Nat.add_mul] at this; omega
    have hmod : (j * z.1.length + o) % zv.cells.size = o := by rw [hzl, Nat.mul_comm, Nat.mul_add_mod]; exact Nat.mod_eq_of_lt ho
    have h1' : zv.cells[o]? = some c' := by simpa using h1
    simp only [madeCells, Array.getElem?_map, Array.getElem?_range, hjm, if_true, Option.map_some, hmod]
    rw [getElem!_def, h1'])
  refine ⟨_, _, _, hrun, ?_, hg', Ext.of_keep k1 he⟩
  simp only [Rep]
  refine ⟨by omega, some ⟨w.heap.size, 0, none⟩, m.toNat, rfl, by omega, fun _ => ?_, fun _ => rfl, fun _ => ⟨rfl, rfl, .inr ⟨?_, ?_⟩⟩⟩
  · rw [hnm]; simp [MM.addr, MM.set_blk, MM.set_base]
  · rw [hnm, MM.set_blk]
  · rw [hnm, MM.set_cap]
end Go.Sx
