/- THE ENGINE IS SOUND, sixth part: composites: structs, arrays, literals of slices; parts of them; addresses. -/
import Derived.Test.YtehhljcjdiokjaaSxH
set_option linter.unusedSimpArgs false
set_option linter.unusedVariables false
noncomputable section
namespace Go.Sx
open M

/-! ### the parts of a composite -/
theorem foldl_set (off : Nat) : ∀ (l : List Value) (k : Nat) (cs : Array Value), off + k + l.length ≤ cs.size →
    ((l.zipIdx k).foldl (fun cs p => cs.setIfInBounds (off + p.2) p.1) cs).toList = cs.toList.take (off + k) ++ l ++ cs.toList.drop (off + k + l.length)
  | [], k, cs, _ => by simp
  | v :: l, k, cs, h => by
    simp only [List.length_cons] at h
    simp only [List.zipIdx_cons, List.foldl_cons]
    rw [foldl_set off l (k + 1) (cs.setIfInBounds (off + k) v) (by simp; omega)]
    have e := list_seg_step cs.toList (off + k) v l (by simp; omega)
    simpa [Array.toList_setIfInBounds, Nat.add_assoc] using e
theorem fill_ok {N : Nat} {μ : MM} {place : Nat → Option (Nat × Nat)} : ∀ {ps : List (Nat × AV)} {qs : List (Nat × Value)} {cells : List AV} {cs : Array Value} {r : List AV},
    fillA place cells ps = some r → Reps N μ cells cs.toList → ps.map (·.1) = qs.map (·.1) → (∀ (i : Nat) (p : Nat × AV) (q : Nat × Value), ps[i]? = some p → qs[i]? = some q → Rep N μ p.2 q.2) →
    (∀ p ∈ ps, p.2.cells.all AV.one = true) →
    ∃ out, Instr.fill place cs qs = some out ∧ Reps N μ r out.toList
  | [], [], cells, cs, r, h, hr, _, _, _ => by cases h; exact ⟨cs, rfl, hr⟩
  | [], _ :: _, _, _, _, _, _, hk, _, _ => by simp at hk
  | _ :: _, [], _, _, _, _, _, hk, _, _ => by simp at hk
  | (i, v) :: ps, (i', v') :: qs, cells, cs, r, h, hr, hk, hp, ho => by
    simp only [List.map_cons, List.cons.injEq] at hk
    obtain ⟨rfl, hk⟩ := hk
    unfold fillA at h
    unfold Instr.fill
    cases hpl : place i with
    | none => rw [hpl] at h; cases h
    | some y =>
      obtain ⟨off, size⟩ := y
      rw [hpl] at h
      simp only at h ⊢
      cases hq : (Nat.beq v.cells.length size && decide (off + size ≤ cells.length)) with
      | false => rw [hq] at h; cases h
      | true =>
        rw [hq, cond_true] at h
        simp only [Bool.and_eq_true, decide_eq_true_eq] at hq
        have hl := Nat.eq_of_beq_eq_true hq.1
        have hv := (hp 0 (i, v) (i, v') rfl rfl).cells (ho (i, v) (by simp))
        have hvl : v'.cells.size = size := by rw [← hl, ← hv.1.length, Array.length_toList]
        have hcl : cs.size = cells.length := by rw [← hr.length, Array.length_toList]
        have hbad : (v'.cells.size ≠ size || decide (off + v'.cells.size > cs.size)) = false := by
          simp [hvl, hcl]; omega
        simp only [hbad, Bool.false_eq_true, if_false]
        have hf : (v'.cells.zipIdx.foldl (fun cs x => match x with | (c, j) => cs.setIfInBounds (off + j) c) cs).toList = cs.toList.take off ++ v'.cells.toList ++ cs.toList.drop (off + v'.cells.toList.length) := by
          have := foldl_set off v'.cells.toList 0 cs (by simp; omega)
          rw [← Array.foldl_toList, Array.toList_zipIdx]
          simpa using this
        refine fill_ok h ?_ hk (fun j p q h1 h2 => hp (j + 1) p q (by simpa using h1) (by simpa using h2)) fun p hm => ho p (by simp [hm])
        rw [hf]
        unfold splice
        have e : v.cells.length = v'.cells.toList.length := hv.1.length.symm
        rw [e]
        exact ((hr.take off).append hv.1).append (hr.drop _)
theorem placesOf_some {P : Program} : ∀ {fs : List Field} {ps : List (Nat × Nat)}, placesOf P fs = some ps → fs.mapM (fun f => (P.info? f.type).map fun i => (f.offset, i.size)) = some ps
  | [], ps, h => by cases h; rfl
  | f :: fs, ps, h => by
    unfold placesOf at h
    split at h
    · rename_i y r hy hr
      cases h
      obtain ⟨i, d, hi, _, e, _⟩ := lay_some hy
      simp [List.mapM_cons, hi, placesOf_some hr, e]
    · cases h
/-- operands that stand for parts -/
def PartsOk (N : Nat) (μ : MM) (ps : List (Nat × AV)) (qs : List (Nat × Value)) : Prop :=
  ps.map (·.1) = qs.map (·.1) ∧ ∀ (i : Nat) (p : Nat × AV) (q : Nat × Value), ps[i]? = some p → qs[i]? = some q → Rep N μ p.2 q.2
theorem ofVal1_cells (u : Value) : (Sx.ofVal1 u).cells = [Sx.ofVal1 u] := by
  unfold Sx.ofVal1
  split <;> first | rfl | skip
  · rename_i b
    by_cases h : b < 18446744073709551616 <;> simp [h, AV.cells]
  · rename_i a b
    by_cases h : a < 18446744073709551616 ∧ b < 18446744073709551616
    · rw [decide_eq_true h]; rfl
    · rw [decide_eq_false h]; rfl
theorem Rep.ofVal_cells (N : Nat) (μ : MM) (u : Value) : Reps N μ (Sx.ofVal u).cells u.cells.toList := by
  have h1 : ∀ {x : AV} {c : Value}, Rep N μ x c → Reps N μ [x] [c] := fun hr => by simp only [Reps]; exact ⟨_, [], rfl, hr, rfl⟩
  have hs : ∀ u : Value, Sx.ofVal u = Sx.ofVal1 u → u.cells = #[u] → Reps N μ (Sx.ofVal u).cells u.cells.toList := fun u e1 e2 => by
    rw [e1, e2, ofVal1_cells]; exact h1 (Rep.ofVal1 N μ u)
  cases u with
  | agg cs =>
    have hrep := Rep.ofVal N μ (.agg cs)
    simp only [Sx.ofVal, Rep] at hrep
    obtain ⟨cs', e, hr⟩ := hrep
    cases e; exact hr
  | tuple cs => exact h1 (Rep.ofVal N μ (.tuple cs))
  | _ => exact hs _ rfl rfl
theorem buildA_sound {P : Program} {t : TypeId} {ps : List (Nat × AV)} {v : AV} {g g' : G} (h : buildA P t ps g = .done v g') :
    g = g' ∧ ∀ N μ w (qs : Array (Nat × Value)), PartsOk N μ ps qs.toList → ∃ c, (Instr.build t qs).run P w = .ok c w ∧ Rep N μ v c := by
  unfold buildA at h
  obtain ⟨_, g1, a1, h1⟩ := done_of h
  obtain ⟨hone, rfl⟩ := okIf_done a1
  obtain ⟨z, g2, a2, h2⟩ := done_of h1
  obtain ⟨hz, rfl⟩ := ofOpt_done a2
  obtain ⟨it, zv, hit, hzv, rfl⟩ := zeroOf_some hz
  have hall : ∀ p ∈ ps, p.2.cells.all AV.one = true := List.all_eq_true.1 hone
  obtain ⟨place, g3, a3, h3⟩ := done_of h2
  obtain ⟨hpl, rfl⟩ := ofOpt_done a3
  obtain ⟨cs, g4, a4, h4⟩ := done_of h3
  obtain ⟨hcs, rfl⟩ := ofOpt_done a4
  obtain ⟨rfl, rfl⟩ := ret_done h4
  refine ⟨rfl, fun N μ w qs hq => ?_⟩
  obtain ⟨out, ho, hr⟩ := fill_ok hcs (Rep.ofVal_cells N μ zv) hq.1 hq.2 hall
  refine ⟨.agg out, run_build w t qs out ?_, by simp only [Rep]; exact ⟨out, rfl, hr⟩⟩
  unfold placeOf at hpl
  split at hpl
  · rename_i fs hfs
    cases hps : placesOf P fs.toList with
    | none => rw [hps] at hpl; cases hpl
    | some pl =>
      rw [hps] at hpl; cases hpl
      unfold Program.built
      simp only [hit, hfs, hzv, placesOf_some hps]
      simpa using ho
  · rename_i n e hfs
    cases hy : lay P e with
    | none => rw [hy] at hpl; cases hpl
    | some y =>
      rw [hy] at hpl; cases hpl
      obtain ⟨ie, d, hie, _, e1, _⟩ := lay_some hy
      unfold Program.built
      simp only [hit, hfs, hzv, hie, e1]
      exact ho
  · cases hpl
theorem manyOf_length (z : List AV) : ∀ n, (manyOf z n).length = n * z.length
  | 0 => by simp [manyOf]
  | n + 1 => by simp [manyOf, manyOf_length z n, Nat.add_mul]; omega
theorem manyOf_get (z : List AV) (hz : 0 < z.length) : ∀ n p, p < n * z.length → (manyOf z n)[p]? = z[p % z.length]?
  | 0, p, h => by simp at h
  | n + 1, p, h => by
    simp only [manyOf]
    by_cases hp : p < z.length
    · rw [List.getElem?_append_left hp, Nat.mod_eq_of_lt hp]
    · rw [List.getElem?_append_right (by omega), manyOf_get z hz n (p - z.length) (by rw [Nat.add_mul] at h; omega), ← Nat.mod_eq_sub_mod (by omega)]
theorem chop_get (sz : Nat) : ∀ (n : Nat) (l : List AV) (t : T (List AV)) (i j : Nat), (chop sz n l t i).get j = if i ≤ j ∧ j < i + n then some ((l.drop ((j - i) * sz)).take sz) else t.get j
  | 0, l, t, i, j => by simp only [chop]; rw [if_neg (by omega)]
  | n + 1, l, t, i, j => by
    simp only [chop]
    rw [chop_get sz n, T.get_upd]
    by_cases h : j = i
    · subst h; rw [if_neg (by omega), if_pos rfl, if_pos (by omega)]; simp
    · rw [if_neg h]
      by_cases h2 : i + 1 ≤ j ∧ j < i + 1 + n
      · rw [if_pos h2, if_pos (by omega), List.drop_drop]
        have e : (j - i) * sz = sz + (j - (i + 1)) * sz := by
          rw [Nat.add_comm, ← Nat.succ_mul]; congr 1; omega
        rw [e]
      · rw [if_neg h2, if_neg (by omega)]
theorem buildSliceA_sound {P : Program} {t : TypeId} {len : Nat} {ps : List (Nat × AV)} {v : AV} {g g' : G} (h : buildSliceA P t len ps g = .done v g') :
    (g'.cs → g.cs) ∧ ∀ μ w (qs : Array (Nat × Value)), GOk g.nx μ w.heap g.H → PartsOk g.nx μ ps qs.toList → Gives g μ w g' v ((Instr.buildSlice t len qs).run P w) := by
  unfold buildSliceA at h
  obtain ⟨e, g1, a1, h1⟩ := done_of h
  obtain ⟨ht, rfl⟩ := ofOpt_done a1
  obtain ⟨z, g2, a2, h2⟩ := done_of h1
  obtain ⟨hz, rfl⟩ := ofOpt_done a2
  obtain ⟨i, zv, hi, hzv, hby, hsz, hpos, hzl, hone, hzr⟩ := zeroRow_some hz
  obtain ⟨_, g3, a3, h3⟩ := done_of h2
  obtain ⟨hq, rfl⟩ := okIf_done a3
  simp only [Bool.and_eq_true, decide_eq_true_eq] at hq
  obtain ⟨h24, hall⟩ := hq
  obtain ⟨cs, g4, a4, h4⟩ := done_of h3
  obtain ⟨hcs, rfl⟩ := ofOpt_done a4
  obtain ⟨_, g5, a5, h5⟩ := done_of h4
  obtain ⟨hcone, rfl⟩ := okIf_done a5
  obtain ⟨nm, g6, a6, h6⟩ := done_of h5
  obtain ⟨rfl, rfl⟩ := ret_done h6
  obtain ⟨hnm, hH, hnx, hcs'⟩ := newB_done a6
  refine ⟨fun hc => by rw [hcs'] at hc; exact hc, fun μ w qs hg hp => ?_⟩
  have hmade : Reps g.nx μ (manyOf z.1 len) (madeCells zv.cells (len * z.1.length)).toList := by
    refine .of_get (by simp [madeCells, manyOf_length]) fun p x hx => ?_
    have hpl : p < len * z.1.length := by have := (List.getElem?_eq_some_iff.1 hx).1; rwa [manyOf_length] at this
    rw [manyOf_get z.1 hpos len p hpl] at hx
    obtain ⟨c', h1, h2⟩ := (hzr g.nx μ).get hx
    refine ⟨c', ?_, h2⟩
    have h1' : zv.cells[p % z.1.length]? = some c' := by simpa using h1
    rw [Array.getElem?_toList]
    simp only [madeCells, Array.getElem?_map, Array.getElem?_range, hpl, if_true, Option.map_some, hzl]
    rw [getElem!_def, h1']
  obtain ⟨out, ho, hr⟩ := fill_ok hcs hmade hp.1 hp.2 (List.all_eq_true.1 hall)
  have hcl : cs.length = out.size := by rw [← hr.length, Array.length_toList]
  have hfl : ∀ {place : Nat → Option (Nat × Nat)} {qs : List (Nat × AV)} {a b : List AV}, fillA place a qs = some b → b.length = a.length := by
    intro place qs
    induction qs with
    | nil => intro a b h; cases h; rfl
    | cons q qs ih =>
      intro a b h
      unfold fillA at h
      split at h
      · cases h
      · rename_i off size _
        cases hq : (Nat.beq q.2.cells.length size && decide (off + size ≤ a.length)) with
        | false => simp only [hq, cond_false] at h; cases h
        | true =>
          simp only [hq, cond_true] at h
          simp only [Bool.and_eq_true, decide_eq_true_eq] at hq
          have := Nat.eq_of_beq_eq_true hq.1
          rw [ih h, splice_length _ _ _ (by omega)]
  have hcs2 : cs.length = len * z.1.length := by rw [hfl hcs, manyOf_length]
  obtain ⟨hg', he⟩ := newB_ok a6 hg hpos (w' := w.alloc (.cells out e (0, 0))) (.alloc _ _) len (by omega) (Nat.le_refl _) (by
    intro j hj
    have hje := row_fits hj (Nat.le_refl (len * z.1.length))
    have hrow : (Cont.lit z.1 (chop z.1.length len cs T.e 0)).row j = (cs.drop (j * z.1.length)).take z.1.length := by
      simp only [Cont.row, chop_get]
      rw [if_pos (by omega), Nat.sub_zero]; rfl
    rw [hrow]
    refine ⟨by simp; omega, fun o x hx => ?_⟩
    rw [List.getElem?_take] at hx
    split at hx
    · rw [List.getElem?_drop] at hx
      obtain ⟨c', h1, h2⟩ := hr.get hx
      exact ⟨List.all_eq_true.1 hcone _ (List.mem_of_getElem? hx), c', by simpa using h1, h2⟩
    · cases hx)
  refine ⟨.slice (some ⟨w.heap.size, 0, none⟩) len len, w.alloc (.cells out e (0, 0)), _, ?_, ?_, hg', he⟩
  · have n1 : ¬ (16777216 < len * i.size) := by rw [hsz]; omega
    by_cases hz0 : len * i.size = 0
    · have hm : (madeCells zv.cells (len * z.1.length)) = #[] := by rw [← hsz, hz0]; exact Array.eq_empty_of_size_eq_zero (size_madeCells _ _)
      rw [hm] at ho
      have ho' : Instr.fill (fun x => some (x * i.size, i.size)) #[] qs.toList = some out := by rw [hsz]; exact ho
      simp [Instr.buildSlice, run_underlying (sliceE_some ht), run_sizeOf hi, n1, hz0, Array.range_zero', ho', newRow, newObj, Sem.run, World.alloc_eq]
    · have ho' : Instr.fill (fun x => some (x * i.size, i.size)) (Array.map (fun x => zv.cells[x % zv.cells.size]!) (Array.range (len * i.size))) qs.toList = some out := by rw [hsz]; exact ho
      simp [Instr.buildSlice, run_underlying (sliceE_some ht), run_sizeOf hi, n1, hz0, zeroValue, typeInfo, hi, hzv, ho', newRow, newObj, Sem.run, World.alloc_eq]
  · simp only [Rep]
    refine ⟨by omega, _, _, rfl, Nat.le_refl _, fun _ => ?_, fun _ => rfl, fun _ => ⟨rfl, rfl, .inr ⟨?_, ?_⟩⟩⟩
    · rw [hnm]; simp [MM.addr, MM.set_base, MM.set_blk]
    · rw [hnm, MM.set_blk]
    · rw [hnm, MM.set_cap]
end Go.Sx
