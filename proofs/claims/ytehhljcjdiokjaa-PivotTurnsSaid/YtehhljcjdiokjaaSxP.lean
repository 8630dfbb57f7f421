/- THE ENGINE IS SOUND: operations. -/
import Derived.Test.YtehhljcjdiokjaaSyD
set_option linter.unusedSimpArgs false
set_option linter.unusedVariables false
noncomputable section
namespace Go.Sx
open M

theorem PartsOk.of {N : Nat} {μ : MM} {fr : Fr} {a : Act} {n : Nat} (h : FrOk N μ fr a.tmps n) (ps : Array (Nat × Operand)) :
    PartsOk N μ (ps.toList.map fun p => (p.1, evalA fr p.2)) (ps.map fun (i, x) => (i, a.eval x)).toList := by
  constructor
  · simp [List.map_map, Function.comp_def]
  · intro i p q hp hq
    rw [Array.toList_map] at hq
    rw [List.getElem?_map] at hp hq
    cases hx : ps.toList[i]? with
    | none => rw [hx] at hp; cases hp
    | some y =>
      rw [hx] at hp hq
      cases hp; cases hq
      exact h.eval y.2
theorem opA_sound {P : Program} {call : Calls'} (hcall : CallOk P call) {fr : Fr} {o : Oper} {v : AV} {g g' : G} (h : opA P call fr o g = .done v g') :
    (g'.cs → g.cs) ∧ (g'.cs → ∀ μ w (a : Act) n, GOk g.nx μ w.heap g.H → FrOk g.nx μ fr a.tmps n → OpWp P o g μ w g' v a) := by
  unfold opA at h
  generalize ho : o.op = op0 at h
  split at h
  · -- move
    rename_i x
    obtain ⟨rfl, rfl⟩ := ret_done h
    refine ⟨id, fun _ μ w a n hg hf => .value (by simp only [execOp, ho]; rfl) (.keep0 (Keep.refl g) hg (hf.eval x))⟩
  · rename_i x
    obtain ⟨rfl, rfl⟩ := ret_done h
    refine ⟨id, fun _ μ w a n hg hf => .value (by simp only [execOp, ho]; rfl) (.keep0 (Keep.refl g) hg (hf.eval x))⟩
  · -- pick
    rename_i c x y
    generalize hc : evalA fr c = vc at h
    split at h
    · rename_i t
      obtain ⟨rfl, rfl⟩ := ret_done h
      refine ⟨id, fun _ μ w a n hg hf => ?_⟩
      have hcv := hf.eval c
      rw [hc] at hcv
      simp only [Rep] at hcv
      refine .value (c := if t then a.eval x else a.eval y) (w' := w) (by simp [execOp, ho, hcv, asBool]) (.keep0 (Keep.refl g) hg ?_)
      cases t
      · exact hf.eval y
      · exact hf.eval x
    · rename_i t
      obtain ⟨d, g1, a1, h1⟩ := done_of h
      obtain ⟨rfl, rfl⟩ := ret_done h1
      have k := dec_done a1
      refine ⟨fun hcs => (k.2.2 hcs).1, fun hcs μ w a n hg hf => ?_⟩
      have hd := (k.2.2 hcs).2
      have hcv := hf.eval c
      rw [hc] at hcv
      simp only [Rep] at hcv
      refine .value (c := if t then a.eval x else a.eval y) (w' := w) (by simp [execOp, ho, hcv, asBool]) (.keep0 k hg ?_)
      subst hd
      cases t
      · exact hf.eval y
      · exact hf.eval x
    · exact (no_done h).elim
  · -- alloc
    rename_i e
    obtain ⟨z, g1, a1, h1⟩ := done_of h
    obtain ⟨hz, rfl⟩ := ofOpt_done a1
    obtain ⟨i, zv, hi, hzv, rfl⟩ := zeroOf_some hz
    obtain ⟨hc, hs⟩ := boxA_sound (P := P) (t := e) h1
    refine ⟨hc, fun _ μ w a n hg hf => ?_⟩
    obtain ⟨c, w', e1, ha⟩ := (hs μ w zv hg (Rep.ofVal _ _ zv)).after
    refine .value (w' := w') (c := c) ?_ ha
    simp only [execOp, ho]
    refine run_val ?_
    have : (zeroValue e).run P w = .ok zv w := by simp [zeroValue, typeInfo, hi, hzv]
    simp only [Instr.alloc, Sem.run_bind, this]
    exact e1
  · -- box
    rename_i e x
    obtain ⟨hc, hs⟩ := boxA_sound (P := P) (t := e) h
    refine ⟨hc, fun _ μ w a n hg hf => ?_⟩
    obtain ⟨c, w', e1, ha⟩ := (hs μ w _ hg (hf.eval x)).after
    exact .value (w' := w') (c := c) (by simp only [execOp, ho]; exact run_val e1) ha
  · -- build
    rename_i t ps
    obtain ⟨rfl, hs⟩ := buildA_sound h
    refine ⟨id, fun _ μ w a n hg hf => ?_⟩
    obtain ⟨c, e1, hv⟩ := hs g.nx μ w _ (PartsOk.of hf ps)
    exact .value (by simp only [execOp, ho]; exact run_val e1) (.keep0 (Keep.refl g) hg hv)
  · -- buildSlice
    rename_i t len ps
    obtain ⟨hc, hs⟩ := buildSliceA_sound h
    refine ⟨hc, fun _ μ w a n hg hf => ?_⟩
    obtain ⟨c, w', e1, ha⟩ := (hs μ w _ hg (PartsOk.of hf ps)).after
    exact .value (by simp only [execOp, ho]; exact run_val e1) ha
  · -- load
    rename_i t x
    obtain ⟨ad, g1, a1, h1⟩ := done_of h
    obtain ⟨hx, rfl⟩ := ofOpt_done a1
    have hx := asPtr_some hx
    obtain ⟨k, hs⟩ := loadA_sound h1
    refine ⟨fun hc => (k.2.2 hc).1, fun hc μ w a n hg hf => ?_⟩
    have hxv := hf.eval x
    rw [hx] at hxv
    simp only [Rep] at hxv
    obtain ⟨c, e1, hv⟩ := hs hc _ μ w hg
    exact .value (by simp only [execOp, ho, hxv.2]; exact run_val (s := Instr.loadAt t _) (by simp only [Instr.loadAt, Instr.sureAddr, Sem.run_bind]; exact e1)) (.keep0 k hg hv)
  · -- store
    rename_i t x y
    obtain ⟨ad, g1, a1, h1⟩ := done_of h
    obtain ⟨hx, rfl⟩ := ofOpt_done a1
    have hx := asPtr_some hx
    obtain ⟨_, g2, a2, h2⟩ := done_of h1
    obtain ⟨rfl, rfl⟩ := ret_done h2
    obtain ⟨hc0, hs⟩ := storeA_sound a2
    refine ⟨hc0, fun hc μ w a n hg hf => ?_⟩
    have hxv := hf.eval x
    rw [hx] at hxv
    simp only [Rep] at hxv
    obtain ⟨w', e1, hg', hext⟩ := hs hc μ w _ hg (hf.eval y)
    exact .skip (w' := w') (by simp only [execOp, ho, hxv.2]; exact run_skip (s := Instr.storeAt t _ _) (by simp only [Instr.storeAt, Instr.sureAddr, Sem.run_bind]; exact e1)) ⟨μ, by simp [Rep], hg', hext⟩
  · -- nilCheck
    rename_i x
    generalize hx : evalA fr x = vx at h
    split at h
    · rename_i ad
      obtain ⟨rfl, rfl⟩ := ret_done h
      refine ⟨id, fun _ μ w a n hg hf => ?_⟩
      have hxv := hf.eval x
      rw [hx] at hxv
      have hx2 := hxv
      simp only [Rep] at hx2
      refine .value (c := a.eval x) (w' := w) (by simp only [execOp, ho, hx2.2]; rfl) (.keep0 (Keep.refl g) hg hxv)
    · rename_i f l cap
      obtain ⟨rfl, rfl⟩ := ret_done h
      refine ⟨id, fun _ μ w a n hg hf => ?_⟩
      have hxv := hf.eval x
      rw [hx] at hxv
      have hx2 := hxv
      simp only [Rep] at hx2
      obtain ⟨fs, cs, e, _, _⟩ := hx2
      refine .value (c := a.eval x) (w' := w) (by simp only [execOp, ho, e]; rfl) (.keep0 (Keep.refl g) hg hxv)
    · exact (no_done h).elim
  · -- binOp
    rename_i op t x y pos
    obtain ⟨p, k, hs⟩ := binA_sound h
    refine ⟨fun hc => (k.2.2 hc).1, fun hc μ w a n hg hf => ?_⟩
    obtain ⟨c, m, e1, hv⟩ := hs (k.2.2 hc).2 g.nx μ w x y _ _ (hf.eval x).fl (hf.eval y).fl
    exact .value (by simp only [execOp, ho]; exact run_val e1) (.keep m k hg hv)
  · -- unOp
    rename_i op t x
    obtain ⟨p, k, hs⟩ := unA_sound (P := P) h
    refine ⟨fun hc => (k.2.2 hc).1, fun hc μ w a n hg hf => ?_⟩
    obtain ⟨c, e1, hv⟩ := hs (k.2.2 hc).2 g.nx μ w _ (hf.eval x).fl
    exact .value (by simp only [execOp, ho]; exact run_val e1) (.keep0 k hg hv)
  · -- convert
    rename_i s d x
    obtain ⟨p, k, hs⟩ := convAll_sound h
    refine ⟨fun hc => (k.2.2 hc).1, fun hc μ w a n hg hf => ?_⟩
    obtain ⟨c, e1, hv⟩ := hs (k.2.2 hc).2 μ w _ hg (hf.eval x).fl
    exact .value (by simp only [execOp, ho]; exact run_val e1) (.keep0 k hg hv)
  · -- lookup
    rename_i t x i ok
    obtain ⟨rfl, hs⟩ := lookA_sound h
    refine ⟨id, fun hc μ w a n hg hf => ?_⟩
    obtain ⟨c, e1, hv⟩ := hs μ w _ _ hg (hf.eval x) (hf.eval i)
    exact .value (by simp only [execOp, ho]; exact run_val e1) (.keep0 (Keep.refl g) hg hv)
  · -- mapUpdate
    rename_i t m k x
    obtain ⟨_, g2, a2, h2⟩ := done_of h
    obtain ⟨rfl, rfl⟩ := ret_done h2
    obtain ⟨hc0, hs⟩ := mapSetA_sound a2
    refine ⟨hc0, fun hc μ w a n hg hf => ?_⟩
    obtain ⟨w', e1, hg', hext⟩ := hs μ w _ _ _ hg (hf.eval m) (hf.eval k) (hf.eval x)
    exact .skip (w' := w') (by simp only [execOp, ho]; exact run_skip e1) ⟨μ, by simp [Rep], hg', hext⟩
  · -- insert
    rename_i t m k x
    obtain ⟨_, g2, a2, h2⟩ := done_of h
    obtain ⟨rfl, rfl⟩ := ret_done h2
    obtain ⟨hc0, hs⟩ := mapSetA_sound a2
    refine ⟨hc0, fun hc μ w a n hg hf => ?_⟩
    obtain ⟨w', e1, hg', hext⟩ := hs μ w _ _ _ hg (hf.eval m) (hf.eval k) (hf.eval x)
    exact .skip (w' := w') (by simp only [execOp, ho]; exact run_skip e1) ⟨μ, by simp [Rep], hg', hext⟩
  · -- makeMap
    rename_i t r
    obtain ⟨hc0, hs⟩ := makeMapA_sound h
    refine ⟨hc0, fun hc μ w a n hg hf => ?_⟩
    obtain ⟨c, w', e1, ha⟩ := hs μ w _ hg (hf.evalO r)
    exact .value (by simp only [execOp, ho]; exact run_val e1) ha
  · -- range
    rename_i t x
    obtain ⟨hc0, hs⟩ := rangeA_sound h
    refine ⟨hc0, fun hc μ w a n hg hf => ?_⟩
    obtain ⟨c, w', e1, ha⟩ := hs μ w _ hg (hf.eval x)
    exact .value (by simp only [execOp, ho]; exact run_val e1) ha
  · -- next
    rename_i it s
    obtain ⟨hc0, hs⟩ := nextA_sound h o.type
    refine ⟨hc0, fun hc μ w a n hg hf => ?_⟩
    obtain ⟨c, w', e1, ha⟩ := hs hc μ w _ hg (hf.eval it)
    exact .value (by simp only [execOp, ho]; exact run_val e1) ha
  · -- makeFunc
    rename_i f l c
    obtain ⟨rfl, rfl⟩ := ret_done h
    refine ⟨id, fun _ μ w a n hg hf => ?_⟩
    refine .value (c := .func f (l.map a.eval) (c.map a.eval)) (w' := w) (by simp only [execOp, ho]; rfl) (.keep0 (Keep.refl g) hg ?_)
    simp only [Rep]
    exact ⟨_, _, rfl, hf.evals l, hf.evals c⟩
  · -- makeSlice
    rename_i t l c
    obtain ⟨hc0, hs⟩ := makeSliceA_sound h
    refine ⟨hc0, fun hc μ w a n hg hf => ?_⟩
    obtain ⟨c', w', e1, ha⟩ := (hs hc μ w _ _ hg (hf.eval l) (hf.eval c)).after
    exact .value (by simp only [execOp, ho]; exact run_val e1) ha
  · -- slice
    rename_i t x lo hi mx
    obtain ⟨p, k, hs⟩ := sliceA_sound h
    refine ⟨fun hc => (k.2.2 hc).1, fun hc μ w a n hg hf => ?_⟩
    obtain ⟨c, e1, hv⟩ := hs (k.2.2 hc).2 μ w _ _ _ _ hg (hf.eval x) (hf.evalO lo) (hf.evalO hi) (hf.evalO mx)
    exact .value (by simp only [execOp, ho]; exact run_val e1) (.keep0 k hg hv)
  · -- fieldAddr
    rename_i t x f
    obtain ⟨rfl, hs⟩ := fieldAddrA_sound h
    refine ⟨id, fun hc μ w a n hg hf => ?_⟩
    obtain ⟨c, e1, hv⟩ := hs g.nx μ w _ (hf.eval x)
    exact .value (by simp only [execOp, ho]; exact run_val e1) (.keep0 (Keep.refl g) hg hv)
  · -- field
    rename_i t x f
    obtain ⟨rfl, hs⟩ := fieldA_sound h
    refine ⟨id, fun hc μ w a n hg hf => ?_⟩
    obtain ⟨c, e1, hv⟩ := hs g.nx μ w _ (hf.eval x)
    exact .value (by simp only [execOp, ho]; exact run_val e1) (.keep0 (Keep.refl g) hg hv)
  · -- indexAddr
    rename_i t x i
    obtain ⟨p, k, hs⟩ := indexAddrA_sound h
    refine ⟨fun hc => (k.2.2 hc).1, fun hc μ w a n hg hf => ?_⟩
    obtain ⟨c, e1, hv⟩ := hs (k.2.2 hc).2 μ w _ _ hg (hf.eval x) (hf.eval i)
    exact .value (by simp only [execOp, ho]; exact run_val e1) (.keep0 k hg hv)
  · -- index
    rename_i t x i
    obtain ⟨p, k, hs⟩ := indexA_sound h
    refine ⟨fun hc => (k.2.2 hc).1, fun hc μ w a n hg hf => ?_⟩
    obtain ⟨c, e1, hv⟩ := hs (k.2.2 hc).2 g.nx μ w _ _ (hf.eval x) (hf.eval i)
    exact .value (by simp only [execOp, ho]; exact run_val e1) (.keep0 k hg hv)
  · -- extract
    rename_i x i
    generalize hx : evalA fr x = vx at h
    split at h
    · rename_i l
      obtain ⟨hl, rfl⟩ := ofOpt_done h
      refine ⟨id, fun hc μ w a n hg hf => ?_⟩
      have hxv := hf.eval x
      rw [hx] at hxv
      simp only [Rep] at hxv
      obtain ⟨cs, e, hr⟩ := hxv
      obtain ⟨c, hc1, hv⟩ := hr.get hl
      refine .value (c := c) (w' := w) (by simp only [execOp, ho, e]; exact run_val (s := Instr.extract _ _) (by simp only [Instr.extract]; rw [← Array.getElem?_toList, hc1]; rfl)) (.keep0 (Keep.refl g) hg hv)
    · exact (no_done h).elim
  · -- call
    rename_i c
    generalize hf0 : c.callee = cal at h
    split at h
    · rename_i f
      generalize hfv : evalA fr f = vf at h
      split at h
      · rename_i k l cap
        obtain ⟨hc0, hs⟩ := hcall _ _ _ _ _ h
        refine ⟨hc0, fun hc μ w a n hg hf => ?_⟩
        have hxv := hf.eval f
        rw [hfv] at hxv
        simp only [Rep] at hxv
        obtain ⟨fs, cs, e, h1, h2⟩ := hxv
        refine .call (f := k) (args := (fs ++ c.args.map a.eval) ++ cs) ?_ (hs hc μ w _ hg ?_)
        · simp only [execOp, ho, resolve, hf0, e, Deferred.ofValue, Sem.run_bind]
          rfl
        · simp only [Array.toList_append]
          exact (h1.append (hf.evals _)).append h2
      · exact (no_done h).elim
    · rename_i b
      obtain ⟨hc0, hs⟩ := builtinA_sound h o.type (c.args.map fun | .const _ => true | _ => false)
      refine ⟨hc0, fun hc μ w a n hg hf => ?_⟩
      obtain ⟨c', w', e1, ha⟩ := hs hc μ w _ hg (hf.evalsF c.args)
      refine .value (c := c') (w' := w') ?_ ha
      simp only [execOp, ho, resolve, hf0, Sem.run_bind, Sem.run_pure]
      exact e1
    · exact (no_done h).elim
  · exact (no_done h).elim
end Go.Sx
