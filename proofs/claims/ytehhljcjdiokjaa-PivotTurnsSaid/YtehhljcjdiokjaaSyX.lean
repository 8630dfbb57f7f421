/- A STRUCT OF A WORD AND TWO SLICES, handed in by its value. -/
import Derived.Test.YtehhljcjdiokjaaSyW
set_option linter.unusedSimpArgs false
set_option linter.unusedVariables false
noncomputable section
namespace Go.Sx
open Go.WideShapes
section
variable {H : Type} {enc : TypeId × Value → H} {P : Program} {W : World} {held : Bool}
theorem open_sol {t i s e : TypeId} {fs : Array Field} {n : Nat} {shs : List Sh} {b0 : Nat} {v : Value} {d : DataW H} {ps : List MemPlace} {sp : Nat → Bool} {r0 : Reach} (ht : P.underlying t = some (.struct fs)) (hf : fs.toList.map (fun f => (f.offset, f.type)) = [(0, i), (1, s), (2, s)])
    (hi : P.underlying i = some (.int .u64)) (ci : P.cellsOf i = 1) (cs' : P.cellsOf s = 1) (ct : P.cellsOf t = 3) (hs : P.underlying s = some (.slice e)) (hflat : flatT P n e = some shs) (hlen : shs.length = P.cellsOf e) (hpos : 0 < shs.length)
    (hval : Value.okWide P W r0 b0 t v) (hd : DataW.Trod enc P W 0 sp held t v d ps) (hw : ∀ x ∈ d.weights P t, x ≤ reachBytes) :
    ∃ (r : Int) (len1 blk1 bs1 len2 blk2 bs2 : Nat) (c1 c2 : Nat → Nat → Value), (Lit.int .u64 r).wf = true ∧
      (∀ (μ : MM) (i k N : Nat), i < N → k < N → μ.blk i = blk1 → μ.base i = bs1 → μ.sz i = shs.length → μ.blk k = blk2 → μ.base k = bs2 → μ.sz k = shs.length → Rep N μ (.agg [.int true .u64 r, slcV i len1, slcV k len2]) v) ∧
      (∀ (μ : MM) (i N : Nat), μ.blk i = blk1 → μ.base i = bs1 → μ.sz i = shs.length → BkOk N μ W.heap i (.cells false shs.length len1 (.fn fun j => rowAv shs 0 (c1 j)))) ∧
      (∀ (μ : MM) (i N : Nat), μ.blk i = blk2 → μ.base i = bs2 → μ.sz i = shs.length → BkOk N μ W.heap i (.cells false shs.length len2 (.fn fun j => rowAv shs 0 (c2 j)))) ∧
      (∀ j, j < len1 → ∀ (i : Nat) (sh : Sh), shs[i]? = some sh → sh.ok (c1 j i)) ∧ (∀ j, j < len2 → ∀ (i : Nat) (sh : Sh), shs[i]? = some sh → sh.ok (c2 j i)) ∧ len1 * P.bytesOf e ≤ reachBytes ∧ len2 * P.bytesOf e ≤ reachBytes := by
  obtain ⟨cs, rfl, hsz⟩ := okWide_struct ht hval
  obtain ⟨fuel, hx⟩ := hd
  obtain ⟨xs, m, _, hx2, hl, hxl, hfield⟩ := DataW.trod_struct ht hx
  have e3 : fs.size = 3 := by have := congrArg List.length hf; simpa using this
  have fat : ∀ (k : Nat) (o : Nat) (ty : TypeId), [(0, i), (1, s), (2, s)][k]? = some (o, ty) → ∃ f, fs[k]? = some f ∧ f.offset = o ∧ f.type = ty := fun k o ty h => by
    rw [← hf, List.getElem?_map] at h
    cases hq : fs.toList[k]? with
    | none => rw [hq] at h; cases h
    | some f =>
      rw [hq] at h
      simp at h
      exact ⟨f, by simpa using hq, h.1, h.2⟩
  obtain ⟨f0, g0, o0, t0⟩ := fat 0 0 i rfl
  obtain ⟨f1, g1, o1, t1⟩ := fat 1 1 s rfl
  obtain ⟨f2, g2, o2, t2⟩ := fat 2 2 s rfl
  have q0 := hfield 0 f0 g0
  have q1 := hfield 1 f1 g1
  have q2 := hfield 2 f2 g2
  rw [o0, t0, ci] at q0
  rw [o1, t1, cs'] at q1
  rw [o2, t2, cs'] at q2
  have hcs : cs.toList.length = 3 := by have := hl; rw [ct] at this; simpa [Value.cells] using this
  obtain ⟨a, b, c, hl3⟩ : ∃ a b c, cs.toList = [a, b, c] := by
    match cs.toList, hcs with
    | [a, b, c], _ => exact ⟨a, b, c, rfl⟩
  have hcl : (Value.agg cs).cells.toList = [a, b, c] := hl3
  rw [hcl] at q0 q1 q2
  obtain ⟨x0, x1, x2, hxs⟩ : ∃ x0 x1 x2, xs = [x0, x1, x2] := by
    rw [e3] at hxl
    match xs, hxl with
    | [a, b, c], _ => exact ⟨a, b, c, rfl⟩
  subst hxs
  obtain ⟨r, hr, _, hwf⟩ := DataW.trod_int hi q0
  simp at hr
  subst hr
  obtain ⟨len1, blk1, bs1, cc1, k1, k2, k3, k4⟩ := open_slc (v := b) hs hflat hlen hpos q1
  obtain ⟨len2, blk2, bs2, cc2, m1, m2, m3, m4⟩ := open_slc (v := c) hs hflat hlen hpos q2
  have hd : d = .agg [x0.1, x1.1, x2.1] := by
    have := congrArg Prod.fst hx2
    simpa using this
  have hty : fs.toList.map (·.type) = [i, s, s] := by
    have := congrArg (List.map Prod.snd) hf
    simpa [List.map_map, Function.comp_def] using this
  refine ⟨r, len1, blk1, bs1, len2, blk2, bs2, cc1, cc2, hwf, fun μ i k N a1 a2 b1 b2 b3 c1 c2 c3 => ?_, k2, m2, k3, m3, ?_, ?_⟩
  · simp only [Rep, Reps]
    exact ⟨cs, rfl, _, _, hl3, rfl, _, _, rfl, k1 μ i N a1 b1 b2 b3, _, _, rfl, m1 μ k N a2 c1 c2 c3, rfl⟩
  · rcases k4 with ⟨rfl, _⟩ | ⟨es, sps, e1, e2⟩
    · simp
    · have hmem : (es.length + sps.length) * P.bytesOf e ∈ d.weights P t := by
        rw [hd]
        simp only [DataW.weights, ht, hty, DataW.weightsEach, e1, hs]
        simp
      have := hw _ hmem
      rw [← e2]
      exact Nat.le_trans (Nat.mul_le_mul_right _ (Nat.le_add_right _ _)) this
  · rcases m4 with ⟨rfl, _⟩ | ⟨es, sps, e1, e2⟩
    · simp
    · have hmem : (es.length + sps.length) * P.bytesOf e ∈ d.weights P t := by
        rw [hd]
        simp only [DataW.weights, ht, hty, DataW.weightsEach, e1, hs]
        simp
      have := hw _ hmem
      rw [← e2]
      exact Nat.le_trans (Nat.mul_le_mul_right _ (Nat.le_add_right _ _)) this
end
end Go.Sx
