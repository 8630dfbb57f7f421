/- A STRUCT OF TWO NUMBERS AND A SLICE, handed in by its value. -/
import Derived.Test.YtehhljcjdiokjaaSyV
set_option linter.unusedSimpArgs false
set_option linter.unusedVariables false
noncomputable section
namespace Go.Sx
open Go.WideShapes
section
variable {H : Type} {enc : TypeId × Value → H} {P : Program} {W : World} {held : Bool}
theorem open_mat {t i s e : TypeId} {fs : Array Field} {n : Nat} {shs : List Sh} {b0 : Nat} {v : Value} {d : DataW H} {ps : List MemPlace} {sp : Nat → Bool} {r0 : Reach} (ht : P.underlying t = some (.struct fs)) (hf : fs.toList.map (fun f => (f.offset, f.type)) = [(0, i), (1, i), (2, s)])
    (hi : P.underlying i = some (.int .i64)) (ci : P.cellsOf i = 1) (cs' : P.cellsOf s = 1) (ct : P.cellsOf t = 3) (hs : P.underlying s = some (.slice e)) (hflat : flatT P n e = some shs) (hlen : shs.length = P.cellsOf e) (hpos : 0 < shs.length)
    (hval : Value.okWide P W r0 b0 t v) (hd : DataW.Trod enc P W 0 sp held t v d ps) (hw : ∀ x ∈ d.weights P t, x ≤ reachBytes) :
    ∃ (r dd : Int) (len blk bs : Nat) (c : Nat → Nat → Value),
      (∀ (μ : MM) (i N : Nat), i < N → μ.blk i = blk → μ.base i = bs → μ.sz i = shs.length → Rep N μ (.agg [.int true .i64 r, .int true .i64 dd, slcV i len]) v) ∧
      (∀ (μ : MM) (i N : Nat), μ.blk i = blk → μ.base i = bs → μ.sz i = shs.length → BkOk N μ W.heap i (.cells false shs.length len (.fn fun j => rowAv shs 0 (c j)))) ∧
      (∀ j, j < len → ∀ (i : Nat) (sh : Sh), shs[i]? = some sh → sh.ok (c j i)) ∧ len * P.bytesOf e ≤ reachBytes := by
  obtain ⟨cs, rfl, hsz⟩ := okWide_struct ht hval
  obtain ⟨fuel, hx⟩ := hd
  obtain ⟨xs, m, _, hx2, hl, hxl, hfield⟩ := DataW.trod_struct ht hx
  have e3 : fs.size = 3 := by have := congrArg List.length hf; simpa using this
  have fat : ∀ (k : Nat) (o : Nat) (ty : TypeId), [(0, i), (1, i), (2, s)][k]? = some (o, ty) → ∃ f, fs[k]? = some f ∧ f.offset = o ∧ f.type = ty := fun k o ty h => by
    rw [← hf, List.getElem?_map] at h
    cases hq : fs.toList[k]? with
    | none => rw [hq] at h; cases h
    | some f =>
      rw [hq] at h
      simp at h
      exact ⟨f, by simpa using hq, h.1, h.2⟩
  obtain ⟨f0, g0, o0, t0⟩ := fat 0 0 i rfl
  obtain ⟨f1, g1, o1, t1⟩ := fat 1 1 i rfl
  obtain ⟨f2, g2, o2, t2⟩ := fat 2 2 s rfl
  have q0 := hfield 0 f0 g0
  have q1 := hfield 1 f1 g1
  have q2 := hfield 2 f2 g2
  rw [o0, t0, ci] at q0
  rw [o1, t1, ci] at q1
  rw [o2, t2, cs'] at q2
  have hcs : cs.toList.length = 3 := by have := hl; rw [ct] at this; simpa [Value.cells] using this
  obtain ⟨a, b, c, hl3⟩ : ∃ a b c, cs.toList = [a, b, c] := by
    match cs.toList, hcs with
    | [a, b, c], _ => exact ⟨a, b, c, rfl⟩
  have hcl : (Value.agg cs).cells.toList = [a, b, c] := hl3
  rw [hcl] at q0 q1 q2
  obtain ⟨x0, x1, x2, hxs⟩ : ∃ x0 x1 x2, xs = [x0, x1, x2] := by
    rw [e3] at hxl
    match xs, hxl with
    | [a, b, c], _ => exact ⟨a, b, c, rfl⟩
  subst hxs
  obtain ⟨r, hr, _⟩ := DataW.trod_int hi q0
  obtain ⟨dd, hdd, _⟩ := DataW.trod_int hi q1
  simp at hr hdd
  subst hr hdd
  obtain ⟨len, blk, bs, cc, k1, k2, k3, k4⟩ := open_slc (v := c) hs hflat hlen hpos q2
  refine ⟨r, dd, len, blk, bs, cc, fun μ i N a1 a2 a3 a4 => ?_, k2, k3, ?_⟩
  · simp only [Rep, Reps]
    exact ⟨cs, rfl, _, _, hl3, rfl, _, _, rfl, rfl, _, _, rfl, k1 μ i N a1 a2 a3 a4, rfl⟩
  · rcases k4 with ⟨rfl, _⟩ | ⟨es, sps, e1, e2⟩
    · simp
    · have hd : d = .agg [x0.1, x1.1, x2.1] := by
        have := congrArg Prod.fst hx2
        simpa using this
      have hty : fs.toList.map (·.type) = [i, i, s] := by
        have := congrArg (List.map Prod.snd) hf
        simpa [List.map_map, Function.comp_def] using this
      have hmem : (es.length + sps.length) * P.bytesOf e ∈ d.weights P t := by
        rw [hd]
        simp only [DataW.weights, ht, hty, DataW.weightsEach, e1, hs]
        simp
      have := hw _ hmem
      rw [← e2]
      exact Nat.le_trans (Nat.mul_le_mul_right _ (Nat.le_add_right _ _)) this
end
/-! ### a number over itself -/
theorem fdiv_self {h : Nat} (hf : h % 9223372036854775808 < 9218868437227405312) (hz : h % 9223372036854775808 ≠ 0) : fdiv h h = 4607182418800017408 := by
  obtain ⟨m, i, e, _, hU⟩ := read_fin hf
  have hm : m ≠ 0 := fun h0 => by
    subst h0
    rw [Nat.zero_mul] at hU
    exact hz (U_eq_iff.1 (hU.symm.trans U_zero.symm))
  unfold fdiv Ieee.Format.div
  rw [e]
  simp only [Ieee.Datum.quotient, if_neg hm, Option.map_some, Option.getD_some, Bool.xor_self]
  have e1 : Ieee.double.fractionBits + 2 + m.log2 - m.log2 = 54 := by
    have : Ieee.double.fractionBits = 52 := rfl
    omega
  rw [e1, Nat.shiftLeft_eq, Nat.mul_div_cancel_left _ (by omega), Nat.mul_mod_right, show (i - i - ((54 : Nat) : Int) - 1) = -55 by omega]
  decide +kernel
theorem fdiv_nan {h : Nat} (hn : isnan h = true) : fdiv h h = qn := by
  obtain ⟨s, t, e⟩ := read_of_nan hn
  unfold fdiv Ieee.Format.div; rw [e]; rfl
theorem fdiv_inf {h : Nat} (hi : h % 9223372036854775808 = 9218868437227405312) : fdiv h h = qn := by
  unfold fdiv Ieee.Format.div; rw [read_inf hi]; rfl
theorem fsub_nan {h : Nat} (hn : isnan h = true) : fsub h h = qn := by
  obtain ⟨s, t, e⟩ := read_of_nan hn
  unfold fsub Ieee.Format.sub; rw [e]; rfl
/-- finite, by its difference from itself -/
theorem fin_iff {h : Nat} : feq (fsub h h) 0 = true ↔ h % 9223372036854775808 < 9218868437227405312 := by
  cases hn : isnan h with
  | true =>
    rw [fsub_nan hn]
    constructor
    · intro h; exact absurd h (by decide)
    · intro h1; unfold isnan at hn; have := of_decide_eq_true hn; omega
  | false =>
    have e := fsub_self hn
    rw [cn_of_not hn] at e
    rw [e]
    by_cases hf : h % 9223372036854775808 < 9218868437227405312
    · rw [if_pos hf]; exact ⟨fun _ => hf, fun _ => by decide⟩
    · rw [if_neg hf]; exact ⟨fun h => absurd h (by decide), fun h => absurd h hf⟩
theorem div_self_fin {h : Nat} (hl : h < 18446744073709551616) (h0 : feq h 0 = false) (hf : feq (fsub h h) 0 = true) : fdiv h h = 4607182418800017408 := by
  have hF := fin_iff.1 hf
  refine fdiv_self hF fun hz => ?_
  have hn : isnan h = false := by unfold isnan; exact decide_eq_false (by omega)
  have : feq h 0 = true := by
    rw [feq_rk hl (by omega), hn]
    have : rk h = rk 0 := by
      unfold rk
      split <;> simp <;> omega
    rw [this]; decide
  rw [this] at h0; cases h0
theorem div_self_inf {h : Nat} (hf : feq (fsub h h) 0 = false) : fdiv h h = qn := by
  have hF : ¬ h % 9223372036854775808 < 9218868437227405312 := fun hh => by rw [fin_iff.2 hh] at hf; cases hf
  by_cases hn : isnan h = true
  · exact fdiv_nan hn
  · refine fdiv_inf ?_
    have : isnan h = false := by cases hq : isnan h <;> simp_all
    unfold isnan at this
    have := of_decide_eq_false this
    omega
theorem fmax_lt {x y : Nat} (hx : x < 18446744073709551616) (hy : y < 18446744073709551616) : fmax x y < 18446744073709551616 := by
  unfold fmax
  split
  · decide
  · exact hy
  · exact hx
  · cases decide (9223372036854775808 ≤ x)
    · exact hx
    · exact hy
end Go.Sx
