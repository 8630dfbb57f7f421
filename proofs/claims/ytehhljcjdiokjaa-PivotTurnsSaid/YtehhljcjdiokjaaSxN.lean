/- THE ENGINE IS SOUND, eleventh part: indexes, fields, the greatest, the built-in functions; an operation whole. -/
import Derived.Test.YtehhljcjdiokjaaSxM
set_option linter.unusedSimpArgs false
set_option linter.unusedVariables false
noncomputable section
namespace Go.Sx
open M

theorem indexAddrA_sound {P : Program} {t : TypeId} {x ix v : AV} {g g' : G} (h : indexAddrA P t x ix g = .done v g') :
    ∃ p, Keep g g' p ∧ (p → ∀ μ (w : World) cx ci, GOk g.nx μ w.heap g.H → Rep g.nx μ x cx → Rep g.nx μ ix ci → ∃ c, (Instr.indexAt t cx ci).run P w = .ok c w ∧ Rep g.nx μ v c) := by
  unfold indexAddrA at h
  obtain ⟨n, g0, a0, h0⟩ := done_of h
  obtain ⟨hix, rfl⟩ := ofOpt_done a0
  obtain ⟨k, rfl⟩ := asInt_some hix
  split at h0
  · rename_i s own a len
    obtain ⟨e, g1, a1, h1⟩ := done_of h0
    obtain ⟨he, rfl⟩ := ofOpt_done a1
    obtain ⟨_, g2, a2, h2⟩ := done_of h1
    have k2 := ck_done a2
    obtain ⟨y, g3, a3, h3⟩ := done_of h2
    obtain ⟨hy, rfl⟩ := ofOpt_done a3
    obtain ⟨b, g4, a4, h4⟩ := done_of h3
    obtain ⟨hb, rfl⟩ := getC_done a4
    obtain ⟨rfl, rfl⟩ := ret_done h4
    obtain ⟨i, d, hi', hd, e1, e2⟩ := lay_some hy
    rw [k2.1] at hb
    refine ⟨_, k2, fun hp μ w cx ci hg hx hi => ?_⟩
    simp only [Rep] at hx hi
    obtain ⟨hag, A, C, rfl, hC, hA, _⟩ := hx
    subst hi
    have hA' := hA (by omega)
    subst hA'
    refine ⟨.pointer (some ((μ.addr a).add (n.2.toNat * i.size))), ?_, ?_⟩
    · have hp' : (0 ≤ n.2 ∧ n.2 < (len : Int)) := hp
      simp [Instr.indexAt, asIntOf, run_underlying (sliceE_some he), hp', run_sizeOf hi']
    · simp only [Rep]
      rw [stepA_g, e1, stepA_addr (hg.ok _ _ hb).1]
      exact ⟨hag, rfl⟩
  · rename_i a
    obtain ⟨ne, g1, a1, h1⟩ := done_of h0
    obtain ⟨hne, rfl⟩ := ofOpt_done a1
    obtain ⟨_, g2, a2, h2⟩ := done_of h1
    obtain ⟨y, g3, a3, h3⟩ := done_of h2
    obtain ⟨hy, rfl⟩ := ofOpt_done a3
    obtain ⟨rfl, rfl⟩ := ret_done h3
    obtain ⟨i, d, hi', hd, e1, e2⟩ := lay_some hy
    refine ⟨_, ck_done a2, fun hp μ w cx ci hg hx hi => ?_⟩
    simp only [Rep] at hx hi
    obtain ⟨hag, rfl⟩ := hx
    subst hi
    refine ⟨.pointer (some ((μ.addr a).add (n.2.toNat * i.size))), ?_, ?_⟩
    · have hp' : (0 ≤ n.2 ∧ n.2 < (ne.1 : Int)) := hp
      simp [Instr.indexAt, asIntOf, run_underlying (arrayE_some hne), Instr.sureAddr, hp', run_sizeOf hi']
    · simp only [Rep]
      refine ⟨hag, ?_⟩
      unfold MM.addr
      rw [Addr.add_lit, e1, Nat.add_assoc]
  · cases h0
theorem partA_sound {P : Program} {ty : TypeId} {y : Nat × Bool} (hy : lay P ty = some y) {cs : List AV} {off : Nat} {v : AV} {g g' : G} (h : partA y cs off g = .done v g') :
    g = g' ∧ ∀ N μ (w : World) (xs : Array Value), Reps N μ cs xs.toList → ∃ c, (part ty xs off).run P w = .ok c w ∧ Rep N μ v c := by
  obtain ⟨i, d, hi', hd, e1, e2⟩ := lay_some hy
  unfold partA at h
  cases hA : y.2 with
  | true =>
    rw [hA, cond_true] at h
    obtain ⟨_, g1, a1, h1⟩ := done_of h
    obtain ⟨hq, rfl⟩ := okIf_done a1
    obtain ⟨rfl, rfl⟩ := ret_done h1
    refine ⟨rfl, fun N μ w xs hr => ⟨.agg (xs.extract off (off + i.size)), by simp [part, run_isAgg hd, e2, hA, run_sizeOf hi'], ?_⟩⟩
    simp only [Rep]
    refine ⟨_, rfl, ?_⟩
    have e : (xs.extract off (off + i.size)).toList = (xs.toList.drop off).take y.1 := by
      rw [Array.toList_extract, ← e1, List.extract_eq_take_drop]
      congr 1; omega
    rw [e]
    exact (hr.drop off).take _
  | false =>
    rw [hA, cond_false] at h
    obtain ⟨hv, rfl⟩ := ofOpt_done h
    refine ⟨rfl, fun N μ w xs hr => ?_⟩
    obtain ⟨c, hc, hrep⟩ := hr.get hv
    exact ⟨c, run_part hd (by rw [e2, hA]) (by simpa using hc) w, hrep⟩
theorem indexA_sound {P : Program} {t : TypeId} {x ix v : AV} {g g' : G} (h : indexA P t x ix g = .done v g') :
    ∃ p, Keep g g' p ∧ (p → ∀ N μ (w : World) cx ci, Rep N μ x cx → Rep N μ ix ci → ∃ c, (Instr.index t cx ci).run P w = .ok c w ∧ Rep N μ v c) := by
  unfold indexA at h
  obtain ⟨n, g0, a0, h0⟩ := done_of h
  obtain ⟨hix, rfl⟩ := ofOpt_done a0
  obtain ⟨k, rfl⟩ := asInt_some hix
  split at h0
  · rename_i s l
    obtain ⟨_, g1, a1, h1⟩ := done_of h0
    obtain ⟨hs, rfl⟩ := okIf_done a1
    obtain ⟨_, g2, a2, h2⟩ := done_of h1
    obtain ⟨rfl, rfl⟩ := ret_done h2
    refine ⟨_, ck_done a2, fun hp N μ w cx ci hx hi => ?_⟩
    simp only [Rep] at hx hi
    subst hx hi
    have hlt : n.2.toNat < l.length := by omega
    refine ⟨.int .u8 (l.getD n.2.toNat 0).toNat, ?_, by simp only [Rep]⟩
    have hget : (⟨l.toArray⟩ : ByteArray)[n.2.toNat]? = some (l.getD n.2.toNat 0) := by
      have hsz : n.2.toNat < (⟨l.toArray⟩ : ByteArray).size := by rw [ba_size]; exact hlt
      rw [getElem?_pos (⟨l.toArray⟩ : ByteArray) n.2.toNat hsz]
      congr 1
      show l.toArray[n.2.toNat] = _
      simp [List.getD, hlt]
    simp [Instr.index, asIntOf, run_underlying (isStrD_some hs), hp.1, hget]
  · rename_i cs
    obtain ⟨ne, g1, a1, h1⟩ := done_of h0
    obtain ⟨hne, rfl⟩ := ofOpt_done a1
    obtain ⟨_, g2, a2, h2⟩ := done_of h1
    have k2 := ck_done a2
    obtain ⟨y, g3, a3, h3⟩ := done_of h2
    obtain ⟨hy, rfl⟩ := ofOpt_done a3
    obtain ⟨rfl, hpart⟩ := partA_sound hy h3
    obtain ⟨i, d, hi', hd, e1, e2⟩ := lay_some hy
    refine ⟨_, k2, fun hp N μ w cx ci hx hi => ?_⟩
    simp only [Rep] at hx hi
    obtain ⟨xs, rfl, hr⟩ := hx
    subst hi
    obtain ⟨c, hc, hrep⟩ := hpart N μ w xs hr
    refine ⟨c, ?_, hrep⟩
    have hp' : (0 ≤ n.2 ∧ n.2 < (ne.1 : Int)) := hp
    rw [← e1] at hc
    simp [Instr.index, asIntOf, run_underlying (arrayE_some hne), hp', run_sizeOf hi', hc]
  · cases h0
theorem fieldOf_some {P : Program} {t : TypeId} {f : Nat} {fd : Field} (h : fieldOf P t f = some fd) : ∃ fs, P.underlying t = some (.struct fs) ∧ fs[f]? = some fd := by
  unfold fieldOf at h
  split at h
  · exact ⟨_, by assumption, h⟩
  · cases h
theorem fieldAddrA_sound {P : Program} {t : TypeId} {x v : AV} {f : Nat} {g g' : G} (h : fieldAddrA P t x f g = .done v g') :
    g = g' ∧ ∀ N μ (w : World) cx, Rep N μ x cx → ∃ c, (Instr.fieldAt t cx f).run P w = .ok c w ∧ Rep N μ v c := by
  unfold fieldAddrA at h
  obtain ⟨a, g0, a0, h0⟩ := done_of h
  obtain ⟨hx, rfl⟩ := ofOpt_done a0
  obtain rfl := asPtr_some hx
  obtain ⟨fd, g1, a1, h1⟩ := done_of h0
  obtain ⟨hfd, rfl⟩ := ofOpt_done a1
  obtain ⟨y, g2, a2, h2⟩ := done_of h1
  obtain ⟨hy, rfl⟩ := ofOpt_done a2
  obtain ⟨_, g3, a3, h3⟩ := done_of h2
  obtain ⟨hq, rfl⟩ := okIf_done a3
  obtain ⟨rfl, rfl⟩ := ret_done h3
  obtain ⟨i, d, hi', hd, e1, e2⟩ := lay_some hy
  obtain ⟨fs, hfs, hf⟩ := fieldOf_some hfd
  refine ⟨rfl, fun N μ w cx hx => ?_⟩
  simp only [Rep] at hx
  obtain ⟨hag, rfl⟩ := hx
  have hn : i.size ≠ 0 := by
    rw [e1]; intro e0; rw [e0] at hq; simp at hq
  refine ⟨.pointer (some ((μ.addr a).add fd.offset)), by simp [Instr.fieldAt, run_underlying hfs, hf, Instr.sureAddr, fieldPlace, run_sizeOf hi', hn], ?_⟩
  simp only [Rep]
  refine ⟨hag, ?_⟩
  unfold MM.addr
  rw [Addr.add_lit, Nat.add_assoc]
theorem fieldA_sound {P : Program} {t : TypeId} {x v : AV} {f : Nat} {g g' : G} (h : fieldA P t x f g = .done v g') :
    g = g' ∧ ∀ N μ (w : World) cx, Rep N μ x cx → ∃ c, (Instr.field t cx f).run P w = .ok c w ∧ Rep N μ v c := by
  unfold fieldA at h
  obtain ⟨cs, g0, a0, h0⟩ := done_of h
  obtain ⟨hx, rfl⟩ := ofOpt_done a0
  obtain rfl := asAgg_some hx
  obtain ⟨fd, g1, a1, h1⟩ := done_of h0
  obtain ⟨hfd, rfl⟩ := ofOpt_done a1
  obtain ⟨y, g2, a2, h2⟩ := done_of h1
  obtain ⟨hy, rfl⟩ := ofOpt_done a2
  obtain ⟨rfl, hpart⟩ := partA_sound hy h2
  obtain ⟨fs, hfs, hf⟩ := fieldOf_some hfd
  refine ⟨rfl, fun N μ w cx hx => ?_⟩
  simp only [Rep] at hx
  obtain ⟨xs, rfl, hr⟩ := hx
  obtain ⟨c, hc, hrep⟩ := hpart N μ w xs hr
  exact ⟨c, by simp [Instr.field, run_underlying hfs, hf, Go.asAgg, hc], hrep⟩

/-! ### the greatest, the least -/
theorem forder_some {x y : Nat} {o : Ordering} (h : forder x y = some o) : isnan x = false ∧ isnan y = false := by
  constructor
  · cases hn : isnan x with
    | false => rfl
    | true =>
      obtain ⟨s, t, hr⟩ := read_of_nan hn
      unfold forder Ieee.Format.order at h
      rw [hr] at h; simp [Ieee.Datum.order] at h
  · cases hn : isnan y with
    | false => rfl
    | true =>
      obtain ⟨s, t, hr⟩ := read_of_nan hn
      unfold forder Ieee.Format.order at h
      rw [hr] at h; cases hx : Ieee.double.read x <;> rw [hx] at h <;> simp [Ieee.Datum.order] at h
theorem decode_neg {b : Nat} (hb : b < 18446744073709551616) : (FloatKind.f64.decode b).neg = decide (9223372036854775808 ≤ b) := by
  have hs : Ieee.double.signWeight = 9223372036854775808 := by decide
  have e : (b / 9223372036854775808 % 2 == 1) = decide (9223372036854775808 ≤ b) := by
    rw [Bool.eq_iff_iff]; simp; omega
  show (Ieee.double.read b).neg = _
  unfold Ieee.Format.read
  rw [hs, ← e]
  dsimp only
  split
  · rfl
  · split
    · rfl
    · split <;> rfl
theorem mm_sound {P : Program} {isMax : Bool} {f2 : Value → Value → Sem Value} {fA : AV → AV → M AV}
    (hf : ∀ {x y v : AV} {g g' : G}, fA x y g = .done v g' → g = g' ∧ ∀ N μ (w : World) cx cy, Rep N μ x cx → Rep N μ y cy → ∃ c n, (f2 cx cy).run P w = .ok c { w with drawn := n } ∧ Rep N μ v c) :
    ∀ {l : List AV} {x v : AV} {g g' : G}, foldA fA x l g = .done v g' → g = g' ∧ ∀ N μ (w : World) cx cl, Rep N μ x cx → Reps N μ l cl → ∃ c n, (cl.foldlM f2 cx).run P w = .ok c { w with drawn := n } ∧ Rep N μ v c
  | [], x, v, g, g', h => by
    obtain ⟨rfl, rfl⟩ := ret_done h
    refine ⟨rfl, fun N μ w cx cl hx hl => ?_⟩
    simp only [Reps] at hl; subst hl
    exact ⟨cx, w.drawn, rfl, hx⟩
  | y :: l, x, v, g, g', h => by
    unfold foldA at h
    obtain ⟨z, g1, a1, h1⟩ := done_of h
    obtain ⟨rfl, k1⟩ := hf a1
    obtain ⟨rfl, k2⟩ := mm_sound (isMax := isMax) hf h1
    refine ⟨rfl, fun N μ w cx cl hx hl => ?_⟩
    simp only [Reps] at hl
    obtain ⟨cy, r, rfl, hy, hr⟩ := hl
    obtain ⟨c, n, e1, hc⟩ := k1 N μ w cx cy hx hy
    obtain ⟨c', n', e2, hc'⟩ := k2 N μ { w with drawn := n } c r hc hr
    exact ⟨c', n', by simp [e1, e2], hc'⟩
theorem maxA_sound {P : Program} {x y v : AV} {g g' : G} (h : maxA x y g = .done v g') :
    g = g' ∧ ∀ N μ (w : World) cx cy, Rep N μ x cx → Rep N μ y cy → ∃ c n, (Builtin.max2 cx cy).run P w = .ok c { w with drawn := n } ∧ Rep N μ v c := by
  unfold maxA at h
  split at h
  · rename_i s k a s' k' b
    by_cases hk : k = k'
    · subst hk
      simp only [decide_true, cond_true] at h
      obtain ⟨rfl, rfl⟩ := ret_done h
      refine ⟨rfl, fun N μ w cx cy hx hy => ?_⟩
      simp only [Rep] at hx hy; subst hx hy
      exact ⟨_, w.drawn, rfl, by simp only [Rep]⟩
    · simp only [hk, decide_false, cond_false] at h; cases h
  · rename_i s a s' b
    obtain ⟨rfl, rfl⟩ := ret_done h
    refine ⟨rfl, fun N μ w cx cy hx hy => ?_⟩
    simp only [Rep] at hx hy
    obtain ⟨a', rfl, ha⟩ := hx
    obtain ⟨b', rfl, hb⟩ := hy
    have ho := forder_of ha hb
    cases hq : forder a b with
    | none =>
      refine ⟨_, w.drawn + 1, by simp [Builtin.max2, ho, hq, Question.forced, choose, Sem.run]; rfl, ?_⟩
      simp only [Rep, fmax, hq]
      refine ⟨_, rfl, cn_of_nan (isnan_cut_mm _ _ _ _), ?_⟩
      simp only [Question.cut]; omega
    | some o =>
      obtain ⟨na, nb⟩ := forder_some hq
      have ea := ha.eq_of_not na
      have eb := hb.eq_of_not nb
      subst ea eb
      cases o with
      | lt => exact ⟨.float .f64 b', w.drawn, by simp [Builtin.max2, ho, hq], by simp only [Rep, fmax, hq]; exact ⟨b', rfl, hb⟩⟩
      | gt => exact ⟨.float .f64 a', w.drawn, by simp [Builtin.max2, ho, hq], by simp only [Rep, fmax, hq]; exact ⟨a', rfl, ha⟩⟩
      | eq =>
        refine ⟨.float .f64 (if decide (9223372036854775808 ≤ a') then b' else a'), w.drawn, by simp [Builtin.max2, ho, hq, decode_neg ha.2], ?_⟩
        simp only [Rep, fmax, hq]
        by_cases h9 : 9223372036854775808 ≤ a'
        · exact ⟨b', by simp [h9], by simpa [h9] using hb⟩
        · exact ⟨a', by simp [h9], by simpa [h9] using ha⟩
  · cases h
theorem minA_sound {P : Program} {x y v : AV} {g g' : G} (h : minA x y g = .done v g') :
    g = g' ∧ ∀ N μ (w : World) cx cy, Rep N μ x cx → Rep N μ y cy → ∃ c n, (Builtin.min2 cx cy).run P w = .ok c { w with drawn := n } ∧ Rep N μ v c := by
  unfold minA at h
  split at h
  · rename_i s k a s' k' b
    by_cases hk : k = k'
    · subst hk
      simp only [decide_true, cond_true] at h
      obtain ⟨rfl, rfl⟩ := ret_done h
      refine ⟨rfl, fun N μ w cx cy hx hy => ?_⟩
      simp only [Rep] at hx hy; subst hx hy
      exact ⟨_, w.drawn, rfl, by simp only [Rep]⟩
    · simp only [hk, decide_false, cond_false] at h; cases h
  · rename_i s a s' b
    obtain ⟨rfl, rfl⟩ := ret_done h
    refine ⟨rfl, fun N μ w cx cy hx hy => ?_⟩
    simp only [Rep] at hx hy
    obtain ⟨a', rfl, ha⟩ := hx
    obtain ⟨b', rfl, hb⟩ := hy
    have ho := forder_of ha hb
    cases hq : forder a b with
    | none =>
      refine ⟨_, w.drawn + 1, by simp [Builtin.min2, ho, hq, Question.forced, choose, Sem.run]; rfl, ?_⟩
      simp only [Rep, fmin, hq]
      refine ⟨_, rfl, cn_of_nan (isnan_cut_mm _ _ _ _), ?_⟩
      simp only [Question.cut]; omega
    | some o =>
      obtain ⟨na, nb⟩ := forder_some hq
      have ea := ha.eq_of_not na
      have eb := hb.eq_of_not nb
      subst ea eb
      cases o with
      | lt => exact ⟨.float .f64 a', w.drawn, by simp [Builtin.min2, ho, hq], by simp only [Rep, fmin, hq]; exact ⟨a', rfl, ha⟩⟩
      | gt => exact ⟨.float .f64 b', w.drawn, by simp [Builtin.min2, ho, hq], by simp only [Rep, fmin, hq]; exact ⟨b', rfl, hb⟩⟩
      | eq =>
        refine ⟨.float .f64 (if decide (9223372036854775808 ≤ a') then a' else b'), w.drawn, by simp [Builtin.min2, ho, hq, decode_neg ha.2], ?_⟩
        simp only [Rep, fmin, hq]
        by_cases h9 : 9223372036854775808 ≤ a'
        · exact ⟨a', by simp [h9], by simpa [h9] using ha⟩
        · exact ⟨b', by simp [h9], by simpa [h9] using hb⟩
  · cases h
end Go.Sx
