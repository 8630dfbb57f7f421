/- THE ENGINE IS SOUND, eighth part: the rest of the operators; conversions. -/
import Derived.Test.YtehhljcjdiokjaaSxJ
set_option linter.unusedSimpArgs false
set_option linter.unusedVariables false
noncomputable section
namespace Go.Sx
open M

/-! ### strings, booleans, nil -/
theorem ba_toList (l : List UInt8) : (⟨l.toArray⟩ : ByteArray).toList = l := by rw [ByteArray.toList_eq]
theorem ba_size (l : List UInt8) : (⟨l.toArray⟩ : ByteArray).size = l.length := by simp [ByteArray.size]
theorem ba_append (a b : List UInt8) : (⟨a.toArray⟩ ++ ⟨b.toArray⟩ : ByteArray) = ⟨(a ++ b).toArray⟩ := by
  apply ByteArray.ext
  rw [ByteArray.data_append]
  simp
theorem strBin_sound {P : Program} {s : Bool} {op : BinOp} {a b : List UInt8} {g g' : G} {v : AV} {t : TypeId} (h : strBin s op a b g = .done v g') :
    ∃ p, Keep g g' p ∧ (p → ∀ N μ (w : World), ∃ c, (binOp op t (.string ⟨a.toArray⟩) (.string ⟨b.toArray⟩)).run P w = .ok c w ∧ Rep N μ v c) := by
  unfold strBin at h
  cases op <;> simp only at h <;> first | exact (no_done h).elim | skip
  · obtain ⟨_, g1, a1, h1⟩ := done_of h
    obtain ⟨rfl, rfl⟩ := ret_done h1
    refine ⟨_, ck_done a1, fun hp N μ w => ⟨.string ⟨(a ++ b).toArray⟩, ?_, by simp only [Rep]⟩⟩
    have : ¬ (9223372036854775807 < (a.length : Int) + (b.length : Int)) := by omega
    simp [binOp, Op.stringOp, ba_size, ba_append, IntKind.max, IntKind.bits, IntKind.signed, this]
  all_goals obtain ⟨rfl, rfl⟩ := ret_done h
  all_goals refine ⟨_, Keep.refl _, fun _ N μ w => ?_⟩
  · exact ⟨.bool (a == b), by simp [binOp, Op.stringOp, ba_toList], .cmpB ..⟩
  · exact ⟨.bool (!(a == b)), by simp [binOp, Op.stringOp, ba_toList], .cmpB ..⟩
  · exact ⟨.bool (Op.bytesLess a b), by simp [binOp, Op.stringOp, ba_toList], .cmpB ..⟩
theorem isBoolD_some {P : Program} {t : TypeId} (h : isBoolD P t = true) : P.underlying t = some .bool := by
  unfold isBoolD at h; split at h <;> first | assumption | cases h
theorem isPtrD_some {P : Program} {t : TypeId} (h : isPtrD P t = true) : ∃ e, P.underlying t = some (.pointer e) := by
  unfold isPtrD at h; split at h <;> first | exact ⟨_, by assumption⟩ | cases h
theorem isFuncD_some {P : Program} {t : TypeId} (h : isFuncD P t = true) : ∃ a b c, P.underlying t = some (.func a b c) := by
  unfold isFuncD at h; split at h <;> first | exact ⟨_, _, _, by assumption⟩ | cases h
theorem boolEq_sound {P : Program} {s a b : Bool} {op : BinOp} {g g' : G} {v : AV} {t : TypeId} (ht : P.underlying t = some .bool) (h : boolEq op s a b g = .done v g') :
    g = g' ∧ ∀ N μ (w : World), ∃ c, (binOp op t (.bool a) (.bool b)).run P w = .ok c w ∧ Rep N μ v c := by
  unfold boolEq at h
  cases op <;> simp only at h <;> first | exact (no_done h).elim | skip
  all_goals obtain ⟨rfl, rfl⟩ := ret_done h
  all_goals refine ⟨rfl, fun N μ w => ?_⟩
  all_goals have he : (Op.equal t (.bool a) (.bool b)).run P w = .ok (a == b) w := run_equalIn_bool' w 9999 t a b ht
  · refine ⟨.bool (a == b), ?_, .cmpB ..⟩
    show (do pure (.bool (← Op.equal t (.bool a) (.bool b))) : Sem Value).run P w = _
    simp [he]
  · refine ⟨.bool (!(a == b)), ?_, .cmpB ..⟩
    show (do pure (.bool (!(← Op.equal t (.bool a) (.bool b)))) : Sem Value).run P w = _
    simp [he]
theorem nilEq_sound {P : Program} {b : Bool} {op : BinOp} {g g' : G} {v : AV} {t : TypeId} {x y : Value} (hx : ∀ w : World, (Op.equal t x y).run P w = .ok b w)
    (hs : binOp .eql t x y = (do pure (.bool (← Op.equal t x y))) ∧ binOp .neq t x y = (do pure (.bool (!(← Op.equal t x y))))) (h : nilEq op b g = .done v g') :
    g = g' ∧ ∀ N μ (w : World), ∃ c, (binOp op t x y).run P w = .ok c w ∧ Rep N μ v c := by
  unfold nilEq at h
  cases op <;> simp only at h <;> first | exact (no_done h).elim | skip
  all_goals obtain ⟨rfl, rfl⟩ := ret_done h
  all_goals refine ⟨rfl, fun N μ w => ?_⟩
  · exact ⟨.bool b, by rw [hs.1]; simp [hx], by simp only [Rep]⟩
  · exact ⟨.bool !b, by rw [hs.2]; simp [hx], by simp only [Rep]⟩

/-! ### structs -/
theorem cellEq_sound {P : Program} {d : TypeDesc} {ty : TypeId} (hd : P.underlying ty = some d) {v v' : AV} {x : Bool × Bool} (h : cellEq d v v' = some x) {N : Nat} {μ : MM} {c c' : Value} (hv : Rep N μ v c) (hv' : Rep N μ v' c') (k : Nat) (w : World) :
    (Op.equalIn (k + 1) ty c c').run P w = .ok x.2 w ∧ v.one = true ∧ isAggD d = false := by
  unfold cellEq at h
  split at h
  · rename_i s k1 a s' k2 b
    by_cases hk : k1 = k2
    · subst hk
      simp only [decide_true, cond_true, Option.some.injEq] at h
      subst h
      simp only [Rep] at hv hv'
      subst hv hv'
      refine ⟨?_, rfl, rfl⟩
      rw [run_equalIn_int w k ty k1 _ a b hd]
      rfl
    · simp [hk] at h
  · cases h
    simp only [Rep] at hv hv'
    obtain ⟨a', rfl, ha⟩ := hv
    obtain ⟨b', rfl, hb⟩ := hv'
    refine ⟨?_, rfl, rfl⟩
    simp [Op.equalIn, run_underlying hd, Op.floatEq, forder_of ha hb, feq]
  · cases h
    simp only [Rep] at hv hv'
    subst hv hv'
    refine ⟨?_, rfl, rfl⟩
    rw [run_equalIn_string w k ty _ _ hd, ba_toList, ba_toList]
  · cases h
    simp only [Rep] at hv hv'
    subst hv hv'
    exact ⟨run_equalIn_bool' w k ty _ _ hd, rfl, rfl⟩
  · cases h
theorem run_part {P : Program} {ty : TypeId} {d : TypeDesc} (hd : P.underlying ty = some d) (ha : isAggD d = false) {cs : Array Value} {o : Nat} {c : Value} (hc : cs[o]? = some c) (w : World) : (part ty cs o).run P w = .ok c w := by
  simp [part, run_isAgg hd, ha, hc]
theorem fieldsEq_sound {P : Program} (k : Nat) (xs ys : Array Value) {N : Nat} {μ : MM} : ∀ {fs : List Field} {o : Nat} {l l' : List AV} {x : Bool × Bool}, fieldsEq P o fs l l' = some x →
    (∀ (i : Nat) v, l[i]? = some v → ∃ c, xs[o + i]? = some c ∧ Rep N μ v c) → (∀ (i : Nat) v, l'[i]? = some v → ∃ c, ys[o + i]? = some c ∧ Rep N μ v c) → ∀ w : World, (Op.eqFields (k + 1) xs ys fs).run P w = .ok x.2 w
  | [], o, l, l', x, h, _, _, w => by
    cases l <;> cases l' <;> simp [fieldsEq] at h
    subst h; rfl
  | f :: fs, o, [], l', x, h, _, _, w => by cases l' <;> simp [fieldsEq] at h
  | f :: fs, o, v :: l, [], x, h, _, _, w => by simp [fieldsEq] at h
  | f :: fs, o, v :: l, v' :: l', x, h, hx, hy, w => by
      unfold fieldsEq at h
      cases hq : (Nat.beq f.offset o && !(f.name == "_")) with
      | false => rw [hq] at h; cases h
      | true =>
        rw [hq, cond_true] at h
        simp only [Bool.and_eq_true, Bool.not_eq_true'] at hq
        have ho := Nat.eq_of_beq_eq_true hq.1
        have hn : f.name ≠ "_" := by
          intro e; rw [e] at hq; simp at hq
        split at h
        · rename_i d hd
          split at h
          · rename_i x1 x2 h1 h2
            cases h
            obtain ⟨c, hc, hr⟩ := hx 0 v rfl
            obtain ⟨c', hc', hr'⟩ := hy 0 v' rfl
            obtain ⟨he, _, hag⟩ := cellEq_sound hd h1 hr hr' k w
            have ih := fieldsEq_sound k xs ys h2 (fun i u hu => by have := hx (i + 1) u (by simpa using hu); rwa [show o + (i + 1) = o + 1 + i by omega] at this)
              (fun i u hu => by have := hy (i + 1) u (by simpa using hu); rwa [show o + (i + 1) = o + 1 + i by omega] at this) w
            simp only [Nat.add_zero] at hc hc'
            unfold Op.eqFields
            simp only [ne_eq, hn, not_false_eq_true, if_true, Sem.run_bind, ho, run_part hd hag hc, run_part hd hag hc', Result.andThen_ok, he]
            cases x1.2
            · simp
            · simp [ih]
          · cases h
        · cases h
theorem structEq_sound {P : Program} {t : TypeId} {l l' : List AV} {x : Bool × Bool} (h : structEq P t l l' = some x) {N : Nat} {μ : MM} {xs ys : Array Value} (hx : Reps N μ l xs.toList) (hy : Reps N μ l' ys.toList) (w : World) :
    (Op.equalIn 10000 t (.agg xs) (.agg ys)).run P w = .ok x.2 w ∧ P.eqGuardType P.depth t = false := by
  unfold structEq at h
  split at h
  · rename_i fs hfs
    cases hq : (!P.stoodInHeld t && !P.eqGuardType P.depth t) with
    | false => rw [hq] at h; cases h
    | true =>
      rw [hq, cond_true] at h
      simp only [Bool.and_eq_true, Bool.not_eq_true'] at hq
      have hf : P.fieldsOf t = fs := by simp [Program.fieldsOf, hfs]
      refine ⟨?_, hq.2⟩
      rw [run_equalIn_struct w 9999 t xs ys (by rw [hf]; exact hfs) hq.1, hf]
      exact fieldsEq_sound 9998 xs ys h (fun i v hv => by simpa using hx.get hv) (fun i v hv => by simpa using hy.get hv) w
  · cases h

/-! ### the sign bit -/
theorem xor63_mod (b : Nat) : (b ^^^ 9223372036854775808) % 9223372036854775808 = b % 9223372036854775808 := by
  have := Nat.xor_mod_two_pow (a := b) (b := 9223372036854775808) (n := 63)
  simpa using this
theorem isnan_xor63 (b : Nat) : isnan (b ^^^ 9223372036854775808) = isnan b := by simp only [isnan, xor63_mod]
theorem FB.neg {x b : Nat} (h : FB x b) : FB (fneg x) (b ^^^ 9223372036854775808) := by
  obtain ⟨rfl, hb⟩ := h
  refine ⟨?_, Nat.xor_lt_two_pow (n := 64) (by simpa using hb) (by decide)⟩
  unfold fneg
  cases hn : isnan b with
  | false => rw [cn_of_not hn]
  | true =>
    rw [cn_of_nan hn, cn_of_nan (by rw [isnan_xor63]; exact hn), cn_of_nan (by rw [isnan_xor63]; exact isnan_qn)]
theorem isnan_mod63 (b : Nat) : isnan (b % 9223372036854775808) = isnan b := by simp only [isnan, Nat.mod_mod]
theorem FB.abs {x b : Nat} (h : FB x b) : FB (fabs x) (b % 9223372036854775808) := by
  obtain ⟨rfl, hb⟩ := h
  refine ⟨?_, by omega⟩
  unfold fabs
  cases hn : isnan b with
  | false => rw [cn_of_not hn]
  | true =>
    rw [cn_of_nan hn, cn_of_nan (by rw [isnan_mod63]; exact hn), cn_of_nan (by rw [isnan_mod63]; exact isnan_qn)]
theorem FB.eq_of_not {x b : Nat} (h : FB x b) (hn : isnan x = false) : b = x := by
  obtain ⟨rfl, _⟩ := h
  rw [isnan_cn] at hn
  exact (cn_of_not hn).symm
theorem bitsV_xor63 {b : Nat} (hb : b < 18446744073709551616) : bitsV .xor .u64 b signBit = ((b ^^^ 9223372036854775808 : Nat) : Int) := by
  have h2 : b ^^^ 9223372036854775808 < 18446744073709551616 := Nat.xor_lt_two_pow (n := 64) (by simpa using hb) (by decide)
  have e1 : BitVec.ofInt 64 (b : Int) = BitVec.ofNat 64 b := by simp
  have e2 : BitVec.ofInt 64 signBit = BitVec.ofNat 64 9223372036854775808 := by decide
  show IntKind.u64.wrap ((BitVec.ofInt 64 (b : Int) ^^^ BitVec.ofInt 64 signBit).toNat : Int) = _
  rw [e1, e2, BitVec.toNat_xor, BitVec.toNat_ofNat, BitVec.toNat_ofNat, Nat.mod_eq_of_lt (by simpa using hb), Nat.mod_eq_of_lt (by decide), IntKind.wrap_u64]
  omega
theorem bitsV_andNot63 {b : Nat} (hb : b < 18446744073709551616) : bitsV .andNot .u64 b signBit = ((b % 9223372036854775808 : Nat) : Int) := by
  have e1 : BitVec.ofInt 64 (b : Int) = BitVec.ofNat 64 b := by simp
  have e2 : ~~~ BitVec.ofInt 64 signBit = BitVec.ofNat 64 (2 ^ 63 - 1) := by decide
  show IntKind.u64.wrap ((BitVec.ofInt 64 (b : Int) &&& ~~~ BitVec.ofInt 64 signBit).toNat : Int) = _
  rw [e1, e2, BitVec.toNat_and, BitVec.toNat_ofNat, BitVec.toNat_ofNat, Nat.mod_eq_of_lt (by simpa using hb), Nat.mod_eq_of_lt (by decide), IntKind.wrap_u64, Nat.and_two_pow_sub_one_eq_mod]
  omega
end Go.Sx
