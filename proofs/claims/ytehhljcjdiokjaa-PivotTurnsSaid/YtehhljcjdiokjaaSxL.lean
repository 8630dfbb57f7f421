/- THE ENGINE IS SOUND, ninth part: an operator whole; conversions; lengths, slices, indexes, fields; the built-in functions. -/
import Derived.Test.YtehhljcjdiokjaaSxK
set_option linter.unusedSimpArgs false
set_option linter.unusedVariables false
noncomputable section
namespace Go.Sx
open M

theorem eqGuard_ok {P : Program} {op : BinOp} {t : TypeId} {ox oy : Operand} {a b : Value} (h1 : a ≠ .nilIface) (h2 : ∀ xs, a ≠ .agg xs) (w : World) : (eqGuard op t ox oy a b).run P w = .ok () w := by
  unfold eqGuard
  cases op <;> first | rfl | skip
  all_goals cases a <;> first | exact absurd rfl h1 | exact absurd rfl (h2 _) | skip
  all_goals rfl
/-- what an operator gives, its guard ahead -/
def OpIs (P : Program) (op : BinOp) (t : TypeId) (ox oy : Operand) (cx cy : Value) (N : Nat) (μ : MM) (w : World) (v : AV) : Prop :=
  ∃ c n, ((do eqGuard op t ox oy cx cy; binOp op t cx cy) : Sem Value).run P w = .ok c { w with drawn := n } ∧ Rep N μ v c
theorem OpIs.of {P : Program} {op : BinOp} {t : TypeId} {ox oy : Operand} {cx cy : Value} {N : Nat} {μ : MM} {w : World} {v : AV} (h1 : cx ≠ .nilIface) (h2 : ∀ xs, cx ≠ .agg xs)
    (h : ∃ c n, (binOp op t cx cy).run P w = .ok c { w with drawn := n } ∧ Rep N μ v c) : OpIs P op t ox oy cx cy N μ w v := by
  obtain ⟨c, n, hr, hv⟩ := h
  exact ⟨c, n, by simp only [Sem.run_bind, eqGuard_ok h1 h2 w, Result.andThen_ok, hr], hv⟩
theorem OpIs.of0 {P : Program} {op : BinOp} {t : TypeId} {ox oy : Operand} {cx cy : Value} {N : Nat} {μ : MM} {w : World} {v : AV} (h1 : cx ≠ .nilIface) (h2 : ∀ xs, cx ≠ .agg xs)
    (h : ∃ c, (binOp op t cx cy).run P w = .ok c w ∧ Rep N μ v c) : OpIs P op t ox oy cx cy N μ w v :=
  let ⟨c, hr, hv⟩ := h
  .of h1 h2 ⟨c, w.drawn, hr, hv⟩
theorem bitsBin_sound {P : Program} {s : Bool} {op : BinOp} {x : Nat} {m : Int} {g g' : G} {v : AV} {t : TypeId} (h : bitsBin s op x m g = .done v g') :
    ∃ p, Keep g g' p ∧ (p → ∀ N μ (w : World) (b : Nat), FB x b → ∃ c, (binOp op t (.int .u64 b) (.int .u64 m)).run P w = .ok c w ∧ Rep N μ v c) := by
  have plain : ∀ {op : BinOp} {g' : G} {v : AV}, ((ck s (isnan x = false)).andThen fun _ => intBin s .u64 op x m) g = .done v g' →
      ∃ p, Keep g g' p ∧ (p → ∀ N μ (w : World) (b : Nat), FB x b → ∃ c, (binOp op t (.int .u64 b) (.int .u64 m)).run P w = .ok c w ∧ Rep N μ v c) := by
    intro op g' v h
    obtain ⟨_, g1, a1, h1⟩ := done_of h
    obtain ⟨p, k, h2⟩ := intBin_sound (P := P) (t := t) h1
    exact ⟨_, (ck_done a1).trans k, fun hp N μ w b hb => by rw [hb.eq_of_not hp.1]; exact h2 hp.2 N μ w⟩
  unfold bitsBin at h
  cases op <;> simp only at h <;> first | exact plain h | skip
  · by_cases hm : m = signBit
    · simp only [hm, decide_true, cond_true] at h
      obtain ⟨rfl, rfl⟩ := ret_done h
      refine ⟨_, Keep.refl _, fun _ N μ w b hb => ⟨.int .u64 (bitsV .xor .u64 b signBit), ?_, ?_⟩⟩
      · rw [hm]; simp only [binOp, ne_eq, not_true_eq_false, if_false]; rfl
      · simp only [Rep]; exact ⟨_, by rw [bitsV_xor63 hb.2], hb.neg⟩
    · simp only [hm, decide_false, cond_false] at h; exact plain h
  · by_cases hm : m = signBit
    · simp only [hm, decide_true, cond_true] at h
      obtain ⟨rfl, rfl⟩ := ret_done h
      refine ⟨_, Keep.refl _, fun _ N μ w b hb => ⟨.int .u64 (bitsV .andNot .u64 b signBit), ?_, ?_⟩⟩
      · rw [hm]; simp only [binOp, ne_eq, not_true_eq_false, if_false]; rfl
      · simp only [Rep]; exact ⟨_, by rw [bitsV_andNot63 hb.2], hb.abs⟩
    · simp only [hm, decide_false, cond_false] at h; exact plain h
theorem run_eq_ptr_l {P : Program} {t e : TypeId} (he : P.underlying t = some (.pointer e)) (d : Nat) (b : Option Addr) (w : World) : (Op.equalIn (d + 1) t (.pointer none) (.pointer b)).run P w = .ok b.isNone w := by
  simp [Op.equalIn, run_underlying he]
theorem run_eq_ptr_r {P : Program} {t e : TypeId} (he : P.underlying t = some (.pointer e)) (d : Nat) (a : Addr) (w : World) : (Op.equalIn (d + 1) t (.pointer (some a)) (.pointer none)).run P w = .ok false w := by
  simp [Op.equalIn, run_underlying he]
theorem run_eq_fn_nn {P : Program} {t : TypeId} {x y z} (he : P.underlying t = some (.func x y z)) (d : Nat) (w : World) : (Op.equalIn (d + 1) t .nilFunc .nilFunc).run P w = .ok true w := by
  simp [Op.equalIn, run_underlying he]
theorem run_eq_fn_r {P : Program} {t : TypeId} {x y z} (he : P.underlying t = some (.func x y z)) (d : Nat) (f : Fn) (l c : Array Value) (w : World) : (Op.equalIn (d + 1) t (.func f l c) .nilFunc).run P w = .ok false w := by
  simp [Op.equalIn, run_underlying he]
theorem run_eq_fn_l {P : Program} {t : TypeId} {x y z} (he : P.underlying t = some (.func x y z)) (d : Nat) (f : Fn) (l c : Array Value) (w : World) : (Op.equalIn (d + 1) t .nilFunc (.func f l c)).run P w = .ok false w := by
  simp [Op.equalIn, run_underlying he]
theorem run_eq_slc_l {P : Program} {t e : TypeId} (he : P.underlying t = some (.slice e)) (d : Nat) (b : Option Addr) (n m : Nat) (w : World) : (Op.equalIn (d + 1) t (.slice none 0 0) (.slice b n m)).run P w = .ok b.isNone w := by
  simp [Op.equalIn, run_underlying he]
theorem run_eq_slc_r {P : Program} {t e : TypeId} (he : P.underlying t = some (.slice e)) (d : Nat) (a : Addr) (n m : Nat) (w : World) : (Op.equalIn (d + 1) t (.slice (some a) n m) (.slice none 0 0)).run P w = .ok false w := by
  simp [Op.equalIn, run_underlying he]
theorem ck'_done {s : Bool} {p : Prop} {u : Unit} {g g' : G} (h : ck' s p g = .done u g') : Keep g g' (s = true → p) := by
  unfold ck' at h
  cases s with
  | true => exact (req_done h).mono fun h _ => h
  | false => obtain ⟨_, rfl⟩ := ret_done h; exact (Keep.refl _).mono fun _ h => by cases h
theorem slc_some {N : Nat} {μ : MM} {s own : Bool} {a : AA} {len : Nat} {c : Value} (h : Rep N μ (.slc s own a len) c) (hs : s = true → 0 < len) : ∃ A C, c = .slice (some A) len C := by
  simp only [Rep] at h
  obtain ⟨_, A, C, rfl, _, hA, hnn, _⟩ := h
  cases s with
  | true => rw [hA (hs rfl)]; exact ⟨_, _, rfl⟩
  | false =>
    cases A with
    | none => exact absurd (hnn rfl) (by simp)
    | some A => exact ⟨_, _, rfl⟩
theorem binA_sound {P : Program} {op : BinOp} {t : TypeId} {x y v : AV} {g g' : G} (h : binA P op t x y g = .done v g') :
    ∃ p, Keep g g' p ∧ (p → ∀ N μ (w : World) ox oy cx cy, Rep N μ x cx → Rep N μ y cy → OpIs P op t ox oy cx cy N μ w v) := by
  rw [binA_eq] at h
  unfold binA0 at h
  split at h
  · -- integers
    rename_i s k a s' k' b
    cases hs : isShift op with
    | true =>
      rw [hs, cond_true] at h
      obtain ⟨p, k1, h1⟩ := shiftA_sound (P := P) (k' := k') (t := t) h
      refine ⟨p, k1, fun hp N μ w ox oy cx cy hx hy => ?_⟩
      simp only [Rep] at hx hy; subst hx hy
      exact .of0 (by simp) (by simp) (h1 hp N μ w)
    | false =>
      rw [hs, cond_false] at h
      by_cases hk : k = k'
      · subst hk
        simp only [decide_true, cond_true] at h
        obtain ⟨p, k1, h1⟩ := intBin_sound (P := P) (t := t) h
        refine ⟨p, k1, fun hp N μ w ox oy cx cy hx hy => ?_⟩
        simp only [Rep] at hx hy; subst hx hy
        exact .of0 (by simp) (by simp) (h1 hp N μ w)
      · simp only [hk, decide_false, cond_false] at h; cases h
  · obtain ⟨rfl, h1⟩ := fltBin_sound (P := P) (t := t) h
    refine ⟨_, Keep.refl _, fun _ N μ w ox oy cx cy hx hy => ?_⟩
    simp only [Rep] at hx hy
    obtain ⟨a', rfl, ha⟩ := hx
    obtain ⟨b', rfl, hb⟩ := hy
    exact .of (by simp) (by simp) (h1 N μ w a' b' ha hb)
  · obtain ⟨rfl, h1⟩ := cpxBin_sound (P := P) (t := t) h
    refine ⟨_, Keep.refl _, fun _ N μ w ox oy cx cy hx hy => ?_⟩
    simp only [Rep] at hx hy
    obtain ⟨a', b', rfl, ha, hb⟩ := hx
    obtain ⟨c', d', rfl, hc, hd⟩ := hy
    exact .of (by simp) (by simp) (h1 N μ w a' b' c' d' ha hb hc hd)
  · obtain ⟨p, k1, h1⟩ := strBin_sound (P := P) (t := t) h
    refine ⟨p, k1, fun hp N μ w ox oy cx cy hx hy => ?_⟩
    simp only [Rep] at hx hy; subst hx hy
    exact .of0 (by simp) (by simp) (h1 hp N μ w)
  · -- bits
    rename_i s a m
    cases hs : isShift op with
    | true =>
      rw [hs, cond_true] at h
      obtain ⟨_, g1, a1, h0⟩ := done_of h
      obtain ⟨p, k1, h1⟩ := shiftA_sound (P := P) (k' := .u64) (t := t) h0
      refine ⟨_, (ck_done a1).trans k1, fun hp N μ w ox oy cx cy hx hy => ?_⟩
      simp only [Rep] at hx hy
      obtain ⟨b, rfl, hb⟩ := hx
      subst hy
      rw [hb.eq_of_not hp.1]
      exact .of0 (by simp) (by simp) (h1 hp.2 N μ w)
    | false =>
      rw [hs, cond_false] at h
      obtain ⟨p, k1, h1⟩ := bitsBin_sound (P := P) (t := t) h
      refine ⟨p, k1, fun hp N μ w ox oy cx cy hx hy => ?_⟩
      simp only [Rep] at hx hy
      obtain ⟨b, rfl, hb⟩ := hx
      subst hy
      exact .of0 (by simp) (by simp) (h1 hp N μ w b hb)
  · rename_i s a m
    cases hs : isShift op with
    | true =>
      rw [hs, cond_true] at h
      obtain ⟨_, g1, a1, h0⟩ := done_of h
      obtain ⟨p, k1, h1⟩ := shiftA_sound (P := P) (k' := .i64) (t := t) h0
      refine ⟨_, (ck_done a1).trans k1, fun hp N μ w ox oy cx cy hx hy => ?_⟩
      simp only [Rep] at hx hy
      obtain ⟨b, rfl, hb⟩ := hx
      subst hy
      rw [hb.eq_of_not hp.1]
      exact .of0 (by simp) (by simp) (h1 hp.2 N μ w)
    | false => rw [hs, cond_false] at h; cases h
  · cases hs : isShift op with
    | true => rw [hs, cond_true] at h; exact (no_done h).elim
    | false =>
      rw [hs, cond_false] at h
      obtain ⟨_, g1, a1, h0⟩ := done_of h
      obtain ⟨p, k1, h1⟩ := intBin_sound (P := P) (t := t) h0
      refine ⟨_, (ck_done a1).trans k1, fun hp N μ w ox oy cx cy hx hy => ?_⟩
      simp only [Rep] at hx hy
      obtain ⟨b, rfl, hb⟩ := hx
      subst hy
      rw [hb.eq_of_not hp.1]
      exact .of0 (by simp) (by simp) (h1 hp.2 N μ w)
  · cases hs : isShift op with
    | true => rw [hs, cond_true] at h; exact (no_done h).elim
    | false =>
      rw [hs, cond_false] at h
      obtain ⟨_, g1, a1, h0⟩ := done_of h
      obtain ⟨p, k1, h1⟩ := intBin_sound (P := P) (t := t) h0
      refine ⟨_, (ck_done a1).trans k1, fun hp N μ w ox oy cx cy hx hy => ?_⟩
      simp only [Rep] at hx hy
      obtain ⟨b, rfl, hb⟩ := hy
      subst hx
      rw [hb.eq_of_not hp.1]
      exact .of0 (by simp) (by simp) (h1 hp.2 N μ w)
  · cases hs : isShift op with
    | true => rw [hs, cond_true] at h; exact (no_done h).elim
    | false =>
      rw [hs, cond_false] at h
      obtain ⟨_, g1, a1, h0⟩ := done_of h
      obtain ⟨_, g2, a2, h2⟩ := done_of h0
      obtain ⟨p, k1, h1⟩ := intBin_sound (P := P) (t := t) h2
      refine ⟨_, ((ck_done a1).trans (ck_done a2)).trans k1, fun hp N μ w ox oy cx cy hx hy => ?_⟩
      simp only [Rep] at hx hy
      obtain ⟨b, rfl, hb⟩ := hx
      obtain ⟨b', rfl, hb'⟩ := hy
      rw [hb.eq_of_not hp.1.1, hb'.eq_of_not hp.1.2]
      exact .of0 (by simp) (by simp) (h1 hp.2 N μ w)
  · obtain ⟨_, g1, a1, h0⟩ := done_of h
    obtain ⟨ht, rfl⟩ := okIf_done a1
    obtain ⟨rfl, h1⟩ := boolEq_sound (isBoolD_some ht) h0
    refine ⟨_, Keep.refl _, fun _ N μ w ox oy cx cy hx hy => ?_⟩
    simp only [Rep] at hx hy; subst hx hy
    exact .of0 (by simp) (by simp) (h1 N μ w)
  · obtain ⟨_, g1, a1, h0⟩ := done_of h
    obtain ⟨ht, rfl⟩ := okIf_done a1
    obtain ⟨rfl, h1⟩ := boolEq_sound (isBoolD_some ht) h0
    refine ⟨_, Keep.refl _, fun _ N μ w ox oy cx cy hx hy => ?_⟩
    simp only [Rep] at hx hy; subst hx hy
    exact .of0 (by simp) (by simp) (h1 N μ w)
  · obtain ⟨_, g1, a1, h0⟩ := done_of h
    obtain ⟨ht, rfl⟩ := okIf_done a1
    obtain ⟨rfl, h1⟩ := boolEq_sound (isBoolD_some ht) h0
    refine ⟨_, Keep.refl _, fun _ N μ w ox oy cx cy hx hy => ?_⟩
    simp only [Rep] at hx hy; subst hx hy
    exact .of0 (by simp) (by simp) (h1 N μ w)
  · obtain ⟨_, g1, a1, h0⟩ := done_of h
    obtain ⟨ht, rfl⟩ := okIf_done a1
    obtain ⟨rfl, h1⟩ := boolEq_sound (isBoolD_some ht) h0
    refine ⟨_, Keep.refl _, fun _ N μ w ox oy cx cy hx hy => ?_⟩
    simp only [Rep] at hx hy; subst hx hy
    exact .of0 (by simp) (by simp) (h1 N μ w)
  · obtain ⟨_, g1, a1, h0⟩ := done_of h
    obtain ⟨ht, rfl⟩ := okIf_done a1
    obtain ⟨e, he⟩ := Option.isSome_iff_exists.1 ht
    have he := sliceE_some he
    have := (nilEq_sound (P := P) (t := t) (x := .slice none 0 0) (y := .slice none 0 0) (fun w => run_eq_slc_l he 9999 none 0 0 w) ⟨rfl, rfl⟩ h0)
    obtain ⟨rfl, h1⟩ := this
    refine ⟨_, Keep.refl _, fun _ N μ w ox oy cx cy hx hy => ?_⟩
    simp only [Rep] at hx hy; subst hx hy
    exact .of0 (by simp) (by simp) (h1 N μ w)
  · rename_i s own a len
    obtain ⟨_, g1, a1, h0⟩ := done_of h
    obtain ⟨ht, rfl⟩ := okIf_done a1
    obtain ⟨_, g2, a2, h0⟩ := done_of h0
    have k := ck'_done a2
    obtain ⟨e, he⟩ := Option.isSome_iff_exists.1 ht
    have he := sliceE_some he
    have := fun A C => (nilEq_sound (P := P) (t := t) (x := .slice (some A) len C) (y := .slice none 0 0) (fun w => run_eq_slc_r he 9999 A len C w) ⟨rfl, rfl⟩ h0)
    obtain ⟨rfl, _⟩ := this ⟨0, 0, none⟩ 0
    refine ⟨_, k, fun hp N μ w ox oy cx cy hx hy => ?_⟩
    obtain ⟨A, C, rfl⟩ := slc_some hx hp
    simp only [Rep] at hy
    subst hy
    exact .of0 (by simp) (by simp) ((this _ _).2 N μ w)
  · rename_i s own a len
    obtain ⟨_, g1, a1, h0⟩ := done_of h
    obtain ⟨ht, rfl⟩ := okIf_done a1
    obtain ⟨_, g2, a2, h0⟩ := done_of h0
    have k := ck'_done a2
    obtain ⟨e, he⟩ := Option.isSome_iff_exists.1 ht
    have he := sliceE_some he
    have := fun A C => (nilEq_sound (P := P) (t := t) (x := .slice none 0 0) (y := .slice (some A) len C) (fun w => run_eq_slc_l he 9999 (some A) len C w) ⟨rfl, rfl⟩ h0)
    obtain ⟨rfl, _⟩ := this ⟨0, 0, none⟩ 0
    refine ⟨_, k, fun hp N μ w ox oy cx cy hx hy => ?_⟩
    obtain ⟨A, C, rfl⟩ := slc_some hy hp
    simp only [Rep] at hx
    subst hx
    exact .of0 (by simp) (by simp) ((this _ _).2 N μ w)
  · obtain ⟨_, g1, a1, h0⟩ := done_of h
    obtain ⟨ht, rfl⟩ := okIf_done a1
    obtain ⟨e, he⟩ := isPtrD_some ht
    have := (nilEq_sound (P := P) (t := t) (x := .pointer none) (y := .pointer none) (fun w => run_eq_ptr_l he 9999 none w) ⟨rfl, rfl⟩ h0)
    obtain ⟨rfl, h1⟩ := this
    refine ⟨_, Keep.refl _, fun _ N μ w ox oy cx cy hx hy => ?_⟩
    simp only [Rep] at hx hy; subst hx hy
    exact .of0 (by simp) (by simp) (h1 N μ w)
  · obtain ⟨_, g1, a1, h0⟩ := done_of h
    obtain ⟨ht, rfl⟩ := okIf_done a1
    obtain ⟨e, he⟩ := isPtrD_some ht
    have := fun a => (nilEq_sound (P := P) (t := t) (x := .pointer (some a)) (y := .pointer none) (fun w => run_eq_ptr_r he 9999 a w) ⟨rfl, rfl⟩ h0)
    obtain ⟨rfl, _⟩ := this ⟨0, 0, none⟩
    refine ⟨_, Keep.refl _, fun _ N μ w ox oy cx cy hx hy => ?_⟩
    simp only [Rep] at hx hy
    obtain ⟨_, rfl⟩ := hx; subst hy
    exact .of0 (by simp) (by simp) ((this _).2 N μ w)
  · obtain ⟨_, g1, a1, h0⟩ := done_of h
    obtain ⟨ht, rfl⟩ := okIf_done a1
    obtain ⟨e, he⟩ := isPtrD_some ht
    have := fun a => (nilEq_sound (P := P) (t := t) (x := .pointer none) (y := .pointer (some a)) (fun w => run_eq_ptr_l he 9999 (some a) w) ⟨rfl, rfl⟩ h0)
    obtain ⟨rfl, _⟩ := this ⟨0, 0, none⟩
    refine ⟨_, Keep.refl _, fun _ N μ w ox oy cx cy hx hy => ?_⟩
    simp only [Rep] at hx hy
    obtain ⟨_, rfl⟩ := hy; subst hx
    exact .of0 (by simp) (by simp) ((this _).2 N μ w)
  · obtain ⟨_, g1, a1, h0⟩ := done_of h
    obtain ⟨ht, rfl⟩ := okIf_done a1
    obtain ⟨e1, e2, e3, he⟩ := isFuncD_some ht
    have := (nilEq_sound (P := P) (t := t) (x := .nilFunc) (y := .nilFunc) (fun w => run_eq_fn_nn he 9999 w) ⟨rfl, rfl⟩ h0)
    obtain ⟨rfl, h1⟩ := this
    refine ⟨_, Keep.refl _, fun _ N μ w ox oy cx cy hx hy => ?_⟩
    simp only [Rep] at hx hy; subst hx hy
    exact .of0 (by simp) (by simp) (h1 N μ w)
  · obtain ⟨_, g1, a1, h0⟩ := done_of h
    obtain ⟨ht, rfl⟩ := okIf_done a1
    obtain ⟨e1, e2, e3, he⟩ := isFuncD_some ht
    have := fun f fs cs => (nilEq_sound (P := P) (t := t) (x := .func f fs cs) (y := .nilFunc) (fun w => run_eq_fn_r he 9999 f fs cs w) ⟨rfl, rfl⟩ h0)
    obtain ⟨rfl, _⟩ := this (.func 0) #[] #[]
    refine ⟨_, Keep.refl _, fun _ N μ w ox oy cx cy hx hy => ?_⟩
    simp only [Rep] at hx hy
    obtain ⟨_, _, rfl, _⟩ := hx; subst hy
    exact .of0 (by simp) (by simp) ((this _ _ _).2 N μ w)
  · obtain ⟨_, g1, a1, h0⟩ := done_of h
    obtain ⟨ht, rfl⟩ := okIf_done a1
    obtain ⟨e1, e2, e3, he⟩ := isFuncD_some ht
    have := fun f fs cs => (nilEq_sound (P := P) (t := t) (x := .nilFunc) (y := .func f fs cs) (fun w => run_eq_fn_l he 9999 f fs cs w) ⟨rfl, rfl⟩ h0)
    obtain ⟨rfl, _⟩ := this (.func 0) #[] #[]
    refine ⟨_, Keep.refl _, fun _ N μ w ox oy cx cy hx hy => ?_⟩
    simp only [Rep] at hx hy
    obtain ⟨_, _, rfl, _⟩ := hy; subst hx
    exact .of0 (by simp) (by simp) ((this _ _ _).2 N μ w)
  · -- structs
    rename_i l l'
    obtain ⟨x, g1, a1, h0⟩ := done_of h
    obtain ⟨hx, rfl⟩ := ofOpt_done a1
    have fin : ∀ {op : BinOp} {b : Bool}, (∀ w xs ys, (Op.equalIn 10000 t (.agg xs) (.agg ys)).run P w = .ok x.2 w → (binOp op t (.agg xs) (.agg ys)).run P w = .ok (.bool b) w) →
        ∀ N μ (w : World) ox oy cx cy, Rep N μ (.agg l) cx → Rep N μ (.agg l') cy → OpIs P op t ox oy cx cy N μ w (cmpB x.1 b) := by
      intro op b hb N μ w ox oy cx cy h1 h2
      simp only [Rep] at h1 h2
      obtain ⟨xs, rfl, hr1⟩ := h1
      obtain ⟨ys, rfl, hr2⟩ := h2
      obtain ⟨he, hgd⟩ := structEq_sound hx hr1 hr2 w
      exact ⟨.bool b, w.drawn, by simp only [Sem.run_bind, run_eqGuard_agg w op t ox oy xs ys hgd, Result.andThen_ok, hb w xs ys he], .cmpB ..⟩
    cases op <;> simp only at h0 <;> first | exact (no_done h0).elim | skip
    all_goals obtain ⟨rfl, rfl⟩ := ret_done h0
    all_goals refine ⟨_, Keep.refl _, fun _ => fin fun w xs ys he => ?_⟩
    · rw [run_eql_struct, he]; rfl
    · rw [run_neq_struct, he]; rfl
  · cases h
end Go.Sx
