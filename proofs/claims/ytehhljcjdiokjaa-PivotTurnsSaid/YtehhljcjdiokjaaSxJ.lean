/- THE ENGINE IS SOUND, seventh part: operators, conversions. -/
import Derived.Test.YtehhljcjdiokjaaSxI
import Derived.Laws.StructEq
import Derived.Laws.Cover1
set_option linter.unusedSimpArgs false
set_option linter.unusedVariables false
noncomputable section
namespace Go.Sx
open M

theorem FB.of_lt {x b : Nat} (h : cn b = x) (hb : b < 18446744073709551616) : FB x b := ⟨h, hb⟩
/-! ### floats -/
theorem run_farith_lt {P : Program} {op : BinOp} (hop : isArith op = true) (w : World) {x y a b : Nat} (ha : FB x a) (hb : FB y b) : ∃ r n, (Op.floatArith op .f64 a b).run P w = .ok (.float .f64 r) { w with drawn := n } ∧ FB (fop op x y) r := by
  obtain ⟨r, n, h1, h2⟩ := run_farith (P := P) w hop a b
  refine ⟨r, n, h1, by rw [h2, ha.1, hb.1], ?_⟩
  -- the bits fit: a valid result by the kit's law, a NaN by its making
  cases hf : floatBits op .f64 a b with
  | some r' =>
    have := run_floatArith (P := P) w hf
    rw [this] at h1
    simp only [Result.ok.injEq, Value.float.injEq, true_and] at h1
    obtain ⟨rfl, _⟩ := h1
    have hw := floatBits_wf hf
    simpa [Lit.wf] using hw
  | none =>
    have : ∃ n', (Op.floatArith op .f64 a b).run P w = .ok (.float .f64 (Question.cut (.nanBits .f64 a b) (w.tape w.drawn (.nanBits .f64 a b)))) { w with drawn := n' } := by
      refine ⟨w.drawn + 1, ?_⟩
      unfold floatBits at hf
      cases op <;> simp only [isArith, Bool.false_eq_true] at hop <;> simp only at hf <;> simp [Op.floatArith, hf, Question.forced, choose, Sem.run]
    obtain ⟨n', h3⟩ := this
    rw [h3] at h1
    simp only [Result.ok.injEq, Value.float.injEq, true_and] at h1
    obtain ⟨rfl, _⟩ := h1
    simp only [Question.cut]
    omega
theorem forder_of {x y a b : Nat} (ha : FB x a) (hb : FB y b) : FloatKind.f64.format.order a b = forder x y := by
  rw [← ha.1, ← hb.1]; exact (order_cn a b).symm
theorem fltBin_sound {P : Program} {s : Bool} {op : BinOp} {x y : Nat} {g g' : G} {v : AV} {t : TypeId} (h : fltBin s op x y g = .done v g') :
    g = g' ∧ ∀ N μ (w : World) a b, FB x a → FB y b → ∃ c n, (binOp op t (.float .f64 a) (.float .f64 b)).run P w = .ok c { w with drawn := n } ∧ Rep N μ v c := by
  have arith : ∀ {op : BinOp}, isArith op = true → ∀ N μ (w : World) a b, FB x a → FB y b → ∃ c n, (Op.floatArith op .f64 a b).run P w = .ok c { w with drawn := n } ∧ Rep N μ (.flt s (fop op x y)) c := by
    intro op hop N μ w a b ha hb
    obtain ⟨r, n, h1, h2⟩ := run_farith_lt (P := P) hop w ha hb
    exact ⟨_, n, h1, by simp only [Rep]; exact ⟨r, rfl, h2⟩⟩
  have cmp : ∀ {op : BinOp} {q : Nat → Nat → Bool}, (∀ a b, FB x a → FB y b → (binOp op t (.float .f64 a) (.float .f64 b)) = pure (.bool (q x y))) → ∀ N μ (w : World) a b, FB x a → FB y b →
      ∃ c n, (binOp op t (.float .f64 a) (.float .f64 b)).run P w = .ok c { w with drawn := n } ∧ Rep N μ (cmpB s (q x y)) c := by
    intro op q hq N μ w a b ha hb
    refine ⟨_, w.drawn, by rw [hq a b ha hb]; rfl, ?_⟩
    cases s <;> simp [cmpB, Rep]
  unfold fltBin at h
  cases op <;> first | exact (no_done h).elim | skip
  all_goals obtain ⟨rfl, rfl⟩ := ret_done h
  all_goals refine ⟨rfl, ?_⟩
  · intro N μ w a b ha hb; simpa [binOp, fop] using arith (op := .add) rfl N μ w a b ha hb
  · intro N μ w a b ha hb; simpa [binOp, fop] using arith (op := .sub) rfl N μ w a b ha hb
  · intro N μ w a b ha hb; simpa [binOp, fop] using arith (op := .mul) rfl N μ w a b ha hb
  · intro N μ w a b ha hb; simpa [binOp, fop] using arith (op := .quo) rfl N μ w a b ha hb
  · exact cmp (q := feq) fun a b ha hb => by rw [binOp_float_cmp_eql, forder_of ha hb]; rfl
  · exact cmp (q := fun x y => !feq x y) fun a b ha hb => by rw [binOp_float_cmp_neq, forder_of ha hb]; rfl
  · exact cmp (q := Sx.flt) fun a b ha hb => by rw [binOp_float_cmp_lss, forder_of ha hb]; rfl
  · exact cmp (q := fle) fun a b ha hb => by rw [binOp_float_cmp_leq, forder_of ha hb]; rfl
  · exact cmp (q := fgt) fun a b ha hb => by rw [binOp_float_cmp_gtr, forder_of ha hb]; rfl
  · exact cmp (q := fge) fun a b ha hb => by rw [binOp_float_cmp_geq, forder_of ha hb]; rfl
theorem run_carith_lt {P : Program} {op : BinOp} (hop : isArith op = true) (w : World) {x y a b : Nat} (ha : FB x a) (hb : FB y b) : ∃ r n, (Op.Complex.arith op .f64 a b).run P w = .ok r { w with drawn := n } ∧ FB (fop op x y) r := by
  obtain ⟨r, n, h1, h2⟩ := run_farith_lt (P := P) hop w ha hb
  exact ⟨r, n, by simp [Op.Complex.arith, h1], h2⟩
theorem run_ccmp {P : Program} (w : World) {x y a b : Nat} (ha : FB x a) (hb : FB y b) : (Op.Complex.cmp .eql .f64 a b).run P w = .ok (feq x y) w := by
  simp [Op.Complex.cmp, Op.floatCmp, asBool, forder_of ha hb, feq]
theorem cpxBin_sound {P : Program} {s : Bool} {op : BinOp} {x y z u : Nat} {g g' : G} {v : AV} {t : TypeId} (h : cpxBin s op x y z u g = .done v g') :
    g = g' ∧ ∀ N μ (w : World) a b c d, FB x a → FB y b → FB z c → FB u d → ∃ r n, (binOp op t (.complex .f64 a b) (.complex .f64 c d)).run P w = .ok r { w with drawn := n } ∧ Rep N μ v r := by
  unfold cpxBin at h
  cases op <;> first | exact (no_done h).elim | skip
  all_goals obtain ⟨rfl, rfl⟩ := ret_done h
  all_goals refine ⟨rfl, fun N μ w a b c d ha hb hc hd => ?_⟩
  · obtain ⟨r1, n1, h1, f1⟩ := run_carith_lt (P := P) (op := .add) rfl w ha hc
    obtain ⟨r2, n2, h2, f2⟩ := run_carith_lt (P := P) (op := .add) rfl { w with drawn := n1 } hb hd
    exact ⟨.complex .f64 r1 r2, n2, by simp [binOp, Op.complexOp, h1, h2], by simp only [Rep]; exact ⟨r1, r2, rfl, f1, f2⟩⟩
  · obtain ⟨r1, n1, h1, f1⟩ := run_carith_lt (P := P) (op := .sub) rfl w ha hc
    obtain ⟨r2, n2, h2, f2⟩ := run_carith_lt (P := P) (op := .sub) rfl { w with drawn := n1 } hb hd
    exact ⟨.complex .f64 r1 r2, n2, by simp [binOp, Op.complexOp, h1, h2], by simp only [Rep]; exact ⟨r1, r2, rfl, f1, f2⟩⟩
  · refine ⟨.bool (feq x z && feq y u), w.drawn, ?_, by cases s <;> simp [cmpB, Rep]⟩
    cases h1 : feq x z <;> simp [binOp, Op.complexOp, run_ccmp w ha hc, run_ccmp w hb hd, h1]
  · refine ⟨.bool (!(feq x z && feq y u)), w.drawn, ?_, by cases s <;> simp [cmpB, Rep]⟩
    cases h1 : feq x z <;> simp [binOp, Op.complexOp, run_ccmp w ha hc, run_ccmp w hb hd, h1]

/-! ### integers -/
theorem arithR_sound {s : Bool} {k : IntKind} {r : Int} {g g' : G} {v : AV} (h : arithR s k r g = .done v g') : ∃ p, Keep g g' p ∧ (p → ∀ N μ, Rep N μ v (.int k (k.wrap r))) := by
  unfold arithR at h
  cases hq : (s && isI64 k) with
  | true =>
    rw [hq, cond_true] at h
    obtain ⟨_, g1, a1, h1⟩ := done_of h
    obtain ⟨rfl, rfl⟩ := ret_done h1
    refine ⟨_, req_done a1, fun hp N μ => ?_⟩
    rw [Bool.and_eq_true] at hq
    have hk : k = .i64 := by cases k <;> simp [isI64] at hq; rfl
    subst hk
    have e : IntKind.i64.wrap r = r := by rw [IntKind.wrap_i64]; omega
    simp only [Rep, e]
  | false =>
    rw [hq, cond_false] at h
    obtain ⟨rfl, rfl⟩ := ret_done h
    exact ⟨_, Keep.refl _, fun _ N μ => by simp only [Rep]⟩
theorem Rep.cmpB (N : Nat) (μ : MM) (s b : Bool) : Rep N μ (cmpB s b) (.bool b) := by cases s <;> simp [Sx.cmpB, Rep]
theorem intBin_sound {P : Program} {s : Bool} {k : IntKind} {op : BinOp} {a b : Int} {g g' : G} {v : AV} {t : TypeId} (h : intBin s k op a b g = .done v g') :
    ∃ p, Keep g g' p ∧ (p → ∀ N μ (w : World), ∃ c, (binOp op t (.int k a) (.int k b)).run P w = .ok c w ∧ Rep N μ v c) := by
  unfold intBin at h
  cases op <;> simp only at h <;> first | exact (no_done h).elim | skip
  · obtain ⟨p, k1, h1⟩ := arithR_sound h
    exact ⟨p, k1, fun hp N μ w => ⟨_, by simp [binOp, Op.intArith], h1 hp N μ⟩⟩
  · obtain ⟨p, k1, h1⟩ := arithR_sound h
    exact ⟨p, k1, fun hp N μ w => ⟨_, by simp [binOp, Op.intArith], h1 hp N μ⟩⟩
  · obtain ⟨p, k1, h1⟩ := arithR_sound h
    exact ⟨p, k1, fun hp N μ w => ⟨_, by simp [binOp, Op.intArith], h1 hp N μ⟩⟩
  · obtain ⟨_, g1, a1, h1⟩ := done_of h
    obtain ⟨p, k1, h2⟩ := arithR_sound h1
    exact ⟨_, (ck_done a1).trans k1, fun hp N μ w => ⟨_, by simp [binOp, Op.intDiv, hp.1], h2 hp.2 N μ⟩⟩
  · obtain ⟨_, g1, a1, h1⟩ := done_of h
    obtain ⟨rfl, rfl⟩ := ret_done h1
    exact ⟨_, ck_done a1, fun hp N μ w => ⟨.int k (a.tmod b), by simp [binOp, Op.intDiv, hp], by simp only [Rep]⟩⟩
  all_goals obtain ⟨rfl, rfl⟩ := ret_done h
  all_goals refine ⟨_, Keep.refl _, fun _ N μ w => ?_⟩
  · exact ⟨.int k (bitsV .and k a b), by simp only [binOp, ne_eq, not_true_eq_false, if_false]; rfl, by simp only [Rep]⟩
  · exact ⟨.int k (bitsV .or k a b), by simp only [binOp, ne_eq, not_true_eq_false, if_false]; rfl, by simp only [Rep]⟩
  · exact ⟨.int k (bitsV .xor k a b), by simp only [binOp, ne_eq, not_true_eq_false, if_false]; rfl, by simp only [Rep]⟩
  · exact ⟨.int k (bitsV .andNot k a b), by simp only [binOp, ne_eq, not_true_eq_false, if_false]; rfl, by simp only [Rep]⟩
  · exact ⟨.bool (a == b), by simp [binOp, Op.intCmp], .cmpB ..⟩
  · exact ⟨.bool (a != b), by simp [binOp, Op.intCmp], .cmpB ..⟩
  · exact ⟨_, by simp only [binOp, ne_eq, not_true_eq_false, if_false]; rfl, .cmpB ..⟩
  · exact ⟨_, by simp only [binOp, ne_eq, not_true_eq_false, if_false]; rfl, .cmpB ..⟩
  · exact ⟨_, by simp only [binOp, ne_eq, not_true_eq_false, if_false]; rfl, .cmpB ..⟩
  · exact ⟨_, by simp only [binOp, ne_eq, not_true_eq_false, if_false]; rfl, .cmpB ..⟩
theorem shiftA_sound {P : Program} {s : Bool} {k k' : IntKind} {op : BinOp} {a b : Int} {g g' : G} {v : AV} {t : TypeId} (h : shiftA s k op a b g = .done v g') :
    ∃ p, Keep g g' p ∧ (p → ∀ N μ (w : World), ∃ c, (binOp op t (.int k a) (.int k' b)).run P w = .ok c w ∧ Rep N μ v c) := by
  unfold shiftA at h
  obtain ⟨_, g1, a1, h1⟩ := done_of h
  have k1 := ck_done a1
  cases op <;> simp only at h1 <;> first | exact (no_done h1).elim | skip
  · obtain ⟨p, k2, h2⟩ := arithR_sound h1
    refine ⟨_, k1.trans k2, fun hp N μ w => ⟨_, ?_, h2 hp.2 N μ⟩⟩
    have : ¬ b < 0 := by omega
    simp [binOp, Op.shift, this]
  · obtain ⟨rfl, rfl⟩ := ret_done h1
    refine ⟨_, k1, fun hp N μ w => ⟨.int k (a.fdiv (2 ^ min b.toNat k.bits)), ?_, by simp only [Rep]⟩⟩
    have : ¬ b < 0 := by omega
    simp [binOp, Op.shift, this]
end Go.Sx
