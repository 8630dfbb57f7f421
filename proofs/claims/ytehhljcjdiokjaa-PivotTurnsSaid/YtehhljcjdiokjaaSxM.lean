/- THE ENGINE IS SOUND, tenth part: one operand; conversions; lengths, slices, indexes, fields; the built-in functions. -/
import Derived.Test.YtehhljcjdiokjaaSxL
import Derived.Lib.Strings
set_option linter.unusedSimpArgs false
set_option linter.unusedVariables false
noncomputable section
namespace Go.Sx
open M

theorem unA_sound {P : Program} {op : UnOp} {x v : AV} {g g' : G} (h : unA op x g = .done v g') :
    ∃ p, Keep g g' p ∧ (p → ∀ N μ (w : World) cx, Rep N μ x cx → ∃ c, (Op.unary op cx).run P w = .ok c w ∧ Rep N μ v c) := by
  unfold unA at h
  split at h
  · obtain ⟨p, k, h1⟩ := arithR_sound h
    refine ⟨p, k, fun hp N μ w cx hx => ?_⟩
    simp only [Rep] at hx; subst hx
    exact ⟨_, rfl, h1 hp N μ⟩
  all_goals try (obtain ⟨rfl, rfl⟩ := ret_done h; refine ⟨_, Keep.refl _, fun _ N μ w cx hx => ?_⟩; simp only [Rep] at hx)
  · obtain ⟨b, rfl, hb⟩ := hx
    exact ⟨.float .f64 (b ^^^ 9223372036854775808), rfl, by simp only [Rep]; exact ⟨_, rfl, hb.neg⟩⟩
  · obtain ⟨a, b, rfl, ha, hb⟩ := hx
    exact ⟨.complex .f64 (a ^^^ 9223372036854775808) (b ^^^ 9223372036854775808), rfl, by simp only [Rep]; exact ⟨_, _, rfl, ha.neg, hb.neg⟩⟩
  · subst hx; exact ⟨_, rfl, by simp only [Rep]⟩
  · subst hx; exact ⟨_, rfl, by simp only [Rep]⟩
  · cases h
theorem FB_ofInt (n : Int) : FB (ofInt n) (floatOfInt .f64 n) := by
  refine ⟨cn_of_not (isnan_nearest _ _ _), ?_⟩
  have := floatOfInt_wf .f64 n
  simpa [Lit.wf] using this
theorem toIntV_notNaN {x : Nat} {k : IntKind} (h : (toIntV x k).isSome = true) : isnan x = false := by
  cases hn : isnan x with
  | false => rfl
  | true =>
    obtain ⟨s, t, hr⟩ := read_of_nan hn
    unfold toIntV floatToIntVal at h
    have : (FloatKind.f64.decode x).toInt .zero = none := by
      show (Ieee.double.read x).toInt .zero = none
      rw [hr]; rfl
    rw [this] at h
    cases h
theorem convA_sound {P : Program} {src dst : TypeId} {x v : AV} {g g' : G} (h : convA P src dst x g = .done v g') :
    ∃ p, Keep g g' p ∧ (p → ∀ N μ (w : World) cx, Rep N μ x cx → ∃ c, (convert src dst cx).run P w = .ok c w ∧ Rep N μ v c) := by
  unfold convA at h
  obtain ⟨d, g1, a1, h1⟩ := done_of h
  obtain ⟨hs, rfl⟩ := ofOpt_done a1
  obtain ⟨dd, g2, a2, h2⟩ := done_of h1
  obtain ⟨hd, rfl⟩ := ofOpt_done a2
  clear h h1
  have h := h2
  clear h2
  unfold convD at h
  split at h
  · rename_i k s k0 n
    have run : ∀ w : World, (convert src dst (.int k0 n)).run P w = .ok (.int k (k.wrap n)) w := fun w => by
      cases d <;> simp [convert, run_underlying hs, run_underlying hd, Conv.intToInt]
    cases hq : (s && isI64 k) with
    | true =>
      rw [hq, cond_true] at h
      obtain ⟨_, g1, a1, h1⟩ := done_of h
      obtain ⟨rfl, rfl⟩ := ret_done h1
      refine ⟨_, req_done a1, fun hp N μ w cx hx => ?_⟩
      rw [Bool.and_eq_true] at hq
      have hk : k = .i64 := by cases k <;> simp [isI64] at hq; rfl
      subst hk
      simp only [Rep] at hx; subst hx
      have e : IntKind.i64.wrap n = n := by rw [IntKind.wrap_i64]; omega
      exact ⟨_, run w, by rw [e]; simp only [Rep]⟩
    | false =>
      rw [hq, cond_false] at h
      obtain ⟨rfl, rfl⟩ := ret_done h
      refine ⟨_, Keep.refl _, fun _ N μ w cx hx => ?_⟩
      simp only [Rep] at hx; subst hx
      exact ⟨_, run w, by simp only [Rep]⟩
  · rename_i k s x
    have run : ∀ (b : Nat) (w : World), (convert src dst (.int .u64 b)).run P w = .ok (.int k (k.wrap b)) w := fun b w => by
      cases d <;> simp [convert, run_underlying hs, run_underlying hd, Conv.intToInt]
    obtain ⟨_, g1, a1, h1⟩ := done_of h
    cases hq : (s && isI64 k) with
    | true =>
      rw [hq, cond_true] at h1
      obtain ⟨_, g2, a2, h2⟩ := done_of h1
      obtain ⟨rfl, rfl⟩ := ret_done h2
      refine ⟨_, (ck_done a1).trans (req_done a2), fun hp N μ w cx hx => ?_⟩
      rw [Bool.and_eq_true] at hq
      have hk : k = .i64 := by cases k <;> simp [isI64] at hq; rfl
      subst hk
      simp only [Rep] at hx
      obtain ⟨b, rfl, hb⟩ := hx
      have hbx := hb.eq_of_not hp.1
      subst hbx
      have e : IntKind.i64.wrap (b : Int) = b := by rw [IntKind.wrap_i64]; omega
      exact ⟨_, run b w, by rw [e]; simp only [Rep]⟩
    | false =>
      rw [hq, cond_false] at h1
      obtain ⟨rfl, rfl⟩ := ret_done h1
      refine ⟨_, ck_done a1, fun hp N μ w cx hx => ?_⟩
      simp only [Rep] at hx
      obtain ⟨b, rfl, hb⟩ := hx
      have hbx := hb.eq_of_not hp
      subst hbx
      exact ⟨_, run b w, by simp only [Rep]⟩
  · rename_i s k0 n
    obtain ⟨rfl, rfl⟩ := ret_done h
    refine ⟨_, Keep.refl _, fun _ N μ w cx hx => ?_⟩
    simp only [Rep] at hx; subst hx
    exact ⟨_, run_convert_int_float w src dst k0 .f64 n (by rw [hs]; rfl) hd, by simp only [Rep]; exact ⟨_, rfl, FB_ofInt n⟩⟩
  · rename_i s x
    obtain ⟨rfl, rfl⟩ := ret_done h
    refine ⟨_, Keep.refl _, fun _ N μ w cx hx => ?_⟩
    simp only [Rep] at hx
    obtain ⟨b, rfl, hb⟩ := hx
    exact ⟨_, run_convert_float_float w src dst .f64 .f64 b b (by rw [hs]; rfl) hd (by simp [floatToFloatBits]), by simp only [Rep]; exact ⟨_, rfl, hb⟩⟩
  · rename_i k s x
    obtain ⟨_, g1, a1, h1⟩ := done_of h
    obtain ⟨rfl, rfl⟩ := ret_done h1
    refine ⟨_, ck_done a1, fun hp N μ w cx hx => ?_⟩
    simp only [Rep] at hx
    obtain ⟨b, rfl, hb⟩ := hx
    have hbx := hb.eq_of_not (toIntV_notNaN hp)
    subst hbx
    obtain ⟨n, hn⟩ := Option.isSome_iff_exists.1 hp
    refine ⟨_, run_convert_float_int w src dst .f64 k b n (by rw [hs]; rfl) hd hn, ?_⟩
    simp only [Rep, hn, Option.getD_some]
  · cases h
theorem isStrD_some {P : Program} {t : TypeId} (h : isStrD P t = true) : P.underlying t = some .string := by
  unfold isStrD at h; split at h <;> first | assumption | cases h
theorem lenA_sound {P : Program} {t ty : TypeId} {x v : AV} {g g' : G} (h : lenA P t x g = .done v g') :
    g = g' ∧ ∀ N μ (w : World) cx, Rep N μ x cx → ∃ c, (Builtin.len_ #[t] ty #[cx]).run P w = .ok c w ∧ Rep N μ v c := by
  unfold lenA at h
  split at h
  · rename_i s own a len
    obtain ⟨_, g1, a1, h1⟩ := done_of h
    obtain ⟨hq, rfl⟩ := okIf_done a1
    obtain ⟨rfl, rfl⟩ := ret_done h1
    obtain ⟨e, he⟩ := Option.isSome_iff_exists.1 hq
    refine ⟨rfl, fun N μ w cx hx => ?_⟩
    simp only [Rep] at hx
    obtain ⟨_, A, C, rfl, _⟩ := hx
    exact ⟨.int .i64 len, by simp [Builtin.len_, run_underlying (sliceE_some he), goInt], by simp only [Rep]⟩
  · obtain ⟨_, g1, a1, h1⟩ := done_of h
    obtain ⟨hq, rfl⟩ := okIf_done a1
    obtain ⟨rfl, rfl⟩ := ret_done h1
    obtain ⟨e, he⟩ := Option.isSome_iff_exists.1 hq
    refine ⟨rfl, fun N μ w cx hx => ?_⟩
    simp only [Rep] at hx; subst hx
    exact ⟨.int .i64 0, by simp [Builtin.len_, run_underlying (sliceE_some he), goInt], by simp only [Rep]⟩
  · rename_i s l
    obtain ⟨_, g1, a1, h1⟩ := done_of h
    obtain ⟨hq, rfl⟩ := okIf_done a1
    obtain ⟨rfl, rfl⟩ := ret_done h1
    refine ⟨rfl, fun N μ w cx hx => ?_⟩
    simp only [Rep] at hx; subst hx
    exact ⟨.int .i64 l.length, by simp [Builtin.len_, run_underlying (isStrD_some hq), goInt, ba_size], by simp only [Rep]⟩
  · cases h

/-! ### addresses -/
theorem stepA_addr {μ : MM} {a : AA} {s : Bool} {esz sz n : Nat} (hsz : μ.sz a.g = sz) : (μ.addr a).add (n * esz) = μ.addr (stepA a s esz sz n) := by
  unfold stepA MM.addr
  rw [Addr.add_lit]
  cases hq : (Nat.beq esz sz && Nat.beq a.o 0) with
  | true =>
    obtain ⟨e1, e2⟩ := same_of.1 hq
    simp only [cond_true, hsz, e1, e2, Nat.add_mul, Nat.add_zero, Nat.add_assoc]
  | false => simp only [cond_false, hsz, Nat.add_assoc]
theorem stepA_g {a : AA} {s : Bool} {esz sz n : Nat} : (stepA a s esz sz n).g = a.g := by
  unfold stepA; cases (Nat.beq esz sz && Nat.beq a.o 0) <;> rfl
theorem Addr.add_zero' (a : Addr) : a.add 0 = a := by simp [Addr.add]
def RepO (N : Nat) (μ : MM) : Option AV → Option Value → Prop
  | none, none => True
  | some v, some c => Rep N μ v c
  | _, _ => False
theorem bound_run {P : Program} {d y : Nat} {o : Option AV} {l : Bool × Int} (h : boundA d o = some l) {N : Nat} {μ : MM} {co : Option Value} (ho : RepO N μ o co) (h0 : 0 ≤ l.2) (hy : l.2 ≤ y) (code : BoundsCode) (w : World) :
    (co = none ∧ l.2 = d) ∨ ∃ c, co = some c ∧ (Instr.sliceBound c y code).run P w = .ok l.2.toNat w := by
  cases o with
  | none =>
    cases co with
    | none => simp only [boundA, Option.some.injEq] at h; subst h; exact .inl ⟨rfl, rfl⟩
    | some c => exact ho.elim
  | some v =>
    cases co with
    | none => exact ho.elim
    | some c =>
      obtain ⟨k, rfl⟩ := asInt_some h
      simp only [RepO, Rep] at ho
      subst ho
      exact .inr ⟨_, rfl, by simp [Instr.sliceBound, asIntOf, h0, hy]⟩
theorem bounds_run {P : Program} {b : Bool} {len cap : Nat} {lo hi : Option AV} {l h : Bool × Int} (hl : boundA 0 lo = some l) (hh : boundA len hi = some h) {N : Nat} {μ : MM} {clo chi : Option Value}
    (h1 : RepO N μ lo clo) (h2 : RepO N μ hi chi) (h0 : 0 ≤ l.2) (hlh : l.2 ≤ h.2) (hhl : h.2 ≤ len) (hcap : len ≤ cap) (w : World) :
    (Instr.sliceBounds b len cap clo chi none).run P w = .ok (l.2.toNat, h.2.toNat, cap) w := by
  have hH := bound_run (P := P) (y := cap) hh h2 (by omega) (by omega) (if b then .sliceAcap else .sliceAlen) w
  have hL := bound_run (P := P) (y := h.2.toNat) hl h1 h0 (by omega) .sliceB w
  rcases hH with ⟨rfl, e⟩ | ⟨c, rfl, hc⟩
  · rcases hL with ⟨rfl, e'⟩ | ⟨c', rfl, hc'⟩
    · simp [Instr.sliceBounds, e, e']
    · have : h.2.toNat = len := by omega
      rw [this] at hc' ⊢
      simp [Instr.sliceBounds, hc']
  · rcases hL with ⟨rfl, e'⟩ | ⟨c', rfl, hc'⟩
    · cases b <;> simp at hc <;> simp [Instr.sliceBounds, hc, e']
    · cases b <;> simp at hc <;> simp [Instr.sliceBounds, hc, hc']
theorem sliceA_sound {P : Program} {t : TypeId} {x v : AV} {lo hi mx : Option AV} {g g' : G} (h : sliceA P t x lo hi mx g = .done v g') :
    ∃ p, Keep g g' p ∧ (p → ∀ μ (w : World) cx clo chi cmx, GOk g.nx μ w.heap g.H → Rep g.nx μ x cx → RepO g.nx μ lo clo → RepO g.nx μ hi chi → RepO g.nx μ mx cmx →
      ∃ c, (Instr.sliceAt t cx clo chi cmx).run P w = .ok c w ∧ Rep g.nx μ v c) := by
  unfold sliceA at h
  obtain ⟨_, g0, a0, h0⟩ := done_of h
  obtain ⟨hm, rfl⟩ := okIf_done a0
  have hmx : mx = none := by cases mx <;> simp at hm; rfl
  subst hmx
  split at h0
  · rename_i s own a len
    obtain ⟨e, g1, a1, h1⟩ := done_of h0
    obtain ⟨he, rfl⟩ := ofOpt_done a1
    obtain ⟨y, g2, a2, h2⟩ := done_of h1
    obtain ⟨hy, rfl⟩ := ofOpt_done a2
    obtain ⟨l, g3, a3, h3⟩ := done_of h2
    obtain ⟨hl, rfl⟩ := ofOpt_done a3
    obtain ⟨hb, g4, a4, h4⟩ := done_of h3
    obtain ⟨hh, rfl⟩ := ofOpt_done a4
    obtain ⟨_, g5, a5, h5⟩ := done_of h4
    have k5 := ck_done a5
    obtain ⟨i, d, hi', hd, e1, e2⟩ := lay_some hy
    have ht := sliceE_some he
    have run : ∀ {N : Nat} {μ : MM} {w : World} {A : Option Addr} {C : Nat} {clo chi : Option Value}, len ≤ C → (0 ≤ l.2 ∧ l.2 ≤ hb.2 ∧ hb.2 ≤ len) → RepO N μ lo clo → RepO N μ hi chi →
        (Instr.sliceAt t (.slice A len C) clo chi none).run P w = .ok (.slice (if C = l.2.toNat then A else A.map (·.add (l.2.toNat * i.size))) (hb.2.toNat - l.2.toNat) (C - l.2.toNat)) w := by
      intro N μ w A C clo chi hC hp r1 r2
      have := bounds_run (P := P) (b := true) hl hh r1 r2 hp.1 hp.2.1 hp.2.2 hC w
      simp [Instr.sliceAt, Instr.slice, run_underlying ht, this, run_sizeOf hi']
    cases hlo : lo with
    | none =>
      rw [hlo] at h5 hl
      simp only [Option.isNone_none, cond_true] at h5
      obtain ⟨rfl, rfl⟩ := ret_done h5
      simp only [boundA, Option.some.injEq] at hl
      subst hl
      refine ⟨_, k5, fun hp μ w cx clo chi cmx hg hx r1 r2 r3 => ?_⟩
      cases cmx with
      | some => exact r3.elim
      | none =>
      simp only [Rep] at hx
      obtain ⟨hag, A, C, rfl, hC, hA, hnn, hown⟩ := hx
      rw [hlo] at run
      refine ⟨_, run hC hp r1 r2, ?_⟩
      simp only at hp
      simp only [Rep]
      refine ⟨hag, A, C, ?_, by omega, fun hq => hA (by omega), fun hs => hnn (by simp only [Bool.or_eq_false_iff] at hs; exact hs.1), fun ho => ?_⟩
      · simp [Addr.add_zero']
      · obtain ⟨q1, q2, q3⟩ := hown ho
        exact ⟨q1, q2, q3.imp (fun q => ⟨q.1, q.2.1, by omega⟩) id⟩
    | some lv =>
      rw [hlo] at h5
      simp only [Option.isNone_some, cond_false] at h5
      obtain ⟨b, g6, a6, h6⟩ := done_of h5
      obtain ⟨hbk, rfl⟩ := getC_done a6
      obtain ⟨rfl, rfl⟩ := ret_done h6
      rw [k5.1] at hbk
      refine ⟨_, k5, fun hp μ w cx clo chi cmx hg hx r1 r2 r3 => ?_⟩
      cases cmx with
      | some => exact r3.elim
      | none =>
      simp only [Rep] at hx
      obtain ⟨hag, A, C, rfl, hC, hA, hnn, hown⟩ := hx
      rw [hlo] at run
      refine ⟨_, run hC hp r1 r2, ?_⟩
      simp only [Rep]
      refine ⟨by rw [stepA_g]; exact hag, _, _, rfl, by omega, fun hq => ?_, fun hs => ?_, fun ho => by cases ho⟩
      rotate_left
      · have := hnn (by simp only [Bool.or_eq_false_iff] at hs; exact hs.1.1)
        split
        · exact this
        · rw [Option.isSome_map]; exact this
      have hsz : μ.sz a.g = b.2.1 := (hg.ok _ _ hbk).1
      rw [if_neg (by omega), hA (by omega), Option.map_some, e1, stepA_addr hsz]
  · rename_i s cs
    obtain ⟨_, g1, a1, h1⟩ := done_of h0
    obtain ⟨hs, rfl⟩ := okIf_done a1
    obtain ⟨l, g3, a3, h3⟩ := done_of h1
    obtain ⟨hl, rfl⟩ := ofOpt_done a3
    obtain ⟨hb, g4, a4, h4⟩ := done_of h3
    obtain ⟨hh, rfl⟩ := ofOpt_done a4
    obtain ⟨_, g5, a5, h5⟩ := done_of h4
    obtain ⟨rfl, rfl⟩ := ret_done h5
    refine ⟨_, ck_done a5, fun hp μ w cx clo chi cmx hg hx r1 r2 r3 => ?_⟩
    cases cmx with
    | some => exact r3.elim
    | none =>
    simp only [Rep] at hx
    subst hx
    have := bounds_run (P := P) (b := false) (cap := cs.length) hl hh r1 r2 hp.1 hp.2.1 hp.2.2 (Nat.le_refl _) w
    refine ⟨_, by simp [Instr.sliceAt, Instr.slice, run_underlying (isStrD_some hs), ba_size, this]; rfl, ?_⟩
    simp only [Rep]
    rw [Lib.extract_eq]
  · rename_i a
    obtain ⟨ne, g1, a1, h1⟩ := done_of h0
    obtain ⟨hne, rfl⟩ := ofOpt_done a1
    obtain ⟨y, g2, a2, h2⟩ := done_of h1
    obtain ⟨hy, rfl⟩ := ofOpt_done a2
    obtain ⟨_, g3, a3, h3⟩ := done_of h2
    obtain ⟨hlo, rfl⟩ := okIf_done a3
    have hlo' : lo = none := by cases lo <;> simp at hlo; rfl
    subst hlo'
    obtain ⟨hb, g4, a4, h4⟩ := done_of h3
    obtain ⟨hh, rfl⟩ := ofOpt_done a4
    obtain ⟨_, g5, a5, h5⟩ := done_of h4
    obtain ⟨rfl, rfl⟩ := ret_done h5
    obtain ⟨i, d, hi', hd, e1, e2⟩ := lay_some hy
    refine ⟨_, ck_done a5, fun hp μ w cx clo chi cmx hg hx r1 r2 r3 => ?_⟩
    cases cmx with
    | some => exact r3.elim
    | none =>
    simp only [Rep] at hx
    obtain ⟨hag, rfl⟩ := hx
    have hb' := bounds_run (P := P) (b := false) (cap := ne.1) (l := (false, 0)) (lo := none) rfl hh r1 r2 (Int.le_refl _) hp.1 hp.2 (Nat.le_refl _) w
    refine ⟨.slice (some (μ.addr a)) hb.2.toNat ne.1, ?_, ?_⟩
    · simp only [Int.toNat_zero] at hb'
      simp [Instr.sliceAt, run_underlying (arrayE_some hne), Instr.sureAddr, hb', run_sizeOf hi', Addr.add_zero']
    · simp only [Rep]
      exact ⟨hag, _, _, rfl, by omega, fun _ => rfl, fun _ => rfl, fun ho => by cases ho⟩
  · cases h0
end Go.Sx
