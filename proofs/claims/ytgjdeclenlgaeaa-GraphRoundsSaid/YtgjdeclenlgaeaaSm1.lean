/- THE ENGINE, part 1: an interpreter of the program's code over abstract values, and its proof. -/
import Derived.Test.YtgjdeclenlgaeaaSm0
import Derived.Lib.Strings
import Derived.LoopN
import Derived.Orders
import Derived.Still
noncomputable section
set_option linter.unusedSimpArgs false
set_option linter.unusedVariables false
namespace Go.Sx
open M
theorem unA_sound {P : Program} {op : UnOp} {x v : AV} {g g' : G} (h : unA op x g = .done v g') :
  ∃ p, Keep g g' p ∧ (p → ∀ N μ (w : World) cx, Rep N μ x cx → ∃ c, (Op.unary op cx).run P w = .ok c w ∧ Rep N μ v c) := by
 unfold unA at h
 split at h
 ·obtain ⟨p, k, h1⟩ := arithR_sound h
  refine ⟨p, k, fun hp N μ w cx hx => ?_⟩
  simp only [Rep] at hx; subst hx
  exact ⟨_, rfl, h1 hp N μ⟩
 all_goals try (obtain ⟨rfl, rfl⟩ := ret_done h; refine ⟨_, Keep.refl _, fun _ N μ w cx hx => ?_⟩; simp only [Rep] at hx)
 ·obtain ⟨b, rfl, hb⟩ := hx
  exact ⟨.float .f64 (b ^^^ 9223372036854775808), rfl, by simp only [Rep]; exact ⟨_, rfl, hb.neg⟩⟩
 ·obtain ⟨a, b, rfl, ha, hb⟩ := hx
  exact ⟨.complex .f64 (a ^^^ 9223372036854775808) (b ^^^ 9223372036854775808), rfl, by simp only [Rep]; exact ⟨_, _, rfl, ha.neg, hb.neg⟩⟩
 ·subst hx; exact ⟨_, rfl, by simp only [Rep]⟩
 ·subst hx; exact ⟨_, rfl, by simp only [Rep]⟩
 ·cases h
theorem FB_ofInt (n : Int) : FB (ofInt n) (floatOfInt .f64 n) := by
 refine ⟨cn_of_not (isnan_nearest _ _ _), ?_⟩
 have := floatOfInt_wf .f64 n
 simpa [Lit.wf] using this
theorem toIntV_notNaN {x : Nat} {k : IntKind} (h : (toIntV x k).isSome = true) : isnan x = false := by
 cases hn : isnan x with
 | false => rfl
 | true =>
  obtain ⟨s, t, hr⟩ := read_of_nan hn
  unfold toIntV floatToIntVal at h
  have : (FloatKind.f64.decode x).toInt .zero = none := by
   show (Ieee.double.read x).toInt .zero = none
   rw [hr]; rfl
  rw [this] at h
  cases h
theorem convA_sound {P : Program} {src dst : TypeId} {x v : AV} {g g' : G} (h : convA P src dst x g = .done v g') :
  ∃ p, Keep g g' p ∧ (p → ∀ N μ (w : World) cx, Rep N μ x cx → ∃ c, (convert src dst cx).run P w = .ok c w ∧ Rep N μ v c) := by
 unfold convA at h
 obtain ⟨d, g1, a1, h1⟩ := done_of h
 obtain ⟨hs, rfl⟩ := ofOpt_done a1
 obtain ⟨dd, g2, a2, h2⟩ := done_of h1
 obtain ⟨hd, rfl⟩ := ofOpt_done a2
 clear h h1
 have h := h2
 clear h2
 unfold convD at h
 split at h
 ·rename_i k s k0 n
  have run : ∀ w : World, (convert src dst (.int k0 n)).run P w = .ok (.int k (k.wrap n)) w := fun w => by
   cases d <;> simp [convert, run_underlying hs, run_underlying hd, Conv.intToInt]
  cases hq : (s && isI64 k) with
  | true =>
   rw [hq, cond_true] at h
   obtain ⟨_, g1, a1, h1⟩ := done_of h
   obtain ⟨rfl, rfl⟩ := ret_done h1
   refine ⟨_, req_done a1, fun hp N μ w cx hx => ?_⟩
   rw [Bool.and_eq_true] at hq
   have hk : k = .i64 := by cases k <;> simp [isI64] at hq; rfl
   subst hk
   simp only [Rep] at hx; subst hx
   have e : IntKind.i64.wrap n = n := by rw [IntKind.wrap_i64]; omega
   exact ⟨_, run w, by rw [e]; simp only [Rep]⟩
  | false =>
   rw [hq, cond_false] at h
   obtain ⟨rfl, rfl⟩ := ret_done h
   refine ⟨_, Keep.refl _, fun _ N μ w cx hx => ?_⟩
   simp only [Rep] at hx; subst hx
   exact ⟨_, run w, by simp only [Rep]⟩
 ·rename_i k s x
  have run : ∀ (b : Nat) (w : World), (convert src dst (.int .u64 b)).run P w = .ok (.int k (k.wrap b)) w := fun b w => by
   cases d <;> simp [convert, run_underlying hs, run_underlying hd, Conv.intToInt]
  obtain ⟨_, g1, a1, h1⟩ := done_of h
  cases hq : (s && isI64 k) with
  | true =>
   rw [hq, cond_true] at h1
   obtain ⟨_, g2, a2, h2⟩ := done_of h1
   obtain ⟨rfl, rfl⟩ := ret_done h2
   refine ⟨_, (ck_done a1).trans (req_done a2), fun hp N μ w cx hx => ?_⟩
   rw [Bool.and_eq_true] at hq
   have hk : k = .i64 := by cases k <;> simp [isI64] at hq; rfl
   subst hk
   simp only [Rep] at hx
   obtain ⟨b, rfl, hb⟩ := hx
   have hbx := hb.eq_of_not hp.1
   subst hbx
   have e : IntKind.i64.wrap (b : Int) = b := by rw [IntKind.wrap_i64]; omega
   exact ⟨_, run b w, by rw [e]; simp only [Rep]⟩
  | false =>
   rw [hq, cond_false] at h1
   obtain ⟨rfl, rfl⟩ := ret_done h1
   refine ⟨_, ck_done a1, fun hp N μ w cx hx => ?_⟩
   simp only [Rep] at hx
   obtain ⟨b, rfl, hb⟩ := hx
   have hbx := hb.eq_of_not hp
   subst hbx
   exact ⟨_, run b w, by simp only [Rep]⟩
 ·rename_i s k0 n
  obtain ⟨rfl, rfl⟩ := ret_done h
  refine ⟨_, Keep.refl _, fun _ N μ w cx hx => ?_⟩
  simp only [Rep] at hx; subst hx
  exact ⟨_, run_convert_int_float w src dst k0 .f64 n (by rw [hs]; rfl) hd, by simp only [Rep]; exact ⟨_, rfl, FB_ofInt n⟩⟩
 ·rename_i s x
  obtain ⟨rfl, rfl⟩ := ret_done h
  refine ⟨_, Keep.refl _, fun _ N μ w cx hx => ?_⟩
  simp only [Rep] at hx
  obtain ⟨b, rfl, hb⟩ := hx
  exact ⟨_, run_convert_float_float w src dst .f64 .f64 b b (by rw [hs]; rfl) hd (by simp [floatToFloatBits]), by simp only [Rep]; exact ⟨_, rfl, hb⟩⟩
 ·rename_i k s x
  obtain ⟨_, g1, a1, h1⟩ := done_of h
  obtain ⟨rfl, rfl⟩ := ret_done h1
  refine ⟨_, ck_done a1, fun hp N μ w cx hx => ?_⟩
  simp only [Rep] at hx
  obtain ⟨b, rfl, hb⟩ := hx
  have hbx := hb.eq_of_not (toIntV_notNaN hp)
  subst hbx
  obtain ⟨n, hn⟩ := Option.isSome_iff_exists.1 hp
  refine ⟨_, run_convert_float_int w src dst .f64 k b n (by rw [hs]; rfl) hd hn, ?_⟩
  simp only [Rep, hn, Option.getD_some]
 ·cases h
theorem isStrD_some {P : Program} {t : TypeId} (h : isStrD P t = true) : P.underlying t = some .string := by
 unfold isStrD at h; split at h <;> first | assumption | cases h
theorem lenA_sound {P : Program} {t ty : TypeId} {x v : AV} {g g' : G} (h : lenA P t x g = .done v g') :
  g = g' ∧ ∀ N μ (w : World) cx, Rep N μ x cx → ∃ c, (Builtin.len_ #[t] ty #[cx]).run P w = .ok c w ∧ Rep N μ v c := by
 unfold lenA at h
 split at h
 ·rename_i s own a len
  obtain ⟨_, g1, a1, h1⟩ := done_of h
  obtain ⟨hq, rfl⟩ := okIf_done a1
  obtain ⟨rfl, rfl⟩ := ret_done h1
  obtain ⟨e, he⟩ := Option.isSome_iff_exists.1 hq
  refine ⟨rfl, fun N μ w cx hx => ?_⟩
  simp only [Rep] at hx
  obtain ⟨_, A, C, rfl, _⟩ := hx
  exact ⟨.int .i64 len, by simp [Builtin.len_, run_underlying (sliceE_some he), goInt], by simp only [Rep]⟩
 ·obtain ⟨_, g1, a1, h1⟩ := done_of h
  obtain ⟨hq, rfl⟩ := okIf_done a1
  obtain ⟨rfl, rfl⟩ := ret_done h1
  obtain ⟨e, he⟩ := Option.isSome_iff_exists.1 hq
  refine ⟨rfl, fun N μ w cx hx => ?_⟩
  simp only [Rep] at hx; subst hx
  exact ⟨.int .i64 0, by simp [Builtin.len_, run_underlying (sliceE_some he), goInt], by simp only [Rep]⟩
 ·rename_i s l
  obtain ⟨_, g1, a1, h1⟩ := done_of h
  obtain ⟨hq, rfl⟩ := okIf_done a1
  obtain ⟨rfl, rfl⟩ := ret_done h1
  refine ⟨rfl, fun N μ w cx hx => ?_⟩
  simp only [Rep] at hx; subst hx
  exact ⟨.int .i64 l.length, by simp [Builtin.len_, run_underlying (isStrD_some hq), goInt, ba_size], by simp only [Rep]⟩
 ·rename_i b n
  obtain ⟨_, g1, a1, h1⟩ := done_of h
  obtain ⟨hq, rfl⟩ := okIf_done a1
  obtain ⟨rfl, rfl⟩ := ret_done h1
  obtain ⟨e, he⟩ := Option.isSome_iff_exists.1 hq
  refine ⟨rfl, fun N μ w cx hx => ?_⟩
  simp only [Rep] at hx
  obtain ⟨C, rfl, _⟩ := hx
  exact ⟨.int .i64 n, by simp [Builtin.len_, run_underlying (sliceE_some he), goInt], by simp only [Rep]⟩
 ·rename_i n f
  obtain ⟨_, g1, a1, h1⟩ := done_of h
  obtain ⟨hq, rfl⟩ := okIf_done a1
  obtain ⟨rfl, rfl⟩ := ret_done h1
  obtain ⟨e, he⟩ := Option.isSome_iff_exists.1 hq
  refine ⟨rfl, fun N μ w cx hx => ?_⟩
  simp only [Rep] at hx
  obtain ⟨_, b, C, cur, ty', z, rfl, _⟩ := hx
  exact ⟨.int .i64 n, by simp [Builtin.len_, run_underlying (sliceE_some he), goInt], by simp only [Rep]⟩
 ·cases h
theorem stepA_addr {μ : MM} {a : AA} {s : Bool} {esz sz n : Nat} (hsz : μ.sz a.g = sz) : (μ.addr a).add (n * esz) = μ.addr (stepA a s esz sz n) := by
 unfold stepA MM.addr
 rw [Addr.add_lit]
 cases hq : (Nat.beq esz sz && Nat.beq a.o 0) with
 | true =>
  obtain ⟨e1, e2⟩ := same_of.1 hq
  simp only [cond_true, hsz, e1, e2, Nat.add_mul, Nat.add_zero, Nat.add_assoc]
 | false => simp only [cond_false, hsz, Nat.add_assoc]
theorem stepA_g {a : AA} {s : Bool} {esz sz n : Nat} : (stepA a s esz sz n).g = a.g := by
 unfold stepA; cases (Nat.beq esz sz && Nat.beq a.o 0) <;> rfl
theorem Addr.add_zero' (a : Addr) : a.add 0 = a := by simp [Addr.add]
def RepO (N : Nat) (μ : MM) : Option AV → Option Value → Prop
 | none, none => True
 | some v, some c => Rep N μ v c
 | _, _ => False
theorem bound_run {P : Program} {d y : Nat} {o : Option AV} {l : Bool × Int} (h : boundA d o = some l) {N : Nat} {μ : MM} {co : Option Value} (ho : RepO N μ o co) (h0 : 0 ≤ l.2) (hy : l.2 ≤ y) (code : BoundsCode) (w : World) :
  (co = none ∧ l.2 = d) ∨ ∃ c, co = some c ∧ (Instr.sliceBound c y code).run P w = .ok l.2.toNat w := by
 cases o with
 | none =>
  cases co with
  | none => simp only [boundA, Option.some.injEq] at h; subst h; exact .inl ⟨rfl, rfl⟩
  | some c => exact ho.elim
 | some v =>
  cases co with
  | none => exact ho.elim
  | some c =>
   obtain ⟨k, rfl⟩ := asInt_some h
   simp only [RepO, Rep] at ho
   subst ho
   exact .inr ⟨_, rfl, by simp [Instr.sliceBound, asIntOf, h0, hy]⟩
theorem bounds_run {P : Program} {b : Bool} {len cap : Nat} {lo hi : Option AV} {l h : Bool × Int} (hl : boundA 0 lo = some l) (hh : boundA len hi = some h) {N : Nat} {μ : MM} {clo chi : Option Value}
  (h1 : RepO N μ lo clo) (h2 : RepO N μ hi chi) (h0 : 0 ≤ l.2) (hlh : l.2 ≤ h.2) (hhl : h.2 ≤ len) (hcap : len ≤ cap) (w : World) :
  (Instr.sliceBounds b len cap clo chi none).run P w = .ok (l.2.toNat, h.2.toNat, cap) w := by
 have hH := bound_run (P := P) (y := cap) hh h2 (by omega) (by omega) (if b then .sliceAcap else .sliceAlen) w
 have hL := bound_run (P := P) (y := h.2.toNat) hl h1 h0 (by omega) .sliceB w
 rcases hH with ⟨rfl, e⟩ | ⟨c, rfl, hc⟩
 ·rcases hL with ⟨rfl, e'⟩ | ⟨c', rfl, hc'⟩
  ·simp [Instr.sliceBounds, e, e']
  ·have : h.2.toNat = len := by omega
   rw [this] at hc' ⊢
   simp [Instr.sliceBounds, hc']
 ·rcases hL with ⟨rfl, e'⟩ | ⟨c', rfl, hc'⟩
  ·cases b <;> simp at hc <;> simp [Instr.sliceBounds, hc, e']
  ·cases b <;> simp at hc <;> simp [Instr.sliceBounds, hc, hc']
theorem sliceA_sound {P : Program} {t : TypeId} {x v : AV} {lo hi mx : Option AV} {g g' : G} (h : sliceA P t x lo hi mx g = .done v g') :
  ∃ p, Keep g g' p ∧ (p → ∀ μ (w : World) cx clo chi cmx, GOk g.nx μ w.heap g.H → Rep g.nx μ x cx → RepO g.nx μ lo clo → RepO g.nx μ hi chi → RepO g.nx μ mx cmx →
   ∃ c, (Instr.sliceAt t cx clo chi cmx).run P w = .ok c w ∧ Rep g.nx μ v c) := by
 unfold sliceA at h
 obtain ⟨_, g0, a0, h0⟩ := done_of h
 obtain ⟨hm, rfl⟩ := okIf_done a0
 have hmx : mx = none := by cases mx <;> simp at hm; rfl
 subst hmx
 split at h0
 ·rename_i s own a len
  obtain ⟨e, g1, a1, h1⟩ := done_of h0
  obtain ⟨he, rfl⟩ := ofOpt_done a1
  obtain ⟨y, g2, a2, h2⟩ := done_of h1
  obtain ⟨hy, rfl⟩ := ofOpt_done a2
  obtain ⟨l, g3, a3, h3⟩ := done_of h2
  obtain ⟨hl, rfl⟩ := ofOpt_done a3
  obtain ⟨hb, g4, a4, h4⟩ := done_of h3
  obtain ⟨hh, rfl⟩ := ofOpt_done a4
  obtain ⟨_, g5, a5, h5⟩ := done_of h4
  have k5 := ck_done a5
  obtain ⟨i, d, hi', hd, e1, e2⟩ := lay_some hy
  have ht := sliceE_some he
  have run : ∀ {N : Nat} {μ : MM} {w : World} {A : Option Addr} {C : Nat} {clo chi : Option Value}, len ≤ C → (0 ≤ l.2 ∧ l.2 ≤ hb.2 ∧ hb.2 ≤ len) → RepO N μ lo clo → RepO N μ hi chi →
    (Instr.sliceAt t (.slice A len C) clo chi none).run P w = .ok (.slice (if C = l.2.toNat then A else A.map (·.add (l.2.toNat * i.size))) (hb.2.toNat - l.2.toNat) (C - l.2.toNat)) w := by
   intro N μ w A C clo chi hC hp r1 r2
   have := bounds_run (P := P) (b := true) hl hh r1 r2 hp.1 hp.2.1 hp.2.2 hC w
   simp [Instr.sliceAt, Instr.slice, run_underlying ht, this, run_sizeOf hi']
  cases hlo : lo with
  | none =>
   rw [hlo] at h5 hl
   simp only [Option.isNone_none, cond_true] at h5
   obtain ⟨rfl, rfl⟩ := ret_done h5
   simp only [boundA, Option.some.injEq] at hl
   subst hl
   refine ⟨_, k5, fun hp μ w cx clo chi cmx hg hx r1 r2 r3 => ?_⟩
   cases cmx with
   | some => exact r3.elim
   | none =>
   simp only [Rep] at hx
   obtain ⟨hag, A, C, rfl, hC, hA, hnn, hown⟩ := hx
   rw [hlo] at run
   refine ⟨_, run hC hp r1 r2, ?_⟩
   simp only at hp
   simp only [Rep]
   refine ⟨hag, A, C, ?_, by omega, fun hq => hA (by omega), fun hs => hnn (by simp only [Bool.or_eq_false_iff] at hs; exact hs.1), fun ho => ?_⟩
   ·simp [Addr.add_zero']
   ·obtain ⟨q1, q2, q3⟩ := hown ho
    exact ⟨q1, q2, q3.imp (fun q => ⟨q.1, q.2.1, by omega⟩) id⟩
  | some lv =>
   rw [hlo] at h5
   simp only [Option.isNone_some, cond_false] at h5
   obtain ⟨b, g6, a6, h6⟩ := done_of h5
   obtain ⟨hbk, rfl⟩ := getC_done a6
   obtain ⟨rfl, rfl⟩ := ret_done h6
   rw [k5.1] at hbk
   refine ⟨_, k5, fun hp μ w cx clo chi cmx hg hx r1 r2 r3 => ?_⟩
   cases cmx with
   | some => exact r3.elim
   | none =>
   simp only [Rep] at hx
   obtain ⟨hag, A, C, rfl, hC, hA, hnn, hown⟩ := hx
   rw [hlo] at run
   refine ⟨_, run hC hp r1 r2, ?_⟩
   simp only [Rep]
   refine ⟨by rw [stepA_g]; exact hag, _, _, rfl, by omega, fun hq => ?_, fun hs => ?_, fun ho => by cases ho⟩
   rotate_left
   ·have := hnn (by simp only [Bool.or_eq_false_iff] at hs; exact hs.1.1)
    split
    ·exact this
    ·rw [Option.isSome_map]; exact this
   have hsz : μ.sz a.g = b.2.1 := (hg.ok _ _ hbk).1
   rw [if_neg (by omega), hA (by omega), Option.map_some, e1, stepA_addr hsz]
 ·rename_i s cs
  obtain ⟨_, g1, a1, h1⟩ := done_of h0
  obtain ⟨hs, rfl⟩ := okIf_done a1
  obtain ⟨l, g3, a3, h3⟩ := done_of h1
  obtain ⟨hl, rfl⟩ := ofOpt_done a3
  obtain ⟨hb, g4, a4, h4⟩ := done_of h3
  obtain ⟨hh, rfl⟩ := ofOpt_done a4
  obtain ⟨_, g5, a5, h5⟩ := done_of h4
  obtain ⟨rfl, rfl⟩ := ret_done h5
  refine ⟨_, ck_done a5, fun hp μ w cx clo chi cmx hg hx r1 r2 r3 => ?_⟩
  cases cmx with
  | some => exact r3.elim
  | none =>
  simp only [Rep] at hx
  subst hx
  have := bounds_run (P := P) (b := false) (cap := cs.length) hl hh r1 r2 hp.1 hp.2.1 hp.2.2 (Nat.le_refl _) w
  refine ⟨_, by simp [Instr.sliceAt, Instr.slice, run_underlying (isStrD_some hs), ba_size, this]; rfl, ?_⟩
  simp only [Rep]
  rw [Lib.extract_eq]
 ·rename_i a
  obtain ⟨ne, g1, a1, h1⟩ := done_of h0
  obtain ⟨hne, rfl⟩ := ofOpt_done a1
  obtain ⟨y, g2, a2, h2⟩ := done_of h1
  obtain ⟨hy, rfl⟩ := ofOpt_done a2
  obtain ⟨_, g3, a3, h3⟩ := done_of h2
  obtain ⟨hlo, rfl⟩ := okIf_done a3
  have hlo' : lo = none := by cases lo <;> simp at hlo; rfl
  subst hlo'
  obtain ⟨hb, g4, a4, h4⟩ := done_of h3
  obtain ⟨hh, rfl⟩ := ofOpt_done a4
  obtain ⟨_, g5, a5, h5⟩ := done_of h4
  obtain ⟨rfl, rfl⟩ := ret_done h5
  obtain ⟨i, d, hi', hd, e1, e2⟩ := lay_some hy
  refine ⟨_, ck_done a5, fun hp μ w cx clo chi cmx hg hx r1 r2 r3 => ?_⟩
  cases cmx with
  | some => exact r3.elim
  | none =>
  simp only [Rep] at hx
  obtain ⟨hag, rfl⟩ := hx
  have hb' := bounds_run (P := P) (b := false) (cap := ne.1) (l := (false, 0)) (lo := none) rfl hh r1 r2 (Int.le_refl _) hp.1 hp.2 (Nat.le_refl _) w
  refine ⟨.slice (some (μ.addr a)) hb.2.toNat ne.1, ?_, ?_⟩
  ·simp only [Int.toNat_zero] at hb'
   simp [Instr.sliceAt, run_underlying (arrayE_some hne), Instr.sureAddr, hb', run_sizeOf hi', Addr.add_zero']
  ·simp only [Rep]
   exact ⟨hag, _, _, rfl, by omega, fun _ => rfl, fun _ => rfl, fun ho => by cases ho⟩
 ·cases h0
end Go.Sx
namespace Go.Sx
open M
theorem indexAddrA_sound {P : Program} {t : TypeId} {x ix v : AV} {g g' : G} (h : indexAddrA P t x ix g = .done v g') :
  ∃ p, Keep g g' p ∧ (p → ∀ μ (w : World) cx ci, GOk g.nx μ w.heap g.H → Rep g.nx μ x cx → Rep g.nx μ ix ci → ∃ c, (Instr.indexAt t cx ci).run P w = .ok c w ∧ Rep g.nx μ v c) := by
 unfold indexAddrA at h
 obtain ⟨n, g0, a0, h0⟩ := done_of h
 obtain ⟨hix, rfl⟩ := ofOpt_done a0
 obtain ⟨k, rfl⟩ := asInt_some hix
 split at h0
 ·rename_i s own a len
  obtain ⟨e, g1, a1, h1⟩ := done_of h0
  obtain ⟨he, rfl⟩ := ofOpt_done a1
  obtain ⟨_, g2, a2, h2⟩ := done_of h1
  have k2 := ck_done a2
  obtain ⟨y, g3, a3, h3⟩ := done_of h2
  obtain ⟨hy, rfl⟩ := ofOpt_done a3
  obtain ⟨b, g4, a4, h4⟩ := done_of h3
  obtain ⟨hb, rfl⟩ := getC_done a4
  obtain ⟨rfl, rfl⟩ := ret_done h4
  obtain ⟨i, d, hi', hd, e1, e2⟩ := lay_some hy
  rw [k2.1] at hb
  refine ⟨_, k2, fun hp μ w cx ci hg hx hi => ?_⟩
  simp only [Rep] at hx hi
  obtain ⟨hag, A, C, rfl, hC, hA, _⟩ := hx
  subst hi
  have hA' := hA (by omega)
  subst hA'
  refine ⟨.pointer (some ((μ.addr a).add (n.2.toNat * i.size))), ?_, ?_⟩
  ·have hp' : (0 ≤ n.2 ∧ n.2 < (len : Int)) := hp
   simp [Instr.indexAt, asIntOf, run_underlying (sliceE_some he), hp', run_sizeOf hi']
  ·simp only [Rep]
   rw [stepA_g, e1, stepA_addr (hg.ok _ _ hb).1]
   exact ⟨hag, rfl⟩
 ·rename_i a
  obtain ⟨ne, g1, a1, h1⟩ := done_of h0
  obtain ⟨hne, rfl⟩ := ofOpt_done a1
  obtain ⟨_, g2, a2, h2⟩ := done_of h1
  obtain ⟨y, g3, a3, h3⟩ := done_of h2
  obtain ⟨hy, rfl⟩ := ofOpt_done a3
  obtain ⟨rfl, rfl⟩ := ret_done h3
  obtain ⟨i, d, hi', hd, e1, e2⟩ := lay_some hy
  refine ⟨_, ck_done a2, fun hp μ w cx ci hg hx hi => ?_⟩
  simp only [Rep] at hx hi
  obtain ⟨hag, rfl⟩ := hx
  subst hi
  refine ⟨.pointer (some ((μ.addr a).add (n.2.toNat * i.size))), ?_, ?_⟩
  ·have hp' : (0 ≤ n.2 ∧ n.2 < (ne.1 : Int)) := hp
   simp [Instr.indexAt, asIntOf, run_underlying (arrayE_some hne), Instr.sureAddr, hp', run_sizeOf hi']
  ·simp only [Rep]
   refine ⟨hag, ?_⟩
   unfold MM.addr
   rw [Addr.add_lit, e1, Nat.add_assoc]
 ·rename_i len f
  obtain ⟨e, g1, a1, h1⟩ := done_of h0
  obtain ⟨he, rfl⟩ := ofOpt_done a1
  obtain ⟨_, g2, a2, h2⟩ := done_of h1
  have k2 := req_done a2
  obtain ⟨y, g3, a3, h3⟩ := done_of h2
  obtain ⟨hy, rfl⟩ := ofOpt_done a3
  obtain ⟨_, g4, a4, h4⟩ := done_of h3
  obtain ⟨hq, rfl⟩ := okIf_done a4
  obtain ⟨rfl, rfl⟩ := ret_done h4
  obtain ⟨i, d, hi', hd, e1, e2⟩ := lay_some hy
  refine ⟨_, k2, fun hp μ w cx ci hg hx hi => ?_⟩
  simp only [Rep] at hx hi
  obtain ⟨h0, b, C, cur, ty, z, rfl, hC, q1, q2⟩ := hx
  subst hi
  have hy1 : i.size = 1 := e1.trans (Nat.eq_of_beq_eq_true hq)
  refine ⟨.pointer (some ((⟨b, 0, none⟩ : Addr).add (n.2.toNat * i.size))), ?_, ?_⟩
  ·have hp' : (0 ≤ n.2 ∧ n.2 < (len : Int)) := hp
   simp [Instr.indexAt, asIntOf, run_underlying (sliceE_some he), hp', run_sizeOf hi']
  ·simp only [Rep]
   refine ⟨h0, b, n.2.toNat, cur, ty, z, ?_, q1, q2 _ (by have := hp.1; have := hp.2; omega)⟩
   rw [Addr.add_lit, hy1, Nat.mul_one, Nat.zero_add]
 ·cases h0
theorem partA_sound {P : Program} {ty : TypeId} {y : Nat × Bool} (hy : lay P ty = some y) {cs : List AV} {off : Nat} {v : AV} {g g' : G} (h : partA y cs off g = .done v g') :
  g = g' ∧ ∀ N μ (w : World) (xs : Array Value), Reps N μ cs xs.toList → ∃ c, (part ty xs off).run P w = .ok c w ∧ Rep N μ v c := by
 obtain ⟨i, d, hi', hd, e1, e2⟩ := lay_some hy
 unfold partA at h
 cases hA : y.2 with
 | true =>
  rw [hA, cond_true] at h
  obtain ⟨_, g1, a1, h1⟩ := done_of h
  obtain ⟨hq, rfl⟩ := okIf_done a1
  obtain ⟨rfl, rfl⟩ := ret_done h1
  refine ⟨rfl, fun N μ w xs hr => ⟨.agg (xs.extract off (off + i.size)), by simp [part, run_isAgg hd, e2, hA, run_sizeOf hi'], ?_⟩⟩
  simp only [Rep]
  refine ⟨_, rfl, ?_⟩
  have e : (xs.extract off (off + i.size)).toList = (xs.toList.drop off).take y.1 := by
   rw [Array.toList_extract, ← e1, List.extract_eq_take_drop]
   congr 1; omega
  rw [e]
  exact (hr.drop off).take _
 | false =>
  rw [hA, cond_false] at h
  obtain ⟨hv, rfl⟩ := ofOpt_done h
  refine ⟨rfl, fun N μ w xs hr => ?_⟩
  obtain ⟨c, hc, hrep⟩ := hr.get hv
  exact ⟨c, run_part hd (by rw [e2, hA]) (by simpa using hc) w, hrep⟩
theorem indexA_sound {P : Program} {t : TypeId} {x ix v : AV} {g g' : G} (h : indexA P t x ix g = .done v g') :
  ∃ p, Keep g g' p ∧ (p → ∀ N μ (w : World) cx ci, Rep N μ x cx → Rep N μ ix ci → ∃ c, (Instr.index t cx ci).run P w = .ok c w ∧ Rep N μ v c) := by
 unfold indexA at h
 obtain ⟨n, g0, a0, h0⟩ := done_of h
 obtain ⟨hix, rfl⟩ := ofOpt_done a0
 obtain ⟨k, rfl⟩ := asInt_some hix
 split at h0
 ·rename_i s l
  obtain ⟨_, g1, a1, h1⟩ := done_of h0
  obtain ⟨hs, rfl⟩ := okIf_done a1
  obtain ⟨_, g2, a2, h2⟩ := done_of h1
  obtain ⟨rfl, rfl⟩ := ret_done h2
  refine ⟨_, ck_done a2, fun hp N μ w cx ci hx hi => ?_⟩
  simp only [Rep] at hx hi
  subst hx hi
  have hlt : n.2.toNat < l.length := by omega
  refine ⟨.int .u8 (l.getD n.2.toNat 0).toNat, ?_, by simp only [Rep]⟩
  have hget : (⟨l.toArray⟩ : ByteArray)[n.2.toNat]? = some (l.getD n.2.toNat 0) := by
   have hsz : n.2.toNat < (⟨l.toArray⟩ : ByteArray).size := by rw [ba_size]; exact hlt
   rw [getElem?_pos (⟨l.toArray⟩ : ByteArray) n.2.toNat hsz]
   congr 1
   show l.toArray[n.2.toNat] = _
   simp [List.getD, hlt]
  simp [Instr.index, asIntOf, run_underlying (isStrD_some hs), hp.1, hget]
 ·rename_i cs
  obtain ⟨ne, g1, a1, h1⟩ := done_of h0
  obtain ⟨hne, rfl⟩ := ofOpt_done a1
  obtain ⟨_, g2, a2, h2⟩ := done_of h1
  have k2 := ck_done a2
  obtain ⟨y, g3, a3, h3⟩ := done_of h2
  obtain ⟨hy, rfl⟩ := ofOpt_done a3
  obtain ⟨rfl, hpart⟩ := partA_sound hy h3
  obtain ⟨i, d, hi', hd, e1, e2⟩ := lay_some hy
  refine ⟨_, k2, fun hp N μ w cx ci hx hi => ?_⟩
  simp only [Rep] at hx hi
  obtain ⟨xs, rfl, hr⟩ := hx
  subst hi
  obtain ⟨c, hc, hrep⟩ := hpart N μ w xs hr
  refine ⟨c, ?_, hrep⟩
  have hp' : (0 ≤ n.2 ∧ n.2 < (ne.1 : Int)) := hp
  rw [← e1] at hc
  simp [Instr.index, asIntOf, run_underlying (arrayE_some hne), hp', run_sizeOf hi', hc]
 ·cases h0
theorem fieldOf_some {P : Program} {t : TypeId} {f : Nat} {fd : Field} (h : fieldOf P t f = some fd) : ∃ fs, P.underlying t = some (.struct fs) ∧ fs[f]? = some fd := by
 unfold fieldOf at h
 split at h
 ·exact ⟨_, by assumption, h⟩
 ·cases h
theorem fieldAddrA_sound {P : Program} {t : TypeId} {x v : AV} {f : Nat} {g g' : G} (h : fieldAddrA P t x f g = .done v g') :
  g = g' ∧ ∀ N μ (w : World) cx, Rep N μ x cx → ∃ c, (Instr.fieldAt t cx f).run P w = .ok c w ∧ Rep N μ v c := by
 unfold fieldAddrA at h
 obtain ⟨a, g0, a0, h0⟩ := done_of h
 obtain ⟨hx, rfl⟩ := ofOpt_done a0
 obtain rfl := asPtr_some hx
 obtain ⟨fd, g1, a1, h1⟩ := done_of h0
 obtain ⟨hfd, rfl⟩ := ofOpt_done a1
 obtain ⟨y, g2, a2, h2⟩ := done_of h1
 obtain ⟨hy, rfl⟩ := ofOpt_done a2
 obtain ⟨_, g3, a3, h3⟩ := done_of h2
 obtain ⟨hq, rfl⟩ := okIf_done a3
 obtain ⟨rfl, rfl⟩ := ret_done h3
 obtain ⟨i, d, hi', hd, e1, e2⟩ := lay_some hy
 obtain ⟨fs, hfs, hf⟩ := fieldOf_some hfd
 refine ⟨rfl, fun N μ w cx hx => ?_⟩
 simp only [Rep] at hx
 obtain ⟨hag, rfl⟩ := hx
 have hn : i.size ≠ 0 := by
  rw [e1]; intro e0; rw [e0] at hq; simp at hq
 refine ⟨.pointer (some ((μ.addr a).add fd.offset)), by simp [Instr.fieldAt, run_underlying hfs, hf, Instr.sureAddr, fieldPlace, run_sizeOf hi', hn], ?_⟩
 simp only [Rep]
 refine ⟨hag, ?_⟩
 unfold MM.addr
 rw [Addr.add_lit, Nat.add_assoc]
theorem fieldA_sound {P : Program} {t : TypeId} {x v : AV} {f : Nat} {g g' : G} (h : fieldA P t x f g = .done v g') :
  g = g' ∧ ∀ N μ (w : World) cx, Rep N μ x cx → ∃ c, (Instr.field t cx f).run P w = .ok c w ∧ Rep N μ v c := by
 unfold fieldA at h
 obtain ⟨cs, g0, a0, h0⟩ := done_of h
 obtain ⟨hx, rfl⟩ := ofOpt_done a0
 obtain rfl := asAgg_some hx
 obtain ⟨fd, g1, a1, h1⟩ := done_of h0
 obtain ⟨hfd, rfl⟩ := ofOpt_done a1
 obtain ⟨y, g2, a2, h2⟩ := done_of h1
 obtain ⟨hy, rfl⟩ := ofOpt_done a2
 obtain ⟨rfl, hpart⟩ := partA_sound hy h2
 obtain ⟨fs, hfs, hf⟩ := fieldOf_some hfd
 refine ⟨rfl, fun N μ w cx hx => ?_⟩
 simp only [Rep] at hx
 obtain ⟨xs, rfl, hr⟩ := hx
 obtain ⟨c, hc, hrep⟩ := hpart N μ w xs hr
 exact ⟨c, by simp [Instr.field, run_underlying hfs, hf, Go.asAgg, hc], hrep⟩
theorem forder_some {x y : Nat} {o : Ordering} (h : forder x y = some o) : isnan x = false ∧ isnan y = false := by
 constructor
 ·cases hn : isnan x with
  | false => rfl
  | true =>
   obtain ⟨s, t, hr⟩ := read_of_nan hn
   unfold forder Ieee.Format.order at h
   rw [hr] at h; simp [Ieee.Datum.order] at h
 ·cases hn : isnan y with
  | false => rfl
  | true =>
   obtain ⟨s, t, hr⟩ := read_of_nan hn
   unfold forder Ieee.Format.order at h
   rw [hr] at h; cases hx : Ieee.double.read x <;> rw [hx] at h <;> simp [Ieee.Datum.order] at h
theorem decode_neg {b : Nat} (hb : b < 18446744073709551616) : (FloatKind.f64.decode b).neg = decide (9223372036854775808 ≤ b) := by
 have hs : Ieee.double.signWeight = 9223372036854775808 := by decide
 have e : (b / 9223372036854775808 % 2 == 1) = decide (9223372036854775808 ≤ b) := by
  rw [Bool.eq_iff_iff]; simp; omega
 show (Ieee.double.read b).neg = _
 unfold Ieee.Format.read
 rw [hs, ← e]
 dsimp only
 split
 ·rfl
 ·split
  ·rfl
  ·split <;> rfl
theorem mm_sound {P : Program} {isMax : Bool} {f2 : Value → Value → Sem Value} {fA : AV → AV → M AV}
  (hf : ∀ {x y v : AV} {g g' : G}, fA x y g = .done v g' → g = g' ∧ ∀ N μ (w : World) cx cy, Rep N μ x cx → Rep N μ y cy → ∃ c n, (f2 cx cy).run P w = .ok c { w with drawn := n } ∧ Rep N μ v c) :
  ∀ {l : List AV} {x v : AV} {g g' : G}, foldA fA x l g = .done v g' → g = g' ∧ ∀ N μ (w : World) cx cl, Rep N μ x cx → Reps N μ l cl → ∃ c n, (cl.foldlM f2 cx).run P w = .ok c { w with drawn := n } ∧ Rep N μ v c
 | [], x, v, g, g', h => by
  obtain ⟨rfl, rfl⟩ := ret_done h
  refine ⟨rfl, fun N μ w cx cl hx hl => ?_⟩
  simp only [Reps] at hl; subst hl
  exact ⟨cx, w.drawn, rfl, hx⟩
 | y :: l, x, v, g, g', h => by
  unfold foldA at h
  obtain ⟨z, g1, a1, h1⟩ := done_of h
  obtain ⟨rfl, k1⟩ := hf a1
  obtain ⟨rfl, k2⟩ := mm_sound (isMax := isMax) hf h1
  refine ⟨rfl, fun N μ w cx cl hx hl => ?_⟩
  simp only [Reps] at hl
  obtain ⟨cy, r, rfl, hy, hr⟩ := hl
  obtain ⟨c, n, e1, hc⟩ := k1 N μ w cx cy hx hy
  obtain ⟨c', n', e2, hc'⟩ := k2 N μ { w with drawn := n } c r hc hr
  exact ⟨c', n', by simp [e1, e2], hc'⟩
theorem maxA_sound {P : Program} {x y v : AV} {g g' : G} (h : maxA x y g = .done v g') :
  g = g' ∧ ∀ N μ (w : World) cx cy, Rep N μ x cx → Rep N μ y cy → ∃ c n, (Builtin.max2 cx cy).run P w = .ok c { w with drawn := n } ∧ Rep N μ v c := by
 unfold maxA at h
 split at h
 ·rename_i s k a s' k' b
  by_cases hk : k = k'
  ·subst hk
   simp only [decide_true, cond_true] at h
   obtain ⟨rfl, rfl⟩ := ret_done h
   refine ⟨rfl, fun N μ w cx cy hx hy => ?_⟩
   simp only [Rep] at hx hy; subst hx hy
   exact ⟨_, w.drawn, rfl, by simp only [Rep]⟩
  ·simp only [hk, decide_false, cond_false] at h; cases h
 ·rename_i s a s' b
  obtain ⟨rfl, rfl⟩ := ret_done h
  refine ⟨rfl, fun N μ w cx cy hx hy => ?_⟩
  simp only [Rep] at hx hy
  obtain ⟨a', rfl, ha⟩ := hx
  obtain ⟨b', rfl, hb⟩ := hy
  have ho := forder_of ha hb
  cases hq : forder a b with
  | none =>
   refine ⟨_, w.drawn + 1, by simp [Builtin.max2, ho, hq, Question.forced, choose, Sem.run]; rfl, ?_⟩
   simp only [Rep, fmax, hq]
   refine ⟨_, rfl, cn_of_nan (isnan_cut_mm _ _ _ _), ?_⟩
   simp only [Question.cut]; omega
  | some o =>
   obtain ⟨na, nb⟩ := forder_some hq
   have ea := ha.eq_of_not na
   have eb := hb.eq_of_not nb
   subst ea eb
   cases o with
   | lt => exact ⟨.float .f64 b', w.drawn, by simp [Builtin.max2, ho, hq], by simp only [Rep, fmax, hq]; exact ⟨b', rfl, hb⟩⟩
   | gt => exact ⟨.float .f64 a', w.drawn, by simp [Builtin.max2, ho, hq], by simp only [Rep, fmax, hq]; exact ⟨a', rfl, ha⟩⟩
   | eq =>
    refine ⟨.float .f64 (if decide (9223372036854775808 ≤ a') then b' else a'), w.drawn, by simp [Builtin.max2, ho, hq, decode_neg ha.2], ?_⟩
    simp only [Rep, fmax, hq]
    by_cases h9 : 9223372036854775808 ≤ a'
    ·exact ⟨b', by simp [h9], by simpa [h9] using hb⟩
    ·exact ⟨a', by simp [h9], by simpa [h9] using ha⟩
 ·cases h
theorem minA_sound {P : Program} {x y v : AV} {g g' : G} (h : minA x y g = .done v g') :
  g = g' ∧ ∀ N μ (w : World) cx cy, Rep N μ x cx → Rep N μ y cy → ∃ c n, (Builtin.min2 cx cy).run P w = .ok c { w with drawn := n } ∧ Rep N μ v c := by
 unfold minA at h
 split at h
 ·rename_i s k a s' k' b
  by_cases hk : k = k'
  ·subst hk
   simp only [decide_true, cond_true] at h
   obtain ⟨rfl, rfl⟩ := ret_done h
   refine ⟨rfl, fun N μ w cx cy hx hy => ?_⟩
   simp only [Rep] at hx hy; subst hx hy
   exact ⟨_, w.drawn, rfl, by simp only [Rep]⟩
  ·simp only [hk, decide_false, cond_false] at h; cases h
 ·rename_i s a s' b
  obtain ⟨rfl, rfl⟩ := ret_done h
  refine ⟨rfl, fun N μ w cx cy hx hy => ?_⟩
  simp only [Rep] at hx hy
  obtain ⟨a', rfl, ha⟩ := hx
  obtain ⟨b', rfl, hb⟩ := hy
  have ho := forder_of ha hb
  cases hq : forder a b with
  | none =>
   refine ⟨_, w.drawn + 1, by simp [Builtin.min2, ho, hq, Question.forced, choose, Sem.run]; rfl, ?_⟩
   simp only [Rep, fmin, hq]
   refine ⟨_, rfl, cn_of_nan (isnan_cut_mm _ _ _ _), ?_⟩
   simp only [Question.cut]; omega
  | some o =>
   obtain ⟨na, nb⟩ := forder_some hq
   have ea := ha.eq_of_not na
   have eb := hb.eq_of_not nb
   subst ea eb
   cases o with
   | lt => exact ⟨.float .f64 a', w.drawn, by simp [Builtin.min2, ho, hq], by simp only [Rep, fmin, hq]; exact ⟨a', rfl, ha⟩⟩
   | gt => exact ⟨.float .f64 b', w.drawn, by simp [Builtin.min2, ho, hq], by simp only [Rep, fmin, hq]; exact ⟨b', rfl, hb⟩⟩
   | eq =>
    refine ⟨.float .f64 (if decide (9223372036854775808 ≤ a') then a' else b'), w.drawn, by simp [Builtin.min2, ho, hq, decode_neg ha.2], ?_⟩
    simp only [Rep, fmin, hq]
    by_cases h9 : 9223372036854775808 ≤ a'
    ·exact ⟨a', by simp [h9], by simpa [h9] using ha⟩
    ·exact ⟨b', by simp [h9], by simpa [h9] using hb⟩
 ·cases h
end Go.Sx
namespace Go.Sx
open M
def After (g : G) (μ : MM) (w : World) (g' : G) (v : AV) (c : Value) (w' : World) : Prop :=
 ∃ μ', Rep g'.nx μ' v c ∧ GOk g'.nx μ' w'.heap g'.H ∧ Ext g μ w g' μ' w'
theorem After.keep {g g' : G} {μ : MM} {w : World} {v : AV} {c : Value} {p : Prop} (n : Nat) (k : Keep g g' p) (hg : GOk g.nx μ w.heap g.H) (hv : Rep g.nx μ v c) : After g μ w g' v c { w with drawn := n } :=
 ⟨μ, by rw [k.2.1]; exact hv, by rw [k.1, k.2.1]; exact hg, Ext.drawn μ w n k.1 k.2.1⟩
theorem After.keep0 {g g' : G} {μ : MM} {w : World} {v : AV} {c : Value} {p : Prop} (k : Keep g g' p) (hg : GOk g.nx μ w.heap g.H) (hv : Rep g.nx μ v c) : After g μ w g' v c w :=
 After.keep w.drawn k hg hv
theorem Gives.after {g g' : G} {μ : MM} {w : World} {v : AV} {r : Result Value} (h : Gives g μ w g' v r) : ∃ c w', r = .ok c w' ∧ After g μ w g' v c w' := by
 obtain ⟨c, w', μ', e, h1, h2, h3⟩ := h
 exact ⟨c, w', e, μ', h1, h2, h3⟩
theorem run_val {P : Program} {w w' : World} {s : Sem Value} {c : Value} (h : s.run P w = .ok c w') : (do pure (Next.value (← s)) : Sem Next).run P w = .ok (.value c) w' := by
 simp [h]
theorem run_skip {P : Program} {w w' : World} {s : Sem Unit} (h : s.run P w = .ok () w') : (do s; pure Next.skip : Sem Next).run P w = .ok .skip w' := by
 simp [h]
theorem Reps.one {N : Nat} {μ : MM} {x : AV} {args : Array Value} (h : Reps N μ [x] args.toList) : ∃ c, args = #[c] ∧ Rep N μ x c := by
 simp only [Reps] at h
 obtain ⟨c, r, e, h1, rfl⟩ := h
 exact ⟨c, by rw [← Array.toArray_toList (xs := args), e], h1⟩
theorem Reps.two {N : Nat} {μ : MM} {x y : AV} {args : Array Value} (h : Reps N μ [x, y] args.toList) : ∃ c d, args = #[c, d] ∧ Rep N μ x c ∧ Rep N μ y d := by
 simp only [Reps] at h
 obtain ⟨c, r, e, h1, d, r', rfl, h2, rfl⟩ := h
 exact ⟨c, d, by rw [← Array.toArray_toList (xs := args), e], h1, h2⟩
theorem builtinA_sound {P : Program} {b : Builtin} {ts : Array TypeId} {l : List AV} {v : AV} {g g' : G} (h : builtinA P b ts.toList l g = .done v g') (ty : TypeId) (cst : Array Bool) :
  (g'.cs → g.cs) ∧ (g'.cs → ∀ μ w (args : Array Value), GOk g.nx μ w.heap g.H → Reps g.nx μ l args.toList → ∃ c w', (builtin b ts ty cst args).run P w = .ok (.value c) w' ∧ After g μ w g' v c w') := by
 generalize hts : ts.toList = tl at h
 unfold builtinA at h
 split at h
 ·rename_i t x
  have ets : ts = #[t] := by rw [← Array.toArray_toList (xs := ts), hts]
  obtain ⟨rfl, hs⟩ := lenA_sound (ty := ty) h
  refine ⟨id, fun _ μ w args hg hr => ?_⟩
  obtain ⟨c, rfl, hx⟩ := hr.one
  obtain ⟨c', e, hv⟩ := hs g.nx μ w c hx
  exact ⟨c', w, run_val (by rw [ets]; exact e), .keep0 (Keep.refl g) hg hv⟩
 ·rename_i s x y
  obtain ⟨rfl, rfl⟩ := ret_done h
  refine ⟨id, fun _ μ w args hg hr => ?_⟩
  obtain ⟨c, rfl, hx⟩ := hr.one
  simp only [Rep] at hx
  obtain ⟨a, b, rfl, ha, hb⟩ := hx
  exact ⟨_, w, run_val (s := Builtin.real_ ts ty _) (by rfl), .keep0 (Keep.refl g) hg (by simp only [Rep]; exact ⟨a, rfl, ha⟩)⟩
 ·rename_i s x y
  obtain ⟨rfl, rfl⟩ := ret_done h
  refine ⟨id, fun _ μ w args hg hr => ?_⟩
  obtain ⟨c, rfl, hx⟩ := hr.one
  simp only [Rep] at hx
  obtain ⟨a, b, rfl, ha, hb⟩ := hx
  exact ⟨_, w, run_val (s := Builtin.imag_ ts ty _) (by rfl), .keep0 (Keep.refl g) hg (by simp only [Rep]; exact ⟨b, rfl, hb⟩)⟩
 ·rename_i s x s' y
  obtain ⟨rfl, rfl⟩ := ret_done h
  refine ⟨id, fun _ μ w args hg hr => ?_⟩
  obtain ⟨c, d, rfl, hx, hy⟩ := hr.two
  simp only [Rep] at hx hy
  obtain ⟨a, rfl, ha⟩ := hx
  obtain ⟨b, rfl, hb⟩ := hy
  exact ⟨_, w, run_val (s := Builtin.complex_ ts ty _) (by rfl), .keep0 (Keep.refl g) hg (by simp only [Rep]; exact ⟨a, b, rfl, ha, hb⟩)⟩
 ·rename_i t u x y
  have ets : ts = #[t, u] := by rw [← Array.toArray_toList (xs := ts), hts]
  obtain ⟨h1, h2⟩ := appendA_sound (ty := ty) h
  refine ⟨h1, fun hc μ w args hg hr => ?_⟩
  obtain ⟨c, d, rfl, hx, hy⟩ := hr.two
  obtain ⟨c', w', e, ha⟩ := (h2 hc μ w c d hg hx hy).after
  exact ⟨c', w', run_val (by rw [ets]; exact e), ha⟩
 ·rename_i t u x y
  have ets : ts = #[t, u] := by rw [← Array.toArray_toList (xs := ts), hts]
  obtain ⟨h1, h2⟩ := copyA_sound (u := u) (ty := ty) h
  refine ⟨h1, fun hc μ w args hg hr => ?_⟩
  obtain ⟨c, d, rfl, hx, hy⟩ := hr.two
  obtain ⟨c', w', e, ha⟩ := (h2 hc μ w c d hg hx hy).after
  exact ⟨c', w', run_val (by rw [ets]; exact e), ha⟩
 ·rename_i x l
  obtain ⟨rfl, hs⟩ := mm_sound (P := P) (isMax := true) (fun h => maxA_sound h) h
  refine ⟨id, fun _ μ w args hg hr => ?_⟩
  simp only [Reps] at hr
  obtain ⟨c, r, e, hx, hl⟩ := hr
  obtain ⟨c', n, e', hv⟩ := hs g.nx μ w c r hx hl
  exact ⟨c', _, run_val (s := Builtin.max_ ts ty _) (by simp only [Builtin.max_, e]; exact e'), .keep n (Keep.refl g) hg hv⟩
 ·rename_i x l
  obtain ⟨rfl, hs⟩ := mm_sound (P := P) (isMax := false) (fun h => minA_sound h) h
  refine ⟨id, fun _ μ w args hg hr => ?_⟩
  simp only [Reps] at hr
  obtain ⟨c, r, e, hx, hl⟩ := hr
  obtain ⟨c', n, e', hv⟩ := hs g.nx μ w c r hx hl
  exact ⟨c', _, run_val (s := Builtin.min_ ts ty _) (by simp only [Builtin.min_, e]; exact e'), .keep n (Keep.refl g) hg hv⟩
 ·exact (no_done h).elim
structure FrOk (N : Nat) (μ : MM) (fr : Fr) (tmps : Array Value) (n : Nat) : Prop where
 size : n ≤ tmps.size
 val : ∀ t v, fr.get t = some v → Rep N μ v (tmps.getD t undef)
theorem FrOk.eval {N : Nat} {μ : MM} {fr : Fr} {a : Act} {n : Nat} (h : FrOk N μ fr a.tmps n) (x : Operand) : Rep N μ (evalA fr x) (a.eval x) := by
 cases x with
 | tmp t =>
  simp only [evalA, Act.eval]
  cases ht : fr.get t with
  | none => simp [Rep]
  | some v => exact h.val t v ht
 | const v => exact Rep.ofVal N μ v
 | global g => simp [evalA, Rep]
 | func f => simp [evalA, Act.eval, Rep, Reps]
theorem FrOk.evals {N : Nat} {μ : MM} {fr : Fr} {a : Act} {n : Nat} (h : FrOk N μ fr a.tmps n) (l : Array Operand) : Reps N μ (l.toList.map (evalA fr)) (l.map a.eval).toList := by
 rw [Array.toList_map]; exact Reps.map _ _ _ fun x _ => h.eval x
theorem FrOk.evalsF {N : Nat} {μ : MM} {fr : Fr} {a : Act} {n : Nat} (h : FrOk N μ fr a.tmps n) (l : Array Operand) : Reps N μ (l.toList.map fun x => (evalA fr x).fl) (l.map a.eval).toList := by
 rw [Array.toList_map]; exact Reps.map _ _ _ fun x _ => (h.eval x).fl
theorem FrOk.evalO {N : Nat} {μ : MM} {fr : Fr} {a : Act} {n : Nat} (h : FrOk N μ fr a.tmps n) (o : Option Operand) : RepO N μ (o.map (evalA fr)) (o.map a.eval) := by
 cases o with
 | none => trivial
 | some x => exact h.eval x
theorem FrOk.later {N N' : Nat} {μ μ' : MM} {fr : Fr} {tmps : Array Value} {n : Nat} (h : FrOk N μ fr tmps n) (hu : MM.upto N μ μ') (hN : N ≤ N') : FrOk N' μ' fr tmps n :=
 ⟨h.size, fun t v ht => (h.val t v ht).later hu hN⟩
theorem FrOk.upd {N : Nat} {μ : MM} {fr : Fr} {tmps : Array Value} {n : Nat} (h : FrOk N μ fr tmps n) {d : Nat} (hd : d < n) {v : AV} {c : Value} (hv : Rep N μ v c) : FrOk N μ (fr.upd d (some v)) (tmps.setIfInBounds d c) n where
 size := by simpa using h.size
 val := fun t u ht => by
  have hs := h.size
  rw [T.get_upd] at ht
  split at ht
  ·rename_i e
   cases ht
   rw [e]
   have : d < (tmps.setIfInBounds d c).size := by simp; omega
   simp only [Array.getD_eq_getD_getElem?, Array.getElem?_eq_getElem this]
   simpa using hv
  ·rename_i e
   have := h.val t u ht
   simp only [Array.getD_eq_getD_getElem?] at this ⊢
   rw [Array.getElem?_setIfInBounds_ne (Ne.symm e)]
   exact this
theorem FrOk.know {N : Nat} {μ : MM} {fr : Fr} {tmps : Array Value} {n : Nat} (h : FrOk N μ fr tmps n) {d : Nat} {v u : AV} (hd : fr.get d = some u) (hu : ∀ c, Rep N μ u c → Rep N μ v c) : FrOk N μ (fr.upd d (some v)) tmps n where
 size := h.size
 val := fun t u' ht => by
  rw [T.get_upd] at ht
  split at ht
  ·rename_i e
   cases ht
   rw [e]
   exact hu _ (h.val d u hd)
  ·exact h.val t u' ht
theorem putA_sound {n : Nat} {fr fr' : Fr} {dst : Option Tmp} {v : AV} {g g' : G} (h : putA n fr dst v g = .done fr' g') :
  g = g' ∧ ∀ N μ (a : Act) c, FrOk N μ fr a.tmps n → Rep N μ v c → FrOk N μ fr' (a.put dst c).tmps n := by
 unfold putA at h
 cases dst with
 | none =>
  obtain ⟨rfl, rfl⟩ := ret_done h
  exact ⟨rfl, fun N μ a c hf _ => hf⟩
 | some d =>
  cases hd : Nat.blt d n with
  | false => simp only [hd, cond_false] at h; exact (no_done h).elim
  | true =>
   simp only [hd, cond_true] at h
   obtain ⟨rfl, rfl⟩ := ret_done h
   refine ⟨rfl, fun N μ a c hf hv => hf.upd (Nat.le_of_ble_eq_true hd) hv⟩
def CF (P : Program) (f : FuncId) (args : Array Value) (w : World) (R : Value → World → Prop) : Prop :=
 (∃ c w', (callFunc f args).run P w = .ok (.value c) w' ∧ R c w') ∨
 (∃ f' args' w', (callFunc f args).run P w = .ok (.enter f' args') w' ∧ Calls P f' args' w' fun e w'' => ∃ c, e = .returned c ∧ R c w'')
def CallIs (P : Program) (f : FuncId) (args : List AV) (v : AV) (g g' : G) : Prop :=
 (g'.cs → g.cs) ∧ (g'.cs → ∀ μ w (cargs : Array Value), GOk g.nx μ w.heap g.H → Reps g.nx μ args cargs.toList → CF P f cargs w fun c w' => After g μ w g' v c w')
def CallOk (P : Program) (call : Calls') : Prop := ∀ f args v g g', call f args g = .done v g' → CallIs P f args v g g'
def OpWp (P : Program) (o : Oper) (g : G) (μ : MM) (w : World) (g' : G) (v : AV) (a : Act) : Prop :=
 ∀ (next : Act → World → Prop) (Q : Exit → Act → World → Prop), (∀ c w', After g μ w g' v c w' → next (a.put o.dst c) w') → o.wp P a w next Q
theorem OpWp.value {P : Program} {o : Oper} {g : G} {μ : MM} {w w' : World} {g' : G} {v : AV} {a : Act} {c : Value} (h : (execOp a.eval o).run P w = .ok (.value c) w') (ha : After g μ w g' v c w') : OpWp P o g μ w g' v a := by
 intro next Q hn
 unfold Oper.wp
 rw [h]
 exact hn c w' ha
theorem OpWp.skip {P : Program} {o : Oper} {g : G} {μ : MM} {w w' : World} {g' : G} {v : AV} {a : Act} (h : (execOp a.eval o).run P w = .ok .skip w') (ha : After g μ w g' v undef w') : OpWp P o g μ w g' v a := by
 intro next Q hn
 unfold Oper.wp
 rw [h]
 exact hn undef w' ha
theorem OpWp.call {P : Program} {o : Oper} {g : G} {μ : MM} {w : World} {g' : G} {v : AV} {a : Act} {f : FuncId} {args : Array Value} (h : (execOp a.eval o).run P w = (callFunc f args).run P w)
  (hc : CF P f args w fun c w' => After g μ w g' v c w') : OpWp P o g μ w g' v a := by
 intro next Q hn
 unfold Oper.wp
 rw [h]
 rcases hc with ⟨c, w', e, ha⟩ | ⟨f', args', w', e, hcalls⟩
 ·rw [e]; exact hn c w' ha
 ·rw [e, Oper.upon_enter]
  refine hcalls.mono ?_
  rintro e1 w1 ⟨c, rfl, ha⟩
  exact hn c w1 ha
end Go.Sx
namespace Go.Sx
open M
theorem newO_ok {b : ABk} {o : Obj} {g g' : G} {nm : Nat} (h : newB b g = .done nm g') {μ : MM} {w w' : World} (hg : GOk g.nx μ w.heap g.H) (hw : Pushed w w' o)
  (hb : ∀ N μ' hp k, hp[μ'.blk k]? = some o → μ'.base k = 0 → BkOk N μ' hp k b) :
  GOk g'.nx (μ.set g.nx w.heap.size 0 0) w'.heap g'.H ∧ Ext g μ w g' (μ.set g.nx w.heap.size 0 0) w' := by
 obtain ⟨_, hH, hnx, _⟩ := newB_done h
 have hu : MM.upto g.nx μ (μ.set g.nx w.heap.size 0 0) := MM.upto_set μ (Nat.le_refl _)
 constructor
 ·rw [hH, hnx]
  refine hg.upd hu (by omega) (by omega) ?_ ?_ ?_ (hz_new (fun _ => rfl) (fun B hB => hw.old hB) fun bk _ _ _ => by rw [MM.set_blk]; exact Nat.le_refl _)
  ·rintro _ ⟨⟩
   exact hb _ _ _ _ (by rw [MM.set_blk]; exact hw.new) (MM.set_base ..)
  ·intro g1 b1 hg1 _ hr1
   exact hw.old ((hg.ok _ _ hg1).lt_size hr1)
  ·rintro _ ⟨⟩ _ g1 b1 hg1 _ hr1 _ e
   have := (hg.ok _ _ hg1).lt_size hr1
   rw [MM.set_blk] at e; omega
 ·refine ⟨by omega, hu, hw.os, hw.tape, hw.output, by rw [hw.heap]; simp, fun B hB _ => hw.old hB, fun B hB hm => ?_, fun _ _ q => .inl q⟩
  obtain ⟨g1, b1, hg1, ho1, hr1, e⟩ := hm
  rw [hH, T.get_upd] at hg1
  split at hg1
  ·rename_i e1
   rw [e1, MM.set_blk] at e; omega
  ·have hlt := hg.lt _ _ hg1
   rw [ABk.real_later hu hlt] at hr1
   rw [hu.blk _ hlt] at e
   exact ⟨g1, b1, hg1, ho1, hr1, e⟩
theorem setO_ok {b0 b : ABk} {o o0 : Obj} {g g' : G} {nm : Nat} {u : Unit} (h : setB nm b g = .done u g') {μ : MM} {w : World} (hg : GOk g.nx μ w.heap g.H) (h0 : g.H.get nm = some b0) (ho0 : b0.owned = true) (hr0 : b0.real μ nm)
  (hb : ∀ hp : Array Obj, hp[μ.blk nm]? = some o → BkOk g.nx μ hp nm b) (hB : w.heap[μ.blk nm]? = some o0) :
  GOk g'.nx μ (w.heap.setIfInBounds (μ.blk nm) o) g'.H ∧ Ext g μ w g' μ { w with heap := w.heap.setIfInBounds (μ.blk nm) o } := by
 obtain ⟨hH, hnx, hcs⟩ := setB_done h
 constructor
 ·rw [hH, hnx]
  refine hg.upd (.refl _ _) (Nat.le_refl _) (hg.lt _ _ h0) ?_ ?_ ?_ (hz_keep h0 ho0 hr0 fun B hne => (MapKept.heap_set hB).2 B hne)
  ·rintro _ ⟨⟩; exact hb _ (MapKept.heap_set hB).1
  ·intro g1 b1 hg1 hne hr1
   refine (MapKept.heap_set hB).2 _ fun e => hne ?_
   exact (hg.sep _ _ _ _ h0 hg1 ho0 hr0 hr1 e.symm).symm
  ·rintro _ ⟨⟩ hr1 g1 b1 hg1 hne hr2 _ e
   exact hne (hg.sep _ _ _ _ h0 hg1 ho0 hr0 hr2 e).symm
 ·refine ⟨by omega, .refl _ _, rfl, rfl, rfl, by simp, fun B _ hnm => (MapKept.heap_set hB).2 B fun e => hnm ?_, fun B hB hm => ?_, fun _ _ q => .inl q⟩
  ·rw [e]; exact May.of h0 ho0 hr0
  ·obtain ⟨g1, b1, hg1, ho1, hr1, rfl⟩ := hm
   rw [hH, T.get_upd] at hg1
   split at hg1
   ·rename_i e; rw [e]; exact May.of h0 ho0 hr0
   ·exact May.of hg1 ho1 hr1
def entG {α : Type} (enc : α → Value) (l : List (α × Int)) (es : List MapEntry) : Prop := es.map (fun e => (e.key, e.val)) = l.map fun p => (enc p.1, Value.int .i64 p.2)
section
variable {α : Type} {enc : α → Value} {eq : α → α → Bool} {d : TypeDesc} (hsame : ∀ a b, Instr.sameNow d (enc a) (enc b) = some (eq a b)) (heq : ∀ a b, eq a b = true → a = b)
include hsame
theorem find_none (x : α) (v : Int) (c : Nat) : ∀ (l : List (α × Int)) (es : List MapEntry) (i : Nat), entG enc l es → lfind eq x l = none →
  Instr.findNow d (enc x) es i = some none ∧ entG enc (lput eq x v l) (es ++ [{ key := enc x, val := .int .i64 v, born := c }])
 | [], es, i, h, _ => by
  have : es = [] := by simpa [entG] using h
  subst this
  exact ⟨rfl, by simp [entG, lput]⟩
 | p :: l, [], i, h, _ => by simp [entG] at h
 | p :: l, e :: es, i, h, hn => by
  have h0 : (e.key, e.val) = (enc p.1, Value.int .i64 p.2) ∧ entG enc l es := by simpa [entG] using h
  obtain ⟨he, hr⟩ := h0
  cases he' : eq x p.1 with
  | true => simp [lfind, he'] at hn
  | false =>
   simp only [lfind, he', cond_false] at hn
   obtain ⟨h1, h2⟩ := find_none x v c l es (i + 1) hr hn
   simp only [Prod.mk.injEq] at he
   refine ⟨by simp only [Instr.findNow, he.1, hsame, he', h1], ?_⟩
   simp only [lput, he', cond_false]
   simp only [entG, List.cons_append, List.map_cons] at h2 ⊢
   rw [he.1, he.2, h2]
include heq
theorem find_some (x : α) (v y : Int) : ∀ (l : List (α × Int)) (es : List MapEntry) (i : Nat), entG enc l es → lfind eq x l = some y →
  ∃ j e, Instr.findNow d (enc x) es i = some (some (i + j, .int .i64 y)) ∧ es[j]? = some e ∧ e.key = enc x ∧ entG enc (lput eq x v l) (es.modify j fun e => { e with key := enc x, val := .int .i64 v })
 | [], es, i, h, hs => by simp [lfind] at hs
 | p :: l, [], i, h, _ => by simp [entG] at h
 | p :: l, e :: es, i, h, hs => by
  have h0 : (e.key, e.val) = (enc p.1, Value.int .i64 p.2) ∧ entG enc l es := by simpa [entG] using h
  obtain ⟨he, hr⟩ := h0
  simp only [Prod.mk.injEq] at he
  cases he' : eq x p.1 with
  | true =>
   have e1 := heq _ _ he'
   simp only [lfind, he', cond_true, Option.some.injEq] at hs
   refine ⟨0, e, by simp only [Instr.findNow, he.1, hsame, he', he.2, hs]; rfl, rfl, by rw [he.1, e1], ?_⟩
   simp only [lput, he', cond_true]
   simp only [entG, List.modify_zero_cons, List.map_cons] at hr ⊢
   rw [hr]
  | false =>
   simp only [lfind, he', cond_false] at hs
   obtain ⟨j, e2, h1, h2, h3, h4⟩ := find_some x v y l es (i + 1) hr hs
   refine ⟨j + 1, e2, by simp only [Instr.findNow, he.1, hsame, he', h1]; congr 3; omega, by simpa using h2, h3, ?_⟩
   simp only [lput, he', cond_false]
   simp only [entG, List.modify_succ_cons, List.map_cons] at h4 ⊢
   rw [he.1, he.2, h4]
end
def encS (l : List UInt8) : Value := .string ⟨l.toArray⟩
def encI (n : Int) : Value := .int .i64 n
theorem sameS (a b : List UInt8) : Instr.sameNow .string (encS a) (encS b) = some (seq a b) := by
 unfold encS Instr.sameNow seq
 simp only [Option.some.injEq]
 have h1 := MapKept.bytes_beq (⟨a.toArray⟩ : ByteArray) ⟨b.toArray⟩
 have h2 : (⟨a.toArray⟩ : ByteArray) = ⟨b.toArray⟩ ↔ a = b := by
  constructor
  ·intro h; cases h; rfl
  ·intro h; rw [h]
 rw [h2] at h1
 cases hx : ((⟨a.toArray⟩ : ByteArray) == ⟨b.toArray⟩) with
 | true => rw [hx] at h1; rw [h1.1 rfl]; simp
 | false =>
  rw [hx] at h1
  symm
  rw [beq_eq_false_iff_ne]
  intro e
  exact absurd (h1.2 e) (by simp)
theorem sameI (a b : Int) : Instr.sameNow (.int .i64) (encI a) (encI b) = some (ieq a b) := by simp [encI, Instr.sameNow, ieq]
theorem isZ_of {o : Option AV} (h : isZ o = true) : o = some (.int false .i64 0) := by
 unfold isZ at h
 split at h
 ·rfl
 ·cases h
theorem zero_run {P : Program} {e : TypeId} (h : isZ (zeroOf P e) = true) (w : World) : (zeroValue e).run P w = .ok (.int .i64 0) w := by
 obtain ⟨i, v, hi, hz, hv⟩ := zeroOf_some (isZ_of h)
 have hr := Rep.ofVal 0 ⟨fun _ => 0, fun _ => 0, fun _ => 0, fun _ => 0, fun _ => none⟩ v
 rw [← hv] at hr
 simp only [Rep] at hr
 subst hr
 simp [zeroValue, typeInfo, hi, hz]
def MK.desc : MK → TypeDesc
 | .si => .string
 | .ii => .int .i64
theorem mapK_some {P : Program} {t : TypeId} {mk : MK} (h : mapK P t = some mk) : ∃ k e, P.underlying t = some (.map k e) ∧ P.underlying k = some mk.desc ∧ ∀ w, (zeroValue e).run P w = .ok (.int .i64 0) w := by
 unfold mapK at h
 split at h
 ·rename_i k e ht
  cases hz : isZ (zeroOf P e) with
  | false => rw [hz] at h; cases h
  | true =>
   rw [hz, cond_true] at h
   split at h
   ·rename_i hk; cases h; exact ⟨k, e, ht, hk, zero_run hz⟩
   ·rename_i hk; cases h; exact ⟨k, e, ht, hk, zero_run hz⟩
   ·cases h
 ·cases h
theorem asSI_some {b : ABk} {y : Bool × List (List UInt8 × Int)} (h : asSI b = some y) : b = .mSI y.1 y.2 := by
 unfold asSI at h; split at h <;> cases h; rfl
theorem asII_some {b : ABk} {y : Bool × List (Int × Int)} (h : asII b = some y) : b = .mII y.1 y.2 := by
 unfold asII at h; split at h <;> cases h; rfl
theorem asSit_some {b : ABk} {y : Bool × List UInt8 × Nat} (h : asSit b = some y) : b = .sit y.1 y.2.1 y.2.2 := by
 unfold asSit at h; split at h <;> cases h; rfl
theorem Rep.foundV (N : Nat) (μ : MM) (ok s : Bool) (r : Option Int) : Rep N μ (foundV ok s r) (if ok then .tuple #[.int .i64 (r.getD 0), .bool r.isSome] else .int .i64 (r.getD 0)) := by
 cases ok with
 | true => simp only [Sx.foundV, cond_true, if_true, Rep, Reps]; exact ⟨_, rfl, _, _, rfl, rfl, _, _, rfl, .cmpB .., rfl⟩
 | false => simp [Sx.foundV, Rep]
theorem look_run {α : Type} {enc : α → Value} {eq : α → α → Bool} {P : Program} {t : TypeId} {mk : MK} (hm : mapK P t = some mk) (hsame : ∀ a b, Instr.sameNow mk.desc (enc a) (enc b) = some (eq a b)) (heq : ∀ a b, eq a b = true → a = b)
  (hkey : ∀ a, MapKept.IsKey mk.desc (enc a)) (x : α) (l : List (α × Int)) {es : Array MapEntry} {clock : Nat} {w : World} {r : Nat} (hb : w.heap[r]? = some (.map es clock)) (he : entG enc l es.toList) (ok : Bool) :
  (Instr.lookup t (.map (some r)) (enc x) ok).run P w = .ok (if ok then .tuple #[.int .i64 ((lfind eq x l).getD 0), .bool (lfind eq x l).isSome] else .int .i64 ((lfind eq x l).getD 0)) w := by
 obtain ⟨k, e, ht, hk, hz⟩ := mapK_some hm
 cases hf : lfind eq x l with
 | none =>
  obtain ⟨h1, _⟩ := find_none hsame x 0 0 l es.toList 0 he hf
  simp [Instr.lookup, run_underlying ht, MapKept.run_getObj_map hb, MapKept.run_checkKey hk (hkey x), MapKept.run_findKey hk h1, hz, Result.andThen]
 | some y =>
  obtain ⟨j, e, h1, _⟩ := find_some hsame heq x 0 y l es.toList 0 he hf
  simp [Instr.lookup, run_underlying ht, MapKept.run_getObj_map hb, MapKept.run_checkKey hk (hkey x), MapKept.run_findKey hk h1, Result.andThen]
theorem look_nil {P : Program} {t : TypeId} {mk : MK} (hm : mapK P t = some mk) {key : Value} (hkey : MapKept.IsKey mk.desc key) (w : World) (ok : Bool) :
  (Instr.lookup t (.map none) key ok).run P w = .ok (if ok then .tuple #[.int .i64 0, .bool false] else .int .i64 0) w := by
 obtain ⟨k, e, ht, hk, hz⟩ := mapK_some hm
 have h1 : Instr.findNow mk.desc key [] 0 = some none := rfl
 simp [Instr.lookup, run_underlying ht, MapKept.run_checkKey hk hkey, MapKept.run_findKey hk h1, hz, Result.andThen]
theorem lookA_sound {P : Program} {t : TypeId} {x ix v : AV} {ok : Bool} {g g' : G} (h : lookA P t x ix ok g = .done v g') :
  g = g' ∧ ∀ μ w cx ci, GOk g.nx μ w.heap g.H → Rep g.nx μ x cx → Rep g.nx μ ix ci → ∃ c, (Instr.lookup t cx ci ok).run P w = .ok c w ∧ Rep g.nx μ v c := by
 unfold lookA at h
 obtain ⟨mk, g1, a1, h1⟩ := done_of h
 obtain ⟨hm, rfl⟩ := ofOpt_done a1
 split at h1
 ·obtain ⟨rfl, rfl⟩ := ret_done h1
  refine ⟨rfl, fun μ w cx ci hg hx hi => ?_⟩
  simp only [Rep] at hx hi
  subst hx hi
  exact ⟨_, look_nil hm (by simp [MK.desc, MapKept.IsKey]) w ok, Rep.foundV ..⟩
 ·obtain ⟨rfl, rfl⟩ := ret_done h1
  refine ⟨rfl, fun μ w cx ci hg hx hi => ?_⟩
  simp only [Rep] at hx hi
  subst hx hi
  exact ⟨_, look_nil hm (by simp [MK.desc, MapKept.IsKey]) w ok, Rep.foundV ..⟩
 ·obtain ⟨b, g2, a2, h2⟩ := done_of h1
  obtain ⟨hb, rfl⟩ := getB_done a2
  obtain ⟨y, g3, a3, h3⟩ := done_of h2
  obtain ⟨hy, rfl⟩ := ofOpt_done a3
  obtain ⟨rfl, rfl⟩ := ret_done h3
  refine ⟨rfl, fun μ w cx ci hg hx hi => ?_⟩
  simp only [Rep] at hx hi
  obtain ⟨_, rfl⟩ := hx
  subst hi
  have hbk := hg.ok _ _ hb
  rw [asSI_some hy] at hbk
  obtain ⟨es, cl, hB, hen⟩ := hbk
  exact ⟨_, look_run (enc := encS) (eq := seq) hm sameS (fun a b e => by simpa [seq] using e) (fun a => by simp [MK.desc, MapKept.IsKey, encS]) _ y.2 hB hen ok, Rep.foundV ..⟩
 ·obtain ⟨b, g2, a2, h2⟩ := done_of h1
  obtain ⟨hb, rfl⟩ := getB_done a2
  obtain ⟨y, g3, a3, h3⟩ := done_of h2
  obtain ⟨hy, rfl⟩ := ofOpt_done a3
  obtain ⟨rfl, rfl⟩ := ret_done h3
  refine ⟨rfl, fun μ w cx ci hg hx hi => ?_⟩
  simp only [Rep] at hx hi
  obtain ⟨_, rfl⟩ := hx
  subst hi
  have hbk := hg.ok _ _ hb
  rw [asII_some hy] at hbk
  obtain ⟨es, cl, hB, hen⟩ := hbk
  exact ⟨_, look_run (enc := encI) (eq := ieq) hm sameI (fun a b e => by simpa [ieq] using e) (fun a => by simp [MK.desc, MapKept.IsKey, encI]) _ y.2 hB hen ok, Rep.foundV ..⟩
 ·exact (no_done h1).elim
theorem put_run {α : Type} {enc : α → Value} {eq : α → α → Bool} {P : Program} {t : TypeId} {mk : MK} (hm : mapK P t = some mk) (hsame : ∀ a b, Instr.sameNow mk.desc (enc a) (enc b) = some (eq a b)) (heq : ∀ a b, eq a b = true → a = b)
  (hkey : ∀ a, MapKept.IsKey mk.desc (enc a)) (x : α) (v : Int) (l : List (α × Int)) {es : Array MapEntry} {clock : Nat} {w : World} {r : Nat} (hb : w.heap[r]? = some (.map es clock)) (he : entG enc l es.toList) :
  ∃ es' clock', (Instr.mapUpdate t (.map (some r)) (enc x) (.int .i64 v)).run P w = .ok () { w with heap := w.heap.setIfInBounds r (.map es' clock') } ∧ entG enc (lput eq x v l) es'.toList := by
 obtain ⟨k, e, ht, hk, hz⟩ := mapK_some hm
 cases hf : lfind eq x l with
 | none =>
  obtain ⟨h1, h2⟩ := find_none hsame x v clock l es.toList 0 he hf
  exact ⟨es.push { key := enc x, val := .int .i64 v, born := clock }, clock + 1, by
   simp [Instr.mapUpdate, run_underlying ht, MapKept.run_getObj_map hb, MapKept.run_checkKey hk (hkey x), MapKept.run_findKey hk h1, MapKept.run_setObj_map _ hb, Result.andThen], by simpa using h2⟩
 | some y =>
  obtain ⟨j, e, h1, h2, h3, h4⟩ := find_some hsame heq x v y l es.toList 0 he hf
  have hj : es[j]? = some e := by simpa using h2
  exact ⟨es.modify j fun e => { e with key := enc x, val := .int .i64 v }, clock, by
   simp [Instr.mapUpdate, run_underlying ht, MapKept.run_getObj_map hb, MapKept.run_checkKey hk (hkey x), MapKept.run_findKey hk h1, hj, h3, MapKept.run_keyThatStays (hkey x), MapKept.run_setObj_map _ hb, Result.andThen],
   by rw [Array.toList_modify]; exact h4⟩
theorem mapSetA_sound {P : Program} {t : TypeId} {m k v : AV} {u : Unit} {g g' : G} (h : mapSetA P t m k v g = .done u g') :
  (g'.cs → g.cs) ∧ ∀ μ w cm ck cv, GOk g.nx μ w.heap g.H → Rep g.nx μ m cm → Rep g.nx μ k ck → Rep g.nx μ v cv →
   ∃ w', (Instr.mapUpdate t cm ck cv).run P w = .ok () w' ∧ GOk g'.nx μ w'.heap g'.H ∧ Ext g μ w g' μ w' := by
 unfold mapSetA at h
 obtain ⟨mk, g1, a1, h1⟩ := done_of h
 obtain ⟨hm, rfl⟩ := ofOpt_done a1
 split at h1
 ·obtain ⟨b, g2, a2, h2⟩ := done_of h1
  obtain ⟨hb, rfl⟩ := getB_done a2
  obtain ⟨y, g3, a3, h3⟩ := done_of h2
  obtain ⟨hy, rfl⟩ := ofOpt_done a3
  refine ⟨fun hc => (setB_done h3).2.2 ▸ hc, fun μ w cm ck cv hg hx hi hv => ?_⟩
  simp only [Rep] at hx hi hv
  obtain ⟨_, rfl⟩ := hx
  subst hi hv
  have hbk := hg.ok _ _ hb
  rw [asSI_some hy] at hbk hb
  obtain ⟨es, cl, hB, hen⟩ := hbk
  obtain ⟨es', cl', hr, hen'⟩ := put_run (enc := encS) (eq := seq) hm sameS (fun a b e => by simpa [seq] using e) (fun a => by simp [MK.desc, MapKept.IsKey, encS]) _ _ y.2 hB hen
  obtain ⟨h5, h6⟩ := setO_ok h3 hg hb rfl trivial (o := .map es' cl') (fun hp hh => ⟨es', cl', hh, hen'⟩) hB
  exact ⟨_, hr, h5, h6⟩
 ·obtain ⟨b, g2, a2, h2⟩ := done_of h1
  obtain ⟨hb, rfl⟩ := getB_done a2
  obtain ⟨y, g3, a3, h3⟩ := done_of h2
  obtain ⟨hy, rfl⟩ := ofOpt_done a3
  refine ⟨fun hc => (setB_done h3).2.2 ▸ hc, fun μ w cm ck cv hg hx hi hv => ?_⟩
  simp only [Rep] at hx hi hv
  obtain ⟨_, rfl⟩ := hx
  subst hi hv
  have hbk := hg.ok _ _ hb
  rw [asII_some hy] at hbk hb
  obtain ⟨es, cl, hB, hen⟩ := hbk
  obtain ⟨es', cl', hr, hen'⟩ := put_run (enc := encI) (eq := ieq) hm sameI (fun a b e => by simpa [ieq] using e) (fun a => by simp [MK.desc, MapKept.IsKey, encI]) _ _ y.2 hB hen
  obtain ⟨h5, h6⟩ := setO_ok h3 hg hb rfl trivial (o := .map es' cl') (fun hp hh => ⟨es', cl', hh, hen'⟩) hB
  exact ⟨_, hr, h5, h6⟩
 ·exact (no_done h1).elim
theorem makeMapA_sound {P : Program} {t : TypeId} {r : Option AV} {v : AV} {g g' : G} (h : makeMapA P t r g = .done v g') :
  (g'.cs → g.cs) ∧ ∀ μ w cr, GOk g.nx μ w.heap g.H → RepO g.nx μ r cr → ∃ c w', (Instr.makeMap t cr).run P w = .ok c w' ∧ After g μ w g' v c w' := by
 unfold makeMapA at h
 obtain ⟨mk, g1, a1, h1⟩ := done_of h
 obtain ⟨hm, rfl⟩ := ofOpt_done a1
 obtain ⟨_, g2, a2, h2⟩ := done_of h1
 obtain ⟨hq, rfl⟩ := okIf_done a2
 obtain ⟨nm, g3, a3, h3⟩ := done_of h2
 obtain ⟨rfl, rfl⟩ := ret_done h3
 obtain ⟨hnm, hH, hnx, hcs⟩ := newB_done a3
 refine ⟨fun hc => hcs ▸ hc, fun μ w cr hg hr => ?_⟩
 obtain ⟨k, e, ht, hk, hz⟩ := mapK_some hm
 have hrun : (Instr.makeMap t cr).run P w = .ok (.map (some w.heap.size)) (w.alloc (.map #[] 0)) := by
  cases cr with
  | none => simp [Instr.makeMap, Result.andThen]
  | some c =>
   cases r with
   | none => simp [RepO] at hr
   | some a =>
    simp only [hintOk] at hq
    obtain ⟨y, hy⟩ := Option.isSome_iff_exists.1 hq
    obtain ⟨kk, rfl⟩ := asInt_some hy
    simp only [RepO, Rep] at hr
    subst hr
    simp [Instr.makeMap, run_underlying ht, Go.asInt, asIntOf, Result.andThen]
 obtain ⟨h5, h6⟩ := newO_ok a3 hg (.alloc w (.map #[] 0)) (by
  intro N μ' hp k' hh _
  cases mk
  ·exact ⟨#[], 0, hh, by simp [entSI]⟩
  ·exact ⟨#[], 0, hh, by simp [entII]⟩)
 refine ⟨_, _, hrun, _, ?_, h5, h6⟩
 simp only [Rep]
 refine ⟨by omega, ?_⟩
 rw [hnm, MM.set_blk]
theorem asStr_some {x : AV} {y : Bool × List UInt8} (h : asStr x = some y) : x = .str y.1 y.2 := by
 unfold asStr at h; split at h <;> cases h; rfl
theorem isStrD_some' {P : Program} {t : TypeId} (h : isStrD P t = true) : P.underlying t = some .string := by
 unfold isStrD at h; split at h
 ·assumption
 ·cases h
theorem rangeA_sound {P : Program} {t : TypeId} {x v : AV} {g g' : G} (h : rangeA P t x g = .done v g') :
  (g'.cs → g.cs) ∧ ∀ μ w cx, GOk g.nx μ w.heap g.H → Rep g.nx μ x cx → ∃ c w', (Instr.range t cx).run P w = .ok c w' ∧ After g μ w g' v c w' := by
 unfold rangeA at h
 obtain ⟨y, g1, a1, h1⟩ := done_of h
 obtain ⟨hy, rfl⟩ := ofOpt_done a1
 obtain ⟨_, g2, a2, h2⟩ := done_of h1
 obtain ⟨hq, rfl⟩ := okIf_done a2
 obtain ⟨nm, g3, a3, h3⟩ := done_of h2
 obtain ⟨rfl, rfl⟩ := ret_done h3
 obtain ⟨hnm, hH, hnx, hcs⟩ := newB_done a3
 refine ⟨fun hc => hcs ▸ hc, fun μ w cx hg hx => ?_⟩
 rw [asStr_some hy] at hx
 simp only [Rep] at hx
 subst hx
 obtain ⟨h5, h6⟩ := newO_ok a3 hg (.alloc w (.stringIter ⟨y.2.toArray⟩ 0)) (by intro N μ' hp k' hh hh2; exact ⟨hh, hh2⟩)
 refine ⟨_, _, run_range_string w t _ (isStrD_some' hq), _, ?_, h5, h6⟩
 simp only [Rep]
 refine ⟨by omega, ?_⟩
 rw [hnm]; simp [MM.addr, MM.set_base, MM.set_blk]
theorem decS_done {s b d : Bool} {g g' : G} (h : decS s b g = .done d g') : Keep g g' (b = d) := by
 unfold decS at h
 cases s with
 | true => exact dec_done h
 | false => obtain ⟨rfl, rfl⟩ := ret_done h; exact (Keep.refl _).mono fun _ => rfl
theorem nextA_sound {P : Program} {it v : AV} {isString : Bool} {g g' : G} (h : nextA it isString g = .done v g') (ty : TypeId) :
  (g'.cs → g.cs) ∧ (g'.cs → ∀ μ w ci, GOk g.nx μ w.heap g.H → Rep g.nx μ it ci → ∃ c w', (Instr.next ci isString ty).run P w = .ok c w' ∧ After g μ w g' v c w') := by
 unfold nextA at h
 obtain ⟨_, g1, a1, h1⟩ := done_of h
 obtain ⟨hs, rfl⟩ := okIf_done a1
 subst hs
 obtain ⟨a, g2, a2, h2⟩ := done_of h1
 obtain ⟨ha, rfl⟩ := ofOpt_done a2
 obtain ⟨_, g3, a3, h3⟩ := done_of h2
 obtain ⟨hq, rfl⟩ := okIf_done a3
 obtain ⟨b, g4, a4, h4⟩ := done_of h3
 obtain ⟨hb, rfl⟩ := getB_done a4
 obtain ⟨y, g5, a5, h5⟩ := done_of h4
 obtain ⟨hy, rfl⟩ := ofOpt_done a5
 obtain ⟨d, g6, a6, h6⟩ := done_of h5
 have k := decS_done a6
 rw [asSit_some hy] at hb
 rw [Bool.and_eq_true] at hq
 have hi0 := Nat.eq_of_beq_eq_true hq.1
 have ho0 := Nat.eq_of_beq_eq_true hq.2
 have haddr : ∀ μ : MM, μ.addr a = ⟨μ.blk a.g, μ.base a.g, none⟩ := fun μ => by simp [MM.addr, hi0, ho0]
 cases d with
 | true =>
  rw [cond_true] at h6
  obtain ⟨u, g7, a7, h7⟩ := done_of h6
  obtain ⟨rfl, rfl⟩ := ret_done h7
  obtain ⟨hH, hnx, hcs⟩ := setB_done a7
  refine ⟨fun hc => (k.2.2 (hcs ▸ hc)).1, fun hc μ w ci hg hit => ?_⟩
  have hlt := of_decide_eq_true (k.2.2 (hcs ▸ hc)).2
  rw [asPtr_some ha] at hit
  simp only [Rep] at hit
  obtain ⟨_, rfl⟩ := hit
  have hB : w.heap[μ.blk a.g]? = some (.stringIter ⟨y.2.1.toArray⟩ y.2.2) := (hg.ok _ _ hb).1
  have hB0 : μ.base a.g = 0 := (hg.ok _ _ hb).2
  rw [← k.1, ← k.2.1] at hg
  rw [← k.1] at hb
  obtain ⟨h8, h9⟩ := setO_ok a7 hg hb rfl trivial (o := .stringIter ⟨y.2.1.toArray⟩ (y.2.2 + (Utf8.decode ⟨y.2.1.toArray⟩ y.2.2).2)) (fun hp hh => ⟨hh, hB0⟩) hB
  refine ⟨.tuple #[.bool true, goInt y.2.2, .int .i32 (Utf8.decode ⟨y.2.1.toArray⟩ y.2.2).1], _, ?_, μ, ?_, h8, Ext.of_keep k h9⟩
  ·rw [haddr, hB0]
   have hlt' : y.2.2 < (⟨y.2.1.toArray⟩ : ByteArray).size := by rw [ba_size]; exact hlt
   simp [Instr.next, getObj, setObj, Sem.run, hB, Result.andThen, hlt']
  ·simp only [Rep, Reps, goInt]
   exact ⟨_, rfl, _, _, rfl, rfl, _, _, rfl, rfl, _, _, rfl, rfl, rfl⟩
 | false =>
  rw [cond_false] at h6
  obtain ⟨rfl, rfl⟩ := ret_done h6
  refine ⟨fun hc => (k.2.2 hc).1, fun hc μ w ci hg hit => ?_⟩
  have hlt := of_decide_eq_false (k.2.2 hc).2
  rw [asPtr_some ha] at hit
  simp only [Rep] at hit
  obtain ⟨_, rfl⟩ := hit
  have hB : w.heap[μ.blk a.g]? = some (.stringIter ⟨y.2.1.toArray⟩ y.2.2) := (hg.ok _ _ hb).1
  have hB0 : μ.base a.g = 0 := (hg.ok _ _ hb).2
  refine ⟨.tuple #[.bool false], w, ?_, .keep0 k hg ?_⟩
  ·rw [haddr, hB0]
   have hlt' : ¬ y.2.2 < (⟨y.2.1.toArray⟩ : ByteArray).size := by rw [ba_size]; exact hlt
   simp [Instr.next, getObj, setObj, Sem.run, hB, Result.andThen, hlt']
  ·simp only [Rep, Reps]
   exact ⟨_, rfl, _, _, rfl, rfl, rfl⟩
theorem byteOf_some {r : List AV} {n : Int} (h : byteOf r = some n) : ∃ s, r = [.int s .u8 n] := by
 unfold byteOf at h; split at h
 ·cases h; exact ⟨_, rfl⟩
 ·cases h
theorem bytesOf_get {rows : Nat → List AV} : ∀ {m i : Nat} {l : List Int}, bytesOf rows i m = some l → l.length = m ∧ ∀ j n, l[j]? = some n → ∃ s, rows (i + j) = [.int s .u8 n]
 | 0, i, l, h => by simp [bytesOf] at h; subst h; exact ⟨rfl, fun j n h => by simp at h⟩
 | m + 1, i, l, h => by
  unfold bytesOf at h
  split at h
  ·rename_i x l' hx hl
   cases h
   obtain ⟨h1, h2⟩ := bytesOf_get hl
   refine ⟨by simp [h1], fun j n hn => ?_⟩
   cases j with
   | zero => simp at hn; subst hn; exact byteOf_some hx
   | succ j =>
    obtain ⟨s, hs⟩ := h2 j n (by simpa using hn)
    exact ⟨s, by rw [← hs]; congr 1; omega⟩
  ·cases h
theorem foldl_push (l : List Int) : ∀ s : ByteArray, l.foldl (fun r n => r.push (UInt8.ofNat n.toNat)) s = s ++ ⟨(l.map fun n => UInt8.ofNat n.toNat).toArray⟩ := by
 induction l with
 | nil => intro s; apply ByteArray.ext; simp
 | cons n l ih =>
  intro s
  rw [List.foldl_cons, ih]
  apply ByteArray.ext
  simp [ByteArray.data_append, ByteArray.push]
theorem isBytes_some {P : Program} {t : TypeId} (h : isBytes P t = true) : ∃ e, P.underlying t = some (.slice e) ∧ P.underlying e = some (.int .u8) := by
 unfold isBytes at h
 split at h
 ·rename_i e he
  split at h
  ·exact ⟨e, sliceE_some he, by assumption⟩
  ·cases h
 ·cases h
theorem textA_sound {P : Program} {src dst : TypeId} {x v : AV} {g g' : G} (h : textA P src dst x g = .done v g') :
  ∃ p, Keep g g' p ∧ (p → ∀ μ w cx, GOk g.nx μ w.heap g.H → Rep g.nx μ x cx → ∃ c, (convert src dst cx).run P w = .ok c w ∧ Rep g.nx μ v c) := by
 unfold textA at h
 obtain ⟨_, g1, a1, h1⟩ := done_of h
 obtain ⟨hq, rfl⟩ := okIf_done a1
 rw [Bool.and_eq_true] at hq
 obtain ⟨y, g2, a2, h2⟩ := done_of h1
 obtain ⟨p, k, hs⟩ := srcOf_sound a2 (by omega)
 obtain ⟨_, g3, a3, h3⟩ := done_of h2
 obtain ⟨hy1, rfl⟩ := okIf_done a3
 obtain ⟨l, g4, a4, h4⟩ := done_of h3
 obtain ⟨hl, rfl⟩ := ofOpt_done a4
 obtain ⟨rfl, rfl⟩ := ret_done h4
 refine ⟨p, k, fun hp μ w cx hg hx => ?_⟩
 obtain ⟨B, C, rfl, hsrc⟩ := hs hp g.nx μ w cx hg hx
 obtain ⟨e, hse, heb⟩ := isBytes_some hq.1
 have hd := isStrD_some' hq.2
 rw [run_convert_bytes_string w src dst e _ _ _ hse heb hd]
 obtain ⟨hll, hget⟩ := bytesOf_get hl
 cases B with
 | none =>
  have h0 : y.2.1 = 0 := by
   rcases Nat.eq_zero_or_pos y.2.1 with h0 | h0
   ·exact h0
   ·obtain ⟨ad, news, hB, _⟩ := hsrc h0
    cases hB
  have hl0 : l = [] := List.eq_nil_of_length_eq_zero (by omega)
  subst hl0
  exact ⟨.string .empty, by simp [Conv.bytesToString], by simp only [Rep]; rfl⟩
 | some a =>
  have hload : (loadCells a y.2.1).run P w = .ok (l.map (Value.int .u8)).toArray w := by
   rcases Nat.eq_zero_or_pos y.2.1 with h0 | h0
   ·have hl0 : l = [] := List.eq_nil_of_length_eq_zero (by omega)
    subst hl0
    rw [h0]; simp [loadCells, loadCellsFrom]
   ·obtain ⟨ad, news, hB, hlen, hcell, _, hrow⟩ := hsrc h0
    cases hB
    have hnews : news = l.map (Value.int .u8) := by
     apply List.ext_getElem?
     intro j
     by_cases hj : j < y.2.1
     ·obtain ⟨rl, rc⟩ := hrow j hj
      have hj' : j < l.length := by omega
      obtain ⟨s, hr⟩ := hget j l[j] (List.getElem?_eq_getElem hj')
      rw [Nat.zero_add] at hr
      obtain ⟨_, c, h1, h2⟩ := rc 0 (.int s .u8 l[j]) (by rw [hr]; rfl)
      simp only [Rep] at h2
      subst h2
      have h1' : news[j]? = some (.int .u8 l[j]) := by simpa using h1
      rw [h1', List.getElem?_map, List.getElem?_eq_getElem hj']; rfl
     ·rw [List.getElem?_eq_none (by omega), List.getElem?_eq_none (by simp; omega)]
    have := run_loadCells_list (P := P) w a news hcell
    rw [hlen, Nat.mul_one] at this
    rw [this, hnews]
  refine ⟨_, run_bytesToString w a _ C l hload, ?_⟩
  rw [foldl_push]
  simp only [Rep]
  congr 1
theorem convAll_sound {P : Program} {s d : TypeId} {x v : AV} {g g' : G} (h : convAll P s d x g = .done v g') :
  ∃ p, Keep g g' p ∧ (p → ∀ μ w cx, GOk g.nx μ w.heap g.H → Rep g.nx μ x cx → ∃ c, (convert s d cx).run P w = .ok c w ∧ Rep g.nx μ v c) := by
 unfold convAll at h
 split at h
 ·exact textA_sound h
 ·exact textA_sound h
 ·obtain ⟨p, k, hs⟩ := convA_sound h
  exact ⟨p, k, fun hp μ w cx hg hx => hs hp g.nx μ w cx hx⟩
end Go.Sx
namespace Go.Sx
open M
theorem PartsOk.of {N : Nat} {μ : MM} {fr : Fr} {a : Act} {n : Nat} (h : FrOk N μ fr a.tmps n) (ps : Array (Nat × Operand)) :
  PartsOk N μ (ps.toList.map fun p => (p.1, evalA fr p.2)) (ps.map fun (i, x) => (i, a.eval x)).toList := by
 constructor
 ·simp [List.map_map, Function.comp_def]
 ·intro i p q hp hq
  rw [Array.toList_map] at hq
  rw [List.getElem?_map] at hp hq
  cases hx : ps.toList[i]? with
  | none => rw [hx] at hp; cases hp
  | some y =>
   rw [hx] at hp hq
   cases hp; cases hq
   exact h.eval y.2
theorem opA_sound {P : Program} {call : Calls'} (hcall : CallOk P call) {fr : Fr} {o : Oper} {v : AV} {g g' : G} (h : opA P call fr o g = .done v g') :
  (g'.cs → g.cs) ∧ (g'.cs → ∀ μ w (a : Act) n, GOk g.nx μ w.heap g.H → FrOk g.nx μ fr a.tmps n → OpWp P o g μ w g' v a) := by
 unfold opA at h
 generalize ho : o.op = op0 at h
 split at h
 ·-- move
  rename_i x
  obtain ⟨rfl, rfl⟩ := ret_done h
  refine ⟨id, fun _ μ w a n hg hf => .value (by simp only [execOp, ho]; rfl) (.keep0 (Keep.refl g) hg (hf.eval x))⟩
 ·rename_i x
  obtain ⟨rfl, rfl⟩ := ret_done h
  refine ⟨id, fun _ μ w a n hg hf => .value (by simp only [execOp, ho]; rfl) (.keep0 (Keep.refl g) hg (hf.eval x))⟩
 ·-- pick
  rename_i c x y
  generalize hc : evalA fr c = vc at h
  split at h
  ·rename_i t
   obtain ⟨rfl, rfl⟩ := ret_done h
   refine ⟨id, fun _ μ w a n hg hf => ?_⟩
   have hcv := hf.eval c
   rw [hc] at hcv
   simp only [Rep] at hcv
   refine .value (c := if t then a.eval x else a.eval y) (w' := w) (by simp [execOp, ho, hcv, asBool]) (.keep0 (Keep.refl g) hg ?_)
   cases t
   ·exact hf.eval y
   ·exact hf.eval x
  ·rename_i t
   obtain ⟨d, g1, a1, h1⟩ := done_of h
   obtain ⟨rfl, rfl⟩ := ret_done h1
   have k := dec_done a1
   refine ⟨fun hcs => (k.2.2 hcs).1, fun hcs μ w a n hg hf => ?_⟩
   have hd := (k.2.2 hcs).2
   have hcv := hf.eval c
   rw [hc] at hcv
   simp only [Rep] at hcv
   refine .value (c := if t then a.eval x else a.eval y) (w' := w) (by simp [execOp, ho, hcv, asBool]) (.keep0 k hg ?_)
   subst hd
   cases t
   ·exact hf.eval y
   ·exact hf.eval x
  ·exact (no_done h).elim
 ·-- alloc
  rename_i e
  obtain ⟨z, g1, a1, h1⟩ := done_of h
  obtain ⟨hz, rfl⟩ := ofOpt_done a1
  obtain ⟨i, zv, hi, hzv, rfl⟩ := zeroOf_some hz
  obtain ⟨hc, hs⟩ := boxA_sound (P := P) (t := e) h1
  refine ⟨hc, fun _ μ w a n hg hf => ?_⟩
  obtain ⟨c, w', e1, ha⟩ := (hs μ w zv hg (Rep.ofVal _ _ zv)).after
  refine .value (w' := w') (c := c) ?_ ha
  simp only [execOp, ho]
  refine run_val ?_
  have : (zeroValue e).run P w = .ok zv w := by simp [zeroValue, typeInfo, hi, hzv]
  simp only [Instr.alloc, Sem.run_bind, this]
  exact e1
 ·-- box
  rename_i e x
  obtain ⟨hc, hs⟩ := boxA_sound (P := P) (t := e) h
  refine ⟨hc, fun _ μ w a n hg hf => ?_⟩
  obtain ⟨c, w', e1, ha⟩ := (hs μ w _ hg (hf.eval x)).after
  exact .value (w' := w') (c := c) (by simp only [execOp, ho]; exact run_val e1) ha
 ·-- build
  rename_i t ps
  obtain ⟨rfl, hs⟩ := buildA_sound h
  refine ⟨id, fun _ μ w a n hg hf => ?_⟩
  obtain ⟨c, e1, hv⟩ := hs g.nx μ w _ (PartsOk.of hf ps)
  exact .value (by simp only [execOp, ho]; exact run_val e1) (.keep0 (Keep.refl g) hg hv)
 ·-- buildSlice
  rename_i t len ps
  obtain ⟨hc, hs⟩ := buildSliceA_sound h
  refine ⟨hc, fun _ μ w a n hg hf => ?_⟩
  obtain ⟨c, w', e1, ha⟩ := (hs μ w _ hg (PartsOk.of hf ps)).after
  exact .value (by simp only [execOp, ho]; exact run_val e1) ha
 ·-- load
  rename_i t x
  obtain ⟨k, hs⟩ := loadX_sound h
  refine ⟨fun hc => (k.2.2 hc).1, fun hc μ w a n hg hf => ?_⟩
  obtain ⟨A, c, hxv, e1, hv⟩ := hs hc _ μ w _ hg (hf.eval x)
  exact .value (by simp only [execOp, ho, hxv]; exact run_val (s := Instr.loadAt t _) (by simp only [Instr.loadAt, Instr.sureAddr, Sem.run_bind]; exact e1)) (.keep0 k hg hv)
 ·-- store
  rename_i t x y
  obtain ⟨ad, g1, a1, h1⟩ := done_of h
  obtain ⟨hx, rfl⟩ := ofOpt_done a1
  have hx := asPtr_some hx
  obtain ⟨_, g2, a2, h2⟩ := done_of h1
  obtain ⟨rfl, rfl⟩ := ret_done h2
  obtain ⟨hc0, hs⟩ := storeA_sound a2
  refine ⟨hc0, fun hc μ w a n hg hf => ?_⟩
  have hxv := hf.eval x
  rw [hx] at hxv
  simp only [Rep] at hxv
  obtain ⟨w', e1, hg', hext⟩ := hs hc μ w _ hg (hf.eval y)
  exact .skip (w' := w') (by simp only [execOp, ho, hxv.2]; exact run_skip (s := Instr.storeAt t _ _) (by simp only [Instr.storeAt, Instr.sureAddr, Sem.run_bind]; exact e1)) ⟨μ, by simp [Rep], hg', hext⟩
 ·-- nilCheck
  rename_i x
  generalize hx : evalA fr x = vx at h
  split at h
  ·rename_i ad
   obtain ⟨rfl, rfl⟩ := ret_done h
   refine ⟨id, fun _ μ w a n hg hf => ?_⟩
   have hxv := hf.eval x
   rw [hx] at hxv
   have hx2 := hxv
   simp only [Rep] at hx2
   refine .value (c := a.eval x) (w' := w) (by simp only [execOp, ho, hx2.2]; rfl) (.keep0 (Keep.refl g) hg hxv)
  ·rename_i f l cap
   obtain ⟨rfl, rfl⟩ := ret_done h
   refine ⟨id, fun _ μ w a n hg hf => ?_⟩
   have hxv := hf.eval x
   rw [hx] at hxv
   have hx2 := hxv
   simp only [Rep] at hx2
   obtain ⟨fs, cs, e, _, _⟩ := hx2
   refine .value (c := a.eval x) (w' := w) (by simp only [execOp, ho, e]; rfl) (.keep0 (Keep.refl g) hg hxv)
  ·exact (no_done h).elim
 ·-- binOp
  rename_i op t x y pos
  obtain ⟨p, k, hs⟩ := binA_sound h
  refine ⟨fun hc => (k.2.2 hc).1, fun hc μ w a n hg hf => ?_⟩
  obtain ⟨c, m, e1, hv⟩ := hs (k.2.2 hc).2 g.nx μ w x y _ _ (hf.eval x).fl (hf.eval y).fl
  exact .value (by simp only [execOp, ho]; exact run_val e1) (.keep m k hg hv)
 ·-- unOp
  rename_i op t x
  obtain ⟨p, k, hs⟩ := unA_sound (P := P) h
  refine ⟨fun hc => (k.2.2 hc).1, fun hc μ w a n hg hf => ?_⟩
  obtain ⟨c, e1, hv⟩ := hs (k.2.2 hc).2 g.nx μ w _ (hf.eval x).fl
  exact .value (by simp only [execOp, ho]; exact run_val e1) (.keep0 k hg hv)
 ·-- convert
  rename_i s d x
  obtain ⟨p, k, hs⟩ := convAll_sound h
  refine ⟨fun hc => (k.2.2 hc).1, fun hc μ w a n hg hf => ?_⟩
  obtain ⟨c, e1, hv⟩ := hs (k.2.2 hc).2 μ w _ hg (hf.eval x).fl
  exact .value (by simp only [execOp, ho]; exact run_val e1) (.keep0 k hg hv)
 ·-- lookup
  rename_i t x i ok
  obtain ⟨rfl, hs⟩ := lookA_sound h
  refine ⟨id, fun hc μ w a n hg hf => ?_⟩
  obtain ⟨c, e1, hv⟩ := hs μ w _ _ hg (hf.eval x) (hf.eval i)
  exact .value (by simp only [execOp, ho]; exact run_val e1) (.keep0 (Keep.refl g) hg hv)
 ·-- mapUpdate
  rename_i t m k x
  obtain ⟨_, g2, a2, h2⟩ := done_of h
  obtain ⟨rfl, rfl⟩ := ret_done h2
  obtain ⟨hc0, hs⟩ := mapSetA_sound a2
  refine ⟨hc0, fun hc μ w a n hg hf => ?_⟩
  obtain ⟨w', e1, hg', hext⟩ := hs μ w _ _ _ hg (hf.eval m) (hf.eval k) (hf.eval x)
  exact .skip (w' := w') (by simp only [execOp, ho]; exact run_skip e1) ⟨μ, by simp [Rep], hg', hext⟩
 ·-- insert
  rename_i t m k x
  obtain ⟨_, g2, a2, h2⟩ := done_of h
  obtain ⟨rfl, rfl⟩ := ret_done h2
  obtain ⟨hc0, hs⟩ := mapSetA_sound a2
  refine ⟨hc0, fun hc μ w a n hg hf => ?_⟩
  obtain ⟨w', e1, hg', hext⟩ := hs μ w _ _ _ hg (hf.eval m) (hf.eval k) (hf.eval x)
  exact .skip (w' := w') (by simp only [execOp, ho]; exact run_skip e1) ⟨μ, by simp [Rep], hg', hext⟩
 ·-- makeMap
  rename_i t r
  obtain ⟨hc0, hs⟩ := makeMapA_sound h
  refine ⟨hc0, fun hc μ w a n hg hf => ?_⟩
  obtain ⟨c, w', e1, ha⟩ := hs μ w _ hg (hf.evalO r)
  exact .value (by simp only [execOp, ho]; exact run_val e1) ha
 ·-- range
  rename_i t x
  obtain ⟨hc0, hs⟩ := rangeA_sound h
  refine ⟨hc0, fun hc μ w a n hg hf => ?_⟩
  obtain ⟨c, w', e1, ha⟩ := hs μ w _ hg (hf.eval x)
  exact .value (by simp only [execOp, ho]; exact run_val e1) ha
 ·-- next
  rename_i it s
  obtain ⟨hc0, hs⟩ := nextA_sound h o.type
  refine ⟨hc0, fun hc μ w a n hg hf => ?_⟩
  obtain ⟨c, w', e1, ha⟩ := hs hc μ w _ hg (hf.eval it)
  exact .value (by simp only [execOp, ho]; exact run_val e1) ha
 ·-- makeFunc
  rename_i f l c
  obtain ⟨rfl, rfl⟩ := ret_done h
  refine ⟨id, fun _ μ w a n hg hf => ?_⟩
  refine .value (c := .func f (l.map a.eval) (c.map a.eval)) (w' := w) (by simp only [execOp, ho]; rfl) (.keep0 (Keep.refl g) hg ?_)
  simp only [Rep]
  exact ⟨_, _, rfl, hf.evals l, hf.evals c⟩
 ·-- makeSlice
  rename_i t l c
  obtain ⟨hc0, hs⟩ := makeSliceA_sound h
  refine ⟨hc0, fun hc μ w a n hg hf => ?_⟩
  obtain ⟨c', w', e1, ha⟩ := (hs hc μ w _ _ hg (hf.eval l) (hf.eval c)).after
  exact .value (by simp only [execOp, ho]; exact run_val e1) ha
 ·-- slice
  rename_i t x lo hi mx
  obtain ⟨p, k, hs⟩ := sliceA_sound h
  refine ⟨fun hc => (k.2.2 hc).1, fun hc μ w a n hg hf => ?_⟩
  obtain ⟨c, e1, hv⟩ := hs (k.2.2 hc).2 μ w _ _ _ _ hg (hf.eval x) (hf.evalO lo) (hf.evalO hi) (hf.evalO mx)
  exact .value (by simp only [execOp, ho]; exact run_val e1) (.keep0 k hg hv)
 ·-- fieldAddr
  rename_i t x f
  obtain ⟨rfl, hs⟩ := fieldAddrA_sound h
  refine ⟨id, fun hc μ w a n hg hf => ?_⟩
  obtain ⟨c, e1, hv⟩ := hs g.nx μ w _ (hf.eval x)
  exact .value (by simp only [execOp, ho]; exact run_val e1) (.keep0 (Keep.refl g) hg hv)
 ·-- field
  rename_i t x f
  obtain ⟨rfl, hs⟩ := fieldA_sound h
  refine ⟨id, fun hc μ w a n hg hf => ?_⟩
  obtain ⟨c, e1, hv⟩ := hs g.nx μ w _ (hf.eval x)
  exact .value (by simp only [execOp, ho]; exact run_val e1) (.keep0 (Keep.refl g) hg hv)
 ·-- indexAddr
  rename_i t x i
  obtain ⟨p, k, hs⟩ := indexAddrA_sound h
  refine ⟨fun hc => (k.2.2 hc).1, fun hc μ w a n hg hf => ?_⟩
  obtain ⟨c, e1, hv⟩ := hs (k.2.2 hc).2 μ w _ _ hg (hf.eval x) (hf.eval i)
  exact .value (by simp only [execOp, ho]; exact run_val e1) (.keep0 k hg hv)
 ·-- index
  rename_i t x i
  obtain ⟨p, k, hs⟩ := indexA_sound h
  refine ⟨fun hc => (k.2.2 hc).1, fun hc μ w a n hg hf => ?_⟩
  obtain ⟨c, e1, hv⟩ := hs (k.2.2 hc).2 g.nx μ w _ _ (hf.eval x) (hf.eval i)
  exact .value (by simp only [execOp, ho]; exact run_val e1) (.keep0 k hg hv)
 ·-- extract
  rename_i x i
  generalize hx : evalA fr x = vx at h
  split at h
  ·rename_i l
   obtain ⟨hl, rfl⟩ := ofOpt_done h
   refine ⟨id, fun hc μ w a n hg hf => ?_⟩
   have hxv := hf.eval x
   rw [hx] at hxv
   simp only [Rep] at hxv
   obtain ⟨cs, e, hr⟩ := hxv
   obtain ⟨c, hc1, hv⟩ := hr.get hl
   refine .value (c := c) (w' := w) (by simp only [execOp, ho, e]; exact run_val (s := Instr.extract _ _) (by simp only [Instr.extract]; rw [← Array.getElem?_toList, hc1]; rfl)) (.keep0 (Keep.refl g) hg hv)
  ·exact (no_done h).elim
 ·-- call
  rename_i c
  generalize hf0 : c.callee = cal at h
  split at h
  ·rename_i f
   generalize hfv : evalA fr f = vf at h
   split at h
   ·rename_i k l cap
    obtain ⟨hc0, hs⟩ := hcall _ _ _ _ _ h
    refine ⟨hc0, fun hc μ w a n hg hf => ?_⟩
    have hxv := hf.eval f
    rw [hfv] at hxv
    simp only [Rep] at hxv
    obtain ⟨fs, cs, e, h1, h2⟩ := hxv
    refine .call (f := k) (args := (fs ++ c.args.map a.eval) ++ cs) ?_ (hs hc μ w _ hg ?_)
    ·simp only [execOp, ho, resolve, hf0, e, Deferred.ofValue, Sem.run_bind]
     rfl
    ·simp only [Array.toList_append]
     exact (h1.append (hf.evals _)).append h2
   ·exact (no_done h).elim
  ·rename_i b
   obtain ⟨hc0, hs⟩ := builtinA_sound h o.type (c.args.map fun | .const _ => true | _ => false)
   refine ⟨hc0, fun hc μ w a n hg hf => ?_⟩
   obtain ⟨c', w', e1, ha⟩ := hs hc μ w _ hg (hf.evalsF c.args)
   refine .value (c := c') (w' := w') ?_ ha
   simp only [execOp, ho, resolve, hf0, Sem.run_bind, Sem.run_pure]
   exact e1
  ·exact (no_done h).elim
 ·exact (no_done h).elim
end Go.Sx
namespace Go.Sx
open M
theorem Act.put_defers (a : Act) (d : Option Tmp) (v : Value) : (a.put d v).defers = a.defers := by cases d <;> rfl
def FrAfter (n : Nat) (g : G) (μ : MM) (w : World) (g' : G) (fr' : Fr) (a a' : Act) (w' : World) : Prop :=
 ∃ μ', GOk g'.nx μ' w'.heap g'.H ∧ Ext g μ w g' μ' w' ∧ FrOk g'.nx μ' fr' a'.tmps n ∧ a'.defers = a.defers
theorem Ext.refl (g : G) (μ : MM) (w : World) : Ext g μ w g μ w := Ext.same μ w rfl rfl
theorem FrAfter.trans {n : Nat} {g g' g'' : G} {μ μ' : MM} {w w' w'' : World} {fr'' : Fr} {a a' a'' : Act} (h1 : Ext g μ w g' μ' w') (h2 : a'.defers = a.defers) (h : FrAfter n g' μ' w' g'' fr'' a' a'' w'') : FrAfter n g μ w g'' fr'' a a'' w'' := by
 obtain ⟨μ'', k1, k2, k3, k4⟩ := h
 exact ⟨μ'', k1, h1.trans k2, k3, k4.trans h2⟩
def Runs (n : Nat) (fr : Fr) (g : G) (fr' : Fr) (g' : G) (W : (Act → World → Prop) → Act → World → Prop) : Prop :=
 (g'.cs → g.cs) ∧ (g'.cs → ∀ μ w (a : Act), GOk g.nx μ w.heap g.H → FrOk g.nx μ fr a.tmps n → ∀ K : Act → World → Prop, (∀ a' w', FrAfter n g μ w g' fr' a a' w' → K a' w') → W K a w)
theorem wanted_eq {o : Oper} {y : Nat → Option Bool} {j : Nat} {want b : Bool} (hg : o.guard = some (j, want)) (hy : y j = some b) : Region.wanted o y = (b == want) := by
 simp only [Region.wanted, hg, hy]; cases b <;> cases want <;> rfl
theorem yielded_of {ops : Array Oper} {tmps : Array Value} {j d : Nat} {b : Bool} (hj : (ops[j]?).bind (·.dst) = some d) (hd : tmps.getD d undef = .bool b) : yielded ops tmps j = some b := by
 simp only [yielded, hj, Option.bind_some]
 have : tmps[d]? = some (.bool b) := by
  cases h : tmps[d]? with
  | none => rw [Array.getD_eq_getD_getElem?, h] at hd; simp [undef] at hd
  | some v => rw [Array.getD_eq_getD_getElem?, h] at hd; simp at hd; rw [hd]
 rw [this]
theorem wanted_no {o : Oper} {y : Nat → Option Bool} {j : Nat} {want : Bool} (hg : o.guard = some (j, want)) (hy : y j = none) : Region.wanted o y = false := by
 simp only [Region.wanted, hg, hy]; rfl
theorem yielded_tup {ops : Array Oper} {tmps : Array Value} {j d : Nat} {l : Array Value} (hj : (ops[j]?).bind (·.dst) = some d) (hd : tmps.getD d undef = .tuple l) : yielded ops tmps j = none := by
 simp only [yielded, hj, Option.bind_some]
 cases h : tmps[d]? with
 | none => rfl
 | some v => rw [Array.getD_eq_getD_getElem?, h] at hd; simp at hd; rw [hd]
theorem Rep.undef {N : Nat} {μ : MM} : Rep N μ (.tup []) Go.undef := by
 simp only [Rep, Reps, Go.undef]; exact ⟨#[], rfl, rfl⟩
theorem op_then {P : Program} {call : Calls'} (hcall : CallOk P call) {n : Nat} {ops : Array Oper} {rest : List Oper} {o : Oper} {fr fr' : Fr} {g g' : G} {Q : Exit → Act → World → Prop}
  (ih : ∀ fr fr' g g', opsA0 P call n ops.toList rest fr g = .done fr' g' → Runs n fr g fr' g' fun K => wpList P ops (Exit.then K Q) rest)
  (h : ((opA P call fr o).andThen fun v => (putA n fr o.dst v).andThen fun fr' => opsA0 P call n ops.toList rest fr') g = .done fr' g') :
  Runs n fr g fr' g' fun K a w => o.wp P a w (wpList P ops (Exit.then K Q) rest) (Exit.then K Q) := by
 obtain ⟨v, g1, a1, h1⟩ := done_of h
 obtain ⟨fr1, g2, a2, h2⟩ := done_of h1
 obtain ⟨hc1, hs1⟩ := opA_sound hcall a1
 obtain ⟨rfl, hp⟩ := putA_sound a2
 obtain ⟨hc2, hs2⟩ := ih _ _ _ _ h2
 refine ⟨fun hc => hc1 (hc2 hc), fun hc μ w a hg hf K hK => hs1 (hc2 hc) μ w a n hg hf _ _ fun c w' ha => ?_⟩
 obtain ⟨μ', hv, hg', hext⟩ := ha
 exact hs2 hc μ' w' _ hg' (hp _ _ _ _ (hf.later hext.names hext.nx) hv) K fun a' w'' hk => hK _ _ (hk.trans hext (Act.put_defers _ _ _))
theorem op_out {P : Program} {call : Calls'} {n : Nat} {ops : Array Oper} {rest : List Oper} {o : Oper} {fr fr' : Fr} {g g' : G} {Q : Exit → Act → World → Prop}
  (ih : ∀ fr fr' g g', opsA0 P call n ops.toList rest fr g = .done fr' g' → Runs n fr g fr' g' fun K => wpList P ops (Exit.then K Q) rest)
  (h : ((putA n fr o.dst (.tup [])).andThen fun fr' => opsA0 P call n ops.toList rest fr') g = .done fr' g') :
  Runs n fr g fr' g' fun K a w => wpList P ops (Exit.then K Q) rest (a.put o.dst undef) w := by
 obtain ⟨fr1, g2, a2, h2⟩ := done_of h
 obtain ⟨rfl, hp⟩ := putA_sound a2
 obtain ⟨hc2, hs2⟩ := ih _ _ _ _ h2
 refine ⟨hc2, fun hc μ w a hg hf K hK => ?_⟩
 exact hs2 hc μ w _ hg (hp _ _ a undef hf Rep.undef) K fun a' w'' hk => hK _ _ (hk.trans (Ext.refl _ _ _) (Act.put_defers _ _ _))
theorem opsA0_sound {P : Program} {call : Calls'} (hcall : CallOk P call) {n : Nat} {ops : Array Oper} {Q : Exit → Act → World → Prop} : ∀ (rest : List Oper) (fr fr' : Fr) (g g' : G),
  opsA0 P call n ops.toList rest fr g = .done fr' g' → Runs n fr g fr' g' fun K => wpList P ops (Exit.then K Q) rest
 | [], fr, fr', g, g', h => by
  obtain ⟨rfl, rfl⟩ := ret_done h
  exact ⟨id, fun _ μ w a hg hf K hK => wpList_nil (hK a w ⟨μ, hg, Ext.refl _ _ _, hf, rfl⟩)⟩
 | o :: rest, fr, fr', g, g', h => by
  have ih := opsA0_sound hcall (n := n) (ops := ops) (Q := Q) rest
  unfold opsA0 at h
  generalize hgd : o.guard = gd at h
  split at h
  ·obtain ⟨hc, hs⟩ := op_then hcall (Q := Q) ih h
   refine ⟨hc, fun hcs μ w a hg hf K hK => ?_⟩
   show wpList P ops (Exit.then K Q) (o :: rest) a w
   unfold wpList
   rw [if_pos (by simp [Region.wanted, hgd])]
   exact .inl (hs hcs μ w a hg hf K hK)
  ·rename_i j want
   generalize hd : (ops.toList[j]?).bind (·.dst) = dd at h
   rw [Array.getElem?_toList] at hd
   split at h
   ·exact (no_done h).elim
   ·rename_i d
    generalize hfd : fr.get d = fd at h
    split at h
    ·rename_i b
     have key : ∀ N μ (a : Act), FrOk N μ fr a.tmps n → Region.wanted o (yielded ops a.tmps) = (b == want) := fun N μ a hf =>
      wanted_eq hgd (yielded_of hd (by have := hf.val d _ hfd; simpa [Rep] using this))
     cases hb : (b == want) with
     | true =>
      rw [hb] at h key
      obtain ⟨hc, hs⟩ := op_then hcall (Q := Q) ih h
      refine ⟨hc, fun hcs μ w a hg hf K hK => ?_⟩
      show wpList P ops (Exit.then K Q) (o :: rest) a w
      unfold wpList
      rw [if_pos (key _ _ a hf)]
      exact .inl (hs hcs μ w a hg hf K hK)
     | false =>
      rw [hb] at h key
      obtain ⟨hc, hs⟩ := op_out (Q := Q) ih h
      refine ⟨hc, fun hcs μ w a hg hf K hK => ?_⟩
      show wpList P ops (Exit.then K Q) (o :: rest) a w
      unfold wpList
      rw [if_neg (by rw [key _ _ a hf]; simp)]
      exact hs hcs μ w a hg hf K hK
    ·rename_i b
     obtain ⟨t, g1, a1, h1⟩ := done_of h
     have k := dec_done a1
     have know : ∀ N μ (a : Act), b = t → FrOk N μ fr a.tmps n → FrOk N μ (fr.upd d (some (.bool t))) a.tmps n := fun N μ a e hf =>
      hf.know hfd fun c hc => by simpa [Rep, e] using hc
     have key : ∀ N μ (a : Act), b = t → FrOk N μ fr a.tmps n → Region.wanted o (yielded ops a.tmps) = (t == want) := fun N μ a e hf =>
      wanted_eq hgd (yielded_of hd (by have := hf.val d _ hfd; rw [← e]; simpa [Rep] using this))
     have ext : ∀ μ w, Ext g μ w g1 μ w := fun μ w => Ext.same μ w k.1 k.2.1
     cases hb : (t == want) with
     | true =>
      simp only [hb, cond_true] at h1
      simp only [hb] at key
      obtain ⟨hc, hs⟩ := op_then hcall (Q := Q) ih h1
      refine ⟨fun hcs => (k.2.2 (hc hcs)).1, fun hcs μ w a hg hf K hK => ?_⟩
      have e := (k.2.2 (hc hcs)).2
      show wpList P ops (Exit.then K Q) (o :: rest) a w
      unfold wpList
      rw [if_pos (key _ _ a e hf)]
      exact .inl (hs hcs μ w a (by rw [k.1, k.2.1]; exact hg) (by rw [k.2.1]; exact know _ _ a e hf) K fun a' w' hk => hK _ _ (hk.trans (ext μ w) rfl))
     | false =>
      simp only [hb, cond_false] at h1
      simp only [hb] at key
      obtain ⟨hc, hs⟩ := op_out (Q := Q) ih h1
      refine ⟨fun hcs => (k.2.2 (hc hcs)).1, fun hcs μ w a hg hf K hK => ?_⟩
      have e := (k.2.2 (hc hcs)).2
      show wpList P ops (Exit.then K Q) (o :: rest) a w
      unfold wpList
      rw [if_neg (by rw [key _ _ a e hf]; simp)]
      exact hs hcs μ w a (by rw [k.1, k.2.1]; exact hg) (by rw [k.2.1]; exact know _ _ a e hf) K fun a' w' hk => hK _ _ (hk.trans (ext μ w) rfl)
    ·rename_i l
     have key : ∀ N μ (a : Act), FrOk N μ fr a.tmps n → Region.wanted o (yielded ops a.tmps) = false := fun N μ a hf => by
      have := hf.val d _ hfd
      simp only [Rep] at this
      obtain ⟨cs, e, _⟩ := this
      exact wanted_no hgd (yielded_tup hd e)
     obtain ⟨hc, hs⟩ := op_out (Q := Q) ih h
     refine ⟨hc, fun hcs μ w a hg hf K hK => ?_⟩
     show wpList P ops (Exit.then K Q) (o :: rest) a w
     unfold wpList
     rw [if_neg (by rw [key _ _ a hf]; simp)]
     exact hs hcs μ w a hg hf K hK
    ·exact (no_done h).elim
theorem opsA_sound {P : Program} {call : Calls'} (hcall : CallOk P call) {n : Nat} {ops : Array Oper} {Q : Exit → Act → World → Prop} (rest : List Oper) (fr fr' : Fr) (g g' : G)
  (h : opsA P call n ops.toList rest fr g = .done fr' g') : Runs n fr g fr' g' fun K => wpList P ops (Exit.then K Q) rest :=
 opsA0_sound hcall rest fr fr' g g' (by rw [← opsA_eq]; exact h)
def Ex.ex : Ex → Exit
 | .normal => .normal
 | .exit id => .exit id
 | .ret => .ret
def Leads (P : Program) (c : Code) (n : Nat) (fr : Fr) (g : G) (r : Ex × Fr) (g' : G) : Prop :=
 (g'.cs → g.cs) ∧ (g'.cs → ∀ μ w (a : Act), GOk g.nx μ w.heap g.H → FrOk g.nx μ fr a.tmps n → ∀ Q : Exit → Act → World → Prop, (∀ a' w', FrAfter n g μ w g' r.2 a a' w' → Q r.1.ex a' w') → c.wp P Q a w)
def RegionOk (P : Program) (region : List Oper → Fr → M Fr) (n : Nat) : Prop :=
 ∀ (ops : Array Oper) (id : Nat) fr fr' g g', region ops.toList fr g = .done fr' g' → Leads P (.region id ops true) n fr g (.normal, fr') g'
theorem Leads.of {P : Program} {c : Code} {n : Nat} {fr : Fr} {g : G} {r : Ex × Fr} {g' : G} (h : Leads P c n fr g r g') (hc : g'.cs) {μ : MM} {w : World} {a : Act} (hg : GOk g.nx μ w.heap g.H) (hf : FrOk g.nx μ fr a.tmps n) :
  c.wp P (fun e a' w' => e = r.1.ex ∧ FrAfter n g μ w g' r.2 a a' w') a w := h.2 hc μ w a hg hf _ fun _ _ k => ⟨rfl, k⟩
theorem loopA_sound {P : Program} {c : Code} {n : Nat} {body : Fr → M (Ex × Fr)} (hb : ∀ fr r g g', body fr g = .done r g' → Leads P c n fr g r g') :
  ∀ (k : Nat) (fr : Fr) (r : Ex × Fr) (g g' : G), loopA body k fr g = .done r g' →
   (g'.cs → g.cs) ∧ (g'.cs → ∀ μ w (a : Act), GOk g.nx μ w.heap g.H → FrOk g.nx μ fr a.tmps n → ∀ Q : Exit → Act → World → Prop, (∀ a' w', FrAfter n g μ w g' r.2 a a' w' → Q r.1.ex a' w') → Code.rounds P c Q k a w)
 | 0, fr, r, g, g', h => (no_done h).elim
 | k + 1, fr, r, g, g', h => by
  have ih := loopA_sound hb k
  unfold loopA at h
  obtain ⟨⟨e, fr1⟩, g1, a1, h1⟩ := done_of h
  have hb1 := hb _ _ _ _ a1
  cases e with
  | normal =>
   obtain ⟨hc2, hs2⟩ := ih _ _ _ _ h1
   refine ⟨fun hc => hb1.1 (hc2 hc), fun hc μ w a hg hf Q hQ => ?_⟩
   rw [rounds_succ]
   refine wp_mono (hb1.of (hc2 hc) hg hf) ?_
   rintro e a' w' ⟨rfl, μ', hg', hext, hf', hd⟩
   exact hs2 hc μ' w' a' hg' hf' Q fun a'' w'' hk => hQ _ _ (hk.trans hext hd)
  | exit id =>
   obtain ⟨rfl, rfl⟩ := ret_done h1
   refine ⟨hb1.1, fun hc μ w a hg hf Q hQ => ?_⟩
   rw [rounds_succ]
   refine wp_mono (hb1.of hc hg hf) ?_
   rintro e a' w' ⟨rfl, hk⟩
   exact hQ _ _ hk
  | ret =>
   obtain ⟨rfl, rfl⟩ := ret_done h1
   refine ⟨hb1.1, fun hc μ w a hg hf Q hQ => ?_⟩
   rw [rounds_succ]
   refine wp_mono (hb1.of hc hg hf) ?_
   rintro e a' w' ⟨rfl, hk⟩
   exact hQ _ _ hk
def BlockIn (id : Nat) (c : Code) : Code → Prop
 | .seq a b => BlockIn id c a ∨ BlockIn id c b
 | .cond _ a b => BlockIn id c a ∨ BlockIn id c b
 | .block id' c' => (id' = id ∧ c' = c) ∨ BlockIn id c c'
 | .loop c' => BlockIn id c c'
 | _ => False
def SOk (P : Program) (n : Nat) (id : Nat) (c : Code) (S : Fr → M (Ex × Fr)) : Prop := ∀ fr r g g', S fr g = .done r g' → Leads P (.block id c) n fr g r g'
def LoopsIn (P : Program) (loops : Loops) (n : Nat) (c : Code) : Prop := ∀ id S, loops id = some S → ∀ c', BlockIn id c' c → SOk P n id c' S
theorem LoopsIn.none (P : Program) (n : Nat) (c : Code) : LoopsIn P noLoops n c := fun id S h => by cases h
theorem codeA_sound {P : Program} {call : Calls'} (hcall : CallOk P call) {region : List Oper → Fr → M Fr} {loops : Loops} {n rounds : Nat} (hreg : RegionOk P region n) :
  ∀ (c : Code), LoopsIn P loops n c → ∀ (fr : Fr) (r : Ex × Fr) (g g' : G), codeA P call region loops n rounds c fr g = .done r g' → Leads P c n fr g r g'
 | .skip, hl, fr, r, g, g', h => by
  unfold codeA at h
  obtain ⟨rfl, rfl⟩ := ret_done h
  exact ⟨id, fun _ μ w a hg hf Q hQ => wp_skip (hQ a w ⟨μ, hg, Ext.refl _ _ _, hf, rfl⟩)⟩
 | .region id ops false, hl, fr, r, g, g', h => by
  unfold codeA at h
  obtain ⟨fr1, g1, a1, h1⟩ := done_of h
  obtain ⟨rfl, rfl⟩ := ret_done h1
  refine ⟨(opsA_sound hcall (Q := fun _ _ _ => False) _ _ _ _ _ a1).1, fun hc μ w a hg hf Q hQ => wp_region_list ?_⟩
  have := (opsA_sound hcall (Q := Q) _ _ _ _ _ a1).2 hc μ w a hg hf (Q .normal) hQ
  have e : Exit.then (Q .normal) Q = Q := by funext e; cases e <;> rfl
  simpa only [e] using this
 | .region id ops true, hl, fr, r, g, g', h => by
  unfold codeA at h
  obtain ⟨fr1, g1, a1, h1⟩ := done_of h
  obtain ⟨rfl, rfl⟩ := ret_done h1
  exact hreg ops id _ _ _ _ a1
 | .seq x y, hl, fr, r, g, g', h => by
  unfold codeA at h
  obtain ⟨⟨e, fr1⟩, g1, a1, h1⟩ := done_of h
  have hx := codeA_sound hcall hreg x (fun id S h c' hb => hl id S h c' (.inl hb)) _ _ _ _ a1
  cases e with
  | normal =>
   have hy := codeA_sound hcall hreg y (fun id S h c' hb => hl id S h c' (.inr hb)) _ _ _ _ h1
   refine ⟨fun hc => hx.1 (hy.1 hc), fun hc μ w a hg hf Q hQ => wp_seq (wp_mono (hx.of (hy.1 hc) hg hf) ?_)⟩
   rintro e a' w' ⟨rfl, μ', hg', hext, hf', hd⟩
   exact hy.2 hc μ' w' a' hg' hf' Q fun a'' w'' hk => hQ _ _ (hk.trans hext hd)
  | exit id =>
   obtain ⟨rfl, rfl⟩ := ret_done h1
   refine ⟨hx.1, fun hc μ w a hg hf Q hQ => wp_seq (wp_mono (hx.of hc hg hf) ?_)⟩
   rintro e a' w' ⟨rfl, hk⟩
   exact hQ _ _ hk
  | ret =>
   obtain ⟨rfl, rfl⟩ := ret_done h1
   refine ⟨hx.1, fun hc μ w a hg hf Q hQ => wp_seq (wp_mono (hx.of hc hg hf) ?_)⟩
   rintro e a' w' ⟨rfl, hk⟩
   exact hQ _ _ hk
 | .cond c x y, hl, fr, r, g, g', h => by
  unfold codeA at h
  generalize hcv : evalA fr c = cv at h
  split at h
  ·rename_i t
   have key : ∀ N μ (a : Act), FrOk N μ fr a.tmps n → a.eval c = .bool t := fun N μ a hf => by
    have := hf.eval c
    rw [hcv] at this
    simpa [Rep] using this
   cases t with
   | true =>
    have hx := codeA_sound hcall hreg x (fun id S h c' hb => hl id S h c' (.inl hb)) _ _ _ _ h
    exact ⟨hx.1, fun hc μ w a hg hf Q hQ => wp_cond (key _ _ _ hf) (hx.2 hc μ w a hg hf Q hQ)⟩
   | false =>
    have hx := codeA_sound hcall hreg y (fun id S h c' hb => hl id S h c' (.inr hb)) _ _ _ _ h
    exact ⟨hx.1, fun hc μ w a hg hf Q hQ => wp_cond (key _ _ _ hf) (hx.2 hc μ w a hg hf Q hQ)⟩
  ·rename_i t
   obtain ⟨d, g1, a1, h1⟩ := done_of h
   have k := dec_done a1
   have key : ∀ N μ (a : Act), FrOk N μ fr a.tmps n → a.eval c = .bool t := fun N μ a hf => by
    have := hf.eval c
    rw [hcv] at this
    simpa [Rep] using this
   have ext : ∀ μ w, Ext g μ w g1 μ w := fun μ w => Ext.same μ w k.1 k.2.1
   cases d with
   | true =>
    have hx := codeA_sound hcall hreg x (fun id S h c' hb => hl id S h c' (.inl hb)) _ _ _ _ h1
    refine ⟨fun hc => (k.2.2 (hx.1 hc)).1, fun hc μ w a hg hf Q hQ => wp_cond (key _ _ _ hf) ?_⟩
    rw [(k.2.2 (hx.1 hc)).2]
    exact hx.2 hc μ w a (by rw [k.1, k.2.1]; exact hg) (by rw [k.2.1]; exact hf) Q fun a' w' hk => hQ _ _ (hk.trans (ext μ w) rfl)
   | false =>
    have hx := codeA_sound hcall hreg y (fun id S h c' hb => hl id S h c' (.inr hb)) _ _ _ _ h1
    refine ⟨fun hc => (k.2.2 (hx.1 hc)).1, fun hc μ w a hg hf Q hQ => wp_cond (key _ _ _ hf) ?_⟩
    rw [(k.2.2 (hx.1 hc)).2]
    exact hx.2 hc μ w a (by rw [k.1, k.2.1]; exact hg) (by rw [k.2.1]; exact hf) Q fun a' w' hk => hQ _ _ (hk.trans (ext μ w) rfl)
  ·exact (no_done h).elim
 | .block id c, hl, fr, r, g, g', h => by
  unfold codeA at h
  generalize hS : loops id = S at h
  split at h
  ·rename_i S'
   exact hl id S' hS c (.inl ⟨rfl, rfl⟩) fr r g g' h
  ·obtain ⟨⟨e, fr1⟩, g1, a1, h1⟩ := done_of h
   have hx := codeA_sound hcall hreg c (fun id S h c' hb => hl id S h c' (.inr hb)) _ _ _ _ a1
   cases e with
   | normal =>
    obtain ⟨rfl, rfl⟩ := ret_done h1
    refine ⟨hx.1, fun hc μ w a hg hf Q hQ => wp_block (wp_mono (hx.of hc hg hf) ?_)⟩
    rintro e a' w' ⟨rfl, hk⟩
    exact hQ _ _ hk
   | ret =>
    obtain ⟨rfl, rfl⟩ := ret_done h1
    refine ⟨hx.1, fun hc μ w a hg hf Q hQ => wp_block (wp_mono (hx.of hc hg hf) ?_)⟩
    rintro e a' w' ⟨rfl, hk⟩
    exact hQ _ _ hk
   | exit id' =>
    cases hid : Nat.beq id' id with
    | true =>
     simp only [hid, cond_true] at h1
     obtain ⟨rfl, rfl⟩ := ret_done h1
     refine ⟨hx.1, fun hc μ w a hg hf Q hQ => wp_block (wp_mono (hx.of hc hg hf) ?_)⟩
     rintro e a' w' ⟨rfl, hk⟩
     simp only [Ex.ex, Exit.inBlock, if_pos (Nat.eq_of_beq_eq_true hid)]
     exact hQ _ _ hk
    | false =>
     simp only [hid, cond_false] at h1
     obtain ⟨rfl, rfl⟩ := ret_done h1
     refine ⟨hx.1, fun hc μ w a hg hf Q hQ => wp_block (wp_mono (hx.of hc hg hf) ?_)⟩
     rintro e a' w' ⟨rfl, hk⟩
     simp only [Ex.ex, Exit.inBlock, if_neg (Nat.ne_of_beq_eq_false hid)]
     exact hQ _ _ hk
 | .loop c, hl, fr, r, g, g', h => by
  unfold codeA at h
  obtain ⟨hc0, hs⟩ := loopA_sound (fun fr r g g' h => codeA_sound hcall hreg c (fun id S h c' hb => hl id S h c' hb) fr r g g' h) _ _ _ _ _ h
  exact ⟨hc0, fun hc μ w a hg hf Q hQ => wp_loop_rounds rounds (hs hc μ w a hg hf Q hQ)⟩
 | .exit id, hl, fr, r, g, g', h => by
  unfold codeA at h
  obtain ⟨rfl, rfl⟩ := ret_done h
  exact ⟨fun h => h, fun _ μ w a hg hf Q hQ => wp_exit (hQ a w ⟨μ, hg, Ext.refl _ _ _, hf, rfl⟩)⟩
 | .ret, hl, fr, r, g, g', h => by
  unfold codeA at h
  obtain ⟨rfl, rfl⟩ := ret_done h
  exact ⟨fun h => h, fun _ μ w a hg hf Q hQ => wp_ret (hQ a w ⟨μ, hg, Ext.refl _ _ _, hf, rfl⟩)⟩
 | .goto _, hl, fr, r, g, g', h => (no_done h).elim
 | .label _, hl, fr, r, g, g', h => (no_done h).elim
end Go.Sx
namespace Go.Sx
open M
def resultV (tmps : Array Value) : ResultVar → Sem Value
 | .tmp t => pure (tmps.getD t undef)
 | .cell a t => do loadVar t (← asAddr (tmps.getD a undef))
theorem resultA_sound {P : Program} {fr : Fr} {r : ResultVar} {v : AV} {g g' : G} (h : resultA P fr r g = .done v g') :
  Keep g g' True ∧ (g'.cs → ∀ μ w (tmps : Array Value) n, GOk g.nx μ w.heap g.H → FrOk g.nx μ fr tmps n → ∃ c, (resultV tmps r).run P w = .ok c w ∧ Rep g.nx μ v c) := by
 have ev : ∀ N μ (tmps : Array Value) n t, FrOk N μ fr tmps n → Rep N μ ((fr.get t).getD .top) (tmps.getD t undef) := fun N μ tmps n t hf => hf.eval (a := ⟨tmps, []⟩) (.tmp t)
 cases r with
 | tmp t =>
  unfold resultA at h
  obtain ⟨rfl, rfl⟩ := ret_done h
  exact ⟨Keep.refl g, fun _ μ w tmps n _ hf => ⟨_, rfl, ev _ _ _ _ t hf⟩⟩
 | cell t ty =>
  replace h : (match (fr.get t).getD .top with
   | .ptr ad => loadA P ty ad
   | _ => no : M AV) g = .done v g' := h
  generalize hx : (fr.get t).getD .top = x at h
  split at h
  ·rename_i ad
   obtain ⟨k, hs⟩ := loadA_sound h
   refine ⟨k, fun hc μ w tmps n hg hf => ?_⟩
   obtain ⟨c, e, hv⟩ := hs hc g.nx μ w hg
   have h2 := ev _ _ _ _ t hf
   rw [hx] at h2
   simp only [Rep] at h2
   exact ⟨c, by simp only [resultV, h2.2, asAddr, Sem.run_bind]; exact e, hv⟩
  ·exact (no_done h).elim
theorem resultsA_sound {P : Program} {fr : Fr} : ∀ {l : List ResultVar} {vs : List AV} {g g' : G}, resultsA P fr l g = .done vs g' →
  Keep g g' True ∧ (g'.cs → ∀ μ w (tmps : Array Value) n, GOk g.nx μ w.heap g.H → FrOk g.nx μ fr tmps n → ∃ cs, (l.mapM (resultV tmps)).run P w = .ok cs w ∧ Reps g.nx μ vs cs)
 | [], vs, g, g', h => by
  unfold resultsA at h
  obtain ⟨rfl, rfl⟩ := ret_done h
  exact ⟨Keep.refl g, fun _ μ w tmps n _ _ => ⟨[], rfl, by simp [Reps]⟩⟩
 | r :: l, vs, g, g', h => by
  unfold resultsA at h
  obtain ⟨v, g1, a1, h1⟩ := done_of h
  obtain ⟨us, g2, a2, h2⟩ := done_of h1
  obtain ⟨rfl, rfl⟩ := ret_done h2
  obtain ⟨k1, hs1⟩ := resultA_sound a1
  obtain ⟨k2, hs2⟩ := resultsA_sound a2
  refine ⟨(k1.trans k2).mono fun _ => trivial, fun hc μ w tmps n hg hf => ?_⟩
  obtain ⟨c, e1, hv⟩ := hs1 (k2.2.2 hc).1 μ w tmps n hg hf
  obtain ⟨cs, e2, hvs⟩ := hs2 hc μ w tmps n (by rw [k1.1, k1.2.1]; exact hg) (by rw [k1.2.1]; exact hf)
  refine ⟨c :: cs, by simp [List.mapM_cons, e1, e2], ?_⟩
  simp only [Reps]
  rw [k1.2.1] at hvs
  exact ⟨c, cs, rfl, hv, hvs⟩
def packA : List AV → AV
 | [v] => v
 | vs => .tup vs
theorem results_run {P : Program} {fn : Func} {tmps : Array Value} {w : World} {cs : List Value} (h : (fn.results.toList.mapM (resultV tmps)).run P w = .ok cs w) {N : Nat} {μ : MM} {vs : List AV} (hr : Reps N μ vs cs) :
  ∃ c, (results fn tmps).run P w = .ok c w ∧ Rep N μ (packA vs) c := by
 have e : (fn.results.mapM (resultV tmps)).run P w = .ok cs.toArray w := by
  rw [Array.mapM_eq_mapM_toList, map_eq_pure_bind, Sem.run_bind, h]
  rfl
 have e2 : results fn tmps = (do
   let vs ← fn.results.mapM (resultV tmps)
   pure (if h : vs.size = 1 then vs[0] else .tuple vs)) := by
  unfold results
  congr 1
 rw [e2, Sem.run_bind, e]
 refine ⟨_, rfl, ?_⟩
 match vs, cs, hr with
 | [], cs, hr => simp only [Reps] at hr; subst hr; simp [packA, Rep, Reps]
 | [v], cs, hr =>
  simp only [Reps] at hr
  obtain ⟨c, r, rfl, hv, rfl⟩ := hr
  simpa [packA] using hv
 | v :: u :: l, cs, hr =>
  have hr0 := hr
  simp only [Reps] at hr
  obtain ⟨c, r, rfl, _, d, r', rfl, _, _⟩ := hr
  simp only [packA, Rep]
  exact ⟨_, by simp, hr0⟩
theorem frameOf_get : ∀ (l : List AV) (i : Nat) (fr : Fr) (t : Nat), (frameOf l i fr).get t = if i ≤ t ∧ t < i + l.length then l[t - i]? else fr.get t
 | [], i, fr, t => by simp [frameOf]; omega
 | v :: l, i, fr, t => by
  simp only [frameOf, frameOf_get l (i + 1), T.get_upd, List.length_cons]
  by_cases h1 : t = i
  ·subst h1; simp; omega
  ·by_cases h2 : i + 1 ≤ t ∧ t < i + 1 + l.length
   ·rw [if_pos h2, if_pos (by omega)]
    have : t - i = (t - (i + 1)) + 1 := by omega
    rw [this, List.getElem?_cons_succ]
   ·rw [if_neg h2, if_neg h1, if_neg (by omega)]
theorem FrOk.start {N : Nat} {μ : MM} {l : List AV} {args : Array Value} (h : Reps N μ l args.toList) (n : Nat) : FrOk N μ (frameOf l 0 .e) (args ++ Array.replicate (n - args.size) undef) n where
 size := by simp; omega
 val := fun t v ht => by
  rw [frameOf_get] at ht
  split at ht
  ·obtain ⟨c, hc, hv⟩ := h.get ht
   have hc' : args[t]? = some c := by simpa using hc
   have hlt : t < args.size := (Array.getElem?_eq_some_iff.1 hc').1
   rw [Array.getD_eq_getD_getElem?, Array.getElem?_append_left hlt, hc']
   exact hv
  ·simp [T.get] at ht
def KnownOk (P : Program) (Γ : Known) : Prop := ∀ f s, Γ f = some s → ∀ args v g g', s args g = .done v g' → CallIs P f args v g g'
def NoSuch (P : Program) : Prop := ∀ (f : FuncId) (fn : Func), P.funcs[f]? = some fn → fn.body.isSome = true → (fn.name == "runtime.NumGoroutine") = false
def noSuch (P : Program) : Bool := P.funcs.toList.all fun fn => fn.body.isNone || !(fn.name == "runtime.NumGoroutine")
theorem NoSuch.of {P : Program} (h : noSuch P = true) : NoSuch P := fun f fn hf hb => by
 unfold noSuch at h
 rw [List.all_eq_true] at h
 have := h fn (List.mem_of_getElem? (i := f) (by simpa using hf))
 cases hbd : fn.body with
 | none => rw [hbd] at hb; cases hb
 | some c => rw [hbd] at this; simpa using this
theorem run_enter {P : Program} {f : FuncId} {fn : Func} {c : Code} (hf : P.funcs[f]? = some fn) (hname : (fn.name == "runtime.NumGoroutine") = false) (hb : fn.body = some c) (args : Array Value) (w : World) :
  (callFunc f args).run P w = .ok (.enter f args) w := by
 have h1 : fn.name ≠ "runtime.NumGoroutine" := by simpa using hname
 simp [callFunc, hf, h1, hb]
theorem call_of {P : Program} {f : FuncId} {fn : Func} {c : Code} (hf : P.funcs[f]? = some fn) (hb : fn.body = some c) {args : List AV} {g g1 : G} {e : Ex} {fr : Fr} {g' : G} {vs : List AV}
  (hl : Leads P c fn.ntmps (frameOf args 0 .e) g (e, fr) g1) (he : ∀ id, e ≠ .exit id) (hr : resultsA P fr fn.results.toList g1 = .done vs g') :
  (g'.cs → g.cs) ∧ (g'.cs → ∀ μ w (cargs : Array Value), GOk g.nx μ w.heap g.H → Reps g.nx μ args cargs.toList → Calls P f cargs w fun e w' => ∃ c, e = .returned c ∧ After g μ w g' (packA vs) c w') := by
 obtain ⟨k, hs⟩ := resultsA_sound hr
 refine ⟨fun hc => hl.1 (k.2.2 hc).1, fun hc μ w cargs hg ha => ?_⟩
 refine calls_of_wp hf hb (hl.2 (k.2.2 hc).1 μ w _ hg (FrOk.start ha fn.ntmps) _ fun a' w' hk => ?_)
 obtain ⟨μ', hg', hext, hf', hd⟩ := hk
 obtain ⟨cs, e1, hvs⟩ := hs hc μ' w' a'.tmps _ hg' hf'
 obtain ⟨cv, e2, hcv⟩ := results_run e1 hvs
 have post : a'.defers = [] ∧ ∃ v, (results fn a'.tmps).run P w' = .ok v w' ∧ ∃ c, Ending.returned v = .returned c ∧ After g μ w g' (packA vs) c w' :=
  ⟨hd, cv, e2, cv, rfl, μ', by rw [k.2.1]; exact hcv, by rw [k.1, k.2.1]; exact hg', hext.trans (Ext.same μ' w' k.1 k.2.1)⟩
 cases e with
 | normal => exact post
 | ret => exact post
 | exit id => exact absurd rfl (he id)
def LoopsOk (P : Program) (Λ : FuncId → Loops) : Prop := ∀ f fn c, P.funcs[f]? = some fn → fn.body = some c → LoopsIn P (Λ f) fn.ntmps c
theorem runA_sound {P : Program} {Γ : Known} {Λ : FuncId → Loops} {region : Calls' → Nat → List Oper → Fr → M Fr} {rounds : Nat} (hΓ : KnownOk P Γ) (hΛ : LoopsOk P Λ) (hreg : ∀ fuel, CallOk P (runA P Γ Λ region rounds fuel) → ∀ n, RegionOk P (region (runA P Γ Λ region rounds fuel) n) n) (hn : NoSuch P) :
  ∀ fuel, CallOk P (runA P Γ Λ region rounds fuel)
 | 0 => fun f args v g g' h => (no_done h).elim
 | fuel + 1 => fun f args v g g' h => by
  have ih := runA_sound (rounds := rounds) hΓ hΛ hreg hn fuel
  unfold runA at h
  generalize hs : Γ f = s0 at h
  split at h
  ·rename_i s
   exact hΓ f s hs args v g g' h
  ·generalize hf : P.funcs[f]? = fn0 at h
   split at h
   ·exact (no_done h).elim
   ·rename_i fn
    generalize hb : fn.body = c0 at h
    split at h
    ·exact (no_done h).elim
    ·rename_i c
     obtain ⟨⟨e, fr⟩, g1, a1, h1⟩ := done_of h
     have hl := codeA_sound ih (hreg fuel ih fn.ntmps) _ (hΛ f fn c hf hb) _ _ _ _ a1
     have fin : ∀ {vs g2 v}, (match vs with
      | [v] => ret v
      | _ => ret (.tup vs) : M AV) g2 = .done v g' → v = packA vs ∧ g2 = g' := by
      intro vs g2 v h
      match vs, h with
      | [], h => exact ret_done h
      | [u], h => exact ret_done h
      | u :: t :: l, h => exact ret_done h
     have main : ∀ (he : ∀ id, e ≠ .exit id) vs, resultsA P fr fn.results.toList g1 = .done vs g' → v = packA vs → CallIs P f args v g g' := fun he vs hr hv => by
      obtain ⟨hc0, hs⟩ := call_of hf hb hl he hr
      refine ⟨hc0, fun hc μ w cargs hg ha => .inr ⟨f, cargs, w, run_enter hf (hn f fn hf (by rw [hb]; rfl)) hb cargs w, ?_⟩⟩
      rw [hv]
      exact hs hc μ w cargs hg ha
     cases e with
     | exit id => exact (no_done h1).elim
     | normal =>
      obtain ⟨vs, g2, a2, h2⟩ := done_of h1
      obtain ⟨rfl, rfl⟩ := fin h2
      exact main (by simp) vs a2 rfl
     | ret =>
      obtain ⟨vs, g2, a2, h2⟩ := done_of h1
      obtain ⟨rfl, rfl⟩ := fin h2
      exact main (by simp) vs a2 rfl
end Go.Sx
namespace Go.Sx
open M
def TR (g g' : G) : Prop := ∃ l, g'.tch = l ++ g.tch ∧ g.nx ≤ g'.nx ∧ ∀ nm, nm < g.nx → nm ∉ l → g'.H.get nm = g.H.get nm
theorem TR.refl (g : G) : TR g g := ⟨[], rfl, Nat.le_refl _, fun _ _ _ => rfl⟩
theorem TR.trans {a b c : G} (h : TR a b) (k : TR b c) : TR a c := by
 obtain ⟨l, h1, h2, h3⟩ := h
 obtain ⟨m, k1, k2, k3⟩ := k
 refine ⟨m ++ l, by rw [k1, h1, List.append_assoc], by omega, fun nm hn hm => ?_⟩
 rw [List.mem_append, not_or] at hm
 rw [k3 nm (by omega) hm.1, h3 nm hn hm.2]
structure Tch {α : Type} (x : M α) : Prop where
 of : ∀ g a g', x g = .done a g' → TR g g'
variable {α β : Type}
theorem Tch.ret (a : α) : Tch (ret a) := ⟨fun g b g' h => by obtain ⟨_, rfl⟩ := ret_done h; exact TR.refl g⟩
theorem Tch.no : Tch (no : M α) := ⟨fun _ _ _ h => (no_done h).elim⟩
theorem Tch.andThen {x : M α} {f : α → M β} (hx : Tch x) (hf : ∀ a, Tch (f a)) : Tch (x.andThen f) := ⟨fun g b g' h => by
 obtain ⟨a, g1, h1, h2⟩ := done_of h
 exact (hx.of _ _ _ h1).trans ((hf _).of _ _ _ h2)⟩
theorem Tch.ofOpt (o : Option α) : Tch (ofOpt o) := ⟨fun g b g' h => by obtain ⟨_, rfl⟩ := ofOpt_done h; exact TR.refl g⟩
theorem Tch.req (p : Prop) : Tch (req p) := ⟨fun g b g' h => by cases h; exact ⟨[], rfl, Nat.le_refl _, fun _ _ _ => rfl⟩⟩
theorem Tch.ck (s : Bool) (p : Prop) [Decidable p] : Tch (ck s p) := by
 unfold M.ck
 cases s
 ·by_cases hp : p
  ·simp only [cond_false, hp, decide_true, cond_true]; exact Tch.ret ()
  ·simp only [cond_false, hp, decide_false]; exact Tch.no
 ·exact Tch.req p
theorem Tch.dec (b : Bool) : Tch (dec b) := ⟨fun g d g' h => by
 unfold M.dec at h
 split at h
 ·cases h
 ·cases h; exact ⟨[], rfl, Nat.le_refl _, fun _ _ _ => rfl⟩⟩
theorem Tch.getB (nm : Nat) : Tch (getB nm) := ⟨fun g d g' h => by obtain ⟨_, rfl⟩ := getB_done h; exact TR.refl g⟩
theorem Tch.setB (nm : Nat) (b : ABk) : Tch (setB nm b) := ⟨fun g d g' h => by
 cases h
 exact ⟨[nm], rfl, Nat.le_refl _, fun n _ hn => by simp only [T.get_upd]; rw [if_neg (by simpa using hn)]⟩⟩
theorem Tch.delB (nm : Nat) : Tch (delB nm) := ⟨fun g d g' h => by
 cases h
 exact ⟨[nm], rfl, Nat.le_refl _, fun n _ hn => by simp only [T.get_upd]; rw [if_neg (by simpa using hn)]⟩⟩
theorem Tch.newB (b : ABk) : Tch (newB b) := ⟨fun g d g' h => by
 cases h
 exact ⟨[], rfl, Nat.le_succ _, fun n hn _ => by simp only [T.get_upd]; rw [if_neg (by omega)]⟩⟩
theorem Tch.okIf (b : Bool) : Tch (okIf b) := by
 unfold M.okIf; cases b
 ·exact Tch.no
 ·exact Tch.ret ()
theorem Tch.cond {b : Bool} {x y : M α} (hx : Tch x) (hy : Tch y) : Tch (bif b then x else y) := by cases b <;> assumption
theorem Tch.ite {p : Prop} [Decidable p] {x y : M α} (hx : Tch x) (hy : Tch y) : Tch (if p then x else y) := by split <;> assumption
theorem Tch.getC (nm : Nat) : Tch (getC nm) := (Tch.getB nm).andThen fun _ => Tch.ofOpt _
theorem Tch.ck' (s : Bool) (p : Prop) : Tch (Sx.ck' s p) := by
 unfold Sx.ck'; cases s
 ·exact Tch.ret ()
 ·exact Tch.req p
theorem Tch.loadA (P : Program) (t : TypeId) (a : AA) : Tch (Sx.loadA P t a) := by
 unfold Sx.loadA
 repeat (first | with_reducible exact Tch.ret _ | with_reducible exact Tch.ofOpt _ | with_reducible exact Tch.ck _ _ | with_reducible exact Tch.getC _ | with_reducible apply Tch.cond | with_reducible apply Tch.andThen | with_reducible apply Tch.ite | intro _ | split)
theorem Tch.loadX (P : Program) (t : TypeId) (x : AV) : Tch (Sx.loadX P t x) := by
 unfold Sx.loadX
 repeat (first | with_reducible exact Tch.ret _ | with_reducible exact Tch.ofOpt _ | with_reducible exact Tch.okIf _ | with_reducible exact Tch.loadA _ _ _ | with_reducible apply Tch.andThen | intro _ | split)
theorem Tch.storeA (P : Program) (t : TypeId) (a : AA) (v : AV) : Tch (Sx.storeA P t a v) := by
 unfold Sx.storeA
 repeat (first | with_reducible exact Tch.ofOpt _ | with_reducible exact Tch.ck _ _ | with_reducible exact Tch.getC _ | with_reducible exact Tch.setB _ _ | with_reducible exact Tch.okIf _ | with_reducible apply Tch.cond | with_reducible apply Tch.andThen | with_reducible apply Tch.ite | intro _ | split)
theorem Tch.boxA (v : AV) : Tch (Sx.boxA v) := by
 unfold Sx.boxA
 repeat (first | with_reducible exact Tch.ret _ | with_reducible exact Tch.newB _ | with_reducible exact Tch.okIf _ | with_reducible apply Tch.cond | with_reducible apply Tch.andThen | with_reducible apply Tch.ite | intro _ | split)
theorem Tch.arithR (s : Bool) (k : IntKind) (r : Int) : Tch (Sx.arithR s k r) := by
 unfold Sx.arithR
 repeat (first | with_reducible exact Tch.ret _ | with_reducible exact Tch.req _ | with_reducible apply Tch.cond | with_reducible apply Tch.andThen | with_reducible apply Tch.ite | intro _ | split)
theorem Tch.intBin (s : Bool) (k : IntKind) (op : BinOp) (a b : Int) : Tch (Sx.intBin s k op a b) := by
 unfold Sx.intBin
 repeat (first | with_reducible exact Tch.ret _ | with_reducible exact Tch.no | with_reducible exact Tch.ck _ _ | with_reducible exact Tch.arithR _ _ _ | with_reducible apply Tch.cond | with_reducible apply Tch.andThen | with_reducible apply Tch.ite | intro _ | split)
theorem Tch.shiftA (s : Bool) (k : IntKind) (op : BinOp) (a b : Int) : Tch (Sx.shiftA s k op a b) := by
 unfold Sx.shiftA
 repeat (first | with_reducible exact Tch.ret _ | with_reducible exact Tch.no | with_reducible exact Tch.ck _ _ | with_reducible exact Tch.arithR _ _ _ | with_reducible apply Tch.cond | with_reducible apply Tch.andThen | with_reducible apply Tch.ite | intro _ | split)
theorem Tch.fltBin (s : Bool) (op : BinOp) (x y : Nat) : Tch (Sx.fltBin s op x y) := by
 unfold Sx.fltBin
 repeat (first | with_reducible exact Tch.ret _ | with_reducible exact Tch.no | with_reducible apply Tch.cond | with_reducible apply Tch.andThen | with_reducible apply Tch.ite | intro _ | split)
theorem Tch.cpxBin (s : Bool) (op : BinOp) (a b c d : Nat) : Tch (Sx.cpxBin s op a b c d) := by
 unfold Sx.cpxBin
 repeat (first | with_reducible exact Tch.ret _ | with_reducible exact Tch.no | with_reducible apply Tch.cond | with_reducible apply Tch.andThen | with_reducible apply Tch.ite | intro _ | split)
theorem Tch.strBin (s : Bool) (op : BinOp) (a b : List UInt8) : Tch (Sx.strBin s op a b) := by
 unfold Sx.strBin
 repeat (first | with_reducible exact Tch.ret _ | with_reducible exact Tch.no | with_reducible exact Tch.ck _ _ | with_reducible apply Tch.cond | with_reducible apply Tch.andThen | with_reducible apply Tch.ite | intro _ | split)
theorem Tch.boolEq (op : BinOp) (s a b : Bool) : Tch (Sx.boolEq op s a b) := by
 unfold Sx.boolEq
 repeat (first | with_reducible exact Tch.ret _ | with_reducible exact Tch.no | with_reducible apply Tch.cond | with_reducible apply Tch.andThen | with_reducible apply Tch.ite | intro _ | split)
theorem Tch.nilEq (op : BinOp) (b : Bool) : Tch (Sx.nilEq op b) := by
 unfold Sx.nilEq
 repeat (first | with_reducible exact Tch.ret _ | with_reducible exact Tch.no | with_reducible apply Tch.cond | with_reducible apply Tch.andThen | with_reducible apply Tch.ite | intro _ | split)
theorem Tch.bitsBin (s : Bool) (op : BinOp) (x : Nat) (m : Int) : Tch (Sx.bitsBin s op x m) := by
 unfold Sx.bitsBin
 repeat (first | with_reducible exact Tch.ret _ | with_reducible exact Tch.ck _ _ | with_reducible exact Tch.intBin _ _ _ _ _ | with_reducible apply Tch.cond | with_reducible apply Tch.andThen | with_reducible apply Tch.ite | intro _ | split)
theorem Tch.binA0 (P : Program) (op : BinOp) (t : TypeId) (x y : AV) : Tch (Sx.binA0 P op t x y) := by
 unfold Sx.binA0
 repeat (first | with_reducible exact Tch.ret _ | with_reducible exact Tch.no | with_reducible exact Tch.ofOpt _ | with_reducible exact Tch.ck _ _ | with_reducible exact Tch.ck' _ _ | with_reducible exact Tch.okIf _ | with_reducible exact Tch.intBin _ _ _ _ _ | with_reducible exact Tch.shiftA _ _ _ _ _ | with_reducible exact Tch.fltBin _ _ _ _ | with_reducible exact Tch.cpxBin _ _ _ _ _ _ | with_reducible exact Tch.strBin _ _ _ _ | with_reducible exact Tch.boolEq _ _ _ _ | with_reducible exact Tch.nilEq _ _ | with_reducible exact Tch.bitsBin _ _ _ _ | with_reducible apply Tch.cond | with_reducible apply Tch.andThen | with_reducible apply Tch.ite | intro _ | split)
theorem Tch.binI (P : Program) (op : BinOp) (t : TypeId) (s : Bool) (k : IntKind) (a : Int) (y : AV) : Tch (Sx.binI P op t s k a y) := by
 unfold Sx.binI
 repeat (first | with_reducible exact Tch.no | with_reducible exact Tch.intBin _ _ _ _ _ | with_reducible exact Tch.shiftA _ _ _ _ _ | with_reducible exact Tch.binA0 _ _ _ _ _ | with_reducible apply Tch.cond | with_reducible apply Tch.andThen | with_reducible apply Tch.ite | intro _ | split)
theorem Tch.binF (P : Program) (op : BinOp) (t : TypeId) (s : Bool) (a : Nat) (y : AV) : Tch (Sx.binF P op t s a y) := by
 unfold Sx.binF
 repeat (first | with_reducible exact Tch.fltBin _ _ _ _ | with_reducible exact Tch.binA0 _ _ _ _ _ | with_reducible apply Tch.cond | with_reducible apply Tch.andThen | with_reducible apply Tch.ite | intro _ | split)
theorem Tch.binA (P : Program) (op : BinOp) (t : TypeId) (x y : AV) : Tch (Sx.binA P op t x y) := by
 unfold Sx.binA
 repeat (first | with_reducible exact Tch.binA0 _ _ _ _ _ | with_reducible exact Tch.binI _ _ _ _ _ _ _ | with_reducible exact Tch.binF _ _ _ _ _ _ | with_reducible apply Tch.cond | with_reducible apply Tch.andThen | with_reducible apply Tch.ite | intro _ | split)
theorem Tch.unA (op : UnOp) (x : AV) : Tch (Sx.unA op x) := by
 unfold Sx.unA
 repeat (first | with_reducible exact Tch.ret _ | with_reducible exact Tch.no | with_reducible exact Tch.arithR _ _ _ | with_reducible apply Tch.cond | with_reducible apply Tch.andThen | with_reducible apply Tch.ite | intro _ | split)
theorem Tch.rowsCk (s : Bool) (a : AA) (esz sz n m : Nat) : Tch (Sx.rowsCk s a esz sz n m) := by
 unfold Sx.rowsCk
 repeat (first | with_reducible exact Tch.ck _ _ | with_reducible apply Tch.cond | with_reducible apply Tch.andThen | with_reducible apply Tch.ite | intro _ | split)
theorem Tch.convD (d : TypeDesc) (x : AV) : Tch (Sx.convD d x) := by
 unfold Sx.convD
 repeat (first | with_reducible exact Tch.ret _ | with_reducible exact Tch.no | with_reducible exact Tch.req _ | with_reducible exact Tch.ck _ _ | with_reducible apply Tch.cond | with_reducible apply Tch.andThen | with_reducible apply Tch.ite | intro _ | split)
theorem Tch.convA (P : Program) (src dst : TypeId) (x : AV) : Tch (Sx.convA P src dst x) := by
 unfold Sx.convA
 repeat (first | with_reducible exact Tch.ofOpt _ | with_reducible exact Tch.convD _ _ | with_reducible apply Tch.cond | with_reducible apply Tch.andThen | with_reducible apply Tch.ite | intro _ | split)
theorem Tch.lenA (P : Program) (t : TypeId) (x : AV) : Tch (Sx.lenA P t x) := by
 unfold Sx.lenA
 repeat (first | with_reducible exact Tch.ret _ | with_reducible exact Tch.no | with_reducible exact Tch.okIf _ | with_reducible apply Tch.cond | with_reducible apply Tch.andThen | with_reducible apply Tch.ite | intro _ | split)
theorem Tch.sliceA (P : Program) (t : TypeId) (x : AV) (lo hi mx : Option AV) : Tch (Sx.sliceA P t x lo hi mx) := by
 unfold Sx.sliceA
 repeat (first | with_reducible exact Tch.ret _ | with_reducible exact Tch.no | with_reducible exact Tch.ofOpt _ | with_reducible exact Tch.ck _ _ | with_reducible exact Tch.getC _ | with_reducible exact Tch.okIf _ | with_reducible apply Tch.cond | with_reducible apply Tch.andThen | with_reducible apply Tch.ite | intro _ | split)
theorem Tch.indexAddrA (P : Program) (t : TypeId) (x ix : AV) : Tch (Sx.indexAddrA P t x ix) := by
 unfold Sx.indexAddrA
 repeat (first | with_reducible exact Tch.ret _ | with_reducible exact Tch.no | with_reducible exact Tch.ofOpt _ | with_reducible exact Tch.ck _ _ | with_reducible exact Tch.getC _ | with_reducible exact Tch.req _ | with_reducible exact Tch.okIf _ | with_reducible apply Tch.cond | with_reducible apply Tch.andThen | with_reducible apply Tch.ite | intro _ | split)
theorem Tch.partA (y : Nat × Bool) (cs : List AV) (off : Nat) : Tch (Sx.partA y cs off) := by
 unfold Sx.partA
 repeat (first | with_reducible exact Tch.ret _ | with_reducible exact Tch.ofOpt _ | with_reducible exact Tch.okIf _ | with_reducible apply Tch.cond | with_reducible apply Tch.andThen | with_reducible apply Tch.ite | intro _ | split)
theorem Tch.indexA (P : Program) (t : TypeId) (x ix : AV) : Tch (Sx.indexA P t x ix) := by
 unfold Sx.indexA
 repeat (first | with_reducible exact Tch.ret _ | with_reducible exact Tch.no | with_reducible exact Tch.ofOpt _ | with_reducible exact Tch.ck _ _ | with_reducible exact Tch.okIf _ | with_reducible exact Tch.partA _ _ _ | with_reducible apply Tch.cond | with_reducible apply Tch.andThen | with_reducible apply Tch.ite | intro _ | split)
theorem Tch.fieldAddrA (P : Program) (t : TypeId) (x : AV) (f : Nat) : Tch (Sx.fieldAddrA P t x f) := by
 unfold Sx.fieldAddrA
 repeat (first | with_reducible exact Tch.ret _ | with_reducible exact Tch.ofOpt _ | with_reducible exact Tch.okIf _ | with_reducible apply Tch.cond | with_reducible apply Tch.andThen | with_reducible apply Tch.ite | intro _ | split)
theorem Tch.fieldA (P : Program) (t : TypeId) (x : AV) (f : Nat) : Tch (Sx.fieldA P t x f) := by
 unfold Sx.fieldA
 repeat (first | with_reducible exact Tch.ofOpt _ | with_reducible exact Tch.partA _ _ _ | with_reducible apply Tch.cond | with_reducible apply Tch.andThen | with_reducible apply Tch.ite | intro _ | split)
theorem Tch.makeSliceA (P : Program) (t : TypeId) (l c : AV) : Tch (Sx.makeSliceA P t l c) := by
 unfold Sx.makeSliceA
 repeat (first | with_reducible exact Tch.ret _ | with_reducible exact Tch.ofOpt _ | with_reducible exact Tch.ck _ _ | with_reducible exact Tch.newB _ | with_reducible apply Tch.cond | with_reducible apply Tch.andThen | with_reducible apply Tch.ite | intro _ | split)
theorem Tch.buildA (P : Program) (t : TypeId) (parts : List (Nat × AV)) : Tch (Sx.buildA P t parts) := by
 unfold Sx.buildA
 repeat (first | with_reducible exact Tch.ret _ | with_reducible exact Tch.ofOpt _ | with_reducible exact Tch.okIf _ | with_reducible apply Tch.cond | with_reducible apply Tch.andThen | with_reducible apply Tch.ite | intro _ | split)
theorem Tch.buildSliceA (P : Program) (t : TypeId) (len : Nat) (parts : List (Nat × AV)) : Tch (Sx.buildSliceA P t len parts) := by
 unfold Sx.buildSliceA
 repeat (first | with_reducible exact Tch.ret _ | with_reducible exact Tch.ofOpt _ | with_reducible exact Tch.newB _ | with_reducible exact Tch.okIf _ | with_reducible apply Tch.cond | with_reducible apply Tch.andThen | with_reducible apply Tch.ite | intro _ | split)
theorem Tch.srcOf (esz : Nat) (y : AV) : Tch (Sx.srcOf esz y) := by
 unfold Sx.srcOf
 repeat (first | with_reducible exact Tch.ret _ | with_reducible exact Tch.no | with_reducible exact Tch.getC _ | with_reducible exact Tch.rowsCk _ _ _ _ _ _ | with_reducible apply Tch.cond | with_reducible apply Tch.andThen | with_reducible apply Tch.ite | intro _ | split)
theorem Tch.appendA (P : Program) (t u : TypeId) (x y : AV) : Tch (Sx.appendA P t u x y) := by
 unfold Sx.appendA
 repeat (first | with_reducible exact Tch.ret _ | with_reducible exact Tch.no | with_reducible exact Tch.ofOpt _ | with_reducible exact Tch.ck _ _ | with_reducible exact Tch.getC _ | with_reducible exact Tch.delB _ | with_reducible exact Tch.newB _ | with_reducible exact Tch.okIf _ | with_reducible exact Tch.srcOf _ _ | with_reducible apply Tch.cond | with_reducible apply Tch.andThen | with_reducible apply Tch.ite | intro _ | split)
theorem Tch.copyA (P : Program) (t : TypeId) (x y : AV) : Tch (Sx.copyA P t x y) := by
 unfold Sx.copyA
 repeat (first | with_reducible exact Tch.ret _ | with_reducible exact Tch.no | with_reducible exact Tch.ofOpt _ | with_reducible exact Tch.ck _ _ | with_reducible exact Tch.getC _ | with_reducible exact Tch.setB _ _ | with_reducible exact Tch.okIf _ | with_reducible exact Tch.srcOf _ _ | with_reducible apply Tch.cond | with_reducible apply Tch.andThen | with_reducible apply Tch.ite | intro _ | split)
theorem Tch.maxA (x y : AV) : Tch (Sx.maxA x y) := by
 unfold Sx.maxA
 repeat (first | with_reducible exact Tch.ret _ | with_reducible exact Tch.no | with_reducible apply Tch.cond | with_reducible apply Tch.andThen | with_reducible apply Tch.ite | intro _ | split)
theorem Tch.minA (x y : AV) : Tch (Sx.minA x y) := by
 unfold Sx.minA
 repeat (first | with_reducible exact Tch.ret _ | with_reducible exact Tch.no | with_reducible apply Tch.cond | with_reducible apply Tch.andThen | with_reducible apply Tch.ite | intro _ | split)
theorem Tch.lookA (P : Program) (t : TypeId) (x ix : AV) (ok : Bool) : Tch (Sx.lookA P t x ix ok) := by
 unfold Sx.lookA
 repeat (first | with_reducible exact Tch.ret _ | with_reducible exact Tch.no | with_reducible exact Tch.ofOpt _ | with_reducible exact Tch.getB _ | with_reducible apply Tch.cond | with_reducible apply Tch.andThen | with_reducible apply Tch.ite | intro _ | split)
theorem Tch.mapSetA (P : Program) (t : TypeId) (m k v : AV) : Tch (Sx.mapSetA P t m k v) := by
 unfold Sx.mapSetA
 repeat (first | with_reducible exact Tch.no | with_reducible exact Tch.ofOpt _ | with_reducible exact Tch.getB _ | with_reducible exact Tch.setB _ _ | with_reducible apply Tch.cond | with_reducible apply Tch.andThen | with_reducible apply Tch.ite | intro _ | split)
theorem Tch.makeMapA (P : Program) (t : TypeId) (r : Option AV) : Tch (Sx.makeMapA P t r) := by
 unfold Sx.makeMapA
 repeat (first | with_reducible exact Tch.ret _ | with_reducible exact Tch.ofOpt _ | with_reducible exact Tch.newB _ | with_reducible exact Tch.okIf _ | with_reducible apply Tch.cond | with_reducible apply Tch.andThen | with_reducible apply Tch.ite | intro _ | split)
theorem Tch.rangeA (P : Program) (t : TypeId) (x : AV) : Tch (Sx.rangeA P t x) := by
 unfold Sx.rangeA
 repeat (first | with_reducible exact Tch.ret _ | with_reducible exact Tch.ofOpt _ | with_reducible exact Tch.newB _ | with_reducible exact Tch.okIf _ | with_reducible apply Tch.cond | with_reducible apply Tch.andThen | with_reducible apply Tch.ite | intro _ | split)
theorem Tch.decS (s b : Bool) : Tch (Sx.decS s b) := by
 unfold Sx.decS
 repeat (first | with_reducible exact Tch.ret _ | with_reducible exact Tch.dec _ | with_reducible apply Tch.cond | with_reducible apply Tch.andThen | with_reducible apply Tch.ite | intro _ | split)
theorem Tch.nextA (it : AV) (isString : Bool) : Tch (Sx.nextA it isString) := by
 unfold Sx.nextA
 repeat (first | with_reducible exact Tch.ret _ | with_reducible exact Tch.ofOpt _ | with_reducible exact Tch.getB _ | with_reducible exact Tch.setB _ _ | with_reducible exact Tch.okIf _ | with_reducible exact Tch.decS _ _ | with_reducible apply Tch.cond | with_reducible apply Tch.andThen | with_reducible apply Tch.ite | intro _ | split)
theorem Tch.textA (P : Program) (src dst : TypeId) (x : AV) : Tch (Sx.textA P src dst x) := by
 unfold Sx.textA
 repeat (first | with_reducible exact Tch.ret _ | with_reducible exact Tch.ofOpt _ | with_reducible exact Tch.okIf _ | with_reducible exact Tch.srcOf _ _ | with_reducible apply Tch.cond | with_reducible apply Tch.andThen | with_reducible apply Tch.ite | intro _ | split)
theorem Tch.convAll (P : Program) (src dst : TypeId) (x : AV) : Tch (Sx.convAll P src dst x) := by
 unfold Sx.convAll
 repeat (first | with_reducible exact Tch.convA _ _ _ _ | with_reducible exact Tch.textA _ _ _ _ | with_reducible apply Tch.cond | with_reducible apply Tch.andThen | with_reducible apply Tch.ite | intro _ | split)
theorem Tch.foldA {f : AV → AV → M AV} (hf : ∀ x y, Tch (f x y)) : ∀ (l : List AV) (x : AV), Tch (Sx.foldA f x l)
 | [], x => Tch.ret x
 | y :: l, x => (hf x y).andThen fun _ => Tch.foldA hf l _
theorem Tch.builtinA (P : Program) (b : Builtin) (ts : List TypeId) (args : List AV) : Tch (Sx.builtinA P b ts args) := by
 unfold Sx.builtinA
 repeat (first | with_reducible exact Tch.ret _ | with_reducible exact Tch.no | with_reducible exact Tch.lenA _ _ _ | with_reducible exact Tch.appendA _ _ _ _ _ | with_reducible exact Tch.copyA _ _ _ _ | with_reducible exact Tch.maxA _ _ | with_reducible exact Tch.minA _ _ | with_reducible exact Tch.foldA Tch.maxA _ _ | with_reducible exact Tch.foldA Tch.minA _ _ | with_reducible apply Tch.cond | with_reducible apply Tch.andThen | with_reducible apply Tch.ite | intro _ | split)
def CallT (call : Calls') : Prop := ∀ f args, Tch (call f args)
theorem Tch.opA (P : Program) {call : Calls'} (hc : CallT call) (fr : Fr) (o : Oper) : Tch (Sx.opA P call fr o) := by
 unfold Sx.opA
 repeat (first | with_reducible exact Tch.ret _ | with_reducible exact Tch.no | with_reducible exact Tch.ofOpt _ | with_reducible exact Tch.dec _ | with_reducible exact Tch.loadA _ _ _ | with_reducible exact Tch.loadX _ _ _ | with_reducible exact Tch.storeA _ _ _ _ | with_reducible exact Tch.boxA _ | with_reducible exact Tch.binA _ _ _ _ _ | with_reducible exact Tch.unA _ _ | with_reducible exact Tch.sliceA _ _ _ _ _ _ | with_reducible exact Tch.indexAddrA _ _ _ _ | with_reducible exact Tch.indexA _ _ _ _ | with_reducible exact Tch.fieldAddrA _ _ _ _ | with_reducible exact Tch.fieldA _ _ _ _ | with_reducible exact Tch.makeSliceA _ _ _ _ | with_reducible exact Tch.buildA _ _ _ | with_reducible exact Tch.buildSliceA _ _ _ _ | with_reducible exact Tch.lookA _ _ _ _ _ | with_reducible exact Tch.mapSetA _ _ _ _ _ | with_reducible exact Tch.makeMapA _ _ _ | with_reducible exact Tch.rangeA _ _ _ | with_reducible exact Tch.nextA _ _ | with_reducible exact Tch.convAll _ _ _ _ | with_reducible exact Tch.builtinA _ _ _ _ | exact hc _ _ | with_reducible apply Tch.cond | with_reducible apply Tch.andThen | with_reducible apply Tch.ite | intro _ | split)
theorem Tch.putA (n : Nat) (fr : Fr) (dst : Option Tmp) (v : AV) : Tch (Sx.putA n fr dst v) := by
 unfold Sx.putA
 repeat (first | with_reducible exact Tch.ret _ | with_reducible exact Tch.no | with_reducible apply Tch.cond | with_reducible apply Tch.andThen | with_reducible apply Tch.ite | intro _ | split)
theorem Tch.doA (P : Program) {call : Calls'} (hc : CallT call) (n : Nat) (fr : Fr) (o : Oper) : Tch (Sx.doA P call n fr o) := by
 unfold Sx.doA
 repeat (first | with_reducible exact Tch.opA _ hc _ _ | with_reducible exact Tch.putA _ _ _ _ | with_reducible apply Tch.cond | with_reducible apply Tch.andThen | with_reducible apply Tch.ite | intro _ | split)
theorem Tch.skipA (n : Nat) (fr : Fr) (o : Oper) : Tch (Sx.skipA n fr o) := by
 unfold Sx.skipA
 repeat (first | with_reducible exact Tch.putA _ _ _ _ | with_reducible apply Tch.cond | with_reducible apply Tch.andThen | with_reducible apply Tch.ite | intro _ | split)
theorem Tch.guardStep (P : Program) {call : Calls'} (hc : CallT call) (n : Nat) (all : List Oper) (o : Oper) (fr : Fr) (p : Nat × Bool) : Tch (Sx.guardStep P call n all o fr p) := by
 unfold Sx.guardStep
 repeat (first | with_reducible exact Tch.no | with_reducible exact Tch.dec _ | with_reducible exact Tch.doA _ hc _ _ _ | with_reducible exact Tch.skipA _ _ _ | with_reducible apply Tch.cond | with_reducible apply Tch.andThen | with_reducible apply Tch.ite | intro _ | split)
theorem Tch.stepO (P : Program) {call : Calls'} (hc : CallT call) (n : Nat) (all : List Oper) (o : Oper) (fr : Fr) : Tch (Sx.stepO P call n all o fr) := by
 unfold Sx.stepO
 repeat (first | with_reducible exact Tch.doA _ hc _ _ _ | with_reducible exact Tch.guardStep _ hc _ _ _ _ _ | with_reducible apply Tch.cond | with_reducible apply Tch.andThen | with_reducible apply Tch.ite | intro _ | split)
theorem Tch.opsA (P : Program) {call : Calls'} (hc : CallT call) (n : Nat) (all : List Oper) : ∀ (l : List Oper) (fr : Fr), Tch (Sx.opsA P call n all l fr)
 | [], fr => Tch.ret fr
 | o :: l, fr => (Tch.stepO P hc n all o fr).andThen fun _ => Tch.opsA P hc n all l _
theorem Tch.loopA {body : Fr → M (Ex × Fr)} (hb : ∀ fr, Tch (body fr)) : ∀ (n : Nat) (fr : Fr), Tch (Sx.loopA body n fr)
 | 0, fr => Tch.no
 | n + 1, fr => by
  have ih := Tch.loopA hb n
  unfold Sx.loopA
  repeat (first | with_reducible exact Tch.ret _ | with_reducible exact Tch.no | exact ih _ | exact hb _ | with_reducible apply Tch.cond | with_reducible apply Tch.andThen | with_reducible apply Tch.ite | intro _ | split)
def LoopsT (loops : Loops) : Prop := ∀ id S, loops id = some S → ∀ fr, Tch (S fr)
theorem Tch.codeA (P : Program) {call : Calls'} (hc : CallT call) {region : List Oper → Fr → M Fr} (hr : ∀ l fr, Tch (region l fr)) {loops : Loops} (hl : LoopsT loops) (n rounds : Nat) : ∀ (c : Code) (fr : Fr), Tch (Sx.codeA P call region loops n rounds c fr)
 | .skip, fr => by unfold Sx.codeA; exact Tch.ret _
 | .region _ ops false, fr => by unfold Sx.codeA; exact (Tch.opsA P hc _ _ _ _).andThen fun _ => Tch.ret _
 | .region _ ops true, fr => by unfold Sx.codeA; exact (hr _ _).andThen fun _ => Tch.ret _
 | .seq a b, fr => by
  have iha := Tch.codeA P hc hr hl n rounds a
  have ihb := Tch.codeA P hc hr hl n rounds b
  unfold Sx.codeA
  repeat (first | with_reducible exact Tch.ret _ | with_reducible exact Tch.no | with_reducible exact Tch.dec _ | with_reducible exact Tch.opsA _ hc _ _ _ _ | exact iha _ | exact ihb _ | with_reducible apply Tch.cond | with_reducible apply Tch.andThen | with_reducible apply Tch.ite | intro _ | split)
 | .cond c a b, fr => by
  have iha := Tch.codeA P hc hr hl n rounds a
  have ihb := Tch.codeA P hc hr hl n rounds b
  unfold Sx.codeA
  repeat (first | with_reducible exact Tch.ret _ | with_reducible exact Tch.no | with_reducible exact Tch.dec _ | with_reducible exact Tch.opsA _ hc _ _ _ _ | exact iha _ | exact ihb _ | with_reducible apply Tch.cond | with_reducible apply Tch.andThen | with_reducible apply Tch.ite | intro _ | split)
 | .block id c, fr => by
  have ih := Tch.codeA P hc hr hl n rounds c
  unfold Sx.codeA
  generalize hS : loops id = S
  cases S with
  | some S => exact hl id S hS fr
  | none =>
   refine (ih fr).andThen fun r => ?_
   repeat (first | with_reducible exact Tch.ret _ | with_reducible exact Tch.no | with_reducible exact Tch.dec _ | with_reducible exact Tch.opsA _ hc _ _ _ _ | exact ih _ | with_reducible apply Tch.cond | with_reducible apply Tch.andThen | with_reducible apply Tch.ite | intro _ | split)
 | .loop c, fr => by
  have ih := Tch.codeA P hc hr hl n rounds c
  unfold Sx.codeA
  exact Tch.loopA ih _ _
 | .exit id, fr => by unfold Sx.codeA; exact Tch.ret _
 | .ret, fr => by unfold Sx.codeA; exact Tch.ret _
 | .goto _, fr => Tch.no
 | .label _, fr => Tch.no
 | .rangeFunc .., fr => Tch.no
 | .scope _, fr => Tch.no
 | .refuse _, fr => Tch.no
theorem Tch.resultA (P : Program) (fr : Fr) (r : ResultVar) : Tch (Sx.resultA P fr r) := by
 unfold Sx.resultA
 repeat (first | with_reducible exact Tch.ret _ | with_reducible exact Tch.no | with_reducible exact Tch.loadA _ _ _ | with_reducible apply Tch.cond | with_reducible apply Tch.andThen | with_reducible apply Tch.ite | intro _ | split)
theorem Tch.resultsA (P : Program) (fr : Fr) : ∀ (l : List ResultVar), Tch (Sx.resultsA P fr l)
 | [] => Tch.ret _
 | r :: l => (Tch.resultA P fr r).andThen fun _ => (Tch.resultsA P fr l).andThen fun _ => Tch.ret _
def KnownT (Γ : Known) : Prop := ∀ f s, Γ f = some s → ∀ args, Tch (s args)
theorem runA_tch {P : Program} {Γ : Known} {Λ : FuncId → Loops} {region : Calls' → Nat → List Oper → Fr → M Fr} {rounds : Nat} (hΓ : KnownT Γ) (hΛ : ∀ f, LoopsT (Λ f)) (hreg : ∀ call, CallT call → ∀ n l fr, Tch (region call n l fr)) :
  ∀ fuel, CallT (runA P Γ Λ region rounds fuel)
 | 0 => fun f args => Tch.no
 | fuel + 1 => fun f args => by
  have ih := runA_tch (P := P) (rounds := rounds) hΓ hΛ hreg fuel
  unfold runA
  split
  ·rename_i s hs
   exact hΓ f s hs args
  ·split
   ·exact Tch.no
   ·split
    ·exact Tch.no
    ·refine (Tch.codeA P ih (hreg _ ih _) (hΛ f) _ _ _ _).andThen fun r => ?_
     have hres : Tch ((Sx.resultsA P r.2 (by assumption : Func).results.toList).andThen fun vs =>
      match vs with
      | [v] => ret v
      | _ => ret (.tup vs)) := (Tch.resultsA P _ _).andThen fun vs => by split <;> exact Tch.ret _
     split
     ·exact Tch.no
     ·exact hres
end Go.Sx
namespace Go.Sx
open M
mutual
def AV.low (N : Nat) : AV → Bool
 | .ptr a => Nat.blt a.g N
 | .slc _ _ a _ => Nat.blt a.g N
 | .mp g => Nat.blt g N
 | .fn _ l c => lows N l && lows N c
 | .agg l => lows N l
 | .tup l => lows N l
 | .txs .. => Nat.blt 0 N
 | .ptx _ => Nat.blt 0 N
 | _ => true
def lows (N : Nat) : List AV → Bool
 | [] => true
 | v :: l => v.low N && lows N l
end
theorem blt_lt {a b : Nat} (h : Nat.blt a b = true) : a < b := Nat.le_of_ble_eq_true h
mutual
theorem Rep.ofLow {N N' : Nat} {μ μ' : MM} (h : MM.upto N μ μ') (hz : 0 < N → ∀ b, μ'.fz b = μ.fz b) : ∀ {v : AV} {c : Value}, v.low N = true → Rep N' μ' v c → Rep N μ v c
 | .top, _, _, _ => by simp [Rep]
 | .bool _, _, _, r => by simpa [Rep] using r
 | .sbool _, _, _, r => by simpa [Rep] using r
 | .int .., _, _, r => by simpa [Rep] using r
 | .flt .., _, _, r => by simpa [Rep] using r
 | .raw .., _, _, r => by simpa [Rep] using r
 | .bits .., _, _, r => by simpa [Rep] using r
 | .cpx .., _, _, r => by simpa [Rep] using r
 | .str .., _, _, r => by simpa [Rep] using r
 | .ptr a, _, l, r => by
  have hl := blt_lt (by simpa [AV.low] using l)
  simp only [Rep] at r ⊢
  exact ⟨hl, by rw [← h.addr hl]; exact r.2⟩
 | .nilp, _, _, r => by simpa [Rep] using r
 | .slc _ own a len, _, l, r => by
  have hl := blt_lt (by simpa [AV.low] using l)
  simp only [Rep, RepS] at r ⊢
  obtain ⟨_, A, C, rfl, hlen, h1, h3, h2⟩ := r
  exact ⟨hl, A, C, rfl, hlen, by rw [← h.addr hl]; exact h1, h3, by rw [← h.blk _ hl, ← h.cap _ hl]; exact h2⟩
 | .nils, _, _, r => by simpa [Rep] using r
 | .mp g, _, l, r => by
  have hl := blt_lt (by simpa [AV.low] using l)
  simp only [Rep] at r ⊢
  exact ⟨hl, by rw [← h.blk _ hl]; exact r.2⟩
 | .nilm, _, _, r => by simpa [Rep] using r
 | .fn f l cap, _, lo, r => by
  have hl : lows N l = true ∧ lows N cap = true := by simpa [AV.low] using lo
  simp only [Rep] at r ⊢
  obtain ⟨fs, cs, rfl, h1, h2⟩ := r
  exact ⟨fs, cs, rfl, Reps.ofLow h hz hl.1 h1, Reps.ofLow h hz hl.2 h2⟩
 | .nilf, _, _, r => by simpa [Rep] using r
 | .nili, _, _, r => by simpa [Rep] using r
 | .hdr .., _, _, r => by simpa [Rep] using r
 | .any1, _, _, r => by simpa [Rep] using r
 | .txs .., _, l, r => by
  have hl := blt_lt (by simpa [AV.low] using l)
  simp only [Rep] at r ⊢
  simp only [hz hl] at r
  exact ⟨hl, r.2⟩
 | .ptx _, _, l, r => by
  have hl := blt_lt (by simpa [AV.low] using l)
  simp only [Rep] at r ⊢
  simp only [hz hl] at r
  exact ⟨hl, r.2⟩
 | .agg l, _, lo, r => by
  simp only [Rep] at r ⊢
  obtain ⟨cs, rfl, h1⟩ := r
  exact ⟨cs, rfl, Reps.ofLow h hz (by simpa [AV.low] using lo) h1⟩
 | .tup l, _, lo, r => by
  simp only [Rep] at r ⊢
  obtain ⟨cs, rfl, h1⟩ := r
  exact ⟨cs, rfl, Reps.ofLow h hz (by simpa [AV.low] using lo) h1⟩
theorem Reps.ofLow {N N' : Nat} {μ μ' : MM} (h : MM.upto N μ μ') (hz : 0 < N → ∀ b, μ'.fz b = μ.fz b) : ∀ {l : List AV} {cs : List Value}, lows N l = true → Reps N' μ' l cs → Reps N μ l cs
 | [], _, _, r => by simpa [Reps] using r
 | v :: l, _, lo, r => by
  have hl : v.low N = true ∧ lows N l = true := by simpa [lows] using lo
  simp only [Reps] at r ⊢
  obtain ⟨c, t, rfl, h1, h2⟩ := r
  exact ⟨c, t, rfl, Rep.ofLow h hz hl.1 h1, Reps.ofLow h hz hl.2 h2⟩
end
def dstOf (ops : Array Oper) (k : Nat) : Option Tmp := (ops[k]?).bind (·.dst)
def StepWp (P : Program) (ops : Array Oper) (o : Oper) (g : G) (μ : MM) (w : World) (g' : G) (v : AV) (a : Act) : Prop :=
 ∀ (next : Act → World → Prop) (Q : Exit → Act → World → Prop), (∀ c w', After g μ w g' v c w' → next (a.put o.dst c) w') →
  if Region.wanted o (yielded ops a.tmps) then o.wp P a w next Q else next (a.put o.dst undef) w
structure Plan (P : Program) (ops : Array Oper) (nT : Nat) (g0 gf : G) (fr0 frf : Fr) where
 V : Nat → AV
 fr : Nat → Fr
 H : Nat → T ABk
 nx : Nat → Nat
 ch : Nat → Bool
 T : Nat → List Nat
 bef : Nat → Nat → Bool
 fin : Nat → Fr
 gin : Nat → G
 gout : Nat → G
 lim : Nat → Nat
 NX : Nat
 fr_0 : fr 0 = fr0
 fr_n : fr ops.size = frf
 H_0 : H 0 = g0.H
 nx_0 : nx 0 = g0.nx
 H_n : H ops.size = gf.H
 nx_n : nx ops.size = gf.nx
 fin_ok : ∀ j, j < ops.size → ∀ t v, (fin j).get t = some v → (fr j).get t = some v ∧ ∀ k, k < ops.size → k ≠ j → bef k j = false → bef j k = false → dstOf ops k ≠ some t
 fr_s : ∀ j, j < ops.size → ∀ t, (fr (j + 1)).get t = if dstOf ops j = some t then some (V j) else (fr j).get t
 dst_lt : ∀ j, j < ops.size → ∀ d, dstOf ops j = some d → d < nT
 dst_inj : ∀ i j d, i < ops.size → j < ops.size → dstOf ops i = some d → dstOf ops j = some d → i = j
 bef_lt : ∀ k j, bef k j = true → k < j
 bef_edge : ∀ j o, ops[j]? = some o → ∀ e ∈ o.after, Region.binds .any e = true → bef e.on j = true
 bef_inv : ∀ k j, j < ops.size → bef k j = true → ∃ o e, ops[j]? = some o ∧ e ∈ o.after ∧ Region.binds .any e = true ∧ (k = e.on ∨ bef k e.on = true)
 op_ok : ∀ j o, ops[j]? = some o → (gout j).cs → ∀ μ w (a : Act), GOk (gin j).nx μ w.heap (gin j).H → FrOk (gin j).nx μ (fin j) a.tmps nT → StepWp P ops o (gin j) μ w (gout j) (V j) a
 tr_nx : ∀ j, j < ops.size → (gin j).nx ≤ (gout j).nx
 tr : ∀ j, j < ops.size → ∀ nm, nm < (gin j).nx → nm ∉ T j → (gout j).H.get nm = (gin j).H.get nm
 reader : ∀ j, j < ops.size → ch j = false → H (j + 1) = H j ∧ nx (j + 1) = nx j ∧ T j = [] ∧ (V j).low (lim j) = true ∧ (gin j).nx = NX ∧
  ∀ nm b, (gin j).H.get nm = some b → (H j).get nm = some b ∧ nm < lim j ∧ ∀ k, k < ops.size → k ≠ j → ch k = true → bef k j = false → bef j k = false → nm ∉ T k
 chain : ∀ j, j < ops.size → ch j = true → (gin j).H = H j ∧ (gin j).nx = nx j ∧ H (j + 1) = (gout j).H ∧ nx (j + 1) = (gout j).nx
 ch_total : ∀ i j, i < j → j < ops.size → ch i = true → ch j = true → bef i j = true
 lim_is : ∀ j, j < ops.size → lim j = nx 0 ∨ ∃ k, k < ops.size ∧ ch k = true ∧ bef k j = true ∧ lim j = nx (k + 1)
 NX_ok : nx ops.size ≤ NX
 cs_ok : gf.cs → ∀ j, j < ops.size → (gout j).cs
 cs_0 : gf.cs → g0.cs
namespace Plan
variable {P : Program} {ops : Array Oper} {nT : Nat} {g0 gf : G} {fr0 frf : Fr} (L : Plan P ops nT g0 gf fr0 frf)
theorem nx_s (j : Nat) (hj : j < ops.size) : L.nx j ≤ L.nx (j + 1) := by
 cases hc : L.ch j with
 | false => rw [(L.reader j hj hc).2.1]; exact Nat.le_refl _
 | true =>
  obtain ⟨_, h1, _, h2⟩ := L.chain j hj hc
  have := L.tr_nx j hj
  omega
theorem nx_mono (p q : Nat) (hpq : p ≤ q) (hq : q ≤ ops.size) : L.nx p ≤ L.nx q := by
 induction q with
 | zero => rw [show p = 0 by omega]; exact Nat.le_refl _
 | succ q ih =>
  by_cases h : p = q + 1
  ·rw [h]; exact Nat.le_refl _
  ·exact Nat.le_trans (ih (by omega) (by omega)) (L.nx_s q (by omega))
theorem agree (p q nm : Nat) (hpq : p ≤ q) (hq : q ≤ ops.size) (hn : nm < L.nx p) (hk : ∀ k, p ≤ k → k < q → L.ch k = true → nm ∉ L.T k) : (L.H q).get nm = (L.H p).get nm := by
 induction q with
 | zero => rw [show p = 0 by omega]
 | succ q ih =>
  by_cases h : p = q + 1
  ·rw [h]
  ·have ih := ih (by omega) (by omega) fun k h1 h2 => hk k h1 (by omega)
   cases hc : L.ch q with
   | false => rw [(L.reader q (by omega) hc).1]; exact ih
   | true =>
    obtain ⟨e1, e2, e3, _⟩ := L.chain q (by omega) hc
    rw [e3, L.tr q (by omega) nm (by rw [e2]; have := L.nx_mono p q (by omega) (by omega); omega) (hk q (by omega) (by omega) hc), e1]
    exact ih
theorem same (p q : Nat) (hpq : p ≤ q) (hq : q ≤ ops.size) (hk : ∀ k, p ≤ k → k < q → L.ch k = false) : L.H q = L.H p ∧ L.nx q = L.nx p := by
 induction q with
 | zero => rw [show p = 0 by omega]; exact ⟨rfl, rfl⟩
 | succ q ih =>
  by_cases h : p = q + 1
  ·rw [h]; exact ⟨rfl, rfl⟩
  ·have ih := ih (by omega) (by omega) fun k h1 h2 => hk k h1 (by omega)
   obtain ⟨e1, e2, _⟩ := L.reader q (by omega) (hk q (by omega) (by omega))
   rw [e1, e2]; exact ih
theorem fr_val (j : Nat) (hj : j ≤ ops.size) (t : Nat) (v : AV) (h : (L.fr j).get t = some v) : (∃ k, k < j ∧ dstOf ops k = some t ∧ v = L.V k) ∨ (fr0.get t = some v ∧ ∀ k, k < j → dstOf ops k ≠ some t) := by
 induction j with
 | zero => rw [L.fr_0] at h; exact .inr ⟨h, fun k hk => by omega⟩
 | succ j ih =>
  rw [L.fr_s j (by omega)] at h
  split at h
  ·rename_i e
   cases h
   exact .inl ⟨j, by omega, e, rfl⟩
  ·rename_i e
   rcases ih (by omega) h with ⟨k, h1, h2, h3⟩ | ⟨h1, h2⟩
   ·exact .inl ⟨k, by omega, h2, h3⟩
   ·refine .inr ⟨h1, fun k hk => ?_⟩
    by_cases hkj : k = j
    ·rw [hkj]; exact e
    ·exact h2 k (by omega)
structure Inv (μ0 : MM) (w0 : World) (a0 : Act) (D : Nat → Prop) (a : Act) (w : World) (p : Nat) (μ : MM) : Prop where
 p_le : p ≤ ops.size
 p_ok : ∀ k, k < ops.size → L.ch k = true → (D k ↔ k < p)
 gok : GOk (L.nx p) μ w.heap (L.H p)
 ext : ∀ g : G, g.H = L.H p → g.nx = L.nx p → Ext g0 μ0 w0 g μ w
 defers : a.defers = a0.defers
 size : nT ≤ a.tmps.size
 done : ∀ k, k < ops.size → D k → ∀ d, dstOf ops k = some d → Rep (L.nx p) μ (L.V k) (a.tmps.getD d undef)
 rest : ∀ t, (∀ k, k < ops.size → D k → dstOf ops k ≠ some t) → a.tmps.getD t undef = a0.tmps.getD t undef
 down : ∀ j, j < ops.size → D j → ∀ k, L.bef k j = true → D k
variable {L}
theorem Inv.names {μ0 : MM} {w0 : World} {a0 : Act} {D : Nat → Prop} {a : Act} {w : World} {p : Nat} {μ : MM} (I : L.Inv μ0 w0 a0 D a w p μ) : MM.upto g0.nx μ0 μ ∧ g0.nx ≤ L.nx p :=
 let E := I.ext ⟨L.H p, L.nx p, [], [], True⟩ rfl rfl
 ⟨E.names, E.nx⟩
theorem Inv.frame {μ0 : MM} {w0 : World} {a0 : Act} {D : Nat → Prop} {a : Act} {w : World} {p : Nat} {μ : MM} (I : L.Inv μ0 w0 a0 D a w p μ) (h0 : FrOk g0.nx μ0 fr0 a0.tmps nT) {j : Nat} (hj : j < ops.size) (hD : ¬ D j)
  (hP : ∀ k, L.bef k j = true → D k) {N : Nat} (hN : L.nx p ≤ N) : FrOk N μ (L.fin j) a.tmps nT where
 size := I.size
 val := fun t v hv => by
  obtain ⟨h1, h2⟩ := L.fin_ok j hj t v hv
  rcases L.fr_val j (by omega) t v h1 with ⟨k, hk, hd, rfl⟩ | ⟨h3, h4⟩
  ·have hb : L.bef k j = true := by
    cases hb : L.bef k j with
    | true => rfl
    | false =>
     cases hb' : L.bef j k with
     | true => exact absurd (L.bef_lt _ _ hb') (by omega)
     | false => exact absurd hd (h2 k (by omega) (by omega) hb hb')
   exact (I.done k (by omega) (hP k hb) t hd).later (MM.upto.refl _ _) hN
  ·have : ∀ k, k < ops.size → D k → dstOf ops k ≠ some t := fun k hk hDk e => by
    by_cases hkj : k < j
    ·exact h4 k hkj e
    ·have hne : k ≠ j := fun e => hD (e ▸ hDk)
     cases hb : L.bef j k with
     | true => exact hD (I.down k hk hDk j hb)
     | false =>
      cases hb' : L.bef k j with
      | true => exact absurd (L.bef_lt _ _ hb') (by omega)
      | false => exact h2 k hk hne hb' hb e
   rw [I.rest t this]
   exact (h0.val t v h3).later I.names.1 (Nat.le_trans I.names.2 hN)
end Plan
end Go.Sx
namespace Go.Sx
open M
mutual
theorem Rep.isLow {N : Nat} {μ : MM} : ∀ {v : AV} {c : Value}, Rep N μ v c → v.low N = true
 | .top, _, _ => rfl
 | .bool _, _, _ => rfl
 | .sbool _, _, _ => rfl
 | .int .., _, _ => rfl
 | .flt .., _, _ => rfl
 | .raw .., _, _ => rfl
 | .bits .., _, _ => rfl
 | .cpx .., _, _ => rfl
 | .str .., _, _ => rfl
 | .ptr a, _, r => by simp only [Rep] at r; exact Nat.ble_eq_true_of_le r.1
 | .nilp, _, _ => rfl
 | .slc _ own a len, _, r => by simp only [Rep] at r; exact Nat.ble_eq_true_of_le r.1
 | .nils, _, _ => rfl
 | .mp g, _, r => by simp only [Rep] at r; exact Nat.ble_eq_true_of_le r.1
 | .nilm, _, _ => rfl
 | .fn f l cap, _, r => by
  simp only [Rep] at r
  obtain ⟨fs, cs, rfl, h1, h2⟩ := r
  simp only [AV.low, Reps.isLow h1, Reps.isLow h2, Bool.and_self]
 | .nilf, _, _ => rfl
 | .nili, _, _ => rfl
 | .hdr .., _, _ => rfl
 | .any1, _, _ => rfl
 | .txs .., _, r => by simp only [Rep] at r; exact Nat.ble_eq_true_of_le r.1
 | .ptx _, _, r => by simp only [Rep] at r; exact Nat.ble_eq_true_of_le r.1
 | .agg l, _, r => by
  simp only [Rep] at r
  obtain ⟨cs, rfl, h1⟩ := r
  simp only [AV.low, Reps.isLow h1]
 | .tup l, _, r => by
  simp only [Rep] at r
  obtain ⟨cs, rfl, h1⟩ := r
  simp only [AV.low, Reps.isLow h1]
theorem Reps.isLow {N : Nat} {μ : MM} : ∀ {l : List AV} {cs : List Value}, Reps N μ l cs → lows N l = true
 | [], _, _ => rfl
 | v :: l, _, r => by
  simp only [Reps] at r
  obtain ⟨c, t, rfl, h1, h2⟩ := r
  simp only [lows, Rep.isLow h1, Reps.isLow h2, Bool.and_self]
end
theorem BkOk.back {N N' : Nat} {μ μ' : MM} (h : MM.upto N μ μ') (hz : ∀ b, μ'.fz b = μ.fz b) {hp hp' : Array Obj} {g : Nat} (hg : g < N) {b : ABk} (r : BkOk N μ hp g b) (r' : BkOk N' μ' hp' g b) : BkOk N μ hp' g b := by
 cases b with
 | cells own sz n c =>
  simp only [BkOk, h.blk g hg, h.cap g hg, h.sz g hg, h.base g hg] at r r' ⊢
  refine ⟨r.1, r.2.1, fun hr => ?_⟩
  obtain ⟨cur, ty, fz, h1, h2, h3, h4⟩ := r'.2.2 hr
  obtain ⟨_, _, _, _, _, _, k4⟩ := r.2.2 hr
  refine ⟨cur, ty, fz, h1, h2, h3, fun i hi => ⟨(h4 i hi).1, fun o v hv => ?_⟩⟩
  obtain ⟨e1, cv, e2, e3⟩ := (h4 i hi).2 o v hv
  obtain ⟨_, cv', _, e4⟩ := (k4 i hi).2 o v hv
  exact ⟨e1, cv, e2, Rep.ofLow h (fun _ => hz) e4.isLow e3⟩
 | mSI s l => simp only [BkOk, h.blk g hg] at r r' ⊢; exact r'
 | mII s l => simp only [BkOk, h.blk g hg] at r r' ⊢; exact r'
 | sit s l pos => simp only [BkOk, h.blk g hg, h.base g hg] at r r' ⊢; exact r'
theorem ABk.real_eq' {μ μ' : MM} {g g' : Nat} (e : μ'.cap g' = μ.cap g) (b : ABk) : b.real μ' g' ↔ b.real μ g := by
 cases b <;> simp [ABk.real, e]
theorem GOk.up {N N' : Nat} {μ : MM} {hp : Array Obj} {H H' : T ABk} (h : GOk N μ hp H) (hN : N ≤ N') (hs : ∀ g b, H'.get g = some b → H.get g = some b) : GOk N' μ hp H' where
 lt := fun g b hg => Nat.lt_of_lt_of_le (h.lt g b (hs g b hg)) hN
 ok := fun g b hg => (h.ok g b (hs g b hg)).later (MM.upto.refl _ _) hN (h.lt g b (hs g b hg)) fun _ => rfl
 sep := fun g b g' b' hg hg' => h.sep g b g' b' (hs _ _ hg) (hs _ _ hg')
 fz := fun b o q => ⟨(h.fz b o q).1, fun ⟨g, bk, m1, m2⟩ => (h.fz b o q).2 ⟨g, bk, hs _ _ m1, m2⟩⟩
theorem MM.upto.mono {N N' : Nat} {μ μ' : MM} (h : MM.upto N' μ μ') (hN : N ≤ N') : MM.upto N μ μ' :=
 ⟨fun g hg => h.blk g (by omega), fun g hg => h.cap g (by omega), fun g hg => h.sz g (by omega), fun g hg => h.base g (by omega), h.fz⟩
theorem Ext.swap {g h g' h' : G} {μ μ' : MM} {w w' : World} (e : Ext g μ w g' μ' w') (h1 : h.H = g.H) (h2 : h.nx = g.nx) (h3 : h'.H = g'.H) (h4 : h'.nx = g'.nx) : Ext h μ w h' μ' w' where
 nx := by rw [h2, h4]; exact e.nx
 names := by rw [h2]; exact e.names
 os := e.os
 tape := e.tape
 output := e.output
 size := e.size
 block := fun B hB hn => e.block B hB (by rw [← h1]; exact hn)
 may := fun B hB hm => by rw [h1]; exact e.may B hB (by rw [← h3]; exact hm)
 fz := by rw [h1]; exact e.fz
theorem getD_put_ne {a : Act} {dst : Option Tmp} {c : Value} {t : Nat} (h : dst ≠ some t) : (a.put dst c).tmps.getD t undef = a.tmps.getD t undef := by
 cases dst with
 | none => rfl
 | some d =>
  have : d ≠ t := fun e => h (by rw [e])
  simp only [Act.put, Array.getD_eq_getD_getElem?]
  rw [Array.getElem?_setIfInBounds_ne this]
theorem getD_put_eq {a : Act} {c : Value} {d : Nat} (h : d < a.tmps.size) : (a.put (some d) c).tmps.getD d undef = c := by
 have : d < (a.tmps.setIfInBounds d c).size := by simpa using h
 simp only [Act.put, Array.getD_eq_getD_getElem?, Array.getElem?_eq_getElem this]
 simp
theorem size_put {a : Act} {dst : Option Tmp} {c : Value} : (a.put dst c).tmps.size = a.tmps.size := by cases dst <;> simp [Act.put]
namespace Plan
variable {P : Program} {ops : Array Oper} {nT : Nat} {g0 gf : G} {fr0 frf : Fr} {L : Plan P ops nT g0 gf fr0 frf}
theorem lim_le {j p : Nat} (hj : j < ops.size) (hp : p ≤ ops.size) (h : ∀ k, L.ch k = true → L.bef k j = true → k < p) : L.lim j ≤ L.nx p := by
 rcases L.lim_is j hj with e | ⟨k, hk, hc, hb, e⟩
 ·rw [e]; exact L.nx_mono 0 p (by omega) hp
 ·rw [e]; exact L.nx_mono (k + 1) p (h k hc hb) hp
theorem Inv.reads {μ0 : MM} {w0 : World} {a0 : Act} {D : Nat → Prop} {a : Act} {w : World} {p : Nat} {μ : MM} (I : L.Inv μ0 w0 a0 D a w p μ) {j : Nat} (hj : j < ops.size) (hD : ¬ D j)
  (hP : ∀ k, L.bef k j = true → D k) (hc : L.ch j = false) {nm : Nat} {b : ABk} (h : (L.gin j).H.get nm = some b) : (L.H p).get nm = some b := by
 obtain ⟨_, _, _, _, _, h6⟩ := L.reader j hj hc
 obtain ⟨h7, h8, h9⟩ := h6 nm b h
 by_cases hpj : p ≤ j
 ·have l1 : L.lim j ≤ L.nx p := lim_le hj I.p_le fun k hk hb => (I.p_ok k (by have := L.bef_lt _ _ hb; omega) hk).1 (hP k hb)
  rw [← L.agree p j nm hpj (by omega) (by omega) fun k k1 k2 k3 => ?_]
  ·exact h7
  ·have hnD : ¬ D k := fun hd => by have := (I.p_ok k (by omega) k3).1 hd; omega
   refine h9 k (by omega) (by omega) k3 ?_ ?_
   ·cases hb : L.bef k j with
    | false => rfl
    | true => exact absurd (hP k hb) hnD
   ·cases hb : L.bef j k with
    | false => rfl
    | true => have := L.bef_lt _ _ hb; omega
 ·have l2 : L.lim j ≤ L.nx j := lim_le hj (by omega) fun k hk hb => L.bef_lt _ _ hb
  rw [L.agree j p nm (by omega) I.p_le (by omega) fun k k1 k2 k3 => ?_]
  ·exact h7
  ·have hk : k < ops.size := by have := I.p_le; omega
   have hd : D k := (I.p_ok k hk k3).2 k2
   refine h9 k hk (fun e => hD (e ▸ hd)) k3 ?_ ?_
   ·cases hb : L.bef k j with
    | false => rfl
    | true => have := L.bef_lt _ _ hb; omega
   ·cases hb : L.bef j k with
    | false => rfl
    | true => exact absurd (I.down k hk hd j hb) hD
theorem Inv.chains {μ0 : MM} {w0 : World} {a0 : Act} {D : Nat → Prop} {a : Act} {w : World} {p : Nat} {μ : MM} (I : L.Inv μ0 w0 a0 D a w p μ) {j : Nat} (hj : j < ops.size) (hD : ¬ D j)
  (hP : ∀ k, L.bef k j = true → D k) (hc : L.ch j = true) : L.H j = L.H p ∧ L.nx j = L.nx p := by
 have hpj : p ≤ j := by
  rcases Nat.lt_or_ge j p with h | h
  ·exact absurd ((I.p_ok j hj hc).2 h) hD
  ·exact h
 refine L.same p j hpj (by omega) fun k k1 k2 => ?_
 cases hk : L.ch k with
 | false => rfl
 | true =>
  have := (I.p_ok k (by omega) hk).1 (hP k (L.ch_total k j k2 hj hk hc))
  omega
theorem Inv.after {μ0 : MM} {w0 : World} {a0 : Act} {D : Nat → Prop} {a : Act} {w : World} {p : Nat} {μ : MM} (I : L.Inv μ0 w0 a0 D a w p μ) {j : Nat} (hj : j < ops.size) (hD : ¬ D j)
    (hP : ∀ k, L.bef k j = true → D k) {c : Value} {w' : World} (hA : After (L.gin j) μ w (L.gout j) (L.V j) c w') : ∃ p' μ', L.Inv μ0 w0 a0 (fun k => D k ∨ k = j) (a.put (dstOf ops j) c) w' p' μ' := by
  obtain ⟨μ', hv, hg', hE⟩ := hA
  have hne : ∀ k, k < ops.size → D k → ∀ d, dstOf ops k = some d → dstOf ops j ≠ some d := fun k hk hDk d hd e => hD (by rw [L.dst_inj j k d hj hk e hd]; exact hDk)
  have rest : ∀ t, (∀ k, k < ops.size → (D k ∨ k = j) → dstOf ops k ≠ some t) → (a.put (dstOf ops j) c).tmps.getD t undef = a0.tmps.getD t undef := fun t ht => by
    rw [getD_put_ne (ht j hj (.inr rfl))]
    exact I.rest t fun k hk hDk => ht k hk (.inl hDk)
  have down : ∀ i, i < ops.size → (D i ∨ i = j) → ∀ k, L.bef k i = true → D k ∨ k = j := fun i hi hDi k hb => by
    rcases hDi with h | rfl
    · exact .inl (I.down i hi h k hb)
    · exact .inl (hP k hb)
  have size : nT ≤ (a.put (dstOf ops j) c).tmps.size := by rw [size_put]; exact I.size
  have own : ∀ d, dstOf ops j = some d → (a.put (dstOf ops j) c).tmps.getD d undef = c := fun d hd => by
    rw [hd]; exact getD_put_eq (Nat.lt_of_lt_of_le (L.dst_lt j hj d hd) I.size)
  cases hc : L.ch j with
  | false =>
    obtain ⟨h1, h2, h3, h4, h5, h6⟩ := L.reader j hj hc
    have sub : ∀ nm b, (L.gin j).H.get nm = some b → (L.H p).get nm = some b := fun nm b h => I.reads hj hD hP hc h
    have hpn : L.nx p ≤ L.NX := Nat.le_trans (L.nx_mono p _ I.p_le (Nat.le_refl _)) L.NX_ok
    have hlim : L.lim j ≤ L.nx p := lim_le hj I.p_le fun k hk hb => (I.p_ok k (by have := L.bef_lt _ _ hb; omega) hk).1 (hP k hb)
    have names : MM.upto L.NX μ μ' := by rw [← h5]; exact hE.names
    have mayS : ∀ B, May μ (L.gin j).H B → May μ (L.H p) B := fun B ⟨g, b, e1, e2, e3, e4⟩ => ⟨g, b, sub g b e1, e2, e3, e4⟩
    have up2 : ∀ N, MM.upto N μ ⟨μ.blk, μ.cap, μ.sz, μ.base, μ'.fz⟩ := fun N => ⟨fun _ _ => rfl, fun _ _ => rfl, fun _ _ => rfl, fun _ _ => rfl, names.fz⟩
    have names2 : MM.upto L.NX ⟨μ.blk, μ.cap, μ.sz, μ.base, μ'.fz⟩ μ' := ⟨names.blk, names.cap, names.sz, names.base, fun _ _ q => q⟩
    have re : ∀ g (b : ABk), b.real ⟨μ.blk, μ.cap, μ.sz, μ.base, μ'.fz⟩ g ↔ b.real μ g := fun g b => by cases b <;> exact Iff.rfl
    refine ⟨p, ⟨μ.blk, μ.cap, μ.sz, μ.base, μ'.fz⟩, ?_⟩
    exact {
      p_le := I.p_le
      p_ok := fun k hk hck => by
        have hkj : k ≠ j := fun e => by rw [e, hc] at hck; cases hck
        rw [← I.p_ok k hk hck]
        exact ⟨fun h => h.resolve_right hkj, .inl⟩
      gok := {
        lt := I.gok.lt
        sep := fun g b g' b' hg hg' ho hr hr' he => I.gok.sep g b g' b' hg hg' ho ((re _ _).1 hr) ((re _ _).1 hr') he
        fz := fun b o q => ⟨(hg'.fz b o q).1, fun ⟨g, bk, m1, m2, m3, m4⟩ => by
          have m3' := (re _ _).1 m3
          rcases hE.fz b o q with q1 | q1 | ⟨g2, b2, n1, n2, n3, n4⟩
          · exact (I.gok.fz b o q1).2 ⟨g, bk, m1, m2, m3', m4⟩
          · have := (I.gok.ok g bk m1).lt_size m3'
            have m4' : μ.blk g = b := m4
            omega
          · have hs := sub g2 b2 n1
            have m4' : μ.blk g = b := m4
            have e : g = g2 := I.gok.sep g bk g2 b2 m1 hs m2 m3' n3 (by rw [m4', n4])
            subst e
            rw [m1] at hs
            cases hs
            have hlt := I.gok.lt g bk m1
            have hout : (L.gout j).H.get g = some bk := by rw [L.tr j hj g (by rw [h5]; omega) (by rw [h3]; simp)]; exact n1
            refine (hg'.fz b o q).2 ⟨g, bk, hout, m2, (ABk.real_eq' (names.cap g (by omega)) bk).2 m3', by rw [names.blk g (by omega)]; exact m4'⟩⟩
        ok := fun nm b hb => by
          have hlt := I.gok.lt nm b hb
          have old := I.gok.ok nm b hb
          cases hin : (L.gin j).H.get nm with
          | some b' =>
            have e := sub nm b' hin
            rw [hb] at e
            cases e
            have hout : (L.gout j).H.get nm = some b := by rw [L.tr j hj nm (by rw [h5]; omega) (by rw [h3]; simp)]; exact hin
            exact (old.later (up2 _) (Nat.le_refl _) hlt fun _ => rfl).back (names2.mono hpn) (fun _ => rfl) hlt (hg'.ok nm b hout)
          | none =>
            refine old.later (up2 _) (Nat.le_refl _) hlt fun hr => hE.block _ (old.lt_size hr) ?_
            rintro ⟨g, b', e1, e2, e3, e4⟩
            have := I.gok.sep g b' nm b (sub g b' e1) hb e2 e3 hr e4
            rw [this, hin] at e1
            cases e1 }
      ext := fun g e1 e2 => (I.ext g e1 e2).trans {
        nx := Nat.le_refl _
        names := up2 _
        os := hE.os
        tape := hE.tape
        output := hE.output
        size := hE.size
        block := fun B hB hn => hE.block B hB fun hm => hn (by rw [e1]; exact mayS B hm)
        may := fun B hB hm => by
          obtain ⟨g1, bk, m1, m2, m3, m4⟩ := hm
          exact ⟨g1, bk, m1, m2, (re _ _).1 m3, m4⟩
        fz := fun b o q => by
          rcases hE.fz b o q with q1 | q1 | q1
          · exact .inl q1
          · exact .inr (.inl q1)
          · exact .inr (.inr (by rw [e1]; exact mayS b q1)) }
      defers := by rw [Act.put_defers]; exact I.defers
      size := size
      done := fun k hk hDk d hd => by
        rcases hDk with h | rfl
        · rw [getD_put_ne (hne k hk h d hd)]; exact (I.done k hk h d hd).later (up2 _) (Nat.le_refl _)
        · rw [own d hd]
          exact (Rep.ofLow (names2.mono (Nat.le_trans hlim hpn)) (fun _ _ => rfl) h4 hv).later (MM.upto.refl _ _) hlim
      rest := rest
      down := down }
  | true =>
    obtain ⟨h1, h2, h3, h4⟩ := L.chain j hj hc
    obtain ⟨e1, e2⟩ := I.chains hj hD hP hc
    refine ⟨j + 1, μ', ?_⟩
    exact {
      p_le := hj
      p_ok := fun k hk hck => by
        constructor
        · rintro (h | rfl)
          · rcases Nat.lt_trichotomy k j with h' | h' | h'
            · omega
            · omega
            · exact absurd (I.down k hk h j (L.ch_total j k h' hk hc hck)) hD
          · omega
        · intro h
          by_cases hkj : k = j
          · exact .inr hkj
          · exact .inl (hP k (L.ch_total k j (by omega) hj hck hc))
      gok := by rw [h3, h4]; exact hg'
      ext := fun g f1 f2 => ((I.ext (L.gin j) (by rw [h1, e1]) (by rw [h2, e2])).trans hE).swap rfl rfl (by rw [f1, h3]) (by rw [f2, h4])
      defers := by rw [Act.put_defers]; exact I.defers
      size := size
      done := fun k hk hDk d hd => by
        rcases hDk with h | rfl
        · rw [getD_put_ne (hne k hk h d hd), h4]
          exact (I.done k hk h d hd).later (by rw [← e2, ← h2]; exact hE.names) (by rw [← e2, ← h2]; exact hE.nx)
        · rw [own d hd, h4]
          exact hv
      rest := rest
      down := down }
end Plan
end Go.Sx
namespace Go.Sx
open M
namespace Plan
variable {P : Program} {ops : Array Oper} {nT : Nat} {g0 gf : G} {fr0 frf : Fr} {L : Plan P ops nT g0 gf fr0 frf}
theorem Inv.gok_in {μ0 : MM} {w0 : World} {a0 : Act} {D : Nat → Prop} {a : Act} {w : World} {p : Nat} {μ : MM} (I : L.Inv μ0 w0 a0 D a w p μ) {j : Nat} (hj : j < ops.size) (hD : ¬ D j)
  (hP : ∀ k, L.bef k j = true → D k) : GOk (L.gin j).nx μ w.heap (L.gin j).H ∧ L.nx p ≤ (L.gin j).nx := by
 cases hc : L.ch j with
 | false =>
  obtain ⟨h1, h2, h3, h4, h5, h6⟩ := L.reader j hj hc
  have hpn : L.nx p ≤ L.NX := Nat.le_trans (L.nx_mono p _ I.p_le (Nat.le_refl _)) L.NX_ok
  rw [h5]
  exact ⟨I.gok.up hpn fun g b h => I.reads hj hD hP hc h, hpn⟩
 | true =>
  obtain ⟨h1, h2, h3, h4⟩ := L.chain j hj hc
  obtain ⟨e1, e2⟩ := I.chains hj hD hP hc
  rw [h1, h2, e1, e2]
  exact ⟨I.gok, Nat.le_refl _⟩
theorem Inv.step {μ0 : MM} {w0 : World} {a0 : Act} {D : Nat → Prop} {a : Act} {w : World} {p : Nat} {μ : MM} (I : L.Inv μ0 w0 a0 D a w p μ) (h0 : FrOk g0.nx μ0 fr0 a0.tmps nT) (hcs : gf.cs) {j : Nat} (hj : j < ops.size) (hD : ¬ D j)
  (hP : ∀ k, L.bef k j = true → D k) {Q : Exit → Act → World → Prop} {K : Act → World → Prop} (hK : ∀ a' w' p' μ', L.Inv μ0 w0 a0 (fun k => D k ∨ k = j) a' w' p' μ' → K a' w') : wpOp P ops Q j K a w := by
 obtain ⟨hg, hle⟩ := I.gok_in hj hD hP
 have ho : ops[j]? = some ops[j] := Array.getElem?_eq_getElem hj
 have hd : dstOf ops j = (ops[j]).dst := by simp [dstOf, ho]
 have := L.op_ok j _ ho (L.cs_ok hcs j hj) μ w a hg (I.frame h0 hj hD hP hle) K Q fun c w' hA => by
  obtain ⟨p', μ', hI⟩ := I.after hj hD hP hA
  rw [hd] at hI
  exact hK _ _ _ _ hI
 unfold wpOp
 rw [ho]
 dsimp only
 split
 ·rename_i hw; rw [if_pos hw] at this; exact .inl this
 ·rename_i hw; rw [if_neg hw] at this; exact this
theorem Inv.fin {μ0 : MM} {w0 : World} {a0 : Act} {D : Nat → Prop} {a : Act} {w : World} {p : Nat} {μ : MM} (I : L.Inv μ0 w0 a0 D a w p μ) (h0 : FrOk g0.nx μ0 fr0 a0.tmps nT) (hall : ∀ k, k < ops.size → D k) : FrAfter nT g0 μ0 w0 gf frf a0 a w := by
 obtain ⟨e1, e2⟩ := L.same p ops.size I.p_le (Nat.le_refl _) fun k k1 k2 => by
  cases hc : L.ch k with
  | false => rfl
  | true => have := (I.p_ok k k2 hc).1 (hall k k2); omega
 rw [L.H_n] at e1
 rw [L.nx_n] at e2
 refine ⟨μ, by rw [e1, e2]; exact I.gok, I.ext gf e1 e2, ⟨I.size, fun t v hv => ?_⟩, I.defers⟩
 rw [← L.fr_n] at hv
 rcases L.fr_val ops.size (Nat.le_refl _) t v hv with ⟨k, hk, hd, rfl⟩ | ⟨h1, h2⟩
 ·rw [e2]; exact I.done k hk (hall k hk) t hd
 ·rw [I.rest t fun k hk _ => h2 k hk, e2]
  exact (h0.val t v h1).later I.names.1 I.names.2
theorem Inv.start {μ0 : MM} {w0 : World} {a0 : Act} (hg : GOk g0.nx μ0 w0.heap g0.H) (h0 : FrOk g0.nx μ0 fr0 a0.tmps nT) (D : Nat → Prop) (hD : ∀ k, ¬ D k) : L.Inv μ0 w0 a0 D a0 w0 0 μ0 where
 p_le := Nat.zero_le _
 p_ok := fun k _ _ => ⟨fun h => absurd h (hD k), fun h => by omega⟩
 gok := by rw [L.H_0, L.nx_0]; exact hg
 ext := fun g e1 e2 => Ext.same μ0 w0 (by rw [e1, L.H_0]) (by rw [e2, L.nx_0])
 defers := rfl
 size := h0.size
 done := fun k _ h => absurd h (hD k)
 rest := fun _ _ => rfl
 down := fun j _ h => absurd h (hD j)
def listedD (listed : Array Bool) (k : Nat) : Prop := listed.getD k false = true
theorem listedD_set {listed : Array Bool} {i : Nat} (hi : i < listed.size) : listedD (listed.setIfInBounds i true) = fun k => listedD listed k ∨ k = i := by
 funext k
 simp only [listedD, Array.getD_eq_getD_getElem?]
 by_cases h : i = k
 ·subst h
  rw [Array.getElem?_setIfInBounds_self_of_lt hi]
  simp
 ·rw [Array.getElem?_setIfInBounds_ne h]
  simp [Ne.symm h]
theorem listed_not {listed : Array Bool} {k : Nat} (hk : k < listed.size) : listed.getD k true = false ↔ ¬ listedD listed k := by
 simp [listedD, hk]
theorem any {μ0 : MM} {w0 : World} {a0 : Act} (h0 : FrOk g0.nx μ0 fr0 a0.tmps nT) (hcs : gf.cs) {Q : Exit → Act → World → Prop} (hQ : ∀ a w, FrAfter nT g0 μ0 w0 gf frf a0 a w → Q .normal a w) :
  ∀ (fuel : Nat) (listed : Array Bool) (a : Act) (w : World) (p : Nat) (μ : MM), listed.size = ops.size → listed.toList.count false ≤ fuel → L.Inv μ0 w0 a0 (listedD listed) a w p μ → wpAny P .any ops Q fuel listed a w := by
 have final : ∀ (listed : Array Bool) a w p μ, listed.size = ops.size → L.Inv μ0 w0 a0 (listedD listed) a w p μ → Region.ready .any ops listed = [] → Q .normal a w := by
  intro listed a w p μ hs I hr
  refine hQ _ _ (I.fin h0 ?_)
  intro k
  induction k using Nat.strongRecOn with
  | _ k ih =>
   intro hk
   refine Classical.byContradiction fun hn => ?_
   have : k ∈ Region.ready .any ops listed := by
    refine mem_ready.2 ⟨(listed_not (by omega)).2 hn, ops[k], Array.getElem?_eq_getElem hk, fun e he hb => ?_⟩
    have hb := L.bef_lt _ _ (L.bef_edge k _ (Array.getElem?_eq_getElem hk) e he hb)
    exact ih e.on hb (by omega)
   rw [hr] at this
   cases this
 intro fuel
 induction fuel with
 | zero =>
  intro listed a w p μ hs hc I
  have hr : Region.ready .any ops listed = [] := by
   cases h : Region.ready .any ops listed with
   | nil => rfl
   | cons i l =>
    have hi : i ∈ Region.ready .any ops listed := by rw [h]; exact List.mem_cons_self
    obtain ⟨h1, o, ho, _⟩ := mem_ready.1 hi
    have hlt : i < ops.size := (Array.getElem?_eq_some_iff.1 ho).1
    have : false ∈ listed.toList := by
     have : listed[i]'(by omega) = false := by simpa [show i < listed.size by omega] using h1
     rw [← this]; simp
    have := List.count_pos_iff.2 this
    omega
  exact ⟨hr, final listed a w p μ hs I hr⟩
 | succ fuel ih =>
  intro listed a w p μ hs hc I
  refine ⟨final listed a w p μ hs I, fun i hi => ?_⟩
  obtain ⟨h1, o, ho, h2⟩ := mem_ready.1 hi
  have hlt : i < ops.size := (Array.getElem?_eq_some_iff.1 ho).1
  refine I.step h0 hcs hlt ((listed_not (by omega)).1 h1) ?_ fun a' w' p' μ' I' => ?_
  ·intro k hb
   obtain ⟨o', e, ho', he, hbi, hk⟩ := L.bef_inv k i hlt hb
   rw [ho] at ho'
   cases ho'
   have he' : listedD listed e.on := h2 e he hbi
   rcases hk with rfl | hk
   ·exact he'
   ·exact I.down e.on (by have := L.bef_lt _ _ (L.bef_edge i o ho e he hbi); omega) he' k hk
  ·refine ih _ a' w' p' μ' (by simpa using hs) ?_ (by rw [listedD_set (by omega)]; exact I')
   rw [Array.toList_setIfInBounds, List.count_set (by simp; omega)]
   have : listed.toList[i]'(by simp; omega) = false := by simpa [show i < listed.size by omega] using h1
   rw [this]
   have hm : false ∈ listed.toList := by rw [← this]; simp
   have := List.count_pos_iff.2 hm
   simp only [show (true == false) = false from rfl, beq_self_eq_true, if_true, Bool.false_eq_true, if_false]
   omega
theorem leads (L : Plan P ops nT g0 gf fr0 frf) (hm : P.follows .mixedOrders = true) (id : Nat) : Leads P (.region id ops true) nT fr0 g0 (.normal, frf) gf := by
 refine ⟨L.cs_0, fun hcs μ w a hg hf Q hQ => wp_region_any hm ?_⟩
 have hE : Ext g0 μ w g0 μ { w with drawn := w.drawn + 1 } := Ext.drawn μ w _ rfl rfl
 refine any (L := L) (w0 := { w with drawn := w.drawn + 1 }) hf hcs (fun a' w' h => hQ a' w' (h.trans hE rfl)) ops.size _ a _ 0 μ (by simp) ?_ (Inv.start (w0 := { w with drawn := w.drawn + 1 }) hg hf _ ?_)
 ·rw [Array.toList_replicate]; simp
 ·intro k h
  simp only [listedD, Array.getD_eq_getD_getElem?, Array.getElem?_replicate] at h
  split at h <;> simp at h
end Plan
end Go.Sx
namespace Go.Sx
open M
def guardA (P : Program) (call : Calls') (all : List Oper) (fr : Fr) (o : Oper) : M AV :=
 match o.guard with
 | none => opA P call fr o
 | some (j, want) =>
  match (all[j]?).bind (·.dst) with
  | none => no
  | some d =>
   match fr.get d with
   | some (.bool b) => bif b == want then opA P call fr o else ret (.tup [])
   | some (.sbool b) => (dec b).andThen fun t => bif t == want then opA P call (fr.upd d (some (.bool t))) o else ret (.tup [])
   | some (.tup _) => ret (.tup [])
   | _ => no
def settleA (isg : Bool) (v : AV) : M AV :=
 match v with
 | .sbool b => bif isg then (dec b).andThen fun t => ret (.bool t) else ret (.sbool b)
 | v => ret v
theorem Tch.guardA (P : Program) {call : Calls'} (hc : CallT call) (all : List Oper) (fr : Fr) (o : Oper) : Tch (Sx.guardA P call all fr o) := by
 unfold Sx.guardA
 repeat (first | with_reducible exact Tch.ret _ | with_reducible exact Tch.no | with_reducible exact Tch.dec _ | with_reducible exact Tch.opA _ hc _ _ | with_reducible apply Tch.cond | with_reducible apply Tch.andThen | intro _ | split)
theorem Tch.settleA (isg : Bool) (v : AV) : Tch (Sx.settleA isg v) := by
 unfold Sx.settleA
 repeat (first | with_reducible exact Tch.ret _ | with_reducible exact Tch.no | with_reducible exact Tch.dec _ | with_reducible apply Tch.cond | with_reducible apply Tch.andThen | intro _ | split)
theorem After.keepL {g g1 g' : G} {μ : MM} {w : World} {v : AV} {c : Value} {w' : World} {p : Prop} (k : Keep g g1 p) (h : After g1 μ w g' v c w') : After g μ w g' v c w' := by
 obtain ⟨μ', h1, h2, h3⟩ := h
 exact ⟨μ', h1, h2, h3.swap k.1.symm k.2.1.symm rfl rfl⟩
theorem guardA_sound {P : Program} {call : Calls'} (hcall : CallOk P call) {ops : Array Oper} {fr : Fr} {o : Oper} {v : AV} {g g' : G} (h : guardA P call ops.toList fr o g = .done v g') :
  (g'.cs → g.cs) ∧ (g'.cs → ∀ μ w (a : Act) n, GOk g.nx μ w.heap g.H → FrOk g.nx μ fr a.tmps n → StepWp P ops o g μ w g' v a) := by
 unfold guardA at h
 generalize hgd : o.guard = gd at h
 split at h
 ·obtain ⟨hc, hs⟩ := opA_sound hcall h
  refine ⟨hc, fun hcs μ w a n hg hf next Q hn => ?_⟩
  rw [if_pos (by simp [Region.wanted, hgd])]
  exact hs hcs μ w a n hg hf next Q hn
 ·rename_i j want
  generalize hd : (ops.toList[j]?).bind (·.dst) = dd at h
  rw [Array.getElem?_toList] at hd
  split at h
  ·exact (no_done h).elim
  ·rename_i d
   generalize hfd : fr.get d = fd at h
   split at h
   ·rename_i b
    have key : ∀ N μ (a : Act) n, FrOk N μ fr a.tmps n → Region.wanted o (yielded ops a.tmps) = (b == want) := fun N μ a n hf =>
     wanted_eq hgd (yielded_of hd (by have := hf.val d _ hfd; simpa [Rep] using this))
    cases hb : (b == want) with
    | true =>
     rw [hb] at h key
     obtain ⟨hc, hs⟩ := opA_sound hcall h
     refine ⟨hc, fun hcs μ w a n hg hf next Q hn => ?_⟩
     rw [if_pos (key _ _ a n hf)]
     exact hs hcs μ w a n hg hf next Q hn
    | false =>
     rw [hb] at h key
     obtain ⟨rfl, rfl⟩ := ret_done h
     refine ⟨id, fun hcs μ w a n hg hf next Q hn => ?_⟩
     rw [if_neg (by rw [key _ _ a n hf]; simp)]
     exact hn undef w (.keep0 (Keep.refl g) hg Rep.undef)
   ·rename_i b
    obtain ⟨t, g1, a1, h1⟩ := done_of h
    have k := dec_done a1
    have know : ∀ N μ (a : Act) n, b = t → FrOk N μ fr a.tmps n → FrOk N μ (fr.upd d (some (.bool t))) a.tmps n := fun N μ a n e hf =>
     hf.know hfd fun c hc => by simpa [Rep, e] using hc
    have key : ∀ N μ (a : Act) n, b = t → FrOk N μ fr a.tmps n → Region.wanted o (yielded ops a.tmps) = (t == want) := fun N μ a n e hf =>
     wanted_eq hgd (yielded_of hd (by have := hf.val d _ hfd; rw [← e]; simpa [Rep] using this))
    cases hb : (t == want) with
    | true =>
     simp only [hb, cond_true] at h1
     simp only [hb] at key
     obtain ⟨hc, hs⟩ := opA_sound hcall h1
     refine ⟨fun hcs => (k.2.2 (hc hcs)).1, fun hcs μ w a n hg hf next Q hn => ?_⟩
     have e := (k.2.2 (hc hcs)).2
     rw [if_pos (key _ _ a n e hf)]
     exact hs hcs μ w a n (by rw [k.1, k.2.1]; exact hg) (by rw [k.2.1]; exact know _ _ a n e hf) next Q fun c w' ha => hn c w' (ha.keepL k)
    | false =>
     simp only [hb, cond_false] at h1
     simp only [hb] at key
     obtain ⟨rfl, rfl⟩ := ret_done h1
     refine ⟨fun hcs => (k.2.2 hcs).1, fun hcs μ w a n hg hf next Q hn => ?_⟩
     have e := (k.2.2 hcs).2
     rw [if_neg (by rw [key _ _ a n e hf]; simp)]
     exact hn undef w (.keep0 k hg Rep.undef)
   ·rename_i l
    have key : ∀ N μ (a : Act) n, FrOk N μ fr a.tmps n → Region.wanted o (yielded ops a.tmps) = false := fun N μ a n hf => by
     have := hf.val d _ hfd
     simp only [Rep] at this
     obtain ⟨cs, e, _⟩ := this
     exact wanted_no hgd (yielded_tup hd e)
    obtain ⟨rfl, rfl⟩ := ret_done h
    refine ⟨id, fun hcs μ w a n hg hf next Q hn => ?_⟩
    rw [if_neg (by rw [key _ _ a n hf]; simp)]
    exact hn undef w (.keep0 (Keep.refl g) hg Rep.undef)
   ·exact (no_done h).elim
theorem settleA_sound {isg : Bool} {v u : AV} {g g' : G} (h : settleA isg v g = .done u g') : ∃ p, Keep g g' p ∧ (p → ∀ N μ c, Rep N μ v c → Rep N μ u c) := by
 unfold settleA at h
 split at h
 ·rename_i b
  cases isg with
  | true =>
   obtain ⟨t, g1, a1, h1⟩ := done_of h
   have k := dec_done a1
   obtain ⟨rfl, rfl⟩ := ret_done h1
   exact ⟨_, k, fun e N μ c hc => by simpa [Rep, e] using hc⟩
  | false =>
   obtain ⟨rfl, rfl⟩ := ret_done h
   exact ⟨_, Keep.refl _, fun _ _ _ _ hc => hc⟩
 ·obtain ⟨rfl, rfl⟩ := ret_done h
  exact ⟨_, Keep.refl _, fun _ _ _ _ hc => hc⟩
def oneA (P : Program) (call : Calls') (all : List Oper) (isg : Bool) (fr : Fr) (o : Oper) : M AV := (guardA P call all fr o).andThen fun v => settleA isg v
theorem Tch.oneA (P : Program) {call : Calls'} (hc : CallT call) (all : List Oper) (isg : Bool) (fr : Fr) (o : Oper) : Tch (Sx.oneA P call all isg fr o) := (Tch.guardA P hc all fr o).andThen fun v => Tch.settleA isg v
theorem oneA_sound {P : Program} {call : Calls'} (hcall : CallOk P call) {ops : Array Oper} {isg : Bool} {fr : Fr} {o : Oper} {v : AV} {g g' : G} (h : oneA P call ops.toList isg fr o g = .done v g') :
  (g'.cs → g.cs) ∧ (g'.cs → ∀ μ w (a : Act) n, GOk g.nx μ w.heap g.H → FrOk g.nx μ fr a.tmps n → StepWp P ops o g μ w g' v a) := by
 obtain ⟨u, g1, a1, h1⟩ := done_of h
 obtain ⟨hc, hs⟩ := guardA_sound hcall a1
 obtain ⟨p, k, hv⟩ := settleA_sound h1
 refine ⟨fun hcs => hc (k.2.2 hcs).1, fun hcs μ w a n hg hf next Q hn => hs (k.2.2 hcs).1 μ w a n hg hf next Q fun c w' ha => ?_⟩
 obtain ⟨μ', e1, e2, e3⟩ := ha
 exact hn c w' ⟨μ', by rw [k.2.1]; exact hv (k.2.2 hcs).2 _ _ _ e1, by rw [k.1, k.2.1]; exact e2, e3.swap rfl rfl k.1 k.2.1⟩
end Go.Sx
namespace Go.Sx
open M
def maskOf (ms : List Nat) (o : Oper) : Nat := o.after.toList.foldl (fun s e => bif Region.binds .any e then s ||| (2 ^ e.on ||| ms.getD e.on 0) else s) 0
def masksOf : List Nat → List Oper → List Nat
 | ms, [] => ms
 | ms, o :: l => masksOf (ms ++ [maskOf ms o]) l
def befM (ms : List Nat) (k j : Nat) : Bool := Nat.testBit (ms.getD j 0) k
def staticOk (ms : List Nat) (nT : Nat) : Nat → Nat → List Oper → Bool
 | _, _, [] => true
 | j, m, o :: l => (o.after.toList.all fun e => !Region.binds .any e || Nat.blt e.on j) && Nat.beq (ms.getD j 0) (maskOf ms o) &&
  match o.dst with
  | none => staticOk ms nT (j + 1) m l
  | some d => Nat.blt d nT && !Nat.testBit m d && staticOk ms nT (j + 1) (m ||| 2 ^ d) l
def incs (ms : List Nat) (n j : Nat) : List Nat := (List.range n).filter fun k => !Nat.beq k j && !befM ms k j && !befM ms j k
theorem mem_incs {ms : List Nat} {n j k : Nat} : k ∈ incs ms n j ↔ k < n ∧ k ≠ j ∧ befM ms k j = false ∧ befM ms j k = false := by
 simp only [incs, List.mem_filter, List.mem_range, Bool.and_eq_true, Bool.not_eq_true', Bool.not_eq_true]
 constructor
 ·rintro ⟨h1, ⟨h2, h3⟩, h4⟩; exact ⟨h1, Nat.ne_of_beq_eq_false h2, h3, h4⟩
 ·rintro ⟨h1, h2, h3, h4⟩
  refine ⟨h1, ⟨?_, h3⟩, h4⟩
  cases h : Nat.beq k j with
  | false => rfl
  | true => exact absurd (Nat.eq_of_beq_eq_true h) h2
theorem fold_testBit (ms : List Nat) (k : Nat) : ∀ (l : List Edge) (s : Nat), Nat.testBit (l.foldl (fun s e => bif Region.binds .any e then s ||| (2 ^ e.on ||| ms.getD e.on 0) else s) s) k = true ↔
  Nat.testBit s k = true ∨ ∃ e ∈ l, Region.binds .any e = true ∧ (k = e.on ∨ Nat.testBit (ms.getD e.on 0) k = true)
 | [], s => by simp
 | e :: l, s => by
  rw [List.foldl_cons, fold_testBit ms k l]
  cases hb : Region.binds .any e with
  | false =>
   simp only [cond_false]
   constructor
   ·rintro (h | ⟨e', h1, h2⟩)
    ·exact .inl h
    ·exact .inr ⟨e', List.mem_cons_of_mem _ h1, h2⟩
   ·rintro (h | ⟨e', h1, h2⟩)
    ·exact .inl h
    ·rcases List.mem_cons.1 h1 with rfl | h1
     ·rw [hb] at h2; exact absurd h2.1 (by simp)
     ·exact .inr ⟨e', h1, h2⟩
  | true =>
   simp only [cond_true, Nat.testBit_or, Nat.testBit_two_pow, Bool.or_eq_true, decide_eq_true_eq]
   constructor
   ·rintro ((h | h | h) | ⟨e', h1, h2⟩)
    ·exact .inl h
    ·exact .inr ⟨e, List.mem_cons_self, hb, .inl h.symm⟩
    ·exact .inr ⟨e, List.mem_cons_self, hb, .inr h⟩
    ·exact .inr ⟨e', List.mem_cons_of_mem _ h1, h2⟩
   ·rintro (h | ⟨e', h1, h2⟩)
    ·exact .inl (.inl h)
    ·rcases List.mem_cons.1 h1 with rfl | h1
     ·rcases h2.2 with h | h
      ·exact .inl (.inr (.inl h.symm))
      ·exact .inl (.inr (.inr h))
     ·exact .inr ⟨e', h1, h2⟩
theorem maskOf_bit {ms : List Nat} {o : Oper} {k : Nat} : Nat.testBit (maskOf ms o) k = true ↔ ∃ e ∈ o.after, Region.binds .any e = true ∧ (k = e.on ∨ Nat.testBit (ms.getD e.on 0) k = true) := by
 unfold maskOf
 rw [fold_testBit]
 simp
theorem staticOk_at {ms : List Nat} {nT : Nat} : ∀ {l : List Oper} {j m : Nat}, staticOk ms nT j m l = true → ∀ i o, l[i]? = some o →
  (∀ e ∈ o.after, Region.binds .any e = true → e.on < j + i) ∧ ms.getD (j + i) 0 = maskOf ms o ∧ ∀ d, o.dst = some d → d < nT ∧ Nat.testBit m d = false ∧ ∀ i' o', i < i' → l[i']? = some o' → o'.dst ≠ some d
 | [], j, m, h, i, o, hi => by simp at hi
 | o' :: l, j, m, h, i, o, hi => by
  simp only [staticOk, Bool.and_eq_true, List.all_eq_true] at h
  obtain ⟨⟨h1, h2⟩, h3⟩ := h
  have tail : ∃ m', staticOk ms nT (j + 1) m' l = true ∧ (∀ d, Nat.testBit m' d = false → Nat.testBit m d = false) ∧ ∀ d, o'.dst = some d → d < nT ∧ Nat.testBit m d = false ∧ Nat.testBit m' d = true := by
   cases hd : o'.dst with
   | none => rw [hd] at h3; exact ⟨m, h3, fun _ h => h, fun d hd => by cases hd⟩
   | some d =>
    rw [hd] at h3
    simp only [Bool.and_eq_true, Bool.not_eq_true', Bool.not_eq_true] at h3
    refine ⟨_, h3.2, fun d' h => ?_, fun d' e => ?_⟩
    ·rw [Nat.testBit_or, Bool.or_eq_false_iff] at h; exact h.1
    ·cases e; exact ⟨blt_lt h3.1.1, h3.1.2, by rw [Nat.testBit_or, Nat.testBit_two_pow]; simp⟩
  obtain ⟨m', t1, t2, t3⟩ := tail
  cases i with
  | zero =>
   simp only [List.getElem?_cons_zero, Option.some.injEq] at hi
   subst hi
   refine ⟨fun e he hb => ?_, by simpa using Nat.eq_of_beq_eq_true h2, fun d hd => ⟨(t3 d hd).1, (t3 d hd).2.1, fun i' o'' hi' ho'' => ?_⟩⟩
   ·have := h1 e (by simpa using he)
    rw [hb] at this
    exact blt_lt (by simpa using this)
   ·obtain ⟨i'', rfl⟩ : ∃ i'', i' = i'' + 1 := ⟨i' - 1, by omega⟩
    intro e
    have := ((staticOk_at t1 i'' o'' (by simpa using ho'')).2.2 d e).2.1
    rw [(t3 d hd).2.2] at this
    cases this
  | succ i =>
   obtain ⟨k1, k2, k3⟩ := staticOk_at t1 i o (by simpa using hi)
   refine ⟨fun e he hb => by have := k1 e he hb; omega, by rw [show j + (i + 1) = j + 1 + i by omega]; exact k2, fun d hd => ?_⟩
   obtain ⟨e1, e2, e3⟩ := k3 d hd
   exact ⟨e1, t2 d e2, fun i' o'' hi' ho'' => by
    obtain ⟨i'', rfl⟩ : ∃ i'', i' = i'' + 1 := ⟨i' - 1, by omega⟩
    exact e3 i'' o'' (by omega) (by simpa using ho'')⟩
def eraseAll {α : Type} (t : T α) : List Nat → T α
 | [] => t
 | k :: l => eraseAll (t.upd k none) l
theorem get_eraseAll {α : Type} : ∀ (l : List Nat) (t : T α) (i : Nat), (eraseAll t l).get i = if i ∈ l then none else t.get i
 | [], t, i => by simp [eraseAll]
 | k :: l, t, i => by
  simp only [eraseAll, get_eraseAll l, T.get_upd, List.mem_cons]
  by_cases h : i ∈ l
  ·simp [h]
  ·by_cases h' : i = k <;> simp [h, h']
def cutT {α : Type} (lim : Nat) : Nat → Nat → T α → T α
 | _, _, .e => .e
 | a, b, .n l v r => .n (cutT lim (2 * a) (a + b) l) (bif Nat.blt b lim then v else none) (cutT lim (2 * a) (2 * a + b) r)
theorem get_cutT {α : Type} (lim : Nat) : ∀ (t : T α) (a b i : Nat), (cutT lim a b t).get i = if a * i + b < lim then t.get i else none
 | .e, a, b, i => by simp [cutT, T.get_e]
 | .n l v r, a, b, 0 => by
  simp only [cutT, T.get_n0, Nat.mul_zero, Nat.zero_add]
  by_cases h : b < lim
  ·rw [if_pos h, show Nat.blt b lim = true from Nat.ble_eq_true_of_le h, cond_true]
  ·rw [if_neg h]
   cases hb : Nat.blt b lim with
   | true => exact absurd (blt_lt hb) h
   | false => rfl
 | .n l v r, a, b, i + 1 => by
  simp only [cutT, T.get_ns]
  cases hp : Nat.beq (i % 2) 0 with
  | true =>
   have hp' : i % 2 = 0 := Nat.eq_of_beq_eq_true hp
   simp only [cond_true, get_cutT lim l]
   have e : 2 * a * (i / 2) + (a + b) = a * (i + 1) + b := by
    have : i = 2 * (i / 2) := by omega
    rw [show 2 * a * (i / 2) = a * (2 * (i / 2)) by rw [Nat.mul_comm 2 a, Nat.mul_assoc], ← this, Nat.mul_succ, Nat.add_assoc]
   rw [e]
  | false =>
   have hp' : ¬ i % 2 = 0 := Nat.ne_of_beq_eq_false hp
   simp only [cond_false, get_cutT lim r]
   have e : 2 * a * (i / 2) + (2 * a + b) = a * (i + 1) + b := by
    have : i + 1 = 2 * (i / 2) + 2 := by omega
    rw [this, Nat.mul_add, show 2 * a * (i / 2) = a * (2 * (i / 2)) by rw [Nat.mul_comm 2 a, Nat.mul_assoc], Nat.mul_comm 2 a, Nat.add_assoc]
   rw [e]
end Go.Sx
namespace Go.Sx
open M
def light : Op → Bool
 | .move _ | .assign _ | .pick .. | .binOp .. | .unOp .. | .convert .. | .makeFunc .. | .field .. | .extract .. | .build .. | .nilCheck _ | .fieldAddr .. => true
 | _ => false
def heapy (P : Program) : Nat → TypeId → Bool
 | 0, _ => true
 | n + 1, t =>
  match P.underlying t with
  | some (.slice _) | some (.pointer _) | some (.map _ _) | some (.func _ _ _) => true
  | some (.tuple ts) => ts.toList.isEmpty || ts.toList.any (heapy P n)
  | some (.struct fs) => fs.toList.any fun f => heapy P n f.type
  | some (.array _ e) => heapy P n e
  | _ => false
def makes (P : Program) (o : Oper) : Bool :=
 match o.op with
 | .store .. | .alloc _ | .box .. | .buildSlice .. | .makeSlice .. | .mapUpdate .. | .insert .. | .makeMap .. => true
 | .call c =>
  match c.callee with
  | .value _ => heapy P 3 o.type
  | .builtin b => match b with
   | .append | .copy => true
   | _ => false
  | _ => true
 | _ => false
structure Rc where
 v : AV
 fin : Fr
 gin : G
 gout : G
 ch : Bool
 T : List Nat
 lim : Nat
 fr0 : Fr
 fr1 : Fr
 g0 : G
 g1 : G
structure Cfg where
 nT : Nat
 all : List Oper
 ms : List Nat
 Ts : List (List Nat)
 NX : Nat
 nx0 : Nat
def Cfg.inc (C : Cfg) (j : Nat) : List Nat := incs C.ms C.all.length j
def Cfg.dst (C : Cfg) (k : Nat) : Option Tmp := (C.all[k]?).bind (·.dst)
def Cfg.fin (C : Cfg) (j : Nat) (fr : Fr) : Fr := eraseAll fr ((C.inc j).filterMap C.dst)
def limOf (nx0 m : Nat) : List (Nat × Nat) → Nat
 | [] => nx0
 | c :: l => bif Nat.testBit m c.1 then max c.2 (limOf nx0 m l) else limOf nx0 m l
def Cfg.isg (C : Cfg) (j : Nat) : Bool := C.all.any fun o => match o.guard with
 | some (k, _) => Nat.beq k j
 | none => false
def readIn (C : Cfg) (j : Nat) (o : Oper) (lim : Nat) (g : G) : G :=
 { g with H := bif light o.op then .e else eraseAll (cutT lim 1 0 g.H) ((C.inc j).flatMap fun k => C.Ts.getD k []), nx := C.NX, tch := [] }
def readR (P : Program) (call : Calls') (C : Cfg) (j : Nat) (o : Oper) (fr : Fr) (lim : Nat) : G → Res Rc := fun g =>
 match oneA P call C.all (C.isg j) (C.fin j fr) o (readIn C j o lim g) with
 | .done v go =>
  bif (go.tch.all fun nm => Nat.ble C.NX nm) && v.low lim && Nat.ble C.NX go.nx then
   .done ⟨v, C.fin j fr, readIn C j o lim g, go, false, [], lim, fr, (match o.dst with
    | some d => fr.upd d (some v)
    | none => fr), g, { g with path := go.path, cs := go.cs }⟩ { g with path := go.path, cs := go.cs }
  else .fail
 | .need b => .need b
 | .fail => .fail
def chainR (P : Program) (call : Calls') (C : Cfg) (j : Nat) (o : Oper) (fr : Fr) (chs : List (Nat × Nat)) (lim : Nat) : G → Res Rc := fun g =>
 match oneA P call C.all (C.isg j) (C.fin j fr) o { g with tch := [] } with
 | .done v go =>
  bif (chs.all fun c => befM C.ms c.1 j) && Nat.ble g.nx go.nx then
   .done ⟨v, C.fin j fr, { g with tch := [] }, go, true, go.tch, lim, fr, (match o.dst with
    | some d => fr.upd d (some v)
    | none => fr), g, { go with tch := go.tch ++ g.tch }⟩ { go with tch := go.tch ++ g.tch }
  else .fail
 | .need b => .need b
 | .fail => .fail
def stepR (P : Program) (call : Calls') (C : Cfg) (j : Nat) (o : Oper) (fr : Fr) (chs : List (Nat × Nat)) : M Rc := fun g =>
 bif makes P o then chainR P call C j o fr chs (limOf C.nx0 (C.ms.getD j 0) chs) g
 else match readR P call C j o fr (limOf C.nx0 (C.ms.getD j 0) chs) g with
  | .done rc g' => .done rc g'
  | .need b => .need b
  | .fail => chainR P call C j o fr chs (limOf C.nx0 (C.ms.getD j 0) chs) g
def passA (P : Program) (call : Calls') (C : Cfg) : Nat → List Oper → Fr → List (Nat × Nat) → M (List Rc)
 | _, [], _, _ => ret []
 | j, o :: l, fr, chs => (stepR P call C j o fr chs).andThen fun rc =>
  (passA P call C (j + 1) l rc.fr1 (bif rc.ch then (j, rc.g1.nx) :: chs else chs)).andThen fun rcs => ret (rc :: rcs)
def seenOk (C : Cfg) : Nat → List Rc → Bool
 | _, [] => true
 | j, rc :: l => ((rc.T.all fun nm => (C.Ts.getD j []).contains nm) || ((C.inc j).all fun k => ((C.all[k]?).map fun o => light o.op).getD true)) && seenOk C (j + 1) l
def lastFr : Fr → List Rc → Fr
 | fr, [] => fr
 | _, rc :: l => lastFr rc.fr1 l
def regionA (P : Program) (call : Calls') (nT : Nat) (ops : List Oper) (fr : Fr) : M Fr := fun g =>
 bif staticOk (masksOf [] ops) nT 0 0 ops then
  match passA P call ⟨nT, ops, masksOf [] ops, [], g.nx + 4096, g.nx⟩ 0 ops fr [] g with
  | .done rcs g' =>
   bif Nat.ble g'.nx (g.nx + 4096) && seenOk ⟨nT, ops, masksOf [] ops, [], g.nx + 4096, g.nx⟩ 0 rcs then .done (lastFr fr rcs) g'
   else
    match passA P call ⟨nT, ops, masksOf [] ops, rcs.map (·.T), g.nx + 4294967296, g.nx⟩ 0 ops fr [] g with
    | .done rcs' g'' =>
     bif Nat.ble g''.nx (g.nx + 4294967296) && seenOk ⟨nT, ops, masksOf [] ops, rcs.map (·.T), g.nx + 4294967296, g.nx⟩ 0 rcs' then .done (lastFr fr rcs') g'' else .fail
    | .need b => .need b
    | .fail => .fail
  | .need b => .need b
  | .fail => .fail
 else .fail
end Go.Sx
namespace Go.Sx
open M
def nextFr (o : Oper) (fr : Fr) (v : AV) : Fr :=
 match o.dst with
 | some d => fr.upd d (some v)
 | none => fr
structure RcOk (P : Program) (call : Calls') (C : Cfg) (j : Nat) (o : Oper) (fr : Fr) (chs : List (Nat × Nat)) (g : G) (rc : Rc) (g' : G) : Prop where
 fin : rc.fin = C.fin j fr
 lim : rc.lim = limOf C.nx0 (C.ms.getD j 0) chs
 fr0 : rc.fr0 = fr
 fr1 : rc.fr1 = nextFr o fr rc.v
 g0 : rc.g0 = g
 g1 : rc.g1 = g'
 run : oneA P call C.all (C.isg j) rc.fin o rc.gin = .done rc.v rc.gout
 csin : rc.gin.cs = g.cs
 csout : g'.cs = rc.gout.cs
 tin : rc.gin.tch = []
 nxs : rc.gin.nx ≤ rc.gout.nx
 read : rc.ch = false → rc.T = [] ∧ rc.gin = readIn C j o rc.lim g ∧ (∀ nm ∈ rc.gout.tch, C.NX ≤ nm) ∧ rc.v.low rc.lim = true ∧ g'.H = g.H ∧ g'.nx = g.nx ∧ g'.tch = g.tch
 chain : rc.ch = true → rc.gin.H = g.H ∧ rc.gin.nx = g.nx ∧ rc.T = rc.gout.tch ∧ g'.H = rc.gout.H ∧ g'.nx = rc.gout.nx ∧ g'.tch = rc.gout.tch ++ g.tch ∧ ∀ c ∈ chs, befM C.ms c.1 j = true
theorem readR_done {P : Program} {call : Calls'} {C : Cfg} {j : Nat} {o : Oper} {fr : Fr} {chs : List (Nat × Nat)} {g : G} {rc : Rc} {g' : G} (h : readR P call C j o fr (limOf C.nx0 (C.ms.getD j 0) chs) g = .done rc g') : RcOk P call C j o fr chs g rc g' := by
 unfold readR at h
 generalize hone : oneA P call C.all (C.isg j) (C.fin j fr) o (readIn C j o (limOf C.nx0 (C.ms.getD j 0) chs) g) = r at h
 split at h
 ·rename_i v go
  cases hb : ((go.tch.all fun nm => Nat.ble C.NX nm) && v.low (limOf C.nx0 (C.ms.getD j 0) chs) && Nat.ble C.NX go.nx) with
  | false => rw [hb] at h; cases h
  | true =>
   rw [hb] at h
   cases h
   simp only [Bool.and_eq_true, List.all_eq_true] at hb
   exact ⟨rfl, rfl, rfl, rfl, rfl, rfl, hone, rfl, rfl, rfl, Nat.le_of_ble_eq_true hb.2, fun _ => ⟨rfl, rfl, fun nm hn => Nat.le_of_ble_eq_true (hb.1.1 nm hn), hb.1.2, rfl, rfl, rfl⟩, fun h => by cases h⟩
 ·cases h
 ·cases h
theorem chainR_done {P : Program} {call : Calls'} {C : Cfg} {j : Nat} {o : Oper} {fr : Fr} {chs : List (Nat × Nat)} {g : G} {rc : Rc} {g' : G} (h : chainR P call C j o fr chs (limOf C.nx0 (C.ms.getD j 0) chs) g = .done rc g') : RcOk P call C j o fr chs g rc g' := by
 unfold chainR at h
 generalize hone : oneA P call C.all (C.isg j) (C.fin j fr) o { g with tch := [] } = r at h
 split at h
 ·rename_i v go
  cases hb : ((chs.all fun c => befM C.ms c.1 j) && Nat.ble g.nx go.nx) with
  | false => rw [hb] at h; cases h
  | true =>
   rw [hb] at h
   cases h
   simp only [Bool.and_eq_true, List.all_eq_true] at hb
   exact ⟨rfl, rfl, rfl, rfl, rfl, rfl, hone, rfl, rfl, rfl, Nat.le_of_ble_eq_true hb.2, (fun h => by cases h), fun _ => ⟨rfl, rfl, rfl, rfl, rfl, rfl, hb.1⟩⟩
 ·cases h
 ·cases h
theorem stepR_done {P : Program} {call : Calls'} {C : Cfg} {j : Nat} {o : Oper} {fr : Fr} {chs : List (Nat × Nat)} {g : G} {rc : Rc} {g' : G} (h : stepR P call C j o fr chs g = .done rc g') : RcOk P call C j o fr chs g rc g' := by
 unfold stepR at h
 cases hm : makes P o with
 | true => rw [hm] at h; exact chainR_done h
 | false =>
  rw [hm] at h
  simp only [cond_false] at h
  split at h
  ·rename_i rc' g1 hr
   cases h
   exact readR_done hr
  ·cases h
  ·exact chainR_done h
def frAt (fr : Fr) (rcs : List Rc) : Nat → Fr
 | 0 => fr
 | i + 1 => ((rcs[i]?).map (·.fr1)).getD fr
def gAt (g : G) (rcs : List Rc) : Nat → G
 | 0 => g
 | i + 1 => ((rcs[i]?).map (·.g1)).getD g
theorem frAt_cons (fr : Fr) (rc : Rc) (rcs : List Rc) : ∀ i, i ≤ rcs.length → frAt fr (rc :: rcs) (i + 1) = frAt rc.fr1 rcs i
 | 0, _ => by simp [frAt]
 | i + 1, h => by
  have : rcs[i]? = some rcs[i] := List.getElem?_eq_getElem (by omega)
  simp [frAt, this]
theorem gAt_cons (g : G) (rc : Rc) (rcs : List Rc) : ∀ i, i ≤ rcs.length → gAt g (rc :: rcs) (i + 1) = gAt rc.g1 rcs i
 | 0, _ => by simp [gAt]
 | i + 1, h => by
  have : rcs[i]? = some rcs[i] := List.getElem?_eq_getElem (by omega)
  simp [gAt, this]
theorem passA_at {P : Program} {call : Calls'} {C : Cfg} : ∀ {l : List Oper} {j : Nat} {fr : Fr} {chs : List (Nat × Nat)} {g : G} {rcs : List Rc} {g' : G}, passA P call C j l fr chs g = .done rcs g' →
  rcs.length = l.length ∧ gAt g rcs l.length = g' ∧ frAt fr rcs l.length = lastFr fr rcs ∧ ∀ i o, l[i]? = some o → ∃ rc chs', rcs[i]? = some rc ∧ RcOk P call C (j + i) o (frAt fr rcs i) chs' (gAt g rcs i) rc (gAt g rcs (i + 1)) ∧
   (∀ c ∈ chs', c ∈ chs ∨ ∃ m r, m < i ∧ rcs[m]? = some r ∧ r.ch = true ∧ c = (j + m, r.g1.nx)) ∧ (∀ c ∈ chs, c ∈ chs') ∧ (∀ m r, m < i → rcs[m]? = some r → r.ch = true → (j + m, r.g1.nx) ∈ chs')
 | [], j, fr, chs, g, rcs, g', h => by
  unfold passA at h
  obtain ⟨rfl, rfl⟩ := ret_done h
  exact ⟨rfl, rfl, rfl, fun i o hi => by simp at hi⟩
 | o :: l, j, fr, chs, g, rcs, g', h => by
  unfold passA at h
  obtain ⟨rc, g1, a1, h1⟩ := done_of h
  obtain ⟨rcs', g2, a2, h2⟩ := done_of h1
  obtain ⟨rfl, rfl⟩ := ret_done h2
  have hr := stepR_done a1
  obtain ⟨p1, p2, p3, p4⟩ := passA_at a2
  refine ⟨by simp [p1], ?_, ?_, fun i o' hi => ?_⟩
  ·rw [List.length_cons, gAt_cons _ _ _ _ (by omega), hr.g1]; exact p2
  ·rw [List.length_cons, frAt_cons _ _ _ _ (by omega)]; exact p3
  ·cases i with
   | zero =>
    simp only [List.getElem?_cons_zero, Option.some.injEq] at hi
    subst hi
    refine ⟨rc, chs, rfl, ?_, fun c hc => .inl hc, fun c hc => hc, fun m r hm => by omega⟩
    have e : gAt g (rc :: rcs') (0 + 1) = g1 := by simp [gAt, hr.g1]
    rw [e]
    exact hr
   | succ i =>
    have hi' : l[i]? = some o' := by simpa using hi
    have hlt : i < l.length := (List.getElem?_eq_some_iff.1 hi').1
    obtain ⟨r', chs', q1, q2, q3, q4, q5⟩ := p4 i o' hi'
    refine ⟨r', chs', by simpa using q1, ?_, fun c hc => ?_, fun c hc => ?_, fun m r hm hr1 hr2 => ?_⟩
    ·rw [frAt_cons _ _ _ _ (by omega), gAt_cons _ _ _ _ (by omega), gAt_cons _ _ _ _ (by omega), hr.g1, show j + (i + 1) = j + 1 + i by omega]
     exact q2
    ·rcases q3 c hc with h3 | ⟨m, r, m1, m2, m3, m4⟩
     ·cases hch : rc.ch with
      | false => rw [hch] at h3; exact .inl h3
      | true =>
       rw [hch] at h3
       rcases List.mem_cons.1 h3 with rfl | h3
       ·exact .inr ⟨0, rc, by omega, rfl, hch, rfl⟩
       ·exact .inl h3
     ·exact .inr ⟨m + 1, r, by omega, by simpa using m2, m3, by rw [m4, show j + (m + 1) = j + 1 + m by omega]⟩
    ·refine q4 c ?_
     cases rc.ch
     ·exact hc
     ·exact List.mem_cons_of_mem _ hc
    ·cases m with
     | zero =>
      simp only [List.getElem?_cons_zero, Option.some.injEq] at hr1
      subst hr1
      refine q4 _ ?_
      rw [hr2]
      exact List.mem_cons_self
     | succ m =>
      rw [show j + (m + 1) = j + 1 + m by omega]
      exact q5 m r (by omega) (by simpa using hr1) hr2
theorem seenOk_at {C : Cfg} : ∀ {l : List Rc} {j : Nat}, seenOk C j l = true → ∀ i rc, l[i]? = some rc → (∀ nm ∈ rc.T, nm ∈ C.Ts.getD (j + i) []) ∨ ∀ k ∈ C.inc (j + i), ∀ o, C.all[k]? = some o → light o.op = true
 | [], j, h, i, rc, hi => by simp at hi
 | r :: l, j, h, i, rc, hi => by
  simp only [seenOk, Bool.and_eq_true] at h
  cases i with
  | zero =>
   simp only [List.getElem?_cons_zero, Option.some.injEq] at hi
   subst hi
   rcases Bool.or_eq_true _ _ ▸ h.1 with h | h
   ·left
    rw [List.all_eq_true] at h
    exact fun nm hn => by simpa using h nm hn
   ·right
    rw [List.all_eq_true] at h
    intro k hk o ho
    have := h k hk
    rw [ho] at this
    simpa using this
  | succ i =>
   rw [show j + (i + 1) = j + 1 + i by omega]
   exact seenOk_at h.2 i rc (by simpa using hi)
end Go.Sx
namespace Go.Sx
open M
theorem limOf_is (nx0 m : Nat) : ∀ (chs : List (Nat × Nat)), limOf nx0 m chs = nx0 ∨ ∃ c ∈ chs, Nat.testBit m c.1 = true ∧ limOf nx0 m chs = c.2
 | [] => .inl rfl
 | c :: l => by
  simp only [limOf]
  cases hb : Nat.testBit m c.1 with
  | false =>
   simp only [cond_false]
   rcases limOf_is nx0 m l with h | ⟨c', h1, h2, h3⟩
   ·exact .inl h
   ·exact .inr ⟨c', List.mem_cons_of_mem _ h1, h2, h3⟩
  | true =>
   simp only [cond_true]
   rcases Nat.le_total c.2 (limOf nx0 m l) with h | h
   ·rw [Nat.max_eq_right h]
    rcases limOf_is nx0 m l with h | ⟨c', h1, h2, h3⟩
    ·exact .inl h
    ·exact .inr ⟨c', List.mem_cons_of_mem _ h1, h2, h3⟩
   ·rw [Nat.max_eq_left h]
    exact .inr ⟨c, List.mem_cons_self, hb, rfl⟩
section
variable {P : Program} {call : Calls'} {ops : Array Oper} {nT : Nat} {ms : List Nat} {Ts : List (List Nat)} {NX : Nat} {g g' : G} {fr : Fr} {rcs : List Rc}
def befP (ops : Array Oper) (ms : List Nat) (k j : Nat) : Bool := Nat.blt j ops.size && befM ms k j
theorem befP_lt (hst : staticOk ms nT 0 0 ops.toList = true) : ∀ (j k : Nat), befP ops ms k j = true → k < j := by
 intro j
 induction j using Nat.strongRecOn with
 | _ j ih =>
  intro k h
  simp only [befP, Bool.and_eq_true] at h
  have hj : j < ops.size := blt_lt h.1
  obtain ⟨s1, s2, _⟩ := staticOk_at hst j ops[j] (by simp [hj])
  have hb := h.2
  unfold befM at hb
  rw [Nat.zero_add] at s1 s2
  rw [s2, maskOf_bit] at hb
  obtain ⟨e, he, hbi, hk⟩ := hb
  have hlt := s1 e he hbi
  rcases hk with rfl | hk
  ·exact hlt
  ·exact Nat.lt_trans (ih e.on hlt k (by simp only [befP, Bool.and_eq_true]; exact ⟨Nat.ble_eq_true_of_le (by omega), hk⟩)) hlt
def planOf (hcall : CallOk P call) (hct : CallT call) (hst : staticOk ms nT 0 0 ops.toList = true)
    (hp : passA P call ⟨nT, ops.toList, ms, Ts, NX, g.nx⟩ 0 ops.toList fr [] g = .done rcs g') (hseen : seenOk ⟨nT, ops.toList, ms, Ts, NX, g.nx⟩ 0 rcs = true) (hNX : g'.nx ≤ NX) : Plan P ops nT g g' fr (lastFr fr rcs) :=
  have hat := passA_at hp
  have len : rcs.length = ops.size := by rw [hat.1]; simp
  have at_j : ∀ j (hj : j < ops.size), ∃ rc chs', rcs[j]? = some rc ∧ RcOk P call ⟨nT, ops.toList, ms, Ts, NX, g.nx⟩ j ops[j] (frAt fr rcs j) chs' (gAt g rcs j) rc (gAt g rcs (j + 1)) ∧
      (∀ c ∈ chs', ∃ m r, m < j ∧ rcs[m]? = some r ∧ r.ch = true ∧ c = (m, r.g1.nx)) ∧ (∀ m r, m < j → rcs[m]? = some r → r.ch = true → (m, r.g1.nx) ∈ chs') := fun j hj => by
    obtain ⟨rc, chs', h1, h2, h3, _, h5⟩ := hat.2.2.2 j ops[j] (by simp [hj])
    rw [Nat.zero_add] at h2
    refine ⟨rc, chs', h1, h2, fun c hc => ?_, fun m r hm hr hch => by simpa using h5 m r hm hr hch⟩
    rcases h3 c hc with h | ⟨m, r, k1, k2, k3, k4⟩
    · cases h
    · exact ⟨m, r, k1, k2, k3, by simpa using k4⟩
  have dstC : ∀ k, (Cfg.mk nT ops.toList ms Ts NX g.nx).dst k = dstOf ops k := fun k => by simp [Cfg.dst, dstOf]
  have mem_inc : ∀ k j, k < ops.size → j < ops.size → k ≠ j → befP ops ms k j = false → befP ops ms j k = false → k ∈ (Cfg.mk nT ops.toList ms Ts NX g.nx).inc j := fun k j hk hj hne h1 h2 => by
    unfold Cfg.inc
    rw [mem_incs]
    simp only [befP, show Nat.blt j ops.size = true from Nat.ble_eq_true_of_le hj, show Nat.blt k ops.size = true from Nat.ble_eq_true_of_le hk, Bool.true_and] at h1 h2
    exact ⟨by simpa using hk, hne, h1, h2⟩
  have trj : ∀ j (hj : j < ops.size) rc, rcs[j]? = some rc → ∃ l, rc.gout.tch = l ++ [] ∧ rc.gin.nx ≤ rc.gout.nx ∧ ∀ nm, nm < rc.gin.nx → nm ∉ l → rc.gout.H.get nm = rc.gin.H.get nm := fun j hj rc hrc => by
    obtain ⟨rc', chs', h1, h2, _⟩ := at_j j hj
    rw [hrc] at h1
    cases h1
    have := (Tch.oneA P hct _ _ _ _).of _ _ _ h2.run
    rw [← h2.tin]
    exact this
  { V := fun j => ((rcs[j]?).map (·.v)).getD .top
    fr := frAt fr rcs
    H := fun j => (gAt g rcs j).H
    nx := fun j => (gAt g rcs j).nx
    ch := fun j => ((rcs[j]?).map (·.ch)).getD false
    T := fun j => ((rcs[j]?).map (·.T)).getD []
    bef := befP ops ms
    fin := fun j => ((rcs[j]?).map (·.fin)).getD .e
    gin := fun j => ((rcs[j]?).map (·.gin)).getD g
    gout := fun j => ((rcs[j]?).map (·.gout)).getD g
    lim := fun j => ((rcs[j]?).map (·.lim)).getD g.nx
    NX := NX
    fr_0 := rfl
    fr_n := by rw [← hat.2.2.1]; simp
    H_0 := rfl
    nx_0 := rfl
    H_n := by rw [← hat.2.1]; simp
    nx_n := by rw [← hat.2.1]; simp
    fin_ok := fun j hj t v h => by
      obtain ⟨rc, chs', h1, h2, _⟩ := at_j j hj
      simp only [h1, Option.map_some, Option.getD_some, h2.fin, Cfg.fin, get_eraseAll] at h
      split at h
      · cases h
      · rename_i hn
        refine ⟨h, fun k hk hne b1 b2 e => hn ?_⟩
        rw [List.mem_filterMap]
        exact ⟨k, mem_inc k j hk hj hne b1 b2, by rw [dstC, e]⟩
    fr_s := fun j hj t => by
      obtain ⟨rc, chs', h1, h2, _⟩ := at_j j hj
      have e : frAt fr rcs (j + 1) = rc.fr1 := by simp [frAt, h1]
      have hd : dstOf ops j = (ops[j]).dst := by simp [dstOf, hj]
      rw [e, h2.fr1, hd]
      simp only [h1, Option.map_some, Option.getD_some, nextFr]
      cases hdd : (ops[j]).dst with
      | none => simp
      | some d =>
        simp only [T.get_upd, Option.some.injEq]
        by_cases ht : t = d
        · rw [if_pos ht, if_pos ht.symm]
        · rw [if_neg ht, if_neg (Ne.symm ht)]
    dst_lt := fun j hj d hd => by
      have := (staticOk_at hst j ops[j] (by simp [hj])).2.2 d (by simpa [dstOf, hj] using hd)
      exact this.1
    dst_inj := fun i j d hi hj h1 h2 => by
      have e1 : (ops[i]).dst = some d := by simpa [dstOf, hi] using h1
      have e2 : (ops[j]).dst = some d := by simpa [dstOf, hj] using h2
      rcases Nat.lt_trichotomy i j with h | h | h
      · exact absurd e2 (((staticOk_at hst i ops[i] (by simp [hi])).2.2 d e1).2.2 j ops[j] h (by simp [hj]))
      · exact h
      · exact absurd e1 (((staticOk_at hst j ops[j] (by simp [hj])).2.2 d e2).2.2 i ops[i] h (by simp [hi]))
    bef_lt := fun k j h => befP_lt hst j k h
    bef_edge := fun j o ho e he hb => by
      have hj := (Array.getElem?_eq_some_iff.1 ho).1
      have s2 := (staticOk_at hst j o (by simpa using ho)).2.1
      rw [Nat.zero_add] at s2
      simp only [befP, Bool.and_eq_true]
      refine ⟨Nat.ble_eq_true_of_le hj, ?_⟩
      unfold befM
      rw [s2, maskOf_bit]
      exact ⟨e, he, hb, .inl rfl⟩
    bef_inv := fun k j hj h => by
      have s := staticOk_at hst j ops[j] (by simp [hj])
      simp only [befP, Bool.and_eq_true] at h
      have hb := h.2
      unfold befM at hb
      have s2 := s.2.1
      rw [Nat.zero_add] at s2
      rw [s2, maskOf_bit] at hb
      obtain ⟨e, he, hbi, hk⟩ := hb
      refine ⟨ops[j], e, by simp [hj], he, hbi, hk.imp id fun hk => ?_⟩
      have := s.1 e he hbi
      simp only [befP, Bool.and_eq_true]
      exact ⟨Nat.ble_eq_true_of_le (by omega), hk⟩
    op_ok := fun j o ho hcs μ w a hg hf => by
      have hj := (Array.getElem?_eq_some_iff.1 ho).1
      obtain ⟨rc, chs', h1, h2, _⟩ := at_j j hj
      have eo : o = ops[j] := by rw [Array.getElem?_eq_getElem hj] at ho; cases ho; rfl
      simp only [h1, Option.map_some, Option.getD_some] at hcs hg hf ⊢
      rw [eo]
      exact (oneA_sound hcall h2.run).2 hcs μ w a nT hg hf
    tr_nx := fun j hj => by
      obtain ⟨rc, chs', h1, h2, _⟩ := at_j j hj
      simp only [h1, Option.map_some, Option.getD_some]
      exact h2.nxs
    tr := fun j hj nm hn hT => by
      obtain ⟨rc, chs', h1, h2, _⟩ := at_j j hj
      obtain ⟨l, t1, _, t3⟩ := trj j hj rc h1
      simp only [h1, Option.map_some, Option.getD_some] at hn hT ⊢
      refine t3 nm hn ?_
      rw [List.append_nil] at t1
      rw [← t1]
      cases hc : rc.ch with
      | true => rw [← (h2.chain hc).2.2.1]; exact hT
      | false =>
        obtain ⟨_, e, hx, _⟩ := h2.read hc
        intro hm
        have : NX ≤ nm := hx nm hm
        rw [e] at hn
        simp only [readIn] at hn
        omega
    reader := fun j hj hc => by
      obtain ⟨rc, chs', h1, h2, _⟩ := at_j j hj
      simp only [h1, Option.map_some, Option.getD_some] at hc ⊢
      obtain ⟨r1, r2, r3, r4, r5, r6, _⟩ := h2.read hc
      refine ⟨r5, r6, r1, r4, by rw [r2]; rfl, fun nm b hb => ?_⟩
      rw [r2] at hb
      simp only [readIn] at hb
      cases hl : light (ops[j]).op with
      | true => rw [hl] at hb; simp [T.get] at hb
      | false =>
        rw [hl] at hb
        simp only [cond_false, get_eraseAll, get_cutT, Nat.one_mul, Nat.add_zero] at hb
        split at hb
        · cases hb
        · rename_i hn
          split at hb
          · rename_i hlt
            refine ⟨hb, hlt, fun k hk hne hck b1 b2 hT => ?_⟩
            obtain ⟨rk, chk, k1, k2, _⟩ := at_j k hk
            simp only [k1, Option.map_some, Option.getD_some] at hT
            rcases seenOk_at hseen k rk k1 with hs | hs
            · refine hn ?_
              rw [List.mem_flatMap]
              exact ⟨k, mem_inc k j hk hj hne b1 b2, by simpa using hs nm hT⟩
            · have := hs j (by rw [Nat.zero_add]; exact mem_inc j k hj hk (Ne.symm hne) b2 b1) ops[j] (by simp [hj])
              rw [hl] at this
              cases this
          · cases hb
    chain := fun j hj hc => by
      obtain ⟨rc, chs', h1, h2, _⟩ := at_j j hj
      simp only [h1, Option.map_some, Option.getD_some] at hc ⊢
      obtain ⟨r1, r2, r3, r4, r5, _⟩ := h2.chain hc
      exact ⟨r1, r2, r4, r5⟩
    ch_total := fun i j hij hj hi hc => by
      obtain ⟨rc, chs', h1, h2, h3, h4⟩ := at_j j hj
      obtain ⟨ri, chi, i1, i2, _⟩ := at_j i (by omega)
      simp only [h1, i1, Option.map_some, Option.getD_some] at hc hi
      have := (h2.chain hc).2.2.2.2.2.2 _ (h4 i ri hij i1 hi)
      simp only [befP, Bool.and_eq_true]
      exact ⟨Nat.ble_eq_true_of_le hj, this⟩
    lim_is := fun j hj => by
      obtain ⟨rc, chs', h1, h2, h3, h4⟩ := at_j j hj
      simp only [h1, Option.map_some, Option.getD_some, h2.lim]
      rcases limOf_is g.nx (ms.getD j 0) chs' with h | ⟨c, c1, c2, c3⟩
      · exact .inl h
      · obtain ⟨m, r, m1, m2, m3, rfl⟩ := h3 c c1
        refine .inr ⟨m, by omega, ?_, ?_, ?_⟩
        · simp [m2, m3]
        · simp only [befP, Bool.and_eq_true]
          exact ⟨Nat.ble_eq_true_of_le hj, c2⟩
        · rw [c3]; simp [gAt, m2]
    NX_ok := by rw [show ops.size = ops.toList.length by simp, hat.2.1]; exact hNX
    cs_ok := fun hcs => by
      have key : ∀ d j, j + d = ops.size → (gAt g rcs j).cs := by
        intro d
        induction d with
        | zero => intro j hj; rw [show j = ops.toList.length by simp; omega, hat.2.1]; exact hcs
        | succ d ih =>
          intro j hj
          obtain ⟨rc, chs', h1, h2, _⟩ := at_j j (by omega)
          have := ih (j + 1) (by omega)
          rw [h2.csout] at this
          rw [← h2.csin]
          exact (oneA_sound hcall h2.run).1 this
      intro j hj
      obtain ⟨rc, chs', h1, h2, _⟩ := at_j j hj
      simp only [h1, Option.map_some, Option.getD_some]
      rw [← h2.csout]
      exact key (ops.size - (j + 1)) (j + 1) (by omega)
    cs_0 := fun hcs => by
      have key : ∀ d j, j + d = ops.size → (gAt g rcs j).cs := by
        intro d
        induction d with
        | zero => intro j hj; rw [show j = ops.toList.length by simp; omega, hat.2.1]; exact hcs
        | succ d ih =>
          intro j hj
          obtain ⟨rc, chs', h1, h2, _⟩ := at_j j (by omega)
          have := ih (j + 1) (by omega)
          rw [h2.csout] at this
          rw [← h2.csin]
          exact (oneA_sound hcall h2.run).1 this
      exact key ops.size 0 (by omega) }
end
end Go.Sx
