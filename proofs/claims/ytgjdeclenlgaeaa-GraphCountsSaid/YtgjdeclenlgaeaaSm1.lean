/- THE ENGINE, part 1: an interpreter of the program's code over abstract values, and its proof. -/
import Derived.Test.YtgjdeclenlgaeaaSm0
import Derived.Lib.Strings
import Derived.LoopN
import Derived.Orders
import Derived.Still
noncomputable section
set_option linter.unusedSimpArgs false
set_option linter.unusedVariables false
namespace Go.Sx
open M
theorem PW {P : Program} {op : UnOp} {x v : AV} {g g' : G} (h : YV op x g = .done v g') :
  ∃ p, Keep g g' p ∧ (p → ∀ N μ (w : World) cx, Rep N μ x cx → ∃ c, (Op.unary op cx).run P w = .ok c w ∧ Rep N μ v c) := by
 unfold YV at h
 split at h
 ·obtain ⟨p, k, h1⟩ := jI h
  refine ⟨p, k, fun hp N μ w cx hx => ?_⟩
  simp only [Rep] at hx; subst hx
  exact ⟨_, rfl, h1 hp N μ⟩
 all_goals try (obtain ⟨rfl, rfl⟩ := aB h; refine ⟨_, Keep.refl _, fun _ N μ w cx hx => ?_⟩; simp only [Rep] at hx)
 ·obtain ⟨b, rfl, hb⟩ := hx
  exact ⟨.float .f64 (b ^^^ 9223372036854775808), rfl, by simp only [Rep]; exact ⟨_, rfl, hb.neg⟩⟩
 ·obtain ⟨a, b, rfl, ha, hb⟩ := hx
  exact ⟨.complex .f64 (a ^^^ 9223372036854775808) (b ^^^ 9223372036854775808), rfl, by simp only [Rep]; exact ⟨_, _, rfl, ha.neg, hb.neg⟩⟩
 ·subst hx; exact ⟨_, rfl, by simp only [Rep]⟩
 ·subst hx; exact ⟨_, rfl, by simp only [Rep]⟩
 ·cases h
theorem Rz (n : Int) : FB (ofInt n) (floatOfInt .f64 n) := by
 refine ⟨kU (vV _ _ _), ?_⟩
 have := floatOfInt_wf .f64 n
 simpa [Lit.wf] using this
theorem EC {x : Nat} {k : IntKind} (h : (FY x k).isSome = true) : isnan x = false := by
 cases hn : isnan x with
 | false => rfl
 | true =>
  obtain ⟨s, t, hr⟩ := aZ hn
  unfold FY floatToIntVal at h
  have : (FloatKind.f64.decode x).toInt .zero = none := by
   show (Ieee.double.read x).toInt .zero = none
   rw [hr]; rfl
  rw [this] at h
  cases h
theorem IX {P : Program} {src dst : TypeId} {x v : AV} {g g' : G} (h : BQ P src dst x g = .done v g') :
  ∃ p, Keep g g' p ∧ (p → ∀ N μ (w : World) cx, Rep N μ x cx → ∃ c, (convert src dst cx).run P w = .ok c w ∧ Rep N μ v c) := by
 unfold BQ at h
 obtain ⟨d, g1, a1, h1⟩ := au h
 obtain ⟨hs, rfl⟩ := aI a1
 obtain ⟨dd, g2, a2, h2⟩ := au h1
 obtain ⟨hd, rfl⟩ := aI a2
 clear h h1
 have h := h2
 clear h2
 unfold ER at h
 split at h
 ·rename_i k s k0 n
  have run : ∀ w : World, (convert src dst (.int k0 n)).run P w = .ok (.int k (k.wrap n)) w := fun w => by
   cases d <;> simp [convert, run_underlying hs, run_underlying hd, Conv.intToInt]
  cases hq : (s && xK k) with
  | true =>
   rw [hq, cond_true] at h
   obtain ⟨_, g1, a1, h1⟩ := au h
   obtain ⟨rfl, rfl⟩ := aB h1
   refine ⟨_, iZ a1, fun hp N μ w cx hx => ?_⟩
   rw [Bool.and_eq_true] at hq
   have hk : k = .i64 := by cases k <;> simp [xK] at hq; rfl
   subst hk
   simp only [Rep] at hx; subst hx
   have e : IntKind.i64.wrap n = n := by rw [IntKind.wrap_i64]; omega
   exact ⟨_, run w, by rw [e]; simp only [Rep]⟩
  | false =>
   rw [hq, cond_false] at h
   obtain ⟨rfl, rfl⟩ := aB h
   refine ⟨_, Keep.refl _, fun _ N μ w cx hx => ?_⟩
   simp only [Rep] at hx; subst hx
   exact ⟨_, run w, by simp only [Rep]⟩
 ·rename_i k s x
  have run : ∀ (b : Nat) (w : World), (convert src dst (.int .u64 b)).run P w = .ok (.int k (k.wrap b)) w := fun b w => by
   cases d <;> simp [convert, run_underlying hs, run_underlying hd, Conv.intToInt]
  obtain ⟨_, g1, a1, h1⟩ := au h
  cases hq : (s && xK k) with
  | true =>
   rw [hq, cond_true] at h1
   obtain ⟨_, g2, a2, h2⟩ := au h1
   obtain ⟨rfl, rfl⟩ := aB h2
   refine ⟨_, (dB a1).trans (iZ a2), fun hp N μ w cx hx => ?_⟩
   rw [Bool.and_eq_true] at hq
   have hk : k = .i64 := by cases k <;> simp [xK] at hq; rfl
   subst hk
   simp only [Rep] at hx
   obtain ⟨b, rfl, hb⟩ := hx
   have hbx := hb.fO hp.1
   subst hbx
   have e : IntKind.i64.wrap (b : Int) = b := by rw [IntKind.wrap_i64]; omega
   exact ⟨_, run b w, by rw [e]; simp only [Rep]⟩
  | false =>
   rw [hq, cond_false] at h1
   obtain ⟨rfl, rfl⟩ := aB h1
   refine ⟨_, dB a1, fun hp N μ w cx hx => ?_⟩
   simp only [Rep] at hx
   obtain ⟨b, rfl, hb⟩ := hx
   have hbx := hb.fO hp
   subst hbx
   exact ⟨_, run b w, by simp only [Rep]⟩
 ·rename_i s k0 n
  obtain ⟨rfl, rfl⟩ := aB h
  refine ⟨_, Keep.refl _, fun _ N μ w cx hx => ?_⟩
  simp only [Rep] at hx; subst hx
  exact ⟨_, run_convert_int_float w src dst k0 .f64 n (by rw [hs]; rfl) hd, by simp only [Rep]; exact ⟨_, rfl, Rz n⟩⟩
 ·rename_i s x
  obtain ⟨rfl, rfl⟩ := aB h
  refine ⟨_, Keep.refl _, fun _ N μ w cx hx => ?_⟩
  simp only [Rep] at hx
  obtain ⟨b, rfl, hb⟩ := hx
  exact ⟨_, run_convert_float_float w src dst .f64 .f64 b b (by rw [hs]; rfl) hd (by simp [floatToFloatBits]), by simp only [Rep]; exact ⟨_, rfl, hb⟩⟩
 ·rename_i k s x
  obtain ⟨_, g1, a1, h1⟩ := au h
  obtain ⟨rfl, rfl⟩ := aB h1
  refine ⟨_, dB a1, fun hp N μ w cx hx => ?_⟩
  simp only [Rep] at hx
  obtain ⟨b, rfl, hb⟩ := hx
  have hbx := hb.fO (EC hp)
  subst hbx
  obtain ⟨n, hn⟩ := Option.isSome_iff_exists.1 hp
  refine ⟨_, run_convert_float_int w src dst .f64 k b n (by rw [hs]; rfl) hd hn, ?_⟩
  simp only [Rep, hn, Option.getD_some]
 ·cases h
theorem uq {P : Program} {t : TypeId} (h : qY P t = true) : P.underlying t = some .string := by
 unfold qY at h; split at h <;> first | assumption | cases h
theorem Lc {P : Program} {t ty : TypeId} {x v : AV} {g g' : G} (h : KU P t x g = .done v g') :
  g = g' ∧ ∀ N μ (w : World) cx, Rep N μ x cx → ∃ c, (Builtin.len_ #[t] ty #[cx]).run P w = .ok c w ∧ Rep N μ v c := by
 unfold KU at h
 split at h
 ·rename_i s own a len
  obtain ⟨_, g1, a1, h1⟩ := au h
  obtain ⟨hq, rfl⟩ := aS a1
  obtain ⟨rfl, rfl⟩ := aB h1
  obtain ⟨e, he⟩ := Option.isSome_iff_exists.1 hq
  refine ⟨rfl, fun N μ w cx hx => ?_⟩
  simp only [Rep] at hx
  obtain ⟨_, A, C, rfl, _⟩ := hx
  exact ⟨.int .i64 len, by simp [Builtin.len_, run_underlying (dI he), goInt], by simp only [Rep]⟩
 ·obtain ⟨_, g1, a1, h1⟩ := au h
  obtain ⟨hq, rfl⟩ := aS a1
  obtain ⟨rfl, rfl⟩ := aB h1
  obtain ⟨e, he⟩ := Option.isSome_iff_exists.1 hq
  refine ⟨rfl, fun N μ w cx hx => ?_⟩
  simp only [Rep] at hx; subst hx
  exact ⟨.int .i64 0, by simp [Builtin.len_, run_underlying (dI he), goInt], by simp only [Rep]⟩
 ·rename_i s l
  obtain ⟨_, g1, a1, h1⟩ := au h
  obtain ⟨hq, rfl⟩ := aS a1
  obtain ⟨rfl, rfl⟩ := aB h1
  refine ⟨rfl, fun N μ w cx hx => ?_⟩
  simp only [Rep] at hx; subst hx
  exact ⟨.int .i64 l.length, by simp [Builtin.len_, run_underlying (uq hq), goInt, rF], by simp only [Rep]⟩
 ·rename_i b n C
  obtain ⟨_, g1, a1, h1⟩ := au h
  obtain ⟨hq, rfl⟩ := aS a1
  obtain ⟨rfl, rfl⟩ := aB h1
  obtain ⟨e, he⟩ := Option.isSome_iff_exists.1 hq
  refine ⟨rfl, fun N μ w cx hx => ?_⟩
  simp only [Rep] at hx
  obtain ⟨rfl, _⟩ := hx
  exact ⟨.int .i64 n, by simp [Builtin.len_, run_underlying (dI he), goInt], by simp only [Rep]⟩
 ·rename_i n f
  obtain ⟨_, g1, a1, h1⟩ := au h
  obtain ⟨hq, rfl⟩ := aS a1
  obtain ⟨rfl, rfl⟩ := aB h1
  obtain ⟨e, he⟩ := Option.isSome_iff_exists.1 hq
  refine ⟨rfl, fun N μ w cx hx => ?_⟩
  simp only [Rep] at hx
  obtain ⟨_, b, C, cur, ty', z, rfl, _⟩ := hx
  exact ⟨.int .i64 n, by simp [Builtin.len_, run_underlying (dI he), goInt], by simp only [Rep]⟩
 ·cases h
theorem CS {μ : MM} {a : AA} {s : Bool} {dA sz n : Nat} (hsz : μ.sz a.g = sz) : (μ.addr a).add (n * dA) = μ.addr (ES a s dA sz n) := by
 unfold ES MM.addr
 rw [Addr.add_lit]
 cases hq : (Nat.beq dA sz && Nat.beq a.o 0) with
 | true =>
  obtain ⟨e1, e2⟩ := xQ.1 hq
  simp only [cond_true, hsz, e1, e2, Nat.add_mul, Nat.add_zero, Nat.add_assoc]
 | false => simp only [cond_false, hsz, Nat.add_assoc]
theorem Ny {a : AA} {s : Bool} {dA sz n : Nat} : (ES a s dA sz n).g = a.g := by
 unfold ES; cases (Nat.beq dA sz && Nat.beq a.o 0) <;> rfl
theorem Addr.add_zero' (a : Addr) : a.add 0 = a := by simp [Addr.add]
def zB (N : Nat) (μ : MM) : Option AV → Option Value → Prop
 | none, none => True
 | some v, some c => Rep N μ v c
 | _, _ => False
theorem EU {P : Program} {d y : Nat} {o : Option AV} {l : Bool × Int} (h : qE d o = some l) {N : Nat} {μ : MM} {co : Option Value} (ho : zB N μ o co) (h0 : 0 ≤ l.2) (hy : l.2 ≤ y) (code : BoundsCode) (w : World) :
  (co = none ∧ l.2 = d) ∨ ∃ c, co = some c ∧ (Instr.sliceBound c y code).run P w = .ok l.2.toNat w := by
 cases o with
 | none =>
  cases co with
  | none => simp only [qE, Option.some.injEq] at h; subst h; exact .inl ⟨rfl, rfl⟩
  | some c => exact ho.elim
 | some v =>
  cases co with
  | none => exact ho.elim
  | some c =>
   obtain ⟨k, rfl⟩ := l7 h
   simp only [zB, Rep] at ho
   subst ho
   exact .inr ⟨_, rfl, by simp [Instr.sliceBound, asIntOf, h0, hy]⟩
theorem wV {P : Program} {b : Bool} {len cap : Nat} {lo hi : Option AV} {l h : Bool × Int} (hl : qE 0 lo = some l) (hh : qE len hi = some h) {N : Nat} {μ : MM} {clo chi : Option Value}
  (h1 : zB N μ lo clo) (h2 : zB N μ hi chi) (h0 : 0 ≤ l.2) (hlh : l.2 ≤ h.2) (hhl : h.2 ≤ len) (hcap : len ≤ cap) (w : World) :
  (Instr.sliceBounds b len cap clo chi none).run P w = .ok (l.2.toNat, h.2.toNat, cap) w := by
 have hH := EU (P := P) (y := cap) hh h2 (by omega) (by omega) (if b then .sliceAcap else .sliceAlen) w
 have hL := EU (P := P) (y := h.2.toNat) hl h1 h0 (by omega) .sliceB w
 rcases hH with ⟨rfl, e⟩ | ⟨c, rfl, hc⟩
 ·rcases hL with ⟨rfl, e'⟩ | ⟨c', rfl, hc'⟩
  ·simp [Instr.sliceBounds, e, e']
  ·have : h.2.toNat = len := by omega
   rw [this] at hc' ⊢
   simp [Instr.sliceBounds, hc']
 ·rcases hL with ⟨rfl, e'⟩ | ⟨c', rfl, hc'⟩
  ·cases b <;> simp at hc <;> simp [Instr.sliceBounds, hc, e']
  ·cases b <;> simp at hc <;> simp [Instr.sliceBounds, hc, hc']
theorem Gq {P : Program} {t : TypeId} {x v : AV} {lo hi mx : Option AV} {g g' : G} (h : wO P t x lo hi mx g = .done v g') :
  ∃ p, Keep g g' p ∧ (p → ∀ μ (w : World) cx clo chi Vd, dP g.nx μ w.heap g.H → Rep g.nx μ x cx → zB g.nx μ lo clo → zB g.nx μ hi chi → zB g.nx μ mx Vd →
   ∃ c, (Instr.sliceAt t cx clo chi Vd).run P w = .ok c w ∧ Rep g.nx μ v c) := by
 unfold wO at h
 obtain ⟨_, g0, a0, h0⟩ := au h
 obtain ⟨hm, rfl⟩ := aS a0
 have hmx : mx = none := by cases mx <;> simp at hm; rfl
 subst hmx
 split at h0
 ·rename_i s own a len
  obtain ⟨e, g1, a1, h1⟩ := au h0
  obtain ⟨he, rfl⟩ := aI a1
  obtain ⟨y, g2, a2, h2⟩ := au h1
  obtain ⟨hy, rfl⟩ := aI a2
  obtain ⟨l, g3, a3, h3⟩ := au h2
  obtain ⟨hl, rfl⟩ := aI a3
  obtain ⟨hb, g4, a4, h4⟩ := au h3
  obtain ⟨hh, rfl⟩ := aI a4
  obtain ⟨_, g5, a5, h5⟩ := au h4
  have k5 := dB a5
  obtain ⟨i, d, hi', hd, e1, e2⟩ := iI hy
  have ht := dI he
  have run : ∀ {N : Nat} {μ : MM} {w : World} {A : Option Addr} {C : Nat} {clo chi : Option Value}, len ≤ C → (0 ≤ l.2 ∧ l.2 ≤ hb.2 ∧ hb.2 ≤ len) → zB N μ lo clo → zB N μ hi chi →
    (Instr.sliceAt t (.slice A len C) clo chi none).run P w = .ok (.slice (if C = l.2.toNat then A else A.map (·.add (l.2.toNat * i.size))) (hb.2.toNat - l.2.toNat) (C - l.2.toNat)) w := by
   intro N μ w A C clo chi hC hp r1 r2
   have := wV (P := P) (b := true) hl hh r1 r2 hp.1 hp.2.1 hp.2.2 hC w
   simp [Instr.sliceAt, Instr.slice, run_underlying ht, this, run_sizeOf hi']
  cases hlo : lo with
  | none =>
   rw [hlo] at h5 hl
   simp only [Option.isNone_none, cond_true] at h5
   obtain ⟨rfl, rfl⟩ := aB h5
   simp only [qE, Option.some.injEq] at hl
   subst hl
   refine ⟨_, k5, fun hp μ w cx clo chi Vd hg hx r1 r2 r3 => ?_⟩
   cases Vd with
   | some => exact r3.elim
   | none =>
   simp only [Rep] at hx
   obtain ⟨hag, A, C, rfl, hC, hA, hnn, hown⟩ := hx
   rw [hlo] at run
   refine ⟨_, run hC hp r1 r2, ?_⟩
   simp only at hp
   simp only [Rep]
   refine ⟨hag, A, C, ?_, by omega, fun hq => hA (by omega), fun hs => hnn (by simp only [Bool.or_eq_false_iff] at hs; exact hs.1), fun ho => ?_⟩
   ·simp [Addr.add_zero']
   ·obtain ⟨q1, q2, q3⟩ := hown ho
    exact ⟨q1, q2, q3.imp (fun q => ⟨q.1, q.2.1, by omega⟩) id⟩
  | some lv =>
   rw [hlo] at h5
   simp only [Option.isNone_some, cond_false] at h5
   obtain ⟨b, g6, a6, h6⟩ := au h5
   obtain ⟨hbk, rfl⟩ := eu a6
   obtain ⟨rfl, rfl⟩ := aB h6
   rw [k5.1] at hbk
   refine ⟨_, k5, fun hp μ w cx clo chi Vd hg hx r1 r2 r3 => ?_⟩
   cases Vd with
   | some => exact r3.elim
   | none =>
   simp only [Rep] at hx
   obtain ⟨hag, A, C, rfl, hC, hA, hnn, hown⟩ := hx
   rw [hlo] at run
   refine ⟨_, run hC hp r1 r2, ?_⟩
   simp only [Rep]
   refine ⟨by rw [Ny]; exact hag, _, _, rfl, by omega, fun hq => ?_, fun hs => ?_, fun ho => by cases ho⟩
   rotate_left
   ·have := hnn (by simp only [Bool.or_eq_false_iff] at hs; exact hs.1.1)
    split
    ·exact this
    ·rw [Option.isSome_map]; exact this
   have hsz : μ.sz a.g = b.2.1 := (hg.ok _ _ hbk).1
   rw [if_neg (by omega), hA (by omega), Option.map_some, e1, CS hsz]
 ·rename_i s cs
  obtain ⟨_, g1, a1, h1⟩ := au h0
  obtain ⟨hs, rfl⟩ := aS a1
  obtain ⟨l, g3, a3, h3⟩ := au h1
  obtain ⟨hl, rfl⟩ := aI a3
  obtain ⟨hb, g4, a4, h4⟩ := au h3
  obtain ⟨hh, rfl⟩ := aI a4
  obtain ⟨_, g5, a5, h5⟩ := au h4
  obtain ⟨rfl, rfl⟩ := aB h5
  refine ⟨_, dB a5, fun hp μ w cx clo chi Vd hg hx r1 r2 r3 => ?_⟩
  cases Vd with
  | some => exact r3.elim
  | none =>
  simp only [Rep] at hx
  subst hx
  have := wV (P := P) (b := false) (cap := cs.length) hl hh r1 r2 hp.1 hp.2.1 hp.2.2 (Nat.le_refl _) w
  refine ⟨_, by simp [Instr.sliceAt, Instr.slice, run_underlying (uq hs), rF, this]; rfl, ?_⟩
  simp only [Rep]
  rw [Lib.extract_eq]
 ·rename_i a
  obtain ⟨ne, g1, a1, h1⟩ := au h0
  obtain ⟨hne, rfl⟩ := aI a1
  obtain ⟨y, g2, a2, h2⟩ := au h1
  obtain ⟨hy, rfl⟩ := aI a2
  obtain ⟨_, g3, a3, h3⟩ := au h2
  obtain ⟨hlo, rfl⟩ := aS a3
  have afC : lo = none := by cases lo <;> simp at hlo; rfl
  subst afC
  obtain ⟨hb, g4, a4, h4⟩ := au h3
  obtain ⟨hh, rfl⟩ := aI a4
  obtain ⟨_, g5, a5, h5⟩ := au h4
  obtain ⟨rfl, rfl⟩ := aB h5
  obtain ⟨i, d, hi', hd, e1, e2⟩ := iI hy
  refine ⟨_, dB a5, fun hp μ w cx clo chi Vd hg hx r1 r2 r3 => ?_⟩
  cases Vd with
  | some => exact r3.elim
  | none =>
  simp only [Rep] at hx
  obtain ⟨hag, rfl⟩ := hx
  have hb' := wV (P := P) (b := false) (cap := ne.1) (l := (false, 0)) (lo := none) rfl hh r1 r2 (Int.le_refl _) hp.1 hp.2 (Nat.le_refl _) w
  refine ⟨.slice (some (μ.addr a)) hb.2.toNat ne.1, ?_, ?_⟩
  ·simp only [Int.toNat_zero] at hb'
   simp [Instr.sliceAt, run_underlying (uf hne), Instr.sureAddr, hb', run_sizeOf hi', Addr.add_zero']
  ·simp only [Rep]
   exact ⟨hag, _, _, rfl, by omega, fun _ => rfl, fun _ => rfl, fun ho => by cases ho⟩
 ·cases h0
end Go.Sx
namespace Go.Sx
open M
theorem zC {P : Program} {t : TypeId} {x ix v : AV} {g g' : G} (h : kK P t x ix g = .done v g') :
  ∃ p, Keep g g' p ∧ (p → ∀ μ (w : World) cx ci, dP g.nx μ w.heap g.H → Rep g.nx μ x cx → Rep g.nx μ ix ci → ∃ c, (Instr.indexAt t cx ci).run P w = .ok c w ∧ Rep g.nx μ v c) := by
 unfold kK at h
 obtain ⟨n, g0, a0, h0⟩ := au h
 obtain ⟨hix, rfl⟩ := aI a0
 obtain ⟨k, rfl⟩ := l7 hix
 split at h0
 ·rename_i s own a len
  obtain ⟨e, g1, a1, h1⟩ := au h0
  obtain ⟨he, rfl⟩ := aI a1
  obtain ⟨_, g2, a2, h2⟩ := au h1
  have k2 := dB a2
  obtain ⟨y, g3, a3, h3⟩ := au h2
  obtain ⟨hy, rfl⟩ := aI a3
  obtain ⟨b, g4, a4, h4⟩ := au h3
  obtain ⟨hb, rfl⟩ := eu a4
  obtain ⟨rfl, rfl⟩ := aB h4
  obtain ⟨i, d, hi', hd, e1, e2⟩ := iI hy
  rw [k2.1] at hb
  refine ⟨_, k2, fun hp μ w cx ci hg hx hi => ?_⟩
  simp only [Rep] at hx hi
  obtain ⟨hag, A, C, rfl, hC, hA, _⟩ := hx
  subst hi
  have hA' := hA (by omega)
  subst hA'
  refine ⟨.pointer (some ((μ.addr a).add (n.2.toNat * i.size))), ?_, ?_⟩
  ·have hp' : (0 ≤ n.2 ∧ n.2 < (len : Int)) := hp
   simp [Instr.indexAt, asIntOf, run_underlying (dI he), hp', run_sizeOf hi']
  ·simp only [Rep]
   rw [Ny, e1, CS (hg.ok _ _ hb).1]
   exact ⟨hag, rfl⟩
 ·rename_i a
  obtain ⟨ne, g1, a1, h1⟩ := au h0
  obtain ⟨hne, rfl⟩ := aI a1
  obtain ⟨_, g2, a2, h2⟩ := au h1
  obtain ⟨y, g3, a3, h3⟩ := au h2
  obtain ⟨hy, rfl⟩ := aI a3
  obtain ⟨rfl, rfl⟩ := aB h3
  obtain ⟨i, d, hi', hd, e1, e2⟩ := iI hy
  refine ⟨_, dB a2, fun hp μ w cx ci hg hx hi => ?_⟩
  simp only [Rep] at hx hi
  obtain ⟨hag, rfl⟩ := hx
  subst hi
  refine ⟨.pointer (some ((μ.addr a).add (n.2.toNat * i.size))), ?_, ?_⟩
  ·have hp' : (0 ≤ n.2 ∧ n.2 < (ne.1 : Int)) := hp
   simp [Instr.indexAt, asIntOf, run_underlying (uf hne), Instr.sureAddr, hp', run_sizeOf hi']
  ·simp only [Rep]
   refine ⟨hag, ?_⟩
   unfold MM.addr
   rw [Addr.add_lit, e1, Nat.add_assoc]
 ·rename_i len f
  obtain ⟨e, g1, a1, h1⟩ := au h0
  obtain ⟨he, rfl⟩ := aI a1
  obtain ⟨_, g2, a2, h2⟩ := au h1
  have k2 := iZ a2
  obtain ⟨y, g3, a3, h3⟩ := au h2
  obtain ⟨hy, rfl⟩ := aI a3
  obtain ⟨_, g4, a4, h4⟩ := au h3
  obtain ⟨hq, rfl⟩ := aS a4
  obtain ⟨rfl, rfl⟩ := aB h4
  obtain ⟨i, d, hi', hd, e1, e2⟩ := iI hy
  refine ⟨_, k2, fun hp μ w cx ci hg hx hi => ?_⟩
  simp only [Rep] at hx hi
  obtain ⟨h0, b, C, cur, ty, z, rfl, hC, q1, q2⟩ := hx
  subst hi
  have hy1 : i.size = 1 := e1.trans (Nat.eq_of_beq_eq_true hq)
  refine ⟨.pointer (some ((⟨b, 0, none⟩ : Addr).add (n.2.toNat * i.size))), ?_, ?_⟩
  ·have hp' : (0 ≤ n.2 ∧ n.2 < (len : Int)) := hp
   simp [Instr.indexAt, asIntOf, run_underlying (dI he), hp', run_sizeOf hi']
  ·simp only [Rep]
   refine ⟨h0, b, n.2.toNat, cur, ty, z, ?_, q1, q2 _ (by have := hp.1; have := hp.2; omega)⟩
   rw [Addr.add_lit, hy1, Nat.mul_one, Nat.zero_add]
 ·cases h0
theorem Aj {P : Program} {ty : TypeId} {y : Nat × Bool} (hy : lay P ty = some y) {cs : List AV} {off : Nat} {v : AV} {g g' : G} (h : xO y cs off g = .done v g') :
  g = g' ∧ ∀ N μ (w : World) (xs : Array Value), aO N μ cs xs.toList → ∃ c, (part ty xs off).run P w = .ok c w ∧ Rep N μ v c := by
 obtain ⟨i, d, hi', hd, e1, e2⟩ := iI hy
 unfold xO at h
 cases hA : y.2 with
 | true =>
  rw [hA, cond_true] at h
  obtain ⟨_, g1, a1, h1⟩ := au h
  obtain ⟨hq, rfl⟩ := aS a1
  obtain ⟨rfl, rfl⟩ := aB h1
  refine ⟨rfl, fun N μ w xs hr => ⟨.agg (xs.extract off (off + i.size)), by simp [part, vg hd, e2, hA, run_sizeOf hi'], ?_⟩⟩
  simp only [Rep]
  refine ⟨_, rfl, ?_⟩
  have e : (xs.extract off (off + i.size)).toList = (xs.toList.drop off).take y.1 := by
   rw [Array.toList_extract, ← e1, List.extract_eq_take_drop]
   congr 1; omega
  rw [e]
  exact (hr.drop off).take _
 | false =>
  rw [hA, cond_false] at h
  obtain ⟨hv, rfl⟩ := aI h
  refine ⟨rfl, fun N μ w xs hr => ?_⟩
  obtain ⟨c, hc, hrep⟩ := hr.get hv
  exact ⟨c, CO hd (by rw [e2, hA]) (by simpa using hc) w, hrep⟩
theorem Gs {P : Program} {t : TypeId} {x ix v : AV} {g g' : G} (h : wP P t x ix g = .done v g') :
  ∃ p, Keep g g' p ∧ (p → ∀ N μ (w : World) cx ci, Rep N μ x cx → Rep N μ ix ci → ∃ c, (Instr.index t cx ci).run P w = .ok c w ∧ Rep N μ v c) := by
 unfold wP at h
 obtain ⟨n, g0, a0, h0⟩ := au h
 obtain ⟨hix, rfl⟩ := aI a0
 obtain ⟨k, rfl⟩ := l7 hix
 split at h0
 ·rename_i s l
  obtain ⟨_, g1, a1, h1⟩ := au h0
  obtain ⟨hs, rfl⟩ := aS a1
  obtain ⟨_, g2, a2, h2⟩ := au h1
  obtain ⟨rfl, rfl⟩ := aB h2
  refine ⟨_, dB a2, fun hp N μ w cx ci hx hi => ?_⟩
  simp only [Rep] at hx hi
  subst hx hi
  have hlt : n.2.toNat < l.length := by omega
  refine ⟨.int .u8 (l.getD n.2.toNat 0).toNat, ?_, by simp only [Rep]⟩
  have hget : (⟨l.toArray⟩ : ByteArray)[n.2.toNat]? = some (l.getD n.2.toNat 0) := by
   have hsz : n.2.toNat < (⟨l.toArray⟩ : ByteArray).size := by rw [rF]; exact hlt
   rw [getElem?_pos (⟨l.toArray⟩ : ByteArray) n.2.toNat hsz]
   congr 1
   show l.toArray[n.2.toNat] = _
   simp [List.getD, hlt]
  simp [Instr.index, asIntOf, run_underlying (uq hs), hp.1, hget]
 ·rename_i cs
  obtain ⟨ne, g1, a1, h1⟩ := au h0
  obtain ⟨hne, rfl⟩ := aI a1
  obtain ⟨_, g2, a2, h2⟩ := au h1
  have k2 := dB a2
  obtain ⟨y, g3, a3, h3⟩ := au h2
  obtain ⟨hy, rfl⟩ := aI a3
  obtain ⟨rfl, hpart⟩ := Aj hy h3
  obtain ⟨i, d, hi', hd, e1, e2⟩ := iI hy
  refine ⟨_, k2, fun hp N μ w cx ci hx hi => ?_⟩
  simp only [Rep] at hx hi
  obtain ⟨xs, rfl, hr⟩ := hx
  subst hi
  obtain ⟨c, hc, hrep⟩ := hpart N μ w xs hr
  refine ⟨c, ?_, hrep⟩
  have hp' : (0 ≤ n.2 ∧ n.2 < (ne.1 : Int)) := hp
  rw [← e1] at hc
  simp [Instr.index, asIntOf, run_underlying (uf hne), hp', run_sizeOf hi', hc]
 ·cases h0
theorem xY {P : Program} {t : TypeId} {f : Nat} {fd : Field} (h : Bj P t f = some fd) : ∃ fs, P.underlying t = some (.struct fs) ∧ fs[f]? = some fd := by
 unfold Bj at h
 split at h
 ·exact ⟨_, by assumption, h⟩
 ·cases h
theorem zD {P : Program} {t : TypeId} {x v : AV} {f : Nat} {g g' : G} (h : kL P t x f g = .done v g') :
  g = g' ∧ ∀ N μ (w : World) cx, Rep N μ x cx → ∃ c, (Instr.fieldAt t cx f).run P w = .ok c w ∧ Rep N μ v c := by
 unfold kL at h
 obtain ⟨a, g0, a0, h0⟩ := au h
 obtain ⟨hx, rfl⟩ := aI a0
 obtain rfl := oQ hx
 obtain ⟨fd, g1, a1, h1⟩ := au h0
 obtain ⟨hfd, rfl⟩ := aI a1
 obtain ⟨y, g2, a2, h2⟩ := au h1
 obtain ⟨hy, rfl⟩ := aI a2
 obtain ⟨_, g3, a3, h3⟩ := au h2
 obtain ⟨hq, rfl⟩ := aS a3
 obtain ⟨rfl, rfl⟩ := aB h3
 obtain ⟨i, d, hi', hd, e1, e2⟩ := iI hy
 obtain ⟨fs, hfs, hf⟩ := xY hfd
 refine ⟨rfl, fun N μ w cx hx => ?_⟩
 simp only [Rep] at hx
 obtain ⟨hag, rfl⟩ := hx
 have hn : i.size ≠ 0 := by
  rw [e1]; intro e0; rw [e0] at hq; simp at hq
 refine ⟨.pointer (some ((μ.addr a).add fd.offset)), by simp [Instr.fieldAt, run_underlying hfs, hf, Instr.sureAddr, fieldPlace, run_sizeOf hi', hn], ?_⟩
 simp only [Rep]
 refine ⟨hag, ?_⟩
 unfold MM.addr
 rw [Addr.add_lit, Nat.add_assoc]
theorem Gt {P : Program} {t : TypeId} {x v : AV} {f : Nat} {g g' : G} (h : wQ P t x f g = .done v g') :
  g = g' ∧ ∀ N μ (w : World) cx, Rep N μ x cx → ∃ c, (Instr.field t cx f).run P w = .ok c w ∧ Rep N μ v c := by
 unfold wQ at h
 obtain ⟨cs, g0, a0, h0⟩ := au h
 obtain ⟨hx, rfl⟩ := aI a0
 obtain rfl := KX hx
 obtain ⟨fd, g1, a1, h1⟩ := au h0
 obtain ⟨hfd, rfl⟩ := aI a1
 obtain ⟨y, g2, a2, h2⟩ := au h1
 obtain ⟨hy, rfl⟩ := aI a2
 obtain ⟨rfl, hpart⟩ := Aj hy h2
 obtain ⟨fs, hfs, hf⟩ := xY hfd
 refine ⟨rfl, fun N μ w cx hx => ?_⟩
 simp only [Rep] at hx
 obtain ⟨xs, rfl, hr⟩ := hx
 obtain ⟨c, hc, hrep⟩ := hpart N μ w xs hr
 exact ⟨c, by simp [Instr.field, run_underlying hfs, hf, Go.asAgg, hc], hrep⟩
theorem Ak {x y : Nat} {o : Ordering} (h : kJ x y = some o) : isnan x = false ∧ isnan y = false := by
 constructor
 ·cases hn : isnan x with
  | false => rfl
  | true =>
   obtain ⟨s, t, hr⟩ := aZ hn
   unfold kJ Ieee.Format.order at h
   rw [hr] at h; simp [Ieee.Datum.order] at h
 ·cases hn : isnan y with
  | false => rfl
  | true =>
   obtain ⟨s, t, hr⟩ := aZ hn
   unfold kJ Ieee.Format.order at h
   rw [hr] at h; cases hx : Ieee.double.read x <;> rw [hx] at h <;> simp [Ieee.Datum.order] at h
theorem CU {b : Nat} (hb : b < 18446744073709551616) : (FloatKind.f64.decode b).neg = decide (9223372036854775808 ≤ b) := by
 have hs : Ieee.double.signWeight = 9223372036854775808 := by decide
 have e : (b / 9223372036854775808 % 2 == 1) = decide (9223372036854775808 ≤ b) := by
  rw [Bool.eq_iff_iff]; simp; omega
 show (Ieee.double.read b).neg = _
 unfold Ieee.Format.read
 rw [hs, ← e]
 dsimp only
 split
 ·rfl
 ·split
  ·rfl
  ·split <;> rfl
theorem CV {P : Program} {isMax : Bool} {f2 : Value → Value → Sem Value} {fA : AV → AV → M AV}
  (hf : ∀ {x y v : AV} {g g' : G}, fA x y g = .done v g' → g = g' ∧ ∀ N μ (w : World) cx cy, Rep N μ x cx → Rep N μ y cy → ∃ c n, (f2 cx cy).run P w = .ok c { w with drawn := n } ∧ Rep N μ v c) :
  ∀ {l : List AV} {x v : AV} {g g' : G}, vY fA x l g = .done v g' → g = g' ∧ ∀ N μ (w : World) cx cl, Rep N μ x cx → aO N μ l cl → ∃ c n, (cl.foldlM f2 cx).run P w = .ok c { w with drawn := n } ∧ Rep N μ v c
 | [], x, v, g, g', h => by
  obtain ⟨rfl, rfl⟩ := aB h
  refine ⟨rfl, fun N μ w cx cl hx hl => ?_⟩
  simp only [aO] at hl; subst hl
  exact ⟨cx, w.drawn, rfl, hx⟩
 | y :: l, x, v, g, g', h => by
  unfold vY at h
  obtain ⟨z, g1, a1, h1⟩ := au h
  obtain ⟨rfl, k1⟩ := hf a1
  obtain ⟨rfl, k2⟩ := CV (isMax := isMax) hf h1
  refine ⟨rfl, fun N μ w cx cl hx hl => ?_⟩
  simp only [aO] at hl
  obtain ⟨cy, r, rfl, hy, hr⟩ := hl
  obtain ⟨c, n, e1, hc⟩ := k1 N μ w cx cy hx hy
  obtain ⟨c', n', e2, hc'⟩ := k2 N μ { w with drawn := n } c r hc hr
  exact ⟨c', n', by simp [e1, e2], hc'⟩
theorem Ld {P : Program} {x y v : AV} {g g' : G} (h : Ir x y g = .done v g') :
  g = g' ∧ ∀ N μ (w : World) cx cy, Rep N μ x cx → Rep N μ y cy → ∃ c n, (Builtin.max2 cx cy).run P w = .ok c { w with drawn := n } ∧ Rep N μ v c := by
 unfold Ir at h
 split at h
 ·rename_i s k a s' k' b
  by_cases hk : k = k'
  ·subst hk
   simp only [decide_true, cond_true] at h
   obtain ⟨rfl, rfl⟩ := aB h
   refine ⟨rfl, fun N μ w cx cy hx hy => ?_⟩
   simp only [Rep] at hx hy; subst hx hy
   exact ⟨_, w.drawn, rfl, by simp only [Rep]⟩
  ·simp only [hk, decide_false, cond_false] at h; cases h
 ·rename_i s a s' b
  obtain ⟨rfl, rfl⟩ := aB h
  refine ⟨rfl, fun N μ w cx cy hx hy => ?_⟩
  simp only [Rep] at hx hy
  obtain ⟨a', rfl, ha⟩ := hx
  obtain ⟨b', rfl, hb⟩ := hy
  have ho := je ha hb
  cases hq : kJ a b with
  | none =>
   refine ⟨_, w.drawn + 1, by simp [Builtin.max2, ho, hq, Question.forced, choose, Sem.run]; rfl, ?_⟩
   simp only [Rep, Rn, hq]
   refine ⟨_, rfl, iF (xI _ _ _ _), ?_⟩
   simp only [Question.cut]; omega
  | some o =>
   obtain ⟨na, nb⟩ := Ak hq
   have ea := ha.fO na
   have eb := hb.fO nb
   subst ea eb
   cases o with
   | lt => exact ⟨.float .f64 b', w.drawn, by simp [Builtin.max2, ho, hq], by simp only [Rep, Rn, hq]; exact ⟨b', rfl, hb⟩⟩
   | gt => exact ⟨.float .f64 a', w.drawn, by simp [Builtin.max2, ho, hq], by simp only [Rep, Rn, hq]; exact ⟨a', rfl, ha⟩⟩
   | eq =>
    refine ⟨.float .f64 (if decide (9223372036854775808 ≤ a') then b' else a'), w.drawn, by simp [Builtin.max2, ho, hq, CU ha.2], ?_⟩
    simp only [Rep, Rn, hq]
    by_cases h9 : 9223372036854775808 ≤ a'
    ·exact ⟨b', by simp [h9], by simpa [h9] using hb⟩
    ·exact ⟨a', by simp [h9], by simpa [h9] using ha⟩
 ·cases h
theorem Le {P : Program} {x y v : AV} {g g' : G} (h : Iu x y g = .done v g') :
  g = g' ∧ ∀ N μ (w : World) cx cy, Rep N μ x cx → Rep N μ y cy → ∃ c n, (Builtin.min2 cx cy).run P w = .ok c { w with drawn := n } ∧ Rep N μ v c := by
 unfold Iu at h
 split at h
 ·rename_i s k a s' k' b
  by_cases hk : k = k'
  ·subst hk
   simp only [decide_true, cond_true] at h
   obtain ⟨rfl, rfl⟩ := aB h
   refine ⟨rfl, fun N μ w cx cy hx hy => ?_⟩
   simp only [Rep] at hx hy; subst hx hy
   exact ⟨_, w.drawn, rfl, by simp only [Rep]⟩
  ·simp only [hk, decide_false, cond_false] at h; cases h
 ·rename_i s a s' b
  obtain ⟨rfl, rfl⟩ := aB h
  refine ⟨rfl, fun N μ w cx cy hx hy => ?_⟩
  simp only [Rep] at hx hy
  obtain ⟨a', rfl, ha⟩ := hx
  obtain ⟨b', rfl, hb⟩ := hy
  have ho := je ha hb
  cases hq : kJ a b with
  | none =>
   refine ⟨_, w.drawn + 1, by simp [Builtin.min2, ho, hq, Question.forced, choose, Sem.run]; rfl, ?_⟩
   simp only [Rep, Ro, hq]
   refine ⟨_, rfl, iF (xI _ _ _ _), ?_⟩
   simp only [Question.cut]; omega
  | some o =>
   obtain ⟨na, nb⟩ := Ak hq
   have ea := ha.fO na
   have eb := hb.fO nb
   subst ea eb
   cases o with
   | lt => exact ⟨.float .f64 a', w.drawn, by simp [Builtin.min2, ho, hq], by simp only [Rep, Ro, hq]; exact ⟨a', rfl, ha⟩⟩
   | gt => exact ⟨.float .f64 b', w.drawn, by simp [Builtin.min2, ho, hq], by simp only [Rep, Ro, hq]; exact ⟨b', rfl, hb⟩⟩
   | eq =>
    refine ⟨.float .f64 (if decide (9223372036854775808 ≤ a') then a' else b'), w.drawn, by simp [Builtin.min2, ho, hq, CU ha.2], ?_⟩
    simp only [Rep, Ro, hq]
    by_cases h9 : 9223372036854775808 ≤ a'
    ·exact ⟨a', by simp [h9], by simpa [h9] using ha⟩
    ·exact ⟨b', by simp [h9], by simpa [h9] using hb⟩
 ·cases h
end Go.Sx
namespace Go.Sx
open M
def After (g : G) (μ : MM) (w : World) (g' : G) (v : AV) (c : Value) (w' : World) : Prop :=
 ∃ μ', Rep g'.nx μ' v c ∧ dP g'.nx μ' w'.heap g'.H ∧ Ext g μ w g' μ' w'
theorem After.keep {g g' : G} {μ : MM} {w : World} {v : AV} {c : Value} {p : Prop} (n : Nat) (k : Keep g g' p) (hg : dP g.nx μ w.heap g.H) (hv : Rep g.nx μ v c) : After g μ w g' v c { w with drawn := n } :=
 ⟨μ, by rw [k.2.1]; exact hv, by rw [k.1, k.2.1]; exact hg, Ext.drawn μ w n k.1 k.2.1⟩
theorem After.gV {g g' : G} {μ : MM} {w : World} {v : AV} {c : Value} {p : Prop} (k : Keep g g' p) (hg : dP g.nx μ w.heap g.H) (hv : Rep g.nx μ v c) : After g μ w g' v c w :=
 After.keep w.drawn k hg hv
theorem Gives.after {g g' : G} {μ : MM} {w : World} {v : AV} {r : Result Value} (h : Gives g μ w g' v r) : ∃ c w', r = .ok c w' ∧ After g μ w g' v c w' := by
 obtain ⟨c, w', μ', e, h1, h2, h3⟩ := h
 exact ⟨c, w', e, μ', h1, h2, h3⟩
theorem dM {P : Program} {w w' : World} {s : Sem Value} {c : Value} (h : s.run P w = .ok c w') : (do pure (Next.value (← s)) : Sem Next).run P w = .ok (.value c) w' := by
 simp [h]
theorem CW {P : Program} {w w' : World} {s : Sem Unit} (h : s.run P w = .ok () w') : (do s; pure Next.skip : Sem Next).run P w = .ok .skip w' := by
 simp [h]
theorem aO.one {N : Nat} {μ : MM} {x : AV} {args : Array Value} (h : aO N μ [x] args.toList) : ∃ c, args = #[c] ∧ Rep N μ x c := by
 simp only [aO] at h
 obtain ⟨c, r, e, h1, rfl⟩ := h
 exact ⟨c, by rw [← Array.toArray_toList (xs := args), e], h1⟩
theorem aO.two {N : Nat} {μ : MM} {x y : AV} {args : Array Value} (h : aO N μ [x, y] args.toList) : ∃ c d, args = #[c, d] ∧ Rep N μ x c ∧ Rep N μ y d := by
 simp only [aO] at h
 obtain ⟨c, r, e, h1, d, r', rfl, h2, rfl⟩ := h
 exact ⟨c, d, by rw [← Array.toArray_toList (xs := args), e], h1, h2⟩
theorem CX {P : Program} {b : Builtin} {ts : Array TypeId} {l : List AV} {v : AV} {g g' : G} (h : oO P b ts.toList l g = .done v g') (ty : TypeId) (cst : Array Bool) :
  (g'.cs → g.cs) ∧ (g'.cs → ∀ μ w (args : Array Value), dP g.nx μ w.heap g.H → aO g.nx μ l args.toList → ∃ c w', (builtin b ts ty cst args).run P w = .ok (.value c) w' ∧ After g μ w g' v c w') := by
 generalize hts : ts.toList = tl at h
 unfold oO at h
 split at h
 ·rename_i t x
  have ets : ts = #[t] := by rw [← Array.toArray_toList (xs := ts), hts]
  obtain ⟨rfl, hs⟩ := Lc (ty := ty) h
  refine ⟨id, fun _ μ w args hg hr => ?_⟩
  obtain ⟨c, rfl, hx⟩ := hr.one
  obtain ⟨c', e, hv⟩ := hs g.nx μ w c hx
  exact ⟨c', w, dM (by rw [ets]; exact e), .gV (Keep.refl g) hg hv⟩
 ·rename_i s x y
  obtain ⟨rfl, rfl⟩ := aB h
  refine ⟨id, fun _ μ w args hg hr => ?_⟩
  obtain ⟨c, rfl, hx⟩ := hr.one
  simp only [Rep] at hx
  obtain ⟨a, b, rfl, ha, hb⟩ := hx
  exact ⟨_, w, dM (s := Builtin.real_ ts ty _) (by rfl), .gV (Keep.refl g) hg (by simp only [Rep]; exact ⟨a, rfl, ha⟩)⟩
 ·rename_i s x y
  obtain ⟨rfl, rfl⟩ := aB h
  refine ⟨id, fun _ μ w args hg hr => ?_⟩
  obtain ⟨c, rfl, hx⟩ := hr.one
  simp only [Rep] at hx
  obtain ⟨a, b, rfl, ha, hb⟩ := hx
  exact ⟨_, w, dM (s := Builtin.imag_ ts ty _) (by rfl), .gV (Keep.refl g) hg (by simp only [Rep]; exact ⟨b, rfl, hb⟩)⟩
 ·rename_i s x s' y
  obtain ⟨rfl, rfl⟩ := aB h
  refine ⟨id, fun _ μ w args hg hr => ?_⟩
  obtain ⟨c, d, rfl, hx, hy⟩ := hr.two
  simp only [Rep] at hx hy
  obtain ⟨a, rfl, ha⟩ := hx
  obtain ⟨b, rfl, hb⟩ := hy
  exact ⟨_, w, dM (s := Builtin.complex_ ts ty _) (by rfl), .gV (Keep.refl g) hg (by simp only [Rep]; exact ⟨a, b, rfl, ha, hb⟩)⟩
 ·rename_i t u x y
  have ets : ts = #[t, u] := by rw [← Array.toArray_toList (xs := ts), hts]
  obtain ⟨h1, h2⟩ := Ey (ty := ty) h
  refine ⟨h1, fun hc μ w args hg hr => ?_⟩
  obtain ⟨c, d, rfl, hx, hy⟩ := hr.two
  obtain ⟨c', w', e, ha⟩ := (h2 hc μ w c d hg hx hy).after
  exact ⟨c', w', dM (by rw [ets]; exact e), ha⟩
 ·rename_i t u x y
  have ets : ts = #[t, u] := by rw [← Array.toArray_toList (xs := ts), hts]
  obtain ⟨h1, h2⟩ := IG (u := u) (ty := ty) h
  refine ⟨h1, fun hc μ w args hg hr => ?_⟩
  obtain ⟨c, d, rfl, hx, hy⟩ := hr.two
  obtain ⟨c', w', e, ha⟩ := (h2 hc μ w c d hg hx hy).after
  exact ⟨c', w', dM (by rw [ets]; exact e), ha⟩
 ·rename_i x l
  obtain ⟨rfl, hs⟩ := CV (P := P) (isMax := true) (fun h => Ld h) h
  refine ⟨id, fun _ μ w args hg hr => ?_⟩
  simp only [aO] at hr
  obtain ⟨c, r, e, hx, hl⟩ := hr
  obtain ⟨c', n, e', hv⟩ := hs g.nx μ w c r hx hl
  exact ⟨c', _, dM (s := Builtin.max_ ts ty _) (by simp only [Builtin.max_, e]; exact e'), .keep n (Keep.refl g) hg hv⟩
 ·rename_i x l
  obtain ⟨rfl, hs⟩ := CV (P := P) (isMax := false) (fun h => Le h) h
  refine ⟨id, fun _ μ w args hg hr => ?_⟩
  simp only [aO] at hr
  obtain ⟨c, r, e, hx, hl⟩ := hr
  obtain ⟨c', n, e', hv⟩ := hs g.nx μ w c r hx hl
  exact ⟨c', _, dM (s := Builtin.min_ ts ty _) (by simp only [Builtin.min_, e]; exact e'), .keep n (Keep.refl g) hg hv⟩
 ·exact (bC h).elim
structure dG (N : Nat) (μ : MM) (fr : Fr) (tmps : Array Value) (n : Nat) : Prop where
 size : n ≤ tmps.size
 val : ∀ t v, fr.get t = some v → Rep N μ v (tmps.getD t undef)
theorem dG.eval {N : Nat} {μ : MM} {fr : Fr} {a : Act} {n : Nat} (h : dG N μ fr a.tmps n) (x : Operand) : Rep N μ (bT fr x) (a.eval x) := by
 cases x with
 | tmp t =>
  simp only [bT, Act.eval]
  cases ht : fr.get t with
  | none => simp [Rep]
  | some v => exact h.val t v ht
 | const v => exact Rep.lX N μ v
 | global g => simp [bT, Rep]
 | func f => simp [bT, Act.eval, Rep, aO]
theorem dG.IY {N : Nat} {μ : MM} {fr : Fr} {a : Act} {n : Nat} (h : dG N μ fr a.tmps n) (l : Array Operand) : aO N μ (l.toList.map (bT fr)) (l.map a.eval).toList := by
 rw [Array.toList_map]; exact aO.map _ _ _ fun x _ => h.eval x
theorem dG.YX {N : Nat} {μ : MM} {fr : Fr} {a : Act} {n : Nat} (h : dG N μ fr a.tmps n) (l : Array Operand) : aO N μ (l.toList.map fun x => (bT fr x).fl) (l.map a.eval).toList := by
 rw [Array.toList_map]; exact aO.map _ _ _ fun x _ => (h.eval x).fl
theorem dG.Nz {N : Nat} {μ : MM} {fr : Fr} {a : Act} {n : Nat} (h : dG N μ fr a.tmps n) (o : Option Operand) : zB N μ (o.map (bT fr)) (o.map a.eval) := by
 cases o with
 | none => trivial
 | some x => exact h.eval x
theorem dG.later {N N' : Nat} {μ μ' : MM} {fr : Fr} {tmps : Array Value} {n : Nat} (h : dG N μ fr tmps n) (hu : MM.upto N μ μ') (hN : N ≤ N') : dG N' μ' fr tmps n :=
 ⟨h.size, fun t v ht => (h.val t v ht).later hu hN⟩
theorem dG.upd {N : Nat} {μ : MM} {fr : Fr} {tmps : Array Value} {n : Nat} (h : dG N μ fr tmps n) {d : Nat} (hd : d < n) {v : AV} {c : Value} (hv : Rep N μ v c) : dG N μ (fr.upd d (some v)) (tmps.setIfInBounds d c) n where
 size := by simpa using h.size
 val := fun t u ht => by
  have hs := h.size
  rw [T.bF] at ht
  split at ht
  ·rename_i e
   cases ht
   rw [e]
   have : d < (tmps.setIfInBounds d c).size := by simp; omega
   simp only [Array.getD_eq_getD_getElem?, Array.getElem?_eq_getElem this]
   simpa using hv
  ·rename_i e
   have := h.val t u ht
   simp only [Array.getD_eq_getD_getElem?] at this ⊢
   rw [Array.getElem?_setIfInBounds_ne (Ne.symm e)]
   exact this
theorem dG.know {N : Nat} {μ : MM} {fr : Fr} {tmps : Array Value} {n : Nat} (h : dG N μ fr tmps n) {d : Nat} {v u : AV} (hd : fr.get d = some u) (hu : ∀ c, Rep N μ u c → Rep N μ v c) : dG N μ (fr.upd d (some v)) tmps n where
 size := h.size
 val := fun t u' ht => by
  rw [T.bF] at ht
  split at ht
  ·rename_i e
   cases ht
   rw [e]
   exact hu _ (h.val d u hd)
  ·exact h.val t u' ht
theorem wW {n : Nat} {fr fr' : Fr} {dst : Option Tmp} {v : AV} {g g' : G} (h : tY n fr dst v g = .done fr' g') :
  g = g' ∧ ∀ N μ (a : Act) c, dG N μ fr a.tmps n → Rep N μ v c → dG N μ fr' (a.put dst c).tmps n := by
 unfold tY at h
 cases dst with
 | none =>
  obtain ⟨rfl, rfl⟩ := aB h
  exact ⟨rfl, fun N μ a c hf _ => hf⟩
 | some d =>
  cases hd : Nat.blt d n with
  | false => simp only [hd, cond_false] at h; exact (bC h).elim
  | true =>
   simp only [hd, cond_true] at h
   obtain ⟨rfl, rfl⟩ := aB h
   refine ⟨rfl, fun N μ a c hf hv => hf.upd (Nat.le_of_ble_eq_true hd) hv⟩
def CF (P : Program) (f : FuncId) (args : Array Value) (w : World) (R : Value → World → Prop) : Prop :=
 (∃ c w', (callFunc f args).run P w = .ok (.value c) w' ∧ R c w') ∨
 (∃ f' args' w', (callFunc f args).run P w = .ok (.enter f' args') w' ∧ Calls P f' args' w' fun e w'' => ∃ c, e = .returned c ∧ R c w'')
def bZ (P : Program) (f : FuncId) (args : List AV) (v : AV) (g g' : G) : Prop :=
 (g'.cs → g.cs) ∧ (g'.cs → ∀ μ w (bW : Array Value), dP g.nx μ w.heap g.H → aO g.nx μ args bW.toList → CF P f bW w fun c w' => After g μ w g' v c w')
def dw (P : Program) (call : Calls') : Prop := ∀ f args v g g', call f args g = .done v g' → bZ P f args v g g'
def Lh (P : Program) (o : Oper) (g : G) (μ : MM) (w : World) (g' : G) (v : AV) (a : Act) : Prop :=
 ∀ (next : Act → World → Prop) (Q : Exit → Act → World → Prop), (∀ c w', After g μ w g' v c w' → next (a.put o.dst c) w') → o.wp P a w next Q
theorem Lh.value {P : Program} {o : Oper} {g : G} {μ : MM} {w w' : World} {g' : G} {v : AV} {a : Act} {c : Value} (h : (execOp a.eval o).run P w = .ok (.value c) w') (ha : After g μ w g' v c w') : Lh P o g μ w g' v a := by
 intro next Q hn
 unfold Oper.wp
 rw [h]
 exact hn c w' ha
theorem Lh.skip {P : Program} {o : Oper} {g : G} {μ : MM} {w w' : World} {g' : G} {v : AV} {a : Act} (h : (execOp a.eval o).run P w = .ok .skip w') (ha : After g μ w g' v undef w') : Lh P o g μ w g' v a := by
 intro next Q hn
 unfold Oper.wp
 rw [h]
 exact hn undef w' ha
theorem Lh.call {P : Program} {o : Oper} {g : G} {μ : MM} {w : World} {g' : G} {v : AV} {a : Act} {f : FuncId} {args : Array Value} (h : (execOp a.eval o).run P w = (callFunc f args).run P w)
  (hc : CF P f args w fun c w' => After g μ w g' v c w') : Lh P o g μ w g' v a := by
 intro next Q hn
 unfold Oper.wp
 rw [h]
 rcases hc with ⟨c, w', e, ha⟩ | ⟨f', args', w', e, CY⟩
 ·rw [e]; exact hn c w' ha
 ·rw [e, Oper.upon_enter]
  refine CY.mono ?_
  rintro e1 w1 ⟨c, rfl, ha⟩
  exact hn c w1 ha
end Go.Sx
namespace Go.Sx
open M
theorem NC {b : aF} {o : Obj} {g g' : G} {nm : Nat} (h : fD b g = .done nm g') {μ : MM} {w w' : World} (hg : dP g.nx μ w.heap g.H) (hw : Pushed w w' o)
  (hb : ∀ N μ' hp k, hp[μ'.blk k]? = some o → μ'.base k = 0 → bY N μ' hp k b) :
  dP g'.nx (μ.set g.nx w.heap.size 0 0) w'.heap g'.H ∧ Ext g μ w g' (μ.set g.nx w.heap.size 0 0) w' := by
 obtain ⟨_, hH, hnx, _⟩ := iH h
 have hu : MM.upto g.nx μ (μ.set g.nx w.heap.size 0 0) := MM.qJ μ (Nat.le_refl _)
 constructor
 ·rw [hH, hnx]
  refine hg.upd hu (by omega) (by omega) ?_ ?_ ?_ (Ry (fun _ => rfl) (fun B hB => hw.old hB) fun bk _ _ _ => by rw [MM.dn]; exact Nat.le_refl _)
  ·rintro _ ⟨⟩
   exact hb _ _ _ _ (by rw [MM.dn]; exact hw.new) (MM.fH ..)
  ·intro g1 b1 hg1 _ hr1
   exact hw.old ((hg.ok _ _ hg1).lt_size hr1)
  ·rintro _ ⟨⟩ _ g1 b1 hg1 _ hr1 _ e
   have := (hg.ok _ _ hg1).lt_size hr1
   rw [MM.dn] at e; omega
 ·refine ⟨by omega, hu, hw.os, hw.tape, hw.output, by rw [hw.heap]; simp, fun B hB _ => hw.old hB, fun B hB hm => ?_, fun _ _ q => .inl q⟩
  obtain ⟨g1, b1, hg1, ho1, hr1, e⟩ := hm
  rw [hH, T.bF] at hg1
  split at hg1
  ·rename_i e1
   rw [e1, MM.dn] at e; omega
  ·have hlt := hg.lt _ _ hg1
   rw [aF.aX hu hlt] at hr1
   rw [hu.blk _ hlt] at e
   exact ⟨g1, b1, hg1, ho1, hr1, e⟩
theorem Gu {b0 b : aF} {o o0 : Obj} {g g' : G} {nm : Nat} {u : Unit} (h : setB nm b g = .done u g') {μ : MM} {w : World} (hg : dP g.nx μ w.heap g.H) (h0 : g.H.get nm = some b0) (ho0 : b0.owned = true) (hr0 : b0.real μ nm)
  (hb : ∀ hp : Array Obj, hp[μ.blk nm]? = some o → bY g.nx μ hp nm b) (hB : w.heap[μ.blk nm]? = some o0) :
  dP g'.nx μ (w.heap.setIfInBounds (μ.blk nm) o) g'.H ∧ Ext g μ w g' μ { w with heap := w.heap.setIfInBounds (μ.blk nm) o } := by
 obtain ⟨hH, hnx, hcs⟩ := bM h
 constructor
 ·rw [hH, hnx]
  refine hg.upd (.refl _ _) (Nat.le_refl _) (hg.lt _ _ h0) ?_ ?_ ?_ (FZ h0 ho0 hr0 fun B hne => (MapKept.heap_set hB).2 B hne)
  ·rintro _ ⟨⟩; exact hb _ (MapKept.heap_set hB).1
  ·intro g1 b1 hg1 hne hr1
   refine (MapKept.heap_set hB).2 _ fun e => hne ?_
   exact (hg.sep _ _ _ _ h0 hg1 ho0 hr0 hr1 e.symm).symm
  ·rintro _ ⟨⟩ hr1 g1 b1 hg1 hne hr2 _ e
   exact hne (hg.sep _ _ _ _ h0 hg1 ho0 hr0 hr2 e).symm
 ·refine ⟨by omega, .refl _ _, rfl, rfl, rfl, by simp, fun B _ hnm => (MapKept.heap_set hB).2 B fun e => hnm ?_, fun B hB hm => ?_, fun _ _ q => .inl q⟩
  ·rw [e]; exact May.of h0 ho0 hr0
  ·obtain ⟨g1, b1, hg1, ho1, hr1, rfl⟩ := hm
   rw [hH, T.bF] at hg1
   split at hg1
   ·rename_i e; rw [e]; exact May.of h0 ho0 hr0
   ·exact May.of hg1 ho1 hr1
def sW {α : Type} (enc : α → Value) (l : List (α × Int)) (es : List MapEntry) : Prop := es.map (fun e => (e.key, e.val)) = l.map fun p => (enc p.1, Value.int .i64 p.2)
section
variable {α : Type} {enc : α → Value} {eq : α → α → Bool} {d : TypeDesc} (hsame : ∀ a b, Instr.sameNow d (enc a) (enc b) = some (eq a b)) (heq : ∀ a b, eq a b = true → a = b)
include hsame
theorem zF (x : α) (v : Int) (c : Nat) : ∀ (l : List (α × Int)) (es : List MapEntry) (i : Nat), sW enc l es → cZ eq x l = none →
  Instr.findNow d (enc x) es i = some none ∧ sW enc (oh eq x v l) (es ++ [{ key := enc x, val := .int .i64 v, born := c }])
 | [], es, i, h, _ => by
  have : es = [] := by simpa [sW] using h
  subst this
  exact ⟨rfl, by simp [sW, oh]⟩
 | p :: l, [], i, h, _ => by simp [sW] at h
 | p :: l, e :: es, i, h, hn => by
  have h0 : (e.key, e.val) = (enc p.1, Value.int .i64 p.2) ∧ sW enc l es := by simpa [sW] using h
  obtain ⟨he, hr⟩ := h0
  cases he' : eq x p.1 with
  | true => simp [cZ, he'] at hn
  | false =>
   simp only [cZ, he', cond_false] at hn
   obtain ⟨h1, h2⟩ := zF x v c l es (i + 1) hr hn
   simp only [Prod.mk.injEq] at he
   refine ⟨by simp only [Instr.findNow, he.1, hsame, he', h1], ?_⟩
   simp only [oh, he', cond_false]
   simp only [sW, List.cons_append, List.map_cons] at h2 ⊢
   rw [he.1, he.2, h2]
include heq
theorem zG (x : α) (v y : Int) : ∀ (l : List (α × Int)) (es : List MapEntry) (i : Nat), sW enc l es → cZ eq x l = some y →
  ∃ j e, Instr.findNow d (enc x) es i = some (some (i + j, .int .i64 y)) ∧ es[j]? = some e ∧ e.key = enc x ∧ sW enc (oh eq x v l) (es.modify j fun e => { e with key := enc x, val := .int .i64 v })
 | [], es, i, h, hs => by simp [cZ] at hs
 | p :: l, [], i, h, _ => by simp [sW] at h
 | p :: l, e :: es, i, h, hs => by
  have h0 : (e.key, e.val) = (enc p.1, Value.int .i64 p.2) ∧ sW enc l es := by simpa [sW] using h
  obtain ⟨he, hr⟩ := h0
  simp only [Prod.mk.injEq] at he
  cases he' : eq x p.1 with
  | true =>
   have e1 := heq _ _ he'
   simp only [cZ, he', cond_true, Option.some.injEq] at hs
   refine ⟨0, e, by simp only [Instr.findNow, he.1, hsame, he', he.2, hs]; rfl, rfl, by rw [he.1, e1], ?_⟩
   simp only [oh, he', cond_true]
   simp only [sW, List.modify_zero_cons, List.map_cons] at hr ⊢
   rw [hr]
  | false =>
   simp only [cZ, he', cond_false] at hs
   obtain ⟨j, e2, h1, h2, h3, h4⟩ := zG x v y l es (i + 1) hr hs
   refine ⟨j + 1, e2, by simp only [Instr.findNow, he.1, hsame, he', h1]; congr 3; omega, by simpa using h2, h3, ?_⟩
   simp only [oh, he', cond_false]
   simp only [sW, List.modify_succ_cons, List.map_cons] at h4 ⊢
   rw [he.1, he.2, h4]
end
def encS (l : List UInt8) : Value := .string ⟨l.toArray⟩
def encI (n : Int) : Value := .int .i64 n
theorem Yc (a b : List UInt8) : Instr.sameNow .string (encS a) (encS b) = some (seq a b) := by
 unfold encS Instr.sameNow seq
 simp only [Option.some.injEq]
 have h1 := MapKept.bytes_beq (⟨a.toArray⟩ : ByteArray) ⟨b.toArray⟩
 have h2 : (⟨a.toArray⟩ : ByteArray) = ⟨b.toArray⟩ ↔ a = b := by
  constructor
  ·intro h; cases h; rfl
  ·intro h; rw [h]
 rw [h2] at h1
 cases hx : ((⟨a.toArray⟩ : ByteArray) == ⟨b.toArray⟩) with
 | true => rw [hx] at h1; rw [h1.1 rfl]; simp
 | false =>
  rw [hx] at h1
  symm
  rw [beq_eq_false_iff_ne]
  intro e
  exact absurd (h1.2 e) (by simp)
theorem Yd (a b : Int) : Instr.sameNow (.int .i64) (encI a) (encI b) = some (ieq a b) := by simp [encI, Instr.sameNow, ieq]
theorem YZ {o : Option AV} (h : isZ o = true) : o = some (.int false .i64 0) := by
 unfold isZ at h
 split at h
 ·rfl
 ·cases h
theorem IZ {P : Program} {e : TypeId} (h : isZ (zeroOf P e) = true) (w : World) : (zeroValue e).run P w = .ok (.int .i64 0) w := by
 obtain ⟨i, v, hi, hz, hv⟩ := pV (YZ h)
 have hr := Rep.lX 0 ⟨fun _ => 0, fun _ => 0, fun _ => 0, fun _ => 0, fun _ => none⟩ v
 rw [← hv] at hr
 simp only [Rep] at hr
 subst hr
 simp [zeroValue, typeInfo, hi, hz]
def MK.desc : MK → TypeDesc
 | .si => .string
 | .ii => .int .i64
theorem vC {P : Program} {t : TypeId} {mk : MK} (h : Iw P t = some mk) : ∃ k e, P.underlying t = some (.map k e) ∧ P.underlying k = some mk.desc ∧ ∀ w, (zeroValue e).run P w = .ok (.int .i64 0) w := by
 unfold Iw at h
 split at h
 ·rename_i k e ht
  cases hz : isZ (zeroOf P e) with
  | false => rw [hz] at h; cases h
  | true =>
   rw [hz, cond_true] at h
   split at h
   ·rename_i hk; cases h; exact ⟨k, e, ht, hk, IZ hz⟩
   ·rename_i hk; cases h; exact ⟨k, e, ht, hk, IZ hz⟩
   ·cases h
 ·cases h
theorem l9 {b : aF} {y : Bool × List (List UInt8 × Int)} (h : Eu b = some y) : b = .aJ y.1 y.2 := by
 unfold Eu at h; split at h <;> cases h; rfl
theorem EW {b : aF} {y : Bool × List (Int × Int)} (h : Vy b = some y) : b = .iY y.1 y.2 := by
 unfold Vy at h; split at h <;> cases h; rfl
theorem Lj {b : aF} {y : Bool × List UInt8 × Nat} (h : Rq b = some y) : b = .sit y.1 y.2.1 y.2.2 := by
 unfold Rq at h; split at h <;> cases h; rfl
theorem Rep.nR (N : Nat) (μ : MM) (ok s : Bool) (r : Option Int) : Rep N μ (nR ok s r) (if ok then .tuple #[.int .i64 (r.getD 0), .bool r.isSome] else .int .i64 (r.getD 0)) := by
 cases ok with
 | true => simp only [Sx.nR, cond_true, if_true, Rep, aO]; exact ⟨_, rfl, _, _, rfl, rfl, _, _, rfl, .dZ .., rfl⟩
 | false => simp [Sx.nR, Rep]
theorem Ja {α : Type} {enc : α → Value} {eq : α → α → Bool} {P : Program} {t : TypeId} {mk : MK} (hm : Iw P t = some mk) (hsame : ∀ a b, Instr.sameNow mk.desc (enc a) (enc b) = some (eq a b)) (heq : ∀ a b, eq a b = true → a = b)
  (hkey : ∀ a, MapKept.IsKey mk.desc (enc a)) (x : α) (l : List (α × Int)) {es : Array MapEntry} {clock : Nat} {w : World} {r : Nat} (hb : w.heap[r]? = some (.map es clock)) (he : sW enc l es.toList) (ok : Bool) :
  (Instr.lookup t (.map (some r)) (enc x) ok).run P w = .ok (if ok then .tuple #[.int .i64 ((cZ eq x l).getD 0), .bool (cZ eq x l).isSome] else .int .i64 ((cZ eq x l).getD 0)) w := by
 obtain ⟨k, e, ht, hk, hz⟩ := vC hm
 cases hf : cZ eq x l with
 | none =>
  obtain ⟨h1, _⟩ := zF hsame x 0 0 l es.toList 0 he hf
  simp [Instr.lookup, run_underlying ht, MapKept.run_getObj_map hb, MapKept.run_checkKey hk (hkey x), MapKept.run_findKey hk h1, hz, Result.andThen]
 | some y =>
  obtain ⟨j, e, h1, _⟩ := zG hsame heq x 0 y l es.toList 0 he hf
  simp [Instr.lookup, run_underlying ht, MapKept.run_getObj_map hb, MapKept.run_checkKey hk (hkey x), MapKept.run_findKey hk h1, Result.andThen]
theorem look_nil {P : Program} {t : TypeId} {mk : MK} (hm : Iw P t = some mk) {key : Value} (hkey : MapKept.IsKey mk.desc key) (w : World) (ok : Bool) :
  (Instr.lookup t (.map none) key ok).run P w = .ok (if ok then .tuple #[.int .i64 0, .bool false] else .int .i64 0) w := by
 obtain ⟨k, e, ht, hk, hz⟩ := vC hm
 have h1 : Instr.findNow mk.desc key [] 0 = some none := rfl
 simp [Instr.lookup, run_underlying ht, MapKept.run_checkKey hk hkey, MapKept.run_findKey hk h1, hz, Result.andThen]
theorem Jb {P : Program} {t : TypeId} {x ix v : AV} {ok : Bool} {g g' : G} (h : lookA P t x ix ok g = .done v g') :
  g = g' ∧ ∀ μ w cx ci, dP g.nx μ w.heap g.H → Rep g.nx μ x cx → Rep g.nx μ ix ci → ∃ c, (Instr.lookup t cx ci ok).run P w = .ok c w ∧ Rep g.nx μ v c := by
 unfold lookA at h
 obtain ⟨mk, g1, a1, h1⟩ := au h
 obtain ⟨hm, rfl⟩ := aI a1
 split at h1
 ·obtain ⟨rfl, rfl⟩ := aB h1
  refine ⟨rfl, fun μ w cx ci hg hx hi => ?_⟩
  simp only [Rep] at hx hi
  subst hx hi
  exact ⟨_, look_nil hm (by simp [MK.desc, MapKept.IsKey]) w ok, Rep.nR ..⟩
 ·obtain ⟨rfl, rfl⟩ := aB h1
  refine ⟨rfl, fun μ w cx ci hg hx hi => ?_⟩
  simp only [Rep] at hx hi
  subst hx hi
  exact ⟨_, look_nil hm (by simp [MK.desc, MapKept.IsKey]) w ok, Rep.nR ..⟩
 ·obtain ⟨b, g2, a2, h2⟩ := au h1
  obtain ⟨hb, rfl⟩ := iG a2
  obtain ⟨y, g3, a3, h3⟩ := au h2
  obtain ⟨hy, rfl⟩ := aI a3
  obtain ⟨rfl, rfl⟩ := aB h3
  refine ⟨rfl, fun μ w cx ci hg hx hi => ?_⟩
  simp only [Rep] at hx hi
  obtain ⟨_, rfl⟩ := hx
  subst hi
  have hbk := hg.ok _ _ hb
  rw [l9 hy] at hbk
  obtain ⟨es, cl, hB, hen⟩ := hbk
  exact ⟨_, Ja (enc := encS) (eq := seq) hm Yc (fun a b e => by simpa [seq] using e) (fun a => by simp [MK.desc, MapKept.IsKey, encS]) _ y.2 hB hen ok, Rep.nR ..⟩
 ·obtain ⟨b, g2, a2, h2⟩ := au h1
  obtain ⟨hb, rfl⟩ := iG a2
  obtain ⟨y, g3, a3, h3⟩ := au h2
  obtain ⟨hy, rfl⟩ := aI a3
  obtain ⟨rfl, rfl⟩ := aB h3
  refine ⟨rfl, fun μ w cx ci hg hx hi => ?_⟩
  simp only [Rep] at hx hi
  obtain ⟨_, rfl⟩ := hx
  subst hi
  have hbk := hg.ok _ _ hb
  rw [EW hy] at hbk
  obtain ⟨es, cl, hB, hen⟩ := hbk
  exact ⟨_, Ja (enc := encI) (eq := ieq) hm Yd (fun a b e => by simpa [ieq] using e) (fun a => by simp [MK.desc, MapKept.IsKey, encI]) _ y.2 hB hen ok, Rep.nR ..⟩
 ·exact (bC h1).elim
theorem NG {α : Type} {enc : α → Value} {eq : α → α → Bool} {P : Program} {t : TypeId} {mk : MK} (hm : Iw P t = some mk) (hsame : ∀ a b, Instr.sameNow mk.desc (enc a) (enc b) = some (eq a b)) (heq : ∀ a b, eq a b = true → a = b)
  (hkey : ∀ a, MapKept.IsKey mk.desc (enc a)) (x : α) (v : Int) (l : List (α × Int)) {es : Array MapEntry} {clock : Nat} {w : World} {r : Nat} (hb : w.heap[r]? = some (.map es clock)) (he : sW enc l es.toList) :
  ∃ es' clock', (Instr.mapUpdate t (.map (some r)) (enc x) (.int .i64 v)).run P w = .ok () { w with heap := w.heap.setIfInBounds r (.map es' clock') } ∧ sW enc (oh eq x v l) es'.toList := by
 obtain ⟨k, e, ht, hk, hz⟩ := vC hm
 cases hf : cZ eq x l with
 | none =>
  obtain ⟨h1, h2⟩ := zF hsame x v clock l es.toList 0 he hf
  exact ⟨es.push { key := enc x, val := .int .i64 v, born := clock }, clock + 1, by
   simp [Instr.mapUpdate, run_underlying ht, MapKept.run_getObj_map hb, MapKept.run_checkKey hk (hkey x), MapKept.run_findKey hk h1, MapKept.run_setObj_map _ hb, Result.andThen], by simpa using h2⟩
 | some y =>
  obtain ⟨j, e, h1, h2, h3, h4⟩ := zG hsame heq x v y l es.toList 0 he hf
  have hj : es[j]? = some e := by simpa using h2
  exact ⟨es.modify j fun e => { e with key := enc x, val := .int .i64 v }, clock, by
   simp [Instr.mapUpdate, run_underlying ht, MapKept.run_getObj_map hb, MapKept.run_checkKey hk (hkey x), MapKept.run_findKey hk h1, hj, h3, MapKept.run_keyThatStays (hkey x), MapKept.run_setObj_map _ hb, Result.andThen],
   by rw [Array.toList_modify]; exact h4⟩
theorem wB {P : Program} {t : TypeId} {m k v : AV} {u : Unit} {g g' : G} (h : pU P t m k v g = .done u g') :
  (g'.cs → g.cs) ∧ ∀ μ w cm ck cv, dP g.nx μ w.heap g.H → Rep g.nx μ m cm → Rep g.nx μ k ck → Rep g.nx μ v cv →
   ∃ w', (Instr.mapUpdate t cm ck cv).run P w = .ok () w' ∧ dP g'.nx μ w'.heap g'.H ∧ Ext g μ w g' μ w' := by
 unfold pU at h
 obtain ⟨mk, g1, a1, h1⟩ := au h
 obtain ⟨hm, rfl⟩ := aI a1
 split at h1
 ·obtain ⟨b, g2, a2, h2⟩ := au h1
  obtain ⟨hb, rfl⟩ := iG a2
  obtain ⟨y, g3, a3, h3⟩ := au h2
  obtain ⟨hy, rfl⟩ := aI a3
  refine ⟨fun hc => (bM h3).2.2 ▸ hc, fun μ w cm ck cv hg hx hi hv => ?_⟩
  simp only [Rep] at hx hi hv
  obtain ⟨_, rfl⟩ := hx
  subst hi hv
  have hbk := hg.ok _ _ hb
  rw [l9 hy] at hbk hb
  obtain ⟨es, cl, hB, hen⟩ := hbk
  obtain ⟨es', cl', hr, hen'⟩ := NG (enc := encS) (eq := seq) hm Yc (fun a b e => by simpa [seq] using e) (fun a => by simp [MK.desc, MapKept.IsKey, encS]) _ _ y.2 hB hen
  obtain ⟨h5, h6⟩ := Gu h3 hg hb rfl trivial (o := .map es' cl') (fun hp hh => ⟨es', cl', hh, hen'⟩) hB
  exact ⟨_, hr, h5, h6⟩
 ·obtain ⟨b, g2, a2, h2⟩ := au h1
  obtain ⟨hb, rfl⟩ := iG a2
  obtain ⟨y, g3, a3, h3⟩ := au h2
  obtain ⟨hy, rfl⟩ := aI a3
  refine ⟨fun hc => (bM h3).2.2 ▸ hc, fun μ w cm ck cv hg hx hi hv => ?_⟩
  simp only [Rep] at hx hi hv
  obtain ⟨_, rfl⟩ := hx
  subst hi hv
  have hbk := hg.ok _ _ hb
  rw [EW hy] at hbk hb
  obtain ⟨es, cl, hB, hen⟩ := hbk
  obtain ⟨es', cl', hr, hen'⟩ := NG (enc := encI) (eq := ieq) hm Yd (fun a b e => by simpa [ieq] using e) (fun a => by simp [MK.desc, MapKept.IsKey, encI]) _ _ y.2 hB hen
  obtain ⟨h5, h6⟩ := Gu h3 hg hb rfl trivial (o := .map es' cl') (fun hp hh => ⟨es', cl', hh, hen'⟩) hB
  exact ⟨_, hr, h5, h6⟩
 ·exact (bC h1).elim
theorem CZ {P : Program} {t : TypeId} {r : Option AV} {v : AV} {g g' : G} (h : oP P t r g = .done v g') :
  (g'.cs → g.cs) ∧ ∀ μ w cr, dP g.nx μ w.heap g.H → zB g.nx μ r cr → ∃ c w', (Instr.makeMap t cr).run P w = .ok c w' ∧ After g μ w g' v c w' := by
 unfold oP at h
 obtain ⟨mk, g1, a1, h1⟩ := au h
 obtain ⟨hm, rfl⟩ := aI a1
 obtain ⟨_, g2, a2, h2⟩ := au h1
 obtain ⟨hq, rfl⟩ := aS a2
 obtain ⟨nm, g3, a3, h3⟩ := au h2
 obtain ⟨rfl, rfl⟩ := aB h3
 obtain ⟨hnm, hH, hnx, hcs⟩ := iH a3
 refine ⟨fun hc => hcs ▸ hc, fun μ w cr hg hr => ?_⟩
 obtain ⟨k, e, ht, hk, hz⟩ := vC hm
 have hrun : (Instr.makeMap t cr).run P w = .ok (.map (some w.heap.size)) (w.alloc (.map #[] 0)) := by
  cases cr with
  | none => simp [Instr.makeMap, Result.andThen]
  | some c =>
   cases r with
   | none => simp [zB] at hr
   | some a =>
    simp only [Rt] at hq
    obtain ⟨y, hy⟩ := Option.isSome_iff_exists.1 hq
    obtain ⟨kk, rfl⟩ := l7 hy
    simp only [zB, Rep] at hr
    subst hr
    simp [Instr.makeMap, run_underlying ht, Go.asInt, asIntOf, Result.andThen]
 obtain ⟨h5, h6⟩ := NC a3 hg (.alloc w (.map #[] 0)) (by
  intro N μ' hp k' hh _
  cases mk
  ·exact ⟨#[], 0, hh, by simp [X9]⟩
  ·exact ⟨#[], 0, hh, by simp [Ya]⟩)
 refine ⟨_, _, hrun, _, ?_, h5, h6⟩
 simp only [Rep]
 refine ⟨by omega, ?_⟩
 rw [hnm, MM.dn]
theorem Ll {x : AV} {y : Bool × List UInt8} (h : Ru x = some y) : x = .str y.1 y.2 := by
 unfold Ru at h; split at h <;> cases h; rfl
theorem xZ {P : Program} {t : TypeId} (h : qY P t = true) : P.underlying t = some .string := by
 unfold qY at h; split at h
 ·assumption
 ·cases h
theorem Gw {P : Program} {t : TypeId} {x v : AV} {g g' : G} (h : wS P t x g = .done v g') :
  (g'.cs → g.cs) ∧ ∀ μ w cx, dP g.nx μ w.heap g.H → Rep g.nx μ x cx → ∃ c w', (Instr.range t cx).run P w = .ok c w' ∧ After g μ w g' v c w' := by
 unfold wS at h
 obtain ⟨y, g1, a1, h1⟩ := au h
 obtain ⟨hy, rfl⟩ := aI a1
 obtain ⟨_, g2, a2, h2⟩ := au h1
 obtain ⟨hq, rfl⟩ := aS a2
 obtain ⟨nm, g3, a3, h3⟩ := au h2
 obtain ⟨rfl, rfl⟩ := aB h3
 obtain ⟨hnm, hH, hnx, hcs⟩ := iH a3
 refine ⟨fun hc => hcs ▸ hc, fun μ w cx hg hx => ?_⟩
 rw [Ll hy] at hx
 simp only [Rep] at hx
 subst hx
 obtain ⟨h5, h6⟩ := NC a3 hg (.alloc w (.stringIter ⟨y.2.toArray⟩ 0)) (by intro N μ' hp k' hh hh2; exact ⟨hh, hh2⟩)
 refine ⟨_, _, run_range_string w t _ (xZ hq), _, ?_, h5, h6⟩
 simp only [Rep]
 refine ⟨by omega, ?_⟩
 rw [hnm]; simp [MM.addr, MM.fH, MM.dn]
theorem PX {s b d : Bool} {g g' : G} (h : KW s b g = .done d g') : Keep g g' (b = d) := by
 unfold KW at h
 cases s with
 | true => exact nH h
 | false => obtain ⟨rfl, rfl⟩ := aB h; exact (Keep.refl _).mono fun _ => rfl
theorem Jc {P : Program} {it v : AV} {isString : Bool} {g g' : G} (h : BZ it isString g = .done v g') (ty : TypeId) :
  (g'.cs → g.cs) ∧ (g'.cs → ∀ μ w ci, dP g.nx μ w.heap g.H → Rep g.nx μ it ci → ∃ c w', (Instr.next ci isString ty).run P w = .ok c w' ∧ After g μ w g' v c w') := by
 unfold BZ at h
 obtain ⟨_, g1, a1, h1⟩ := au h
 obtain ⟨hs, rfl⟩ := aS a1
 subst hs
 obtain ⟨a, g2, a2, h2⟩ := au h1
 obtain ⟨ha, rfl⟩ := aI a2
 obtain ⟨_, g3, a3, h3⟩ := au h2
 obtain ⟨hq, rfl⟩ := aS a3
 obtain ⟨b, g4, a4, h4⟩ := au h3
 obtain ⟨hb, rfl⟩ := iG a4
 obtain ⟨y, g5, a5, h5⟩ := au h4
 obtain ⟨hy, rfl⟩ := aI a5
 obtain ⟨d, g6, a6, h6⟩ := au h5
 have k := PX a6
 rw [Lj hy] at hb
 rw [Bool.and_eq_true] at hq
 have hi0 := Nat.eq_of_beq_eq_true hq.1
 have ho0 := Nat.eq_of_beq_eq_true hq.2
 have Ye : ∀ μ : MM, μ.addr a = ⟨μ.blk a.g, μ.base a.g, none⟩ := fun μ => by simp [MM.addr, hi0, ho0]
 cases d with
 | true =>
  rw [cond_true] at h6
  obtain ⟨u, g7, a7, h7⟩ := au h6
  obtain ⟨rfl, rfl⟩ := aB h7
  obtain ⟨hH, hnx, hcs⟩ := bM a7
  refine ⟨fun hc => (k.2.2 (hcs ▸ hc)).1, fun hc μ w ci hg hit => ?_⟩
  have hlt := of_decide_eq_true (k.2.2 (hcs ▸ hc)).2
  rw [oQ ha] at hit
  simp only [Rep] at hit
  obtain ⟨_, rfl⟩ := hit
  have hB : w.heap[μ.blk a.g]? = some (.stringIter ⟨y.2.1.toArray⟩ y.2.2) := (hg.ok _ _ hb).1
  have hB0 : μ.base a.g = 0 := (hg.ok _ _ hb).2
  rw [← k.1, ← k.2.1] at hg
  rw [← k.1] at hb
  obtain ⟨h8, h9⟩ := Gu a7 hg hb rfl trivial (o := .stringIter ⟨y.2.1.toArray⟩ (y.2.2 + (Utf8.decode ⟨y.2.1.toArray⟩ y.2.2).2)) (fun hp hh => ⟨hh, hB0⟩) hB
  refine ⟨.tuple #[.bool true, goInt y.2.2, .int .i32 (Utf8.decode ⟨y.2.1.toArray⟩ y.2.2).1], _, ?_, μ, ?_, h8, Ext.oq k h9⟩
  ·rw [Ye, hB0]
   have hlt' : y.2.2 < (⟨y.2.1.toArray⟩ : ByteArray).size := by rw [rF]; exact hlt
   simp [Instr.next, getObj, setObj, Sem.run, hB, Result.andThen, hlt']
  ·simp only [Rep, aO, goInt]
   exact ⟨_, rfl, _, _, rfl, rfl, _, _, rfl, rfl, _, _, rfl, rfl, rfl⟩
 | false =>
  rw [cond_false] at h6
  obtain ⟨rfl, rfl⟩ := aB h6
  refine ⟨fun hc => (k.2.2 hc).1, fun hc μ w ci hg hit => ?_⟩
  have hlt := of_decide_eq_false (k.2.2 hc).2
  rw [oQ ha] at hit
  simp only [Rep] at hit
  obtain ⟨_, rfl⟩ := hit
  have hB : w.heap[μ.blk a.g]? = some (.stringIter ⟨y.2.1.toArray⟩ y.2.2) := (hg.ok _ _ hb).1
  have hB0 : μ.base a.g = 0 := (hg.ok _ _ hb).2
  refine ⟨.tuple #[.bool false], w, ?_, .gV k hg ?_⟩
  ·rw [Ye, hB0]
   have hlt' : ¬ y.2.2 < (⟨y.2.1.toArray⟩ : ByteArray).size := by rw [rF]; exact hlt
   simp [Instr.next, getObj, setObj, Sem.run, hB, Result.andThen, hlt']
  ·simp only [Rep, aO]
   exact ⟨_, rfl, _, _, rfl, rfl, rfl⟩
theorem Jd {r : List AV} {n : Int} (h : byteOf r = some n) : ∃ s, r = [.int s .u8 n] := by
 unfold byteOf at h; split at h
 ·cases h; exact ⟨_, rfl⟩
 ·cases h
theorem Am {rows : Nat → List AV} : ∀ {m i : Nat} {l : List Int}, bytesOf rows i m = some l → l.length = m ∧ ∀ j n, l[j]? = some n → ∃ s, rows (i + j) = [.int s .u8 n]
 | 0, i, l, h => by simp [bytesOf] at h; subst h; exact ⟨rfl, fun j n h => by simp at h⟩
 | m + 1, i, l, h => by
  unfold bytesOf at h
  split at h
  ·rename_i x l' hx hl
   cases h
   obtain ⟨h1, h2⟩ := Am hl
   refine ⟨by simp [h1], fun j n hn => ?_⟩
   cases j with
   | zero => simp at hn; subst hn; exact Jd hx
   | succ j =>
    obtain ⟨s, hs⟩ := h2 j n (by simpa using hn)
    exact ⟨s, by rw [← hs]; congr 1; omega⟩
  ·cases h
theorem foldl_push (l : List Int) : ∀ s : ByteArray, l.foldl (fun r n => r.push (UInt8.ofNat n.toNat)) s = s ++ ⟨(l.map fun n => UInt8.ofNat n.toNat).toArray⟩ := by
 induction l with
 | nil => intro s; apply ByteArray.ext; simp
 | cons n l ih =>
  intro s
  rw [List.foldl_cons, ih]
  apply ByteArray.ext
  simp [ByteArray.data_append, ByteArray.push]
theorem Gx {P : Program} {t : TypeId} (h : isBytes P t = true) : ∃ e, P.underlying t = some (.slice e) ∧ P.underlying e = some (.int .u8) := by
 unfold isBytes at h
 split at h
 ·rename_i e he
  split at h
  ·exact ⟨e, dI he, by assumption⟩
  ·cases h
 ·cases h
theorem Ap {P : Program} {src dst : TypeId} {x v : AV} {g g' : G} (h : Ac P src dst x g = .done v g') :
  ∃ p, Keep g g' p ∧ (p → ∀ μ w cx, dP g.nx μ w.heap g.H → Rep g.nx μ x cx → ∃ c, (convert src dst cx).run P w = .ok c w ∧ Rep g.nx μ v c) := by
 unfold Ac at h
 obtain ⟨_, g1, a1, h1⟩ := au h
 obtain ⟨hq, rfl⟩ := aS a1
 rw [Bool.and_eq_true] at hq
 obtain ⟨y, g2, a2, h2⟩ := au h1
 obtain ⟨p, k, hs⟩ := uh a2 (by omega)
 obtain ⟨_, g3, a3, h3⟩ := au h2
 obtain ⟨hy1, rfl⟩ := aS a3
 obtain ⟨l, g4, a4, h4⟩ := au h3
 obtain ⟨hl, rfl⟩ := aI a4
 obtain ⟨rfl, rfl⟩ := aB h4
 refine ⟨p, k, fun hp μ w cx hg hx => ?_⟩
 obtain ⟨B, C, rfl, hsrc⟩ := hs hp g.nx μ w cx hg hx
 obtain ⟨e, hse, heb⟩ := Gx hq.1
 have hd := xZ hq.2
 rw [run_convert_bytes_string w src dst e _ _ _ hse heb hd]
 obtain ⟨hll, hget⟩ := Am hl
 cases B with
 | none =>
  have h0 : y.2.1 = 0 := by
   rcases Nat.eq_zero_or_pos y.2.1 with h0 | h0
   ·exact h0
   ·obtain ⟨ad, news, hB, _⟩ := hsrc h0
    cases hB
  have hl0 : l = [] := List.eq_nil_of_length_eq_zero (by omega)
  subst hl0
  exact ⟨.string .empty, by simp [Conv.bytesToString], by simp only [Rep]; rfl⟩
 | some a =>
  have hload : (loadCells a y.2.1).run P w = .ok (l.map (Value.int .u8)).toArray w := by
   rcases Nat.eq_zero_or_pos y.2.1 with h0 | h0
   ·have hl0 : l = [] := List.eq_nil_of_length_eq_zero (by omega)
    subst hl0
    rw [h0]; simp [loadCells, loadCellsFrom]
   ·obtain ⟨ad, news, hB, hlen, hcell, _, hrow⟩ := hsrc h0
    cases hB
    have hnews : news = l.map (Value.int .u8) := by
     apply List.ext_getElem?
     intro j
     by_cases hj : j < y.2.1
     ·obtain ⟨rl, rc⟩ := hrow j hj
      have hj' : j < l.length := by omega
      obtain ⟨s, hr⟩ := hget j l[j] (List.getElem?_eq_getElem hj')
      rw [Nat.zero_add] at hr
      obtain ⟨_, c, h1, h2⟩ := rc 0 (.int s .u8 l[j]) (by rw [hr]; rfl)
      simp only [Rep] at h2
      subst h2
      have h1' : news[j]? = some (.int .u8 l[j]) := by simpa using h1
      rw [h1', List.getElem?_map, List.getElem?_eq_getElem hj']; rfl
     ·rw [List.getElem?_eq_none (by omega), List.getElem?_eq_none (by simp; omega)]
    have := run_loadCells_list (P := P) w a news hcell
    rw [hlen, Nat.mul_one] at this
    rw [this, hnews]
  refine ⟨_, run_bytesToString w a _ C l hload, ?_⟩
  rw [foldl_push]
  simp only [Rep]
  congr 1
theorem ED {P : Program} {s d : TypeId} {x v : AV} {g g' : G} (h : rC P s d x g = .done v g') :
  ∃ p, Keep g g' p ∧ (p → ∀ μ w cx, dP g.nx μ w.heap g.H → Rep g.nx μ x cx → ∃ c, (convert s d cx).run P w = .ok c w ∧ Rep g.nx μ v c) := by
 unfold rC at h
 split at h
 ·exact Ap h
 ·exact Ap h
 ·obtain ⟨p, k, hs⟩ := IX h
  exact ⟨p, k, fun hp μ w cx hg hx => hs hp g.nx μ w cx hx⟩
end Go.Sx
namespace Go.Sx
open M
theorem vw.of {N : Nat} {μ : MM} {fr : Fr} {a : Act} {n : Nat} (h : dG N μ fr a.tmps n) (ps : Array (Nat × Operand)) :
  vw N μ (ps.toList.map fun p => (p.1, bT fr p.2)) (ps.map fun (i, x) => (i, a.eval x)).toList := by
 constructor
 ·simp [List.map_map, Function.comp_def]
 ·intro i p q hp hq
  rw [Array.toList_map] at hq
  rw [List.getElem?_map] at hp hq
  cases hx : ps.toList[i]? with
  | none => rw [hx] at hp; cases hp
  | some y =>
   rw [hx] at hp hq
   cases hp; cases hq
   exact h.eval y.2
theorem qL {P : Program} {call : Calls'} (hcall : dw P call) {fr : Fr} {o : Oper} {v : AV} {g g' : G} (h : Iy P call fr o g = .done v g') :
  (g'.cs → g.cs) ∧ (g'.cs → ∀ μ w (a : Act) n, dP g.nx μ w.heap g.H → dG g.nx μ fr a.tmps n → Lh P o g μ w g' v a) := by
 unfold Iy at h
 generalize ho : o.op = op0 at h
 split at h
 ·-- move
  rename_i x
  obtain ⟨rfl, rfl⟩ := aB h
  refine ⟨id, fun _ μ w a n hg hf => .value (by simp only [execOp, ho]; rfl) (.gV (Keep.refl g) hg (hf.eval x))⟩
 ·rename_i x
  obtain ⟨rfl, rfl⟩ := aB h
  refine ⟨id, fun _ μ w a n hg hf => .value (by simp only [execOp, ho]; rfl) (.gV (Keep.refl g) hg (hf.eval x))⟩
 ·-- pick
  rename_i c x y
  generalize hc : bT fr c = vc at h
  split at h
  ·rename_i t
   obtain ⟨rfl, rfl⟩ := aB h
   refine ⟨id, fun _ μ w a n hg hf => ?_⟩
   have hcv := hf.eval c
   rw [hc] at hcv
   simp only [Rep] at hcv
   refine .value (c := if t then a.eval x else a.eval y) (w' := w) (by simp [execOp, ho, hcv, asBool]) (.gV (Keep.refl g) hg ?_)
   cases t
   ·exact hf.eval y
   ·exact hf.eval x
  ·rename_i t
   obtain ⟨d, g1, a1, h1⟩ := au h
   obtain ⟨rfl, rfl⟩ := aB h1
   have k := nH a1
   refine ⟨fun hcs => (k.2.2 hcs).1, fun hcs μ w a n hg hf => ?_⟩
   have hd := (k.2.2 hcs).2
   have hcv := hf.eval c
   rw [hc] at hcv
   simp only [Rep] at hcv
   refine .value (c := if t then a.eval x else a.eval y) (w' := w) (by simp [execOp, ho, hcv, asBool]) (.gV k hg ?_)
   subst hd
   cases t
   ·exact hf.eval y
   ·exact hf.eval x
  ·exact (bC h).elim
 ·-- alloc
  rename_i e
  obtain ⟨z, g1, a1, h1⟩ := au h
  obtain ⟨hz, rfl⟩ := aI a1
  obtain ⟨i, zv, hi, hzv, rfl⟩ := pV hz
  obtain ⟨hc, hs⟩ := Cj (P := P) (t := e) h1
  refine ⟨hc, fun _ μ w a n hg hf => ?_⟩
  obtain ⟨c, w', e1, ha⟩ := (hs μ w zv hg (Rep.lX _ _ zv)).after
  refine .value (w' := w') (c := c) ?_ ha
  simp only [execOp, ho]
  refine dM ?_
  have : (zeroValue e).run P w = .ok zv w := by simp [zeroValue, typeInfo, hi, hzv]
  simp only [Instr.alloc, Sem.run_bind, this]
  exact e1
 ·-- box
  rename_i e x
  obtain ⟨hc, hs⟩ := Cj (P := P) (t := e) h
  refine ⟨hc, fun _ μ w a n hg hf => ?_⟩
  obtain ⟨c, w', e1, ha⟩ := (hs μ w _ hg (hf.eval x)).after
  exact .value (w' := w') (c := c) (by simp only [execOp, ho]; exact dM e1) ha
 ·-- build
  rename_i t ps
  obtain ⟨rfl, hs⟩ := Gg h
  refine ⟨id, fun _ μ w a n hg hf => ?_⟩
  obtain ⟨c, e1, hv⟩ := hs g.nx μ w _ (vw.of hf ps)
  exact .value (by simp only [execOp, ho]; exact dM e1) (.gV (Keep.refl g) hg hv)
 ·-- buildSlice
  rename_i t len ps
  obtain ⟨hc, hs⟩ := xR h
  refine ⟨hc, fun _ μ w a n hg hf => ?_⟩
  obtain ⟨c, w', e1, ha⟩ := (hs μ w _ hg (vw.of hf ps)).after
  exact .value (by simp only [execOp, ho]; exact dM e1) ha
 ·-- load
  rename_i t x
  obtain ⟨k, hs⟩ := IB h
  refine ⟨fun hc => (k.2.2 hc).1, fun hc μ w a n hg hf => ?_⟩
  obtain ⟨A, c, hxv, e1, hv⟩ := hs hc _ μ w _ hg (hf.eval x)
  exact .value (by simp only [execOp, ho, hxv]; exact dM (s := Instr.loadAt t _) (by simp only [Instr.loadAt, Instr.sureAddr, Sem.run_bind]; exact e1)) (.gV k hg hv)
 ·-- store
  rename_i t x y
  obtain ⟨ad, g1, a1, h1⟩ := au h
  obtain ⟨hx, rfl⟩ := aI a1
  have hx := oQ hx
  obtain ⟨_, g2, a2, h2⟩ := au h1
  obtain ⟨rfl, rfl⟩ := aB h2
  obtain ⟨hc0, hs⟩ := F6 a2
  refine ⟨hc0, fun hc μ w a n hg hf => ?_⟩
  have hxv := hf.eval x
  rw [hx] at hxv
  simp only [Rep] at hxv
  obtain ⟨w', e1, hg', hext⟩ := hs hc μ w _ hg (hf.eval y)
  exact .skip (w' := w') (by simp only [execOp, ho, hxv.2]; exact CW (s := Instr.storeAt t _ _) (by simp only [Instr.storeAt, Instr.sureAddr, Sem.run_bind]; exact e1)) ⟨μ, by simp [Rep], hg', hext⟩
 ·-- nilCheck
  rename_i x
  generalize hx : bT fr x = vx at h
  split at h
  ·rename_i ad
   obtain ⟨rfl, rfl⟩ := aB h
   refine ⟨id, fun _ μ w a n hg hf => ?_⟩
   have hxv := hf.eval x
   rw [hx] at hxv
   have hx2 := hxv
   simp only [Rep] at hx2
   refine .value (c := a.eval x) (w' := w) (by simp only [execOp, ho, hx2.2]; rfl) (.gV (Keep.refl g) hg hxv)
  ·rename_i f l cap
   obtain ⟨rfl, rfl⟩ := aB h
   refine ⟨id, fun _ μ w a n hg hf => ?_⟩
   have hxv := hf.eval x
   rw [hx] at hxv
   have hx2 := hxv
   simp only [Rep] at hx2
   obtain ⟨fs, cs, e, _, _⟩ := hx2
   refine .value (c := a.eval x) (w' := w) (by simp only [execOp, ho, e]; rfl) (.gV (Keep.refl g) hg hxv)
  ·exact (bC h).elim
 ·-- binOp
  rename_i op t x y pos
  obtain ⟨p, k, hs⟩ := La h
  refine ⟨fun hc => (k.2.2 hc).1, fun hc μ w a n hg hf => ?_⟩
  obtain ⟨c, m, e1, hv⟩ := hs (k.2.2 hc).2 g.nx μ w x y _ _ (hf.eval x).fl (hf.eval y).fl
  exact .value (by simp only [execOp, ho]; exact dM e1) (.keep m k hg hv)
 ·-- unOp
  rename_i op t x
  obtain ⟨p, k, hs⟩ := PW (P := P) h
  refine ⟨fun hc => (k.2.2 hc).1, fun hc μ w a n hg hf => ?_⟩
  obtain ⟨c, e1, hv⟩ := hs (k.2.2 hc).2 g.nx μ w _ (hf.eval x).fl
  exact .value (by simp only [execOp, ho]; exact dM e1) (.gV k hg hv)
 ·-- convert
  rename_i s d x
  obtain ⟨p, k, hs⟩ := ED h
  refine ⟨fun hc => (k.2.2 hc).1, fun hc μ w a n hg hf => ?_⟩
  obtain ⟨c, e1, hv⟩ := hs (k.2.2 hc).2 μ w _ hg (hf.eval x).fl
  exact .value (by simp only [execOp, ho]; exact dM e1) (.gV k hg hv)
 ·-- lookup
  rename_i t x i ok
  obtain ⟨rfl, hs⟩ := Jb h
  refine ⟨id, fun hc μ w a n hg hf => ?_⟩
  obtain ⟨c, e1, hv⟩ := hs μ w _ _ hg (hf.eval x) (hf.eval i)
  exact .value (by simp only [execOp, ho]; exact dM e1) (.gV (Keep.refl g) hg hv)
 ·-- mapUpdate
  rename_i t m k x
  obtain ⟨_, g2, a2, h2⟩ := au h
  obtain ⟨rfl, rfl⟩ := aB h2
  obtain ⟨hc0, hs⟩ := wB a2
  refine ⟨hc0, fun hc μ w a n hg hf => ?_⟩
  obtain ⟨w', e1, hg', hext⟩ := hs μ w _ _ _ hg (hf.eval m) (hf.eval k) (hf.eval x)
  exact .skip (w' := w') (by simp only [execOp, ho]; exact CW e1) ⟨μ, by simp [Rep], hg', hext⟩
 ·-- insert
  rename_i t m k x
  obtain ⟨_, g2, a2, h2⟩ := au h
  obtain ⟨rfl, rfl⟩ := aB h2
  obtain ⟨hc0, hs⟩ := wB a2
  refine ⟨hc0, fun hc μ w a n hg hf => ?_⟩
  obtain ⟨w', e1, hg', hext⟩ := hs μ w _ _ _ hg (hf.eval m) (hf.eval k) (hf.eval x)
  exact .skip (w' := w') (by simp only [execOp, ho]; exact CW e1) ⟨μ, by simp [Rep], hg', hext⟩
 ·-- makeMap
  rename_i t r
  obtain ⟨hc0, hs⟩ := CZ h
  refine ⟨hc0, fun hc μ w a n hg hf => ?_⟩
  obtain ⟨c, w', e1, ha⟩ := hs μ w _ hg (hf.Nz r)
  exact .value (by simp only [execOp, ho]; exact dM e1) ha
 ·-- range
  rename_i t x
  obtain ⟨hc0, hs⟩ := Gw h
  refine ⟨hc0, fun hc μ w a n hg hf => ?_⟩
  obtain ⟨c, w', e1, ha⟩ := hs μ w _ hg (hf.eval x)
  exact .value (by simp only [execOp, ho]; exact dM e1) ha
 ·-- next
  rename_i it s
  obtain ⟨hc0, hs⟩ := Jc h o.type
  refine ⟨hc0, fun hc μ w a n hg hf => ?_⟩
  obtain ⟨c, w', e1, ha⟩ := hs hc μ w _ hg (hf.eval it)
  exact .value (by simp only [execOp, ho]; exact dM e1) ha
 ·-- makeFunc
  rename_i f l c
  obtain ⟨rfl, rfl⟩ := aB h
  refine ⟨id, fun _ μ w a n hg hf => ?_⟩
  refine .value (c := .func f (l.map a.eval) (c.map a.eval)) (w' := w) (by simp only [execOp, ho]; rfl) (.gV (Keep.refl g) hg ?_)
  simp only [Rep]
  exact ⟨_, _, rfl, hf.IY l, hf.IY c⟩
 ·-- makeSlice
  rename_i t l c
  obtain ⟨hc0, hs⟩ := zA h
  refine ⟨hc0, fun hc μ w a n hg hf => ?_⟩
  obtain ⟨c', w', e1, ha⟩ := (hs hc μ w _ _ hg (hf.eval l) (hf.eval c)).after
  exact .value (by simp only [execOp, ho]; exact dM e1) ha
 ·-- slice
  rename_i t x lo hi mx
  obtain ⟨p, k, hs⟩ := Gq h
  refine ⟨fun hc => (k.2.2 hc).1, fun hc μ w a n hg hf => ?_⟩
  obtain ⟨c, e1, hv⟩ := hs (k.2.2 hc).2 μ w _ _ _ _ hg (hf.eval x) (hf.Nz lo) (hf.Nz hi) (hf.Nz mx)
  exact .value (by simp only [execOp, ho]; exact dM e1) (.gV k hg hv)
 ·-- fieldAddr
  rename_i t x f
  obtain ⟨rfl, hs⟩ := zD h
  refine ⟨id, fun hc μ w a n hg hf => ?_⟩
  obtain ⟨c, e1, hv⟩ := hs g.nx μ w _ (hf.eval x)
  exact .value (by simp only [execOp, ho]; exact dM e1) (.gV (Keep.refl g) hg hv)
 ·-- field
  rename_i t x f
  obtain ⟨rfl, hs⟩ := Gt h
  refine ⟨id, fun hc μ w a n hg hf => ?_⟩
  obtain ⟨c, e1, hv⟩ := hs g.nx μ w _ (hf.eval x)
  exact .value (by simp only [execOp, ho]; exact dM e1) (.gV (Keep.refl g) hg hv)
 ·-- indexAddr
  rename_i t x i
  obtain ⟨p, k, hs⟩ := zC h
  refine ⟨fun hc => (k.2.2 hc).1, fun hc μ w a n hg hf => ?_⟩
  obtain ⟨c, e1, hv⟩ := hs (k.2.2 hc).2 μ w _ _ hg (hf.eval x) (hf.eval i)
  exact .value (by simp only [execOp, ho]; exact dM e1) (.gV k hg hv)
 ·-- index
  rename_i t x i
  obtain ⟨p, k, hs⟩ := Gs h
  refine ⟨fun hc => (k.2.2 hc).1, fun hc μ w a n hg hf => ?_⟩
  obtain ⟨c, e1, hv⟩ := hs (k.2.2 hc).2 g.nx μ w _ _ (hf.eval x) (hf.eval i)
  exact .value (by simp only [execOp, ho]; exact dM e1) (.gV k hg hv)
 ·-- extract
  rename_i x i
  generalize hx : bT fr x = vx at h
  split at h
  ·rename_i l
   obtain ⟨hl, rfl⟩ := aI h
   refine ⟨id, fun hc μ w a n hg hf => ?_⟩
   have hxv := hf.eval x
   rw [hx] at hxv
   simp only [Rep] at hxv
   obtain ⟨cs, e, hr⟩ := hxv
   obtain ⟨c, hc1, hv⟩ := hr.get hl
   refine .value (c := c) (w' := w) (by simp only [execOp, ho, e]; exact dM (s := Instr.extract _ _) (by simp only [Instr.extract]; rw [← Array.getElem?_toList, hc1]; rfl)) (.gV (Keep.refl g) hg hv)
  ·exact (bC h).elim
 ·-- call
  rename_i c
  generalize hf0 : c.callee = cal at h
  split at h
  ·rename_i f
   generalize hfv : bT fr f = vf at h
   split at h
   ·rename_i k l cap
    obtain ⟨hc0, hs⟩ := hcall _ _ _ _ _ h
    refine ⟨hc0, fun hc μ w a n hg hf => ?_⟩
    have hxv := hf.eval f
    rw [hfv] at hxv
    simp only [Rep] at hxv
    obtain ⟨fs, cs, e, h1, h2⟩ := hxv
    refine .call (f := k) (args := (fs ++ c.args.map a.eval) ++ cs) ?_ (hs hc μ w _ hg ?_)
    ·simp only [execOp, ho, resolve, hf0, e, Deferred.ofValue, Sem.run_bind]
     rfl
    ·simp only [Array.toList_append]
     exact (h1.append (hf.IY _)).append h2
   ·exact (bC h).elim
  ·rename_i b
   obtain ⟨hc0, hs⟩ := CX h o.type (c.args.map fun | .const _ => true | _ => false)
   refine ⟨hc0, fun hc μ w a n hg hf => ?_⟩
   obtain ⟨c', w', e1, ha⟩ := hs hc μ w _ hg (hf.YX c.args)
   refine .value (c := c') (w' := w') ?_ ha
   simp only [execOp, ho, resolve, hf0, Sem.run_bind, Sem.run_pure]
   exact e1
  ·exact (bC h).elim
 ·exact (bC h).elim
end Go.Sx
namespace Go.Sx
open M
theorem Act.put_defers (a : Act) (d : Option Tmp) (v : Value) : (a.put d v).defers = a.defers := by cases d <;> rfl
def kG (n : Nat) (g : G) (μ : MM) (w : World) (g' : G) (fr' : Fr) (a a' : Act) (w' : World) : Prop :=
 ∃ μ', dP g'.nx μ' w'.heap g'.H ∧ Ext g μ w g' μ' w' ∧ dG g'.nx μ' fr' a'.tmps n ∧ a'.defers = a.defers
theorem Ext.refl (g : G) (μ : MM) (w : World) : Ext g μ w g μ w := Ext.same μ w rfl rfl
theorem kG.trans {n : Nat} {g g' g'' : G} {μ μ' : MM} {w w' w'' : World} {mg : Fr} {a a' a'' : Act} (h1 : Ext g μ w g' μ' w') (h2 : a'.defers = a.defers) (h : kG n g' μ' w' g'' mg a' a'' w'') : kG n g μ w g'' mg a a'' w'' := by
 obtain ⟨μ'', k1, k2, k3, k4⟩ := h
 exact ⟨μ'', k1, h1.trans k2, k3, k4.trans h2⟩
def Runs (n : Nat) (fr : Fr) (g : G) (fr' : Fr) (g' : G) (W : (Act → World → Prop) → Act → World → Prop) : Prop :=
 (g'.cs → g.cs) ∧ (g'.cs → ∀ μ w (a : Act), dP g.nx μ w.heap g.H → dG g.nx μ fr a.tmps n → ∀ K : Act → World → Prop, (∀ a' w', kG n g μ w g' fr' a a' w' → K a' w') → W K a w)
theorem vF {o : Oper} {y : Nat → Option Bool} {j : Nat} {want b : Bool} (hg : o.guard = some (j, want)) (hy : y j = some b) : Region.wanted o y = (b == want) := by
 simp only [Region.wanted, hg, hy]; cases b <;> cases want <;> rfl
theorem rH {ops : Array Oper} {tmps : Array Value} {j d : Nat} {b : Bool} (hj : (ops[j]?).bind (·.dst) = some d) (hd : tmps.getD d undef = .bool b) : yielded ops tmps j = some b := by
 simp only [yielded, hj, Option.bind_some]
 have : tmps[d]? = some (.bool b) := by
  cases h : tmps[d]? with
  | none => rw [Array.getD_eq_getD_getElem?, h] at hd; simp [undef] at hd
  | some v => rw [Array.getD_eq_getD_getElem?, h] at hd; simp at hd; rw [hd]
 rw [this]
theorem EX {o : Oper} {y : Nat → Option Bool} {j : Nat} {want : Bool} (hg : o.guard = some (j, want)) (hy : y j = none) : Region.wanted o y = false := by
 simp only [Region.wanted, hg, hy]; rfl
theorem Aq {ops : Array Oper} {tmps : Array Value} {j d : Nat} {l : Array Value} (hj : (ops[j]?).bind (·.dst) = some d) (hd : tmps.getD d undef = .tuple l) : yielded ops tmps j = none := by
 simp only [yielded, hj, Option.bind_some]
 cases h : tmps[d]? with
 | none => rfl
 | some v => rw [Array.getD_eq_getD_getElem?, h] at hd; simp at hd; rw [hd]
theorem Rep.undef {N : Nat} {μ : MM} : Rep N μ (.lZ []) Go.undef := by
 simp only [Rep, aO, Go.undef]; exact ⟨#[], rfl, rfl⟩
theorem Gy {P : Program} {call : Calls'} (hcall : dw P call) {n : Nat} {ops : Array Oper} {rest : List Oper} {o : Oper} {fr fr' : Fr} {g g' : G} {Q : Exit → Act → World → Prop}
  (ih : ∀ fr fr' g g', jX P call n ops.toList rest fr g = .done fr' g' → Runs n fr g fr' g' fun K => wpList P ops (Exit.then K Q) rest)
  (h : ((Iy P call fr o).andThen fun v => (tY n fr o.dst v).andThen fun fr' => jX P call n ops.toList rest fr') g = .done fr' g') :
  Runs n fr g fr' g' fun K a w => o.wp P a w (wpList P ops (Exit.then K Q) rest) (Exit.then K Q) := by
 obtain ⟨v, g1, a1, h1⟩ := au h
 obtain ⟨wX, g2, a2, h2⟩ := au h1
 obtain ⟨hc1, hs1⟩ := qL hcall a1
 obtain ⟨rfl, hp⟩ := wW a2
 obtain ⟨hc2, hs2⟩ := ih _ _ _ _ h2
 refine ⟨fun hc => hc1 (hc2 hc), fun hc μ w a hg hf K hK => hs1 (hc2 hc) μ w a n hg hf _ _ fun c w' ha => ?_⟩
 obtain ⟨μ', hv, hg', hext⟩ := ha
 exact hs2 hc μ' w' _ hg' (hp _ _ _ _ (hf.later hext.names hext.nx) hv) K fun a' w'' hk => hK _ _ (hk.trans hext (Act.put_defers _ _ _))
theorem Lm {P : Program} {call : Calls'} {n : Nat} {ops : Array Oper} {rest : List Oper} {o : Oper} {fr fr' : Fr} {g g' : G} {Q : Exit → Act → World → Prop}
  (ih : ∀ fr fr' g g', jX P call n ops.toList rest fr g = .done fr' g' → Runs n fr g fr' g' fun K => wpList P ops (Exit.then K Q) rest)
  (h : ((tY n fr o.dst (.lZ [])).andThen fun fr' => jX P call n ops.toList rest fr') g = .done fr' g') :
  Runs n fr g fr' g' fun K a w => wpList P ops (Exit.then K Q) rest (a.put o.dst undef) w := by
 obtain ⟨wX, g2, a2, h2⟩ := au h
 obtain ⟨rfl, hp⟩ := wW a2
 obtain ⟨hc2, hs2⟩ := ih _ _ _ _ h2
 refine ⟨hc2, fun hc μ w a hg hf K hK => ?_⟩
 exact hs2 hc μ w _ hg (hp _ _ a undef hf Rep.undef) K fun a' w'' hk => hK _ _ (hk.trans (Ext.refl _ _ _) (Act.put_defers _ _ _))
theorem Ar {P : Program} {call : Calls'} (hcall : dw P call) {n : Nat} {ops : Array Oper} {Q : Exit → Act → World → Prop} : ∀ (rest : List Oper) (fr fr' : Fr) (g g' : G),
  jX P call n ops.toList rest fr g = .done fr' g' → Runs n fr g fr' g' fun K => wpList P ops (Exit.then K Q) rest
 | [], fr, fr', g, g', h => by
  obtain ⟨rfl, rfl⟩ := aB h
  exact ⟨id, fun _ μ w a hg hf K hK => wpList_nil (hK a w ⟨μ, hg, Ext.refl _ _ _, hf, rfl⟩)⟩
 | o :: rest, fr, fr', g, g', h => by
  have ih := Ar hcall (n := n) (ops := ops) (Q := Q) rest
  unfold jX at h
  generalize hgd : o.guard = gd at h
  split at h
  ·obtain ⟨hc, hs⟩ := Gy hcall (Q := Q) ih h
   refine ⟨hc, fun hcs μ w a hg hf K hK => ?_⟩
   show wpList P ops (Exit.then K Q) (o :: rest) a w
   unfold wpList
   rw [if_pos (by simp [Region.wanted, hgd])]
   exact .inl (hs hcs μ w a hg hf K hK)
  ·rename_i j want
   generalize hd : (ops.toList[j]?).bind (·.dst) = dd at h
   rw [Array.getElem?_toList] at hd
   split at h
   ·exact (bC h).elim
   ·rename_i d
    generalize hfd : fr.get d = fd at h
    split at h
    ·rename_i b
     have key : ∀ N μ (a : Act), dG N μ fr a.tmps n → Region.wanted o (yielded ops a.tmps) = (b == want) := fun N μ a hf =>
      vF hgd (rH hd (by have := hf.val d _ hfd; simpa [Rep] using this))
     cases hb : (b == want) with
     | true =>
      rw [hb] at h key
      obtain ⟨hc, hs⟩ := Gy hcall (Q := Q) ih h
      refine ⟨hc, fun hcs μ w a hg hf K hK => ?_⟩
      show wpList P ops (Exit.then K Q) (o :: rest) a w
      unfold wpList
      rw [if_pos (key _ _ a hf)]
      exact .inl (hs hcs μ w a hg hf K hK)
     | false =>
      rw [hb] at h key
      obtain ⟨hc, hs⟩ := Lm (Q := Q) ih h
      refine ⟨hc, fun hcs μ w a hg hf K hK => ?_⟩
      show wpList P ops (Exit.then K Q) (o :: rest) a w
      unfold wpList
      rw [if_neg (by rw [key _ _ a hf]; simp)]
      exact hs hcs μ w a hg hf K hK
    ·rename_i b
     obtain ⟨t, g1, a1, h1⟩ := au h
     have k := nH a1
     have know : ∀ N μ (a : Act), b = t → dG N μ fr a.tmps n → dG N μ (fr.upd d (some (.bool t))) a.tmps n := fun N μ a e hf =>
      hf.know hfd fun c hc => by simpa [Rep, e] using hc
     have key : ∀ N μ (a : Act), b = t → dG N μ fr a.tmps n → Region.wanted o (yielded ops a.tmps) = (t == want) := fun N μ a e hf =>
      vF hgd (rH hd (by have := hf.val d _ hfd; rw [← e]; simpa [Rep] using this))
     have ext : ∀ μ w, Ext g μ w g1 μ w := fun μ w => Ext.same μ w k.1 k.2.1
     cases hb : (t == want) with
     | true =>
      simp only [hb, cond_true] at h1
      simp only [hb] at key
      obtain ⟨hc, hs⟩ := Gy hcall (Q := Q) ih h1
      refine ⟨fun hcs => (k.2.2 (hc hcs)).1, fun hcs μ w a hg hf K hK => ?_⟩
      have e := (k.2.2 (hc hcs)).2
      show wpList P ops (Exit.then K Q) (o :: rest) a w
      unfold wpList
      rw [if_pos (key _ _ a e hf)]
      exact .inl (hs hcs μ w a (by rw [k.1, k.2.1]; exact hg) (by rw [k.2.1]; exact know _ _ a e hf) K fun a' w' hk => hK _ _ (hk.trans (ext μ w) rfl))
     | false =>
      simp only [hb, cond_false] at h1
      simp only [hb] at key
      obtain ⟨hc, hs⟩ := Lm (Q := Q) ih h1
      refine ⟨fun hcs => (k.2.2 (hc hcs)).1, fun hcs μ w a hg hf K hK => ?_⟩
      have e := (k.2.2 (hc hcs)).2
      show wpList P ops (Exit.then K Q) (o :: rest) a w
      unfold wpList
      rw [if_neg (by rw [key _ _ a e hf]; simp)]
      exact hs hcs μ w a (by rw [k.1, k.2.1]; exact hg) (by rw [k.2.1]; exact know _ _ a e hf) K fun a' w' hk => hK _ _ (hk.trans (ext μ w) rfl)
    ·rename_i l
     have key : ∀ N μ (a : Act), dG N μ fr a.tmps n → Region.wanted o (yielded ops a.tmps) = false := fun N μ a hf => by
      have := hf.val d _ hfd
      simp only [Rep] at this
      obtain ⟨cs, e, _⟩ := this
      exact EX hgd (Aq hd e)
     obtain ⟨hc, hs⟩ := Lm (Q := Q) ih h
     refine ⟨hc, fun hcs μ w a hg hf K hK => ?_⟩
     show wpList P ops (Exit.then K Q) (o :: rest) a w
     unfold wpList
     rw [if_neg (by rw [key _ _ a hf]; simp)]
     exact hs hcs μ w a hg hf K hK
    ·exact (bC h).elim
theorem C9 {P : Program} {call : Calls'} (hcall : dw P call) {n : Nat} {ops : Array Oper} {Q : Exit → Act → World → Prop} (rest : List Oper) (fr fr' : Fr) (g g' : G)
  (h : zu P call n ops.toList rest fr g = .done fr' g') : Runs n fr g fr' g' fun K => wpList P ops (Exit.then K Q) rest :=
 Ar hcall rest fr fr' g g' (by rw [← uZ]; exact h)
def Ex.ex : Ex → Exit
 | .normal => .normal
 | .exit id => .exit id
 | .ret => .ret
def yc (P : Program) (c : Code) (n : Nat) (fr : Fr) (g : G) (r : Ex × Fr) (g' : G) : Prop :=
 (g'.cs → g.cs) ∧ (g'.cs → ∀ μ w (a : Act), dP g.nx μ w.heap g.H → dG g.nx μ fr a.tmps n → ∀ Q : Exit → Act → World → Prop, (∀ a' w', kG n g μ w g' r.2 a a' w' → Q r.1.ex a' w') → c.wp P Q a w)
def eF (P : Program) (region : List Oper → Fr → M Fr) (n : Nat) : Prop :=
 ∀ (ops : Array Oper) (id : Nat) fr fr' g g', region ops.toList fr g = .done fr' g' → yc P (.region id ops true) n fr g (.normal, fr') g'
theorem yc.of {P : Program} {c : Code} {n : Nat} {fr : Fr} {g : G} {r : Ex × Fr} {g' : G} (h : yc P c n fr g r g') (hc : g'.cs) {μ : MM} {w : World} {a : Act} (hg : dP g.nx μ w.heap g.H) (hf : dG g.nx μ fr a.tmps n) :
  c.wp P (fun e a' w' => e = r.1.ex ∧ kG n g μ w g' r.2 a a' w') a w := h.2 hc μ w a hg hf _ fun _ _ k => ⟨rfl, k⟩
theorem Au {P : Program} {c : Code} {n : Nat} {body : Fr → M (Ex × Fr)} (hb : ∀ fr r g g', body fr g = .done r g' → yc P c n fr g r g') :
  ∀ (k : Nat) (fr : Fr) (r : Ex × Fr) (g g' : G), loopA body k fr g = .done r g' →
   (g'.cs → g.cs) ∧ (g'.cs → ∀ μ w (a : Act), dP g.nx μ w.heap g.H → dG g.nx μ fr a.tmps n → ∀ Q : Exit → Act → World → Prop, (∀ a' w', kG n g μ w g' r.2 a a' w' → Q r.1.ex a' w') → Code.rounds P c Q k a w)
 | 0, fr, r, g, g', h => (bC h).elim
 | k + 1, fr, r, g, g', h => by
  have ih := Au hb k
  unfold loopA at h
  obtain ⟨⟨e, wX⟩, g1, a1, h1⟩ := au h
  have hb1 := hb _ _ _ _ a1
  cases e with
  | normal =>
   obtain ⟨hc2, hs2⟩ := ih _ _ _ _ h1
   refine ⟨fun hc => hb1.1 (hc2 hc), fun hc μ w a hg hf Q hQ => ?_⟩
   rw [rounds_succ]
   refine wp_mono (hb1.of (hc2 hc) hg hf) ?_
   rintro e a' w' ⟨rfl, μ', hg', hext, hf', hd⟩
   exact hs2 hc μ' w' a' hg' hf' Q fun a'' w'' hk => hQ _ _ (hk.trans hext hd)
  | exit id =>
   obtain ⟨rfl, rfl⟩ := aB h1
   refine ⟨hb1.1, fun hc μ w a hg hf Q hQ => ?_⟩
   rw [rounds_succ]
   refine wp_mono (hb1.of hc hg hf) ?_
   rintro e a' w' ⟨rfl, hk⟩
   exact hQ _ _ hk
  | ret =>
   obtain ⟨rfl, rfl⟩ := aB h1
   refine ⟨hb1.1, fun hc μ w a hg hf Q hQ => ?_⟩
   rw [rounds_succ]
   refine wp_mono (hb1.of hc hg hf) ?_
   rintro e a' w' ⟨rfl, hk⟩
   exact hQ _ _ hk
def rJ (id : Nat) (c : Code) : Code → Prop
 | .seq a b => rJ id c a ∨ rJ id c b
 | .cond _ a b => rJ id c a ∨ rJ id c b
 | .block id' c' => (id' = id ∧ c' = c) ∨ rJ id c c'
 | .loop c' => rJ id c c'
 | _ => False
def SOk (P : Program) (n : Nat) (id : Nat) (c : Code) (S : Fr → M (Ex × Fr)) : Prop := ∀ fr r g g', S fr g = .done r g' → yc P (.block id c) n fr g r g'
def gu (P : Program) (loops : Loops) (n : Nat) (c : Code) : Prop := ∀ id S, loops id = some S → ∀ c', rJ id c' c → SOk P n id c' S
theorem gu.none (P : Program) (n : Nat) (c : Code) : gu P jH n c := fun id S h => by cases h
theorem fC {P : Program} {call : Calls'} (hcall : dw P call) {region : List Oper → Fr → M Fr} {loops : Loops} {n rounds : Nat} (qG : eF P region n) :
  ∀ (c : Code), gu P loops n c → ∀ (fr : Fr) (r : Ex × Fr) (g g' : G), bV P call region loops n rounds c fr g = .done r g' → yc P c n fr g r g'
 | .skip, hl, fr, r, g, g', h => by
  unfold bV at h
  obtain ⟨rfl, rfl⟩ := aB h
  exact ⟨id, fun _ μ w a hg hf Q hQ => wp_skip (hQ a w ⟨μ, hg, Ext.refl _ _ _, hf, rfl⟩)⟩
 | .region id ops false, hl, fr, r, g, g', h => by
  unfold bV at h
  obtain ⟨wX, g1, a1, h1⟩ := au h
  obtain ⟨rfl, rfl⟩ := aB h1
  refine ⟨(C9 hcall (Q := fun _ _ _ => False) _ _ _ _ _ a1).1, fun hc μ w a hg hf Q hQ => wp_region_list ?_⟩
  have := (C9 hcall (Q := Q) _ _ _ _ _ a1).2 hc μ w a hg hf (Q .normal) hQ
  have e : Exit.then (Q .normal) Q = Q := by funext e; cases e <;> rfl
  simpa only [e] using this
 | .region id ops true, hl, fr, r, g, g', h => by
  unfold bV at h
  obtain ⟨wX, g1, a1, h1⟩ := au h
  obtain ⟨rfl, rfl⟩ := aB h1
  exact qG ops id _ _ _ _ a1
 | .seq x y, hl, fr, r, g, g', h => by
  unfold bV at h
  obtain ⟨⟨e, wX⟩, g1, a1, h1⟩ := au h
  have hx := fC hcall qG x (fun id S h c' hb => hl id S h c' (.inl hb)) _ _ _ _ a1
  cases e with
  | normal =>
   have hy := fC hcall qG y (fun id S h c' hb => hl id S h c' (.inr hb)) _ _ _ _ h1
   refine ⟨fun hc => hx.1 (hy.1 hc), fun hc μ w a hg hf Q hQ => wp_seq (wp_mono (hx.of (hy.1 hc) hg hf) ?_)⟩
   rintro e a' w' ⟨rfl, μ', hg', hext, hf', hd⟩
   exact hy.2 hc μ' w' a' hg' hf' Q fun a'' w'' hk => hQ _ _ (hk.trans hext hd)
  | exit id =>
   obtain ⟨rfl, rfl⟩ := aB h1
   refine ⟨hx.1, fun hc μ w a hg hf Q hQ => wp_seq (wp_mono (hx.of hc hg hf) ?_)⟩
   rintro e a' w' ⟨rfl, hk⟩
   exact hQ _ _ hk
  | ret =>
   obtain ⟨rfl, rfl⟩ := aB h1
   refine ⟨hx.1, fun hc μ w a hg hf Q hQ => wp_seq (wp_mono (hx.of hc hg hf) ?_)⟩
   rintro e a' w' ⟨rfl, hk⟩
   exact hQ _ _ hk
 | .cond c x y, hl, fr, r, g, g', h => by
  unfold bV at h
  generalize hcv : bT fr c = cv at h
  split at h
  ·rename_i t
   have key : ∀ N μ (a : Act), dG N μ fr a.tmps n → a.eval c = .bool t := fun N μ a hf => by
    have := hf.eval c
    rw [hcv] at this
    simpa [Rep] using this
   cases t with
   | true =>
    have hx := fC hcall qG x (fun id S h c' hb => hl id S h c' (.inl hb)) _ _ _ _ h
    exact ⟨hx.1, fun hc μ w a hg hf Q hQ => wp_cond (key _ _ _ hf) (hx.2 hc μ w a hg hf Q hQ)⟩
   | false =>
    have hx := fC hcall qG y (fun id S h c' hb => hl id S h c' (.inr hb)) _ _ _ _ h
    exact ⟨hx.1, fun hc μ w a hg hf Q hQ => wp_cond (key _ _ _ hf) (hx.2 hc μ w a hg hf Q hQ)⟩
  ·rename_i t
   obtain ⟨d, g1, a1, h1⟩ := au h
   have k := nH a1
   have key : ∀ N μ (a : Act), dG N μ fr a.tmps n → a.eval c = .bool t := fun N μ a hf => by
    have := hf.eval c
    rw [hcv] at this
    simpa [Rep] using this
   have ext : ∀ μ w, Ext g μ w g1 μ w := fun μ w => Ext.same μ w k.1 k.2.1
   cases d with
   | true =>
    have hx := fC hcall qG x (fun id S h c' hb => hl id S h c' (.inl hb)) _ _ _ _ h1
    refine ⟨fun hc => (k.2.2 (hx.1 hc)).1, fun hc μ w a hg hf Q hQ => wp_cond (key _ _ _ hf) ?_⟩
    rw [(k.2.2 (hx.1 hc)).2]
    exact hx.2 hc μ w a (by rw [k.1, k.2.1]; exact hg) (by rw [k.2.1]; exact hf) Q fun a' w' hk => hQ _ _ (hk.trans (ext μ w) rfl)
   | false =>
    have hx := fC hcall qG y (fun id S h c' hb => hl id S h c' (.inr hb)) _ _ _ _ h1
    refine ⟨fun hc => (k.2.2 (hx.1 hc)).1, fun hc μ w a hg hf Q hQ => wp_cond (key _ _ _ hf) ?_⟩
    rw [(k.2.2 (hx.1 hc)).2]
    exact hx.2 hc μ w a (by rw [k.1, k.2.1]; exact hg) (by rw [k.2.1]; exact hf) Q fun a' w' hk => hQ _ _ (hk.trans (ext μ w) rfl)
  ·exact (bC h).elim
 | .block id c, hl, fr, r, g, g', h => by
  unfold bV at h
  generalize hS : loops id = S at h
  split at h
  ·rename_i S'
   exact hl id S' hS c (.inl ⟨rfl, rfl⟩) fr r g g' h
  ·obtain ⟨⟨e, wX⟩, g1, a1, h1⟩ := au h
   have hx := fC hcall qG c (fun id S h c' hb => hl id S h c' (.inr hb)) _ _ _ _ a1
   cases e with
   | normal =>
    obtain ⟨rfl, rfl⟩ := aB h1
    refine ⟨hx.1, fun hc μ w a hg hf Q hQ => wp_block (wp_mono (hx.of hc hg hf) ?_)⟩
    rintro e a' w' ⟨rfl, hk⟩
    exact hQ _ _ hk
   | ret =>
    obtain ⟨rfl, rfl⟩ := aB h1
    refine ⟨hx.1, fun hc μ w a hg hf Q hQ => wp_block (wp_mono (hx.of hc hg hf) ?_)⟩
    rintro e a' w' ⟨rfl, hk⟩
    exact hQ _ _ hk
   | exit id' =>
    cases hid : Nat.beq id' id with
    | true =>
     simp only [hid, cond_true] at h1
     obtain ⟨rfl, rfl⟩ := aB h1
     refine ⟨hx.1, fun hc μ w a hg hf Q hQ => wp_block (wp_mono (hx.of hc hg hf) ?_)⟩
     rintro e a' w' ⟨rfl, hk⟩
     simp only [Ex.ex, Exit.inBlock, if_pos (Nat.eq_of_beq_eq_true hid)]
     exact hQ _ _ hk
    | false =>
     simp only [hid, cond_false] at h1
     obtain ⟨rfl, rfl⟩ := aB h1
     refine ⟨hx.1, fun hc μ w a hg hf Q hQ => wp_block (wp_mono (hx.of hc hg hf) ?_)⟩
     rintro e a' w' ⟨rfl, hk⟩
     simp only [Ex.ex, Exit.inBlock, if_neg (Nat.ne_of_beq_eq_false hid)]
     exact hQ _ _ hk
 | .loop c, hl, fr, r, g, g', h => by
  unfold bV at h
  obtain ⟨hc0, hs⟩ := Au (fun fr r g g' h => fC hcall qG c (fun id S h c' hb => hl id S h c' hb) fr r g g' h) _ _ _ _ _ h
  exact ⟨hc0, fun hc μ w a hg hf Q hQ => wp_loop_rounds rounds (hs hc μ w a hg hf Q hQ)⟩
 | .exit id, hl, fr, r, g, g', h => by
  unfold bV at h
  obtain ⟨rfl, rfl⟩ := aB h
  exact ⟨fun h => h, fun _ μ w a hg hf Q hQ => wp_exit (hQ a w ⟨μ, hg, Ext.refl _ _ _, hf, rfl⟩)⟩
 | .ret, hl, fr, r, g, g', h => by
  unfold bV at h
  obtain ⟨rfl, rfl⟩ := aB h
  exact ⟨fun h => h, fun _ μ w a hg hf Q hQ => wp_ret (hQ a w ⟨μ, hg, Ext.refl _ _ _, hf, rfl⟩)⟩
 | .goto _, hl, fr, r, g, g', h => (bC h).elim
 | .label _, hl, fr, r, g, g', h => (bC h).elim
end Go.Sx
namespace Go.Sx
open M
def ny (tmps : Array Value) : ResultVar → Sem Value
 | .tmp t => pure (tmps.getD t undef)
 | .cell a t => do loadVar t (← asAddr (tmps.getD a undef))
theorem EF {P : Program} {fr : Fr} {r : ResultVar} {v : AV} {g g' : G} (h : mZ P fr r g = .done v g') :
  Keep g g' True ∧ (g'.cs → ∀ μ w (tmps : Array Value) n, dP g.nx μ w.heap g.H → dG g.nx μ fr tmps n → ∃ c, (ny tmps r).run P w = .ok c w ∧ Rep g.nx μ v c) := by
 have ev : ∀ N μ (tmps : Array Value) n t, dG N μ fr tmps n → Rep N μ ((fr.get t).getD .top) (tmps.getD t undef) := fun N μ tmps n t hf => hf.eval (a := ⟨tmps, []⟩) (.tmp t)
 cases r with
 | tmp t =>
  unfold mZ at h
  obtain ⟨rfl, rfl⟩ := aB h
  exact ⟨Keep.refl g, fun _ μ w tmps n _ hf => ⟨_, rfl, ev _ _ _ _ t hf⟩⟩
 | cell t ty =>
  replace h : (match (fr.get t).getD .top with
   | .ptr ad => tC P ty ad
   | _ => no : M AV) g = .done v g' := h
  generalize hx : (fr.get t).getD .top = x at h
  split at h
  ·rename_i ad
   obtain ⟨k, hs⟩ := Af h
   refine ⟨k, fun hc μ w tmps n hg hf => ?_⟩
   obtain ⟨c, e, hv⟩ := hs hc g.nx μ w hg
   have h2 := ev _ _ _ _ t hf
   rw [hx] at h2
   simp only [Rep] at h2
   exact ⟨c, by simp only [ny, h2.2, asAddr, Sem.run_bind]; exact e, hv⟩
  ·exact (bC h).elim
theorem oV {P : Program} {fr : Fr} : ∀ {l : List ResultVar} {vs : List AV} {g g' : G}, dH P fr l g = .done vs g' →
  Keep g g' True ∧ (g'.cs → ∀ μ w (tmps : Array Value) n, dP g.nx μ w.heap g.H → dG g.nx μ fr tmps n → ∃ cs, (l.mapM (ny tmps)).run P w = .ok cs w ∧ aO g.nx μ vs cs)
 | [], vs, g, g', h => by
  unfold dH at h
  obtain ⟨rfl, rfl⟩ := aB h
  exact ⟨Keep.refl g, fun _ μ w tmps n _ _ => ⟨[], rfl, by simp [aO]⟩⟩
 | r :: l, vs, g, g', h => by
  unfold dH at h
  obtain ⟨v, g1, a1, h1⟩ := au h
  obtain ⟨us, g2, a2, h2⟩ := au h1
  obtain ⟨rfl, rfl⟩ := aB h2
  obtain ⟨k1, hs1⟩ := EF a1
  obtain ⟨k2, hs2⟩ := oV a2
  refine ⟨(k1.trans k2).mono fun _ => trivial, fun hc μ w tmps n hg hf => ?_⟩
  obtain ⟨c, e1, hv⟩ := hs1 (k2.2.2 hc).1 μ w tmps n hg hf
  obtain ⟨cs, e2, hvs⟩ := hs2 hc μ w tmps n (by rw [k1.1, k1.2.1]; exact hg) (by rw [k1.2.1]; exact hf)
  refine ⟨c :: cs, by simp [List.mapM_cons, e1, e2], ?_⟩
  simp only [aO]
  rw [k1.2.1] at hvs
  exact ⟨c, cs, rfl, hv, hvs⟩
def jZ : List AV → AV
 | [v] => v
 | vs => .lZ vs
theorem uw {P : Program} {fn : Func} {tmps : Array Value} {w : World} {cs : List Value} (h : (fn.results.toList.mapM (ny tmps)).run P w = .ok cs w) {N : Nat} {μ : MM} {vs : List AV} (hr : aO N μ vs cs) :
  ∃ c, (results fn tmps).run P w = .ok c w ∧ Rep N μ (jZ vs) c := by
 have e : (fn.results.mapM (ny tmps)).run P w = .ok cs.toArray w := by
  rw [Array.mapM_eq_mapM_toList, map_eq_pure_bind, Sem.run_bind, h]
  rfl
 have e2 : results fn tmps = (do
   let vs ← fn.results.mapM (ny tmps)
   pure (if h : vs.size = 1 then vs[0] else .tuple vs)) := by
  unfold results
  congr 1
 rw [e2, Sem.run_bind, e]
 refine ⟨_, rfl, ?_⟩
 match vs, cs, hr with
 | [], cs, hr => simp only [aO] at hr; subst hr; simp [jZ, Rep, aO]
 | [v], cs, hr =>
  simp only [aO] at hr
  obtain ⟨c, r, rfl, hv, rfl⟩ := hr
  simpa [jZ] using hv
 | v :: u :: l, cs, hr =>
  have hr0 := hr
  simp only [aO] at hr
  obtain ⟨c, r, rfl, _, d, r', rfl, _, _⟩ := hr
  simp only [jZ, Rep]
  exact ⟨_, by simp, hr0⟩
theorem Aw : ∀ (l : List AV) (i : Nat) (fr : Fr) (t : Nat), (bJ l i fr).get t = if i ≤ t ∧ t < i + l.length then l[t - i]? else fr.get t
 | [], i, fr, t => by simp [bJ]; omega
 | v :: l, i, fr, t => by
  simp only [bJ, Aw l (i + 1), T.bF, List.length_cons]
  by_cases h1 : t = i
  ·subst h1; simp; omega
  ·by_cases h2 : i + 1 ≤ t ∧ t < i + 1 + l.length
   ·rw [if_pos h2, if_pos (by omega)]
    have : t - i = (t - (i + 1)) + 1 := by omega
    rw [this, List.getElem?_cons_succ]
   ·rw [if_neg h2, if_neg h1, if_neg (by omega)]
theorem dG.start {N : Nat} {μ : MM} {l : List AV} {args : Array Value} (h : aO N μ l args.toList) (n : Nat) : dG N μ (bJ l 0 .e) (args ++ Array.replicate (n - args.size) undef) n where
 size := by simp; omega
 val := fun t v ht => by
  rw [Aw] at ht
  split at ht
  ·obtain ⟨c, hc, hv⟩ := h.get ht
   have hc' : args[t]? = some c := by simpa using hc
   have hlt : t < args.size := (Array.getElem?_eq_some_iff.1 hc').1
   rw [Array.getD_eq_getD_getElem?, Array.getElem?_append_left hlt, hc']
   exact hv
  ·simp [T.get] at ht
def fK (P : Program) (Γ : Known) : Prop := ∀ f s, Γ f = some s → ∀ args v g g', s args g = .done v g' → bZ P f args v g g'
def Lp (P : Program) : Prop := ∀ (f : FuncId) (fn : Func), P.funcs[f]? = some fn → fn.body.isSome = true → (fn.name == "runtime.NumGoroutine") = false
def Dc (P : Program) : Bool := P.funcs.toList.all fun fn => fn.body.isNone || !(fn.name == "runtime.NumGoroutine")
theorem Lp.of {P : Program} (h : Dc P = true) : Lp P := fun f fn hf hb => by
 unfold Dc at h
 rw [List.all_eq_true] at h
 have := h fn (List.mem_of_getElem? (i := f) (by simpa using hf))
 cases hbd : fn.body with
 | none => rw [hbd] at hb; cases hb
 | some c => rw [hbd] at this; simpa using this
theorem qM {P : Program} {f : FuncId} {fn : Func} {c : Code} (hf : P.funcs[f]? = some fn) (hname : (fn.name == "runtime.NumGoroutine") = false) (hb : fn.body = some c) (args : Array Value) (w : World) :
  (callFunc f args).run P w = .ok (.enter f args) w := by
 have h1 : fn.name ≠ "runtime.NumGoroutine" := by simpa using hname
 simp [callFunc, hf, h1, hb]
theorem VE {P : Program} {f : FuncId} {fn : Func} {c : Code} (hf : P.funcs[f]? = some fn) (hb : fn.body = some c) {args : List AV} {g g1 : G} {e : Ex} {fr : Fr} {g' : G} {vs : List AV}
  (hl : yc P c fn.ntmps (bJ args 0 .e) g (e, fr) g1) (he : ∀ id, e ≠ .exit id) (hr : dH P fr fn.results.toList g1 = .done vs g') :
  (g'.cs → g.cs) ∧ (g'.cs → ∀ μ w (bW : Array Value), dP g.nx μ w.heap g.H → aO g.nx μ args bW.toList → Calls P f bW w fun e w' => ∃ c, e = .returned c ∧ After g μ w g' (jZ vs) c w') := by
 obtain ⟨k, hs⟩ := oV hr
 refine ⟨fun hc => hl.1 (k.2.2 hc).1, fun hc μ w bW hg ha => ?_⟩
 refine calls_of_wp hf hb (hl.2 (k.2.2 hc).1 μ w _ hg (dG.start ha fn.ntmps) _ fun a' w' hk => ?_)
 obtain ⟨μ', hg', hext, hf', hd⟩ := hk
 obtain ⟨cs, e1, hvs⟩ := hs hc μ' w' a'.tmps _ hg' hf'
 obtain ⟨cv, e2, hcv⟩ := uw e1 hvs
 have post : a'.defers = [] ∧ ∃ v, (results fn a'.tmps).run P w' = .ok v w' ∧ ∃ c, Ending.returned v = .returned c ∧ After g μ w g' (jZ vs) c w' :=
  ⟨hd, cv, e2, cv, rfl, μ', by rw [k.2.1]; exact hcv, by rw [k.1, k.2.1]; exact hg', hext.trans (Ext.same μ' w' k.1 k.2.1)⟩
 cases e with
 | normal => exact post
 | ret => exact post
 | exit id => exact absurd rfl (he id)
def NH (P : Program) (Λ : FuncId → Loops) : Prop := ∀ f fn c, P.funcs[f]? = some fn → fn.body = some c → gu P (Λ f) fn.ntmps c
theorem Df {P : Program} {Γ : Known} {Λ : FuncId → Loops} {region : Calls' → Nat → List Oper → Fr → M Fr} {rounds : Nat} (hΓ : fK P Γ) (hΛ : NH P Λ) (qG : ∀ fuel, dw P (Ew P Γ Λ region rounds fuel) → ∀ n, eF P (region (Ew P Γ Λ region rounds fuel) n) n) (hn : Lp P) :
  ∀ fuel, dw P (Ew P Γ Λ region rounds fuel)
 | 0 => fun f args v g g' h => (bC h).elim
 | fuel + 1 => fun f args v g g' h => by
  have ih := Df (rounds := rounds) hΓ hΛ qG hn fuel
  unfold Ew at h
  generalize hs : Γ f = s0 at h
  split at h
  ·rename_i s
   exact hΓ f s hs args v g g' h
  ·generalize hf : P.funcs[f]? = fn0 at h
   split at h
   ·exact (bC h).elim
   ·rename_i fn
    generalize hb : fn.body = c0 at h
    split at h
    ·exact (bC h).elim
    ·rename_i c
     obtain ⟨⟨e, fr⟩, g1, a1, h1⟩ := au h
     have hl := fC ih (qG fuel ih fn.ntmps) _ (hΛ f fn c hf hb) _ _ _ _ a1
     have fin : ∀ {vs g2 v}, (match vs with
      | [v] => ret v
      | _ => ret (.lZ vs) : M AV) g2 = .done v g' → v = jZ vs ∧ g2 = g' := by
      intro vs g2 v h
      match vs, h with
      | [], h => exact aB h
      | [u], h => exact aB h
      | u :: t :: l, h => exact aB h
     have main : ∀ (he : ∀ id, e ≠ .exit id) vs, dH P fr fn.results.toList g1 = .done vs g' → v = jZ vs → bZ P f args v g g' := fun he vs hr hv => by
      obtain ⟨hc0, hs⟩ := VE hf hb hl he hr
      refine ⟨hc0, fun hc μ w bW hg ha => .inr ⟨f, bW, w, qM hf (hn f fn hf (by rw [hb]; rfl)) hb bW w, ?_⟩⟩
      rw [hv]
      exact hs hc μ w bW hg ha
     cases e with
     | exit id => exact (bC h1).elim
     | normal =>
      obtain ⟨vs, g2, a2, h2⟩ := au h1
      obtain ⟨rfl, rfl⟩ := fin h2
      exact main (by simp) vs a2 rfl
     | ret =>
      obtain ⟨vs, g2, a2, h2⟩ := au h1
      obtain ⟨rfl, rfl⟩ := fin h2
      exact main (by simp) vs a2 rfl
end Go.Sx
namespace Go.Sx
open M
def TR (g g' : G) : Prop := ∃ l, g'.uV = l ++ g.uV ∧ g.nx ≤ g'.nx ∧ ∀ nm, nm < g.nx → nm ∉ l → g'.H.get nm = g.H.get nm
theorem TR.refl (g : G) : TR g g := ⟨[], rfl, Nat.le_refl _, fun _ _ _ => rfl⟩
theorem TR.trans {a b c : G} (h : TR a b) (k : TR b c) : TR a c := by
 obtain ⟨l, h1, h2, h3⟩ := h
 obtain ⟨m, k1, k2, k3⟩ := k
 refine ⟨m ++ l, by rw [k1, h1, List.append_assoc], by omega, fun nm hn hm => ?_⟩
 rw [List.mem_append, not_or] at hm
 rw [k3 nm (by omega) hm.1, h3 nm hn hm.2]
structure aC {α : Type} (x : M α) : Prop where
 of : ∀ g a g', x g = .done a g' → TR g g'
variable {α β : Type}
theorem aC.ret (a : α) : aC (ret a) := ⟨fun g b g' h => by obtain ⟨_, rfl⟩ := aB h; exact TR.refl g⟩
theorem aC.no : aC (no : M α) := ⟨fun _ _ _ h => (bC h).elim⟩
theorem aC.andThen {x : M α} {f : α → M β} (hx : aC x) (hf : ∀ a, aC (f a)) : aC (x.andThen f) := ⟨fun g b g' h => by
 obtain ⟨a, g1, h1, h2⟩ := au h
 exact (hx.of _ _ _ h1).trans ((hf _).of _ _ _ h2)⟩
theorem aC.bf (o : Option α) : aC (bf o) := ⟨fun g b g' h => by obtain ⟨_, rfl⟩ := aI h; exact TR.refl g⟩
theorem aC.req (p : Prop) : aC (req p) := ⟨fun g b g' h => by cases h; exact ⟨[], rfl, Nat.le_refl _, fun _ _ _ => rfl⟩⟩
theorem aC.ck (s : Bool) (p : Prop) [Decidable p] : aC (ck s p) := by
 unfold M.ck
 cases s
 ·by_cases hp : p
  ·simp only [cond_false, hp, decide_true, cond_true]; exact aC.ret ()
  ·simp only [cond_false, hp, decide_false]; exact aC.no
 ·exact aC.req p
theorem aC.dec (b : Bool) : aC (dec b) := ⟨fun g d g' h => by
 unfold M.dec at h
 split at h
 ·cases h
 ·cases h; exact ⟨[], rfl, Nat.le_refl _, fun _ _ _ => rfl⟩⟩
theorem aC.pK (nm : Nat) : aC (pK nm) := ⟨fun g d g' h => by obtain ⟨_, rfl⟩ := iG h; exact TR.refl g⟩
theorem aC.setB (nm : Nat) (b : aF) : aC (setB nm b) := ⟨fun g d g' h => by
 cases h
 exact ⟨[nm], rfl, Nat.le_refl _, fun n _ hn => by simp only [T.bF]; rw [if_neg (by simpa using hn)]⟩⟩
theorem aC.Io (nm : Nat) : aC (Io nm) := ⟨fun g d g' h => by
 cases h
 exact ⟨[nm], rfl, Nat.le_refl _, fun n _ hn => by simp only [T.bF]; rw [if_neg (by simpa using hn)]⟩⟩
theorem aC.fD (b : aF) : aC (fD b) := ⟨fun g d g' h => by
 cases h
 exact ⟨[], rfl, Nat.le_succ _, fun n hn _ => by simp only [T.bF]; rw [if_neg (by omega)]⟩⟩
theorem aC.dh (b : Bool) : aC (dh b) := by
 unfold M.dh; cases b
 ·exact aC.no
 ·exact aC.ret ()
theorem aC.cond {b : Bool} {x y : M α} (hx : aC x) (hy : aC y) : aC (bif b then x else y) := by cases b <;> assumption
theorem aC.ite {p : Prop} [Decidable p] {x y : M α} (hx : aC x) (hy : aC y) : aC (if p then x else y) := by split <;> assumption
theorem aC.jk (nm : Nat) : aC (jk nm) := (aC.pK nm).andThen fun _ => aC.bf _
theorem aC.X8 (s : Bool) (p : Prop) : aC (Sx.X8 s p) := by
 unfold Sx.X8; cases s
 ·exact aC.ret ()
 ·exact aC.req p
theorem aC.tu (f : Nat → List AV) (i : Nat) : ∀ l acc, aC (Sx.tu f i acc l)
 | [], acc => aC.ret _
 | p :: l, acc => (aC.dec _).andThen fun d => by
  cases d
  ·exact aC.tu f i l _
  ·exact aC.ret _
theorem aC.xJ (c : Cont) (i : Nat) : aC (Sx.xJ c i) := by
 unfold Sx.xJ
 split
 ·exact aC.ret _
 ·exact aC.ret _
 ·exact aC.tu _ _ _ _
theorem aC.tC (P : Program) (t : TypeId) (a : AA) : aC (Sx.tC P t a) := by
 unfold Sx.tC
 repeat (first | with_reducible exact aC.ret _ | with_reducible exact aC.bf _ | with_reducible exact aC.ck _ _ | with_reducible exact aC.jk _ | with_reducible exact aC.xJ _ _ | with_reducible apply aC.cond | with_reducible apply aC.andThen | with_reducible apply aC.ite | intro _ | split)
theorem aC.BO (P : Program) (t : TypeId) (x : AV) : aC (Sx.BO P t x) := by
 unfold Sx.BO
 repeat (first | with_reducible exact aC.ret _ | with_reducible exact aC.bf _ | with_reducible exact aC.dh _ | with_reducible exact aC.tC _ _ _ | with_reducible apply aC.andThen | intro _ | split)
theorem aC.wJ (P : Program) (t : TypeId) (a : AA) (v : AV) : aC (Sx.wJ P t a v) := by
 unfold Sx.wJ
 repeat (first | with_reducible exact aC.bf _ | with_reducible exact aC.ck _ _ | with_reducible exact aC.jk _ | with_reducible exact aC.xJ _ _ | with_reducible exact aC.setB _ _ | with_reducible exact aC.dh _ | with_reducible apply aC.cond | with_reducible apply aC.andThen | with_reducible apply aC.ite | intro _ | split)
theorem aC.Ip (v : AV) : aC (Sx.Ip v) := by
 unfold Sx.Ip
 repeat (first | with_reducible exact aC.ret _ | with_reducible exact aC.fD _ | with_reducible exact aC.dh _ | with_reducible apply aC.cond | with_reducible apply aC.andThen | with_reducible apply aC.ite | intro _ | split)
theorem aC.lD (s : Bool) (k : IntKind) (r : Int) : aC (Sx.lD s k r) := by
 unfold Sx.lD
 repeat (first | with_reducible exact aC.ret _ | with_reducible exact aC.req _ | with_reducible apply aC.cond | with_reducible apply aC.andThen | with_reducible apply aC.ite | intro _ | split)
theorem aC.jo (s : Bool) (k : IntKind) (op : BinOp) (a b : Int) : aC (Sx.jo s k op a b) := by
 unfold Sx.jo
 repeat (first | with_reducible exact aC.ret _ | with_reducible exact aC.no | with_reducible exact aC.ck _ _ | with_reducible exact aC.lD _ _ _ | with_reducible apply aC.cond | with_reducible apply aC.andThen | with_reducible apply aC.ite | intro _ | split)
theorem aC.oL (s : Bool) (k : IntKind) (op : BinOp) (a b : Int) : aC (Sx.oL s k op a b) := by
 unfold Sx.oL
 repeat (first | with_reducible exact aC.ret _ | with_reducible exact aC.no | with_reducible exact aC.ck _ _ | with_reducible exact aC.lD _ _ _ | with_reducible apply aC.cond | with_reducible apply aC.andThen | with_reducible apply aC.ite | intro _ | split)
theorem aC.qW (s : Bool) (op : BinOp) (x y : Nat) : aC (Sx.qW s op x y) := by
 unfold Sx.qW
 repeat (first | with_reducible exact aC.ret _ | with_reducible exact aC.no | with_reducible apply aC.cond | with_reducible apply aC.andThen | with_reducible apply aC.ite | intro _ | split)
theorem aC.wK (s : Bool) (op : BinOp) (a b c d : Nat) : aC (Sx.wK s op a b c d) := by
 unfold Sx.wK
 repeat (first | with_reducible exact aC.ret _ | with_reducible exact aC.no | with_reducible apply aC.cond | with_reducible apply aC.andThen | with_reducible apply aC.ite | intro _ | split)
theorem aC.wL (s : Bool) (op : BinOp) (a b : List UInt8) : aC (Sx.wL s op a b) := by
 unfold Sx.wL
 repeat (first | with_reducible exact aC.ret _ | with_reducible exact aC.no | with_reducible exact aC.ck _ _ | with_reducible apply aC.cond | with_reducible apply aC.andThen | with_reducible apply aC.ite | intro _ | split)
theorem aC.qC (op : BinOp) (s a b : Bool) : aC (Sx.qC op s a b) := by
 unfold Sx.qC
 repeat (first | with_reducible exact aC.ret _ | with_reducible exact aC.no | with_reducible apply aC.cond | with_reducible apply aC.andThen | with_reducible apply aC.ite | intro _ | split)
theorem aC.oM (op : BinOp) (b : Bool) : aC (Sx.oM op b) := by
 unfold Sx.oM
 repeat (first | with_reducible exact aC.ret _ | with_reducible exact aC.no | with_reducible apply aC.cond | with_reducible apply aC.andThen | with_reducible apply aC.ite | intro _ | split)
theorem aC.qX (s : Bool) (op : BinOp) (x : Nat) (m : Int) : aC (Sx.qX s op x m) := by
 unfold Sx.qX
 repeat (first | with_reducible exact aC.ret _ | with_reducible exact aC.ck _ _ | with_reducible exact aC.jo _ _ _ _ _ | with_reducible apply aC.cond | with_reducible apply aC.andThen | with_reducible apply aC.ite | intro _ | split)
theorem aC.tK (P : Program) (op : BinOp) (t : TypeId) (x y : AV) : aC (Sx.tK P op t x y) := by
 unfold Sx.tK
 repeat (first | with_reducible exact aC.ret _ | with_reducible exact aC.no | with_reducible exact aC.bf _ | with_reducible exact aC.ck _ _ | with_reducible exact aC.X8 _ _ | with_reducible exact aC.dh _ | with_reducible exact aC.jo _ _ _ _ _ | with_reducible exact aC.oL _ _ _ _ _ | with_reducible exact aC.qW _ _ _ _ | with_reducible exact aC.wK _ _ _ _ _ _ | with_reducible exact aC.wL _ _ _ _ | with_reducible exact aC.qC _ _ _ _ | with_reducible exact aC.oM _ _ | with_reducible exact aC.qX _ _ _ _ | with_reducible apply aC.cond | with_reducible apply aC.andThen | with_reducible apply aC.ite | intro _ | split)
theorem aC.PI (P : Program) (op : BinOp) (t : TypeId) (s : Bool) (k : IntKind) (a : Int) (y : AV) : aC (Sx.PI P op t s k a y) := by
 unfold Sx.PI
 repeat (first | with_reducible exact aC.no | with_reducible exact aC.jo _ _ _ _ _ | with_reducible exact aC.oL _ _ _ _ _ | with_reducible exact aC.tK _ _ _ _ _ | with_reducible apply aC.cond | with_reducible apply aC.andThen | with_reducible apply aC.ite | intro _ | split)
theorem aC.PK (P : Program) (op : BinOp) (t : TypeId) (s : Bool) (a : Nat) (y : AV) : aC (Sx.PK P op t s a y) := by
 unfold Sx.PK
 repeat (first | with_reducible exact aC.qW _ _ _ _ | with_reducible exact aC.tK _ _ _ _ _ | with_reducible apply aC.cond | with_reducible apply aC.andThen | with_reducible apply aC.ite | intro _ | split)
theorem aC.Iq (P : Program) (op : BinOp) (t : TypeId) (x y : AV) : aC (Sx.Iq P op t x y) := by
 unfold Sx.Iq
 repeat (first | with_reducible exact aC.tK _ _ _ _ _ | with_reducible exact aC.PI _ _ _ _ _ _ _ | with_reducible exact aC.PK _ _ _ _ _ _ | with_reducible apply aC.cond | with_reducible apply aC.andThen | with_reducible apply aC.ite | intro _ | split)
theorem aC.YV (op : UnOp) (x : AV) : aC (Sx.YV op x) := by
 unfold Sx.YV
 repeat (first | with_reducible exact aC.ret _ | with_reducible exact aC.no | with_reducible exact aC.lD _ _ _ | with_reducible apply aC.cond | with_reducible apply aC.andThen | with_reducible apply aC.ite | intro _ | split)
theorem aC.wM (s : Bool) (a : AA) (dA sz n m : Nat) : aC (Sx.wM s a dA sz n m) := by
 unfold Sx.wM
 repeat (first | with_reducible exact aC.ck _ _ | with_reducible apply aC.cond | with_reducible apply aC.andThen | with_reducible apply aC.ite | intro _ | split)
theorem aC.ER (d : TypeDesc) (x : AV) : aC (Sx.ER d x) := by
 unfold Sx.ER
 repeat (first | with_reducible exact aC.ret _ | with_reducible exact aC.no | with_reducible exact aC.req _ | with_reducible exact aC.ck _ _ | with_reducible apply aC.cond | with_reducible apply aC.andThen | with_reducible apply aC.ite | intro _ | split)
theorem aC.BQ (P : Program) (src dst : TypeId) (x : AV) : aC (Sx.BQ P src dst x) := by
 unfold Sx.BQ
 repeat (first | with_reducible exact aC.bf _ | with_reducible exact aC.ER _ _ | with_reducible apply aC.cond | with_reducible apply aC.andThen | with_reducible apply aC.ite | intro _ | split)
theorem aC.KU (P : Program) (t : TypeId) (x : AV) : aC (Sx.KU P t x) := by
 unfold Sx.KU
 repeat (first | with_reducible exact aC.ret _ | with_reducible exact aC.no | with_reducible exact aC.dh _ | with_reducible apply aC.cond | with_reducible apply aC.andThen | with_reducible apply aC.ite | intro _ | split)
theorem aC.wO (P : Program) (t : TypeId) (x : AV) (lo hi mx : Option AV) : aC (Sx.wO P t x lo hi mx) := by
 unfold Sx.wO
 repeat (first | with_reducible exact aC.ret _ | with_reducible exact aC.no | with_reducible exact aC.bf _ | with_reducible exact aC.ck _ _ | with_reducible exact aC.jk _ | with_reducible exact aC.dh _ | with_reducible apply aC.cond | with_reducible apply aC.andThen | with_reducible apply aC.ite | intro _ | split)
theorem aC.kK (P : Program) (t : TypeId) (x ix : AV) : aC (Sx.kK P t x ix) := by
 unfold Sx.kK
 repeat (first | with_reducible exact aC.ret _ | with_reducible exact aC.no | with_reducible exact aC.bf _ | with_reducible exact aC.ck _ _ | with_reducible exact aC.jk _ | with_reducible exact aC.req _ | with_reducible exact aC.dh _ | with_reducible apply aC.cond | with_reducible apply aC.andThen | with_reducible apply aC.ite | intro _ | split)
theorem aC.xO (y : Nat × Bool) (cs : List AV) (off : Nat) : aC (Sx.xO y cs off) := by
 unfold Sx.xO
 repeat (first | with_reducible exact aC.ret _ | with_reducible exact aC.bf _ | with_reducible exact aC.dh _ | with_reducible apply aC.cond | with_reducible apply aC.andThen | with_reducible apply aC.ite | intro _ | split)
theorem aC.wP (P : Program) (t : TypeId) (x ix : AV) : aC (Sx.wP P t x ix) := by
 unfold Sx.wP
 repeat (first | with_reducible exact aC.ret _ | with_reducible exact aC.no | with_reducible exact aC.bf _ | with_reducible exact aC.ck _ _ | with_reducible exact aC.dh _ | with_reducible exact aC.xO _ _ _ | with_reducible apply aC.cond | with_reducible apply aC.andThen | with_reducible apply aC.ite | intro _ | split)
theorem aC.kL (P : Program) (t : TypeId) (x : AV) (f : Nat) : aC (Sx.kL P t x f) := by
 unfold Sx.kL
 repeat (first | with_reducible exact aC.ret _ | with_reducible exact aC.bf _ | with_reducible exact aC.dh _ | with_reducible apply aC.cond | with_reducible apply aC.andThen | with_reducible apply aC.ite | intro _ | split)
theorem aC.wQ (P : Program) (t : TypeId) (x : AV) (f : Nat) : aC (Sx.wQ P t x f) := by
 unfold Sx.wQ
 repeat (first | with_reducible exact aC.bf _ | with_reducible exact aC.xO _ _ _ | with_reducible apply aC.cond | with_reducible apply aC.andThen | with_reducible apply aC.ite | intro _ | split)
theorem aC.kM (P : Program) (t : TypeId) (l c : AV) : aC (Sx.kM P t l c) := by
 unfold Sx.kM
 repeat (first | with_reducible exact aC.ret _ | with_reducible exact aC.bf _ | with_reducible exact aC.ck _ _ | with_reducible exact aC.fD _ | with_reducible apply aC.cond | with_reducible apply aC.andThen | with_reducible apply aC.ite | intro _ | split)
theorem aC.wR (P : Program) (t : TypeId) (parts : List (Nat × AV)) : aC (Sx.wR P t parts) := by
 unfold Sx.wR
 repeat (first | with_reducible exact aC.ret _ | with_reducible exact aC.bf _ | with_reducible exact aC.dh _ | with_reducible apply aC.cond | with_reducible apply aC.andThen | with_reducible apply aC.ite | intro _ | split)
theorem aC.jq (P : Program) (t : TypeId) (len : Nat) (parts : List (Nat × AV)) : aC (Sx.jq P t len parts) := by
 unfold Sx.jq
 repeat (first | with_reducible exact aC.ret _ | with_reducible exact aC.bf _ | with_reducible exact aC.fD _ | with_reducible exact aC.dh _ | with_reducible apply aC.cond | with_reducible apply aC.andThen | with_reducible apply aC.ite | intro _ | split)
theorem aC.nG (dA : Nat) (y : AV) : aC (Sx.nG dA y) := by
 unfold Sx.nG
 repeat (first | with_reducible exact aC.ret _ | with_reducible exact aC.no | with_reducible exact aC.jk _ | with_reducible exact aC.wM _ _ _ _ _ _ | with_reducible apply aC.cond | with_reducible apply aC.andThen | with_reducible apply aC.ite | intro _ | split)
theorem aC.qZ (P : Program) (t u : TypeId) (x y : AV) : aC (Sx.qZ P t u x y) := by
 unfold Sx.qZ
 repeat (first | with_reducible exact aC.ret _ | with_reducible exact aC.no | with_reducible exact aC.bf _ | with_reducible exact aC.ck _ _ | with_reducible exact aC.jk _ | with_reducible exact aC.Io _ | with_reducible exact aC.fD _ | with_reducible exact aC.dh _ | with_reducible exact aC.nG _ _ | with_reducible apply aC.cond | with_reducible apply aC.andThen | with_reducible apply aC.ite | intro _ | split)
theorem aC.BX (P : Program) (t : TypeId) (x y : AV) : aC (Sx.BX P t x y) := by
 unfold Sx.BX
 repeat (first | with_reducible exact aC.ret _ | with_reducible exact aC.no | with_reducible exact aC.bf _ | with_reducible exact aC.ck _ _ | with_reducible exact aC.jk _ | with_reducible exact aC.setB _ _ | with_reducible exact aC.dh _ | with_reducible exact aC.nG _ _ | with_reducible apply aC.cond | with_reducible apply aC.andThen | with_reducible apply aC.ite | intro _ | split)
theorem aC.Ir (x y : AV) : aC (Sx.Ir x y) := by
 unfold Sx.Ir
 repeat (first | with_reducible exact aC.ret _ | with_reducible exact aC.no | with_reducible apply aC.cond | with_reducible apply aC.andThen | with_reducible apply aC.ite | intro _ | split)
theorem aC.Iu (x y : AV) : aC (Sx.Iu x y) := by
 unfold Sx.Iu
 repeat (first | with_reducible exact aC.ret _ | with_reducible exact aC.no | with_reducible apply aC.cond | with_reducible apply aC.andThen | with_reducible apply aC.ite | intro _ | split)
theorem aC.lookA (P : Program) (t : TypeId) (x ix : AV) (ok : Bool) : aC (Sx.lookA P t x ix ok) := by
 unfold Sx.lookA
 repeat (first | with_reducible exact aC.ret _ | with_reducible exact aC.no | with_reducible exact aC.bf _ | with_reducible exact aC.pK _ | with_reducible apply aC.cond | with_reducible apply aC.andThen | with_reducible apply aC.ite | intro _ | split)
theorem aC.pU (P : Program) (t : TypeId) (m k v : AV) : aC (Sx.pU P t m k v) := by
 unfold Sx.pU
 repeat (first | with_reducible exact aC.no | with_reducible exact aC.bf _ | with_reducible exact aC.pK _ | with_reducible exact aC.setB _ _ | with_reducible apply aC.cond | with_reducible apply aC.andThen | with_reducible apply aC.ite | intro _ | split)
theorem aC.oP (P : Program) (t : TypeId) (r : Option AV) : aC (Sx.oP P t r) := by
 unfold Sx.oP
 repeat (first | with_reducible exact aC.ret _ | with_reducible exact aC.bf _ | with_reducible exact aC.fD _ | with_reducible exact aC.dh _ | with_reducible apply aC.cond | with_reducible apply aC.andThen | with_reducible apply aC.ite | intro _ | split)
theorem aC.wS (P : Program) (t : TypeId) (x : AV) : aC (Sx.wS P t x) := by
 unfold Sx.wS
 repeat (first | with_reducible exact aC.ret _ | with_reducible exact aC.bf _ | with_reducible exact aC.fD _ | with_reducible exact aC.dh _ | with_reducible apply aC.cond | with_reducible apply aC.andThen | with_reducible apply aC.ite | intro _ | split)
theorem aC.KW (s b : Bool) : aC (Sx.KW s b) := by
 unfold Sx.KW
 repeat (first | with_reducible exact aC.ret _ | with_reducible exact aC.dec _ | with_reducible apply aC.cond | with_reducible apply aC.andThen | with_reducible apply aC.ite | intro _ | split)
theorem aC.BZ (it : AV) (isString : Bool) : aC (Sx.BZ it isString) := by
 unfold Sx.BZ
 repeat (first | with_reducible exact aC.ret _ | with_reducible exact aC.bf _ | with_reducible exact aC.pK _ | with_reducible exact aC.setB _ _ | with_reducible exact aC.dh _ | with_reducible exact aC.KW _ _ | with_reducible apply aC.cond | with_reducible apply aC.andThen | with_reducible apply aC.ite | intro _ | split)
theorem aC.Ac (P : Program) (src dst : TypeId) (x : AV) : aC (Sx.Ac P src dst x) := by
 unfold Sx.Ac
 repeat (first | with_reducible exact aC.ret _ | with_reducible exact aC.bf _ | with_reducible exact aC.dh _ | with_reducible exact aC.nG _ _ | with_reducible apply aC.cond | with_reducible apply aC.andThen | with_reducible apply aC.ite | intro _ | split)
theorem aC.rC (P : Program) (src dst : TypeId) (x : AV) : aC (Sx.rC P src dst x) := by
 unfold Sx.rC
 repeat (first | with_reducible exact aC.BQ _ _ _ _ | with_reducible exact aC.Ac _ _ _ _ | with_reducible apply aC.cond | with_reducible apply aC.andThen | with_reducible apply aC.ite | intro _ | split)
theorem aC.vY {f : AV → AV → M AV} (hf : ∀ x y, aC (f x y)) : ∀ (l : List AV) (x : AV), aC (Sx.vY f x l)
 | [], x => aC.ret x
 | y :: l, x => (hf x y).andThen fun _ => aC.vY hf l _
theorem aC.oO (P : Program) (b : Builtin) (ts : List TypeId) (args : List AV) : aC (Sx.oO P b ts args) := by
 unfold Sx.oO
 repeat (first | with_reducible exact aC.ret _ | with_reducible exact aC.no | with_reducible exact aC.KU _ _ _ | with_reducible exact aC.qZ _ _ _ _ _ | with_reducible exact aC.BX _ _ _ _ | with_reducible exact aC.Ir _ _ | with_reducible exact aC.Iu _ _ | with_reducible exact aC.vY aC.Ir _ _ | with_reducible exact aC.vY aC.Iu _ _ | with_reducible apply aC.cond | with_reducible apply aC.andThen | with_reducible apply aC.ite | intro _ | split)
def iO (call : Calls') : Prop := ∀ f args, aC (call f args)
theorem aC.Iy (P : Program) {call : Calls'} (hc : iO call) (fr : Fr) (o : Oper) : aC (Sx.Iy P call fr o) := by
 unfold Sx.Iy
 repeat (first | with_reducible exact aC.ret _ | with_reducible exact aC.no | with_reducible exact aC.bf _ | with_reducible exact aC.dec _ | with_reducible exact aC.tC _ _ _ | with_reducible exact aC.BO _ _ _ | with_reducible exact aC.wJ _ _ _ _ | with_reducible exact aC.Ip _ | with_reducible exact aC.Iq _ _ _ _ _ | with_reducible exact aC.YV _ _ | with_reducible exact aC.wO _ _ _ _ _ _ | with_reducible exact aC.kK _ _ _ _ | with_reducible exact aC.wP _ _ _ _ | with_reducible exact aC.kL _ _ _ _ | with_reducible exact aC.wQ _ _ _ _ | with_reducible exact aC.kM _ _ _ _ | with_reducible exact aC.wR _ _ _ | with_reducible exact aC.jq _ _ _ _ | with_reducible exact aC.lookA _ _ _ _ _ | with_reducible exact aC.pU _ _ _ _ _ | with_reducible exact aC.oP _ _ _ | with_reducible exact aC.wS _ _ _ | with_reducible exact aC.BZ _ _ | with_reducible exact aC.rC _ _ _ _ | with_reducible exact aC.oO _ _ _ _ | exact hc _ _ | with_reducible apply aC.cond | with_reducible apply aC.andThen | with_reducible apply aC.ite | intro _ | split)
theorem aC.tY (n : Nat) (fr : Fr) (dst : Option Tmp) (v : AV) : aC (Sx.tY n fr dst v) := by
 unfold Sx.tY
 repeat (first | with_reducible exact aC.ret _ | with_reducible exact aC.no | with_reducible apply aC.cond | with_reducible apply aC.andThen | with_reducible apply aC.ite | intro _ | split)
theorem aC.Vb (P : Program) {call : Calls'} (hc : iO call) (n : Nat) (fr : Fr) (o : Oper) : aC (Sx.Vb P call n fr o) := by
 unfold Sx.Vb
 repeat (first | with_reducible exact aC.Iy _ hc _ _ | with_reducible exact aC.tY _ _ _ _ | with_reducible apply aC.cond | with_reducible apply aC.andThen | with_reducible apply aC.ite | intro _ | split)
theorem aC.Ad (n : Nat) (fr : Fr) (o : Oper) : aC (Sx.Ad n fr o) := by
 unfold Sx.Ad
 repeat (first | with_reducible exact aC.tY _ _ _ _ | with_reducible apply aC.cond | with_reducible apply aC.andThen | with_reducible apply aC.ite | intro _ | split)
theorem aC.oH (P : Program) {call : Calls'} (hc : iO call) (n : Nat) (all : List Oper) (o : Oper) (fr : Fr) (p : Nat × Bool) : aC (Sx.oH P call n all o fr p) := by
 unfold Sx.oH
 repeat (first | with_reducible exact aC.no | with_reducible exact aC.dec _ | with_reducible exact aC.Vb _ hc _ _ _ | with_reducible exact aC.Ad _ _ _ | with_reducible apply aC.cond | with_reducible apply aC.andThen | with_reducible apply aC.ite | intro _ | split)
theorem aC.Cb (P : Program) {call : Calls'} (hc : iO call) (n : Nat) (all : List Oper) (o : Oper) (fr : Fr) : aC (Sx.Cb P call n all o fr) := by
 unfold Sx.Cb
 repeat (first | with_reducible exact aC.Vb _ hc _ _ _ | with_reducible exact aC.oH _ hc _ _ _ _ _ | with_reducible apply aC.cond | with_reducible apply aC.andThen | with_reducible apply aC.ite | intro _ | split)
theorem aC.zu (P : Program) {call : Calls'} (hc : iO call) (n : Nat) (all : List Oper) : ∀ (l : List Oper) (fr : Fr), aC (Sx.zu P call n all l fr)
 | [], fr => aC.ret fr
 | o :: l, fr => (aC.Cb P hc n all o fr).andThen fun _ => aC.zu P hc n all l _
theorem aC.loopA {body : Fr → M (Ex × Fr)} (hb : ∀ fr, aC (body fr)) : ∀ (n : Nat) (fr : Fr), aC (Sx.loopA body n fr)
 | 0, fr => aC.no
 | n + 1, fr => by
  have ih := aC.loopA hb n
  unfold Sx.loopA
  repeat (first | with_reducible exact aC.ret _ | with_reducible exact aC.no | exact ih _ | exact hb _ | with_reducible apply aC.cond | with_reducible apply aC.andThen | with_reducible apply aC.ite | intro _ | split)
def Lr (loops : Loops) : Prop := ∀ id S, loops id = some S → ∀ fr, aC (S fr)
theorem aC.bV (P : Program) {call : Calls'} (hc : iO call) {region : List Oper → Fr → M Fr} (hr : ∀ l fr, aC (region l fr)) {loops : Loops} (hl : Lr loops) (n rounds : Nat) : ∀ (c : Code) (fr : Fr), aC (Sx.bV P call region loops n rounds c fr)
 | .skip, fr => by unfold Sx.bV; exact aC.ret _
 | .region _ ops false, fr => by unfold Sx.bV; exact (aC.zu P hc _ _ _ _).andThen fun _ => aC.ret _
 | .region _ ops true, fr => by unfold Sx.bV; exact (hr _ _).andThen fun _ => aC.ret _
 | .seq a b, fr => by
  have iha := aC.bV P hc hr hl n rounds a
  have ihb := aC.bV P hc hr hl n rounds b
  unfold Sx.bV
  repeat (first | with_reducible exact aC.ret _ | with_reducible exact aC.no | with_reducible exact aC.dec _ | with_reducible exact aC.zu _ hc _ _ _ _ | exact iha _ | exact ihb _ | with_reducible apply aC.cond | with_reducible apply aC.andThen | with_reducible apply aC.ite | intro _ | split)
 | .cond c a b, fr => by
  have iha := aC.bV P hc hr hl n rounds a
  have ihb := aC.bV P hc hr hl n rounds b
  unfold Sx.bV
  repeat (first | with_reducible exact aC.ret _ | with_reducible exact aC.no | with_reducible exact aC.dec _ | with_reducible exact aC.zu _ hc _ _ _ _ | exact iha _ | exact ihb _ | with_reducible apply aC.cond | with_reducible apply aC.andThen | with_reducible apply aC.ite | intro _ | split)
 | .block id c, fr => by
  have ih := aC.bV P hc hr hl n rounds c
  unfold Sx.bV
  generalize hS : loops id = S
  cases S with
  | some S => exact hl id S hS fr
  | none =>
   refine (ih fr).andThen fun r => ?_
   repeat (first | with_reducible exact aC.ret _ | with_reducible exact aC.no | with_reducible exact aC.dec _ | with_reducible exact aC.zu _ hc _ _ _ _ | exact ih _ | with_reducible apply aC.cond | with_reducible apply aC.andThen | with_reducible apply aC.ite | intro _ | split)
 | .loop c, fr => by
  have ih := aC.bV P hc hr hl n rounds c
  unfold Sx.bV
  exact aC.loopA ih _ _
 | .exit id, fr => by unfold Sx.bV; exact aC.ret _
 | .ret, fr => by unfold Sx.bV; exact aC.ret _
 | .goto _, fr => aC.no
 | .label _, fr => aC.no
 | .rangeFunc .., fr => aC.no
 | .scope _, fr => aC.no
 | .refuse _, fr => aC.no
theorem aC.mZ (P : Program) (fr : Fr) (r : ResultVar) : aC (Sx.mZ P fr r) := by
 unfold Sx.mZ
 repeat (first | with_reducible exact aC.ret _ | with_reducible exact aC.no | with_reducible exact aC.tC _ _ _ | with_reducible apply aC.cond | with_reducible apply aC.andThen | with_reducible apply aC.ite | intro _ | split)
theorem aC.dH (P : Program) (fr : Fr) : ∀ (l : List ResultVar), aC (Sx.dH P fr l)
 | [] => aC.ret _
 | r :: l => (aC.mZ P fr r).andThen fun _ => (aC.dH P fr l).andThen fun _ => aC.ret _
def gY (Γ : Known) : Prop := ∀ f s, Γ f = some s → ∀ args, aC (s args)
theorem oW {P : Program} {Γ : Known} {Λ : FuncId → Loops} {region : Calls' → Nat → List Oper → Fr → M Fr} {rounds : Nat} (hΓ : gY Γ) (hΛ : ∀ f, Lr (Λ f)) (qG : ∀ call, iO call → ∀ n l fr, aC (region call n l fr)) :
  ∀ fuel, iO (Ew P Γ Λ region rounds fuel)
 | 0 => fun f args => aC.no
 | fuel + 1 => fun f args => by
  have ih := oW (P := P) (rounds := rounds) hΓ hΛ qG fuel
  unfold Ew
  split
  ·rename_i s hs
   exact hΓ f s hs args
  ·split
   ·exact aC.no
   ·split
    ·exact aC.no
    ·refine (aC.bV P ih (qG _ ih _) (hΛ f) _ _ _ _).andThen fun r => ?_
     have hres : aC ((Sx.dH P r.2 (by assumption : Func).results.toList).andThen fun vs =>
      match vs with
      | [v] => ret v
      | _ => ret (.lZ vs)) := (aC.dH P _ _).andThen fun vs => by split <;> exact aC.ret _
     split
     ·exact aC.no
     ·exact hres
end Go.Sx
namespace Go.Sx
open M
mutual
def AV.low (N : Nat) : AV → Bool
 | .ptr a => Nat.blt a.g N
 | .slc _ _ a _ => Nat.blt a.g N
 | .mp g => Nat.blt g N
 | .fn _ l c => mD N l && mD N c
 | .agg l => mD N l
 | .lZ l => mD N l
 | .iw .. => Nat.blt 0 N
 | .KJ _ => Nat.blt 0 N
 | _ => true
def mD (N : Nat) : List AV → Bool
 | [] => true
 | v :: l => v.low N && mD N l
end
theorem iJ {a b : Nat} (h : Nat.blt a b = true) : a < b := Nat.le_of_ble_eq_true h
mutual
theorem Rep.lY {N N' : Nat} {μ μ' : MM} (h : MM.upto N μ μ') (hz : 0 < N → ∀ b, μ'.fz b = μ.fz b) : ∀ {v : AV} {c : Value}, v.low N = true → Rep N' μ' v c → Rep N μ v c
 | .top, _, _, _ => by simp [Rep]
 | .bool _, _, _, r => by simpa [Rep] using r
 | .bD _, _, _, r => by simpa [Rep] using r
 | .int .., _, _, r => by simpa [Rep] using r
 | .flt .., _, _, r => by simpa [Rep] using r
 | .raw .., _, _, r => by simpa [Rep] using r
 | .bits .., _, _, r => by simpa [Rep] using r
 | .vW .., _, _, r => by simpa [Rep] using r
 | .str .., _, _, r => by simpa [Rep] using r
 | .ptr a, _, l, r => by
  have hl := iJ (by simpa [AV.low] using l)
  simp only [Rep] at r ⊢
  exact ⟨hl, by rw [← h.addr hl]; exact r.2⟩
 | .iW, _, _, r => by simpa [Rep] using r
 | .slc _ own a len, _, l, r => by
  have hl := iJ (by simpa [AV.low] using l)
  simp only [Rep, tZ] at r ⊢
  obtain ⟨_, A, C, rfl, hlen, h1, h3, h2⟩ := r
  exact ⟨hl, A, C, rfl, hlen, by rw [← h.addr hl]; exact h1, h3, by rw [← h.blk _ hl, ← h.cap _ hl]; exact h2⟩
 | .dL, _, _, r => by simpa [Rep] using r
 | .mp g, _, l, r => by
  have hl := iJ (by simpa [AV.low] using l)
  simp only [Rep] at r ⊢
  exact ⟨hl, by rw [← h.blk _ hl]; exact r.2⟩
 | .wI, _, _, r => by simpa [Rep] using r
 | .fn f l cap, _, lo, r => by
  have hl : mD N l = true ∧ mD N cap = true := by simpa [AV.low] using lo
  simp only [Rep] at r ⊢
  obtain ⟨fs, cs, rfl, h1, h2⟩ := r
  exact ⟨fs, cs, rfl, aO.lY h hz hl.1 h1, aO.lY h hz hl.2 h2⟩
 | .qV, _, _, r => by simpa [Rep] using r
 | .BM, _, _, r => by simpa [Rep] using r
 | .hdr .., _, _, r => by simpa [Rep] using r
 | .iP, _, _, r => by simpa [Rep] using r
 | .iw .., _, l, r => by
  have hl := iJ (by simpa [AV.low] using l)
  simp only [Rep] at r ⊢
  simp only [hz hl] at r
  exact ⟨hl, r.2⟩
 | .KJ _, _, l, r => by
  have hl := iJ (by simpa [AV.low] using l)
  simp only [Rep] at r ⊢
  simp only [hz hl] at r
  exact ⟨hl, r.2⟩
 | .agg l, _, lo, r => by
  simp only [Rep] at r ⊢
  obtain ⟨cs, rfl, h1⟩ := r
  exact ⟨cs, rfl, aO.lY h hz (by simpa [AV.low] using lo) h1⟩
 | .lZ l, _, lo, r => by
  simp only [Rep] at r ⊢
  obtain ⟨cs, rfl, h1⟩ := r
  exact ⟨cs, rfl, aO.lY h hz (by simpa [AV.low] using lo) h1⟩
theorem aO.lY {N N' : Nat} {μ μ' : MM} (h : MM.upto N μ μ') (hz : 0 < N → ∀ b, μ'.fz b = μ.fz b) : ∀ {l : List AV} {cs : List Value}, mD N l = true → aO N' μ' l cs → aO N μ l cs
 | [], _, _, r => by simpa [aO] using r
 | v :: l, _, lo, r => by
  have hl : v.low N = true ∧ mD N l = true := by simpa [mD] using lo
  simp only [aO] at r ⊢
  obtain ⟨c, t, rfl, h1, h2⟩ := r
  exact ⟨c, t, rfl, Rep.lY h hz hl.1 h1, aO.lY h hz hl.2 h2⟩
end
def dJ (ops : Array Oper) (k : Nat) : Option Tmp := (ops[k]?).bind (·.dst)
def Gz (P : Program) (ops : Array Oper) (o : Oper) (g : G) (μ : MM) (w : World) (g' : G) (v : AV) (a : Act) : Prop :=
 ∀ (next : Act → World → Prop) (Q : Exit → Act → World → Prop), (∀ c w', After g μ w g' v c w' → next (a.put o.dst c) w') →
  if Region.wanted o (yielded ops a.tmps) then o.wp P a w next Q else next (a.put o.dst undef) w
structure Plan (P : Program) (ops : Array Oper) (nT : Nat) (g0 gf : G) (pW EG : Fr) where
 V : Nat → AV
 fr : Nat → Fr
 H : Nat → T aF
 nx : Nat → Nat
 ch : Nat → Bool
 T : Nat → List Nat
 jV : Nat → Nat → Bool
 fin : Nat → Fr
 iE : Nat → G
 eU : Nat → G
 lim : Nat → Nat
 NX : Nat
 RD : fr 0 = pW
 RF : fr ops.size = EG
 VF : H 0 = g0.H
 A8 : nx 0 = g0.nx
 H_n : H ops.size = gf.H
 Je : nx ops.size = gf.nx
 Dh : ∀ j, j < ops.size → ∀ t v, (fin j).get t = some v → (fr j).get t = some v ∧ ∀ k, k < ops.size → k ≠ j → jV k j = false → jV j k = false → dJ ops k ≠ some t
 RG : ∀ j, j < ops.size → ∀ t, (fr (j + 1)).get t = if dJ ops j = some t then some (V j) else (fr j).get t
 Di : ∀ j, j < ops.size → ∀ d, dJ ops j = some d → d < nT
 yg : ∀ i j d, i < ops.size → j < ops.size → dJ ops i = some d → dJ ops j = some d → i = j
 gZ : ∀ k j, jV k j = true → k < j
 oZ : ∀ j o, ops[j]? = some o → ∀ e ∈ o.after, Region.binds .any e = true → jV e.on j = true
 yj : ∀ k j, j < ops.size → jV k j = true → ∃ o e, ops[j]? = some o ∧ e ∈ o.after ∧ Region.binds .any e = true ∧ (k = e.on ∨ jV k e.on = true)
 Jf : ∀ j o, ops[j]? = some o → (eU j).cs → ∀ μ w (a : Act), dP (iE j).nx μ w.heap (iE j).H → dG (iE j).nx μ (fin j) a.tmps nT → Gz P ops o (iE j) μ w (eU j) (V j) a
 Yf : ∀ j, j < ops.size → (iE j).nx ≤ (eU j).nx
 tr : ∀ j, j < ops.size → ∀ nm, nm < (iE j).nx → nm ∉ T j → (eU j).H.get nm = (iE j).H.get nm
 reader : ∀ j, j < ops.size → ch j = false → H (j + 1) = H j ∧ nx (j + 1) = nx j ∧ T j = [] ∧ (V j).low (lim j) = true ∧ (iE j).nx = NX ∧
  ∀ nm b, (iE j).H.get nm = some b → (H j).get nm = some b ∧ nm < lim j ∧ ∀ k, k < ops.size → k ≠ j → ch k = true → jV k j = false → jV j k = false → nm ∉ T k
 chain : ∀ j, j < ops.size → ch j = true → (iE j).H = H j ∧ (iE j).nx = nx j ∧ H (j + 1) = (eU j).H ∧ nx (j + 1) = (eU j).nx
 yt : ∀ i j, i < j → j < ops.size → ch i = true → ch j = true → jV i j = true
 RH : ∀ j, j < ops.size → lim j = nx 0 ∨ ∃ k, k < ops.size ∧ ch k = true ∧ jV k j = true ∧ lim j = nx (k + 1)
 RI : nx ops.size ≤ NX
 Jg : gf.cs → ∀ j, j < ops.size → (eU j).cs
 RJ : gf.cs → g0.cs
namespace Plan
variable {P : Program} {ops : Array Oper} {nT : Nat} {g0 gf : G} {pW EG : Fr} (L : Plan P ops nT g0 gf pW EG)
theorem RN (j : Nat) (hj : j < ops.size) : L.nx j ≤ L.nx (j + 1) := by
 cases hc : L.ch j with
 | false => rw [(L.reader j hj hc).2.1]; exact Nat.le_refl _
 | true =>
  obtain ⟨_, h1, _, h2⟩ := L.chain j hj hc
  have := L.Yf j hj
  omega
theorem dW (p q : Nat) (hpq : p ≤ q) (hq : q ≤ ops.size) : L.nx p ≤ L.nx q := by
 induction q with
 | zero => rw [show p = 0 by omega]; exact Nat.le_refl _
 | succ q ih =>
  by_cases h : p = q + 1
  ·rw [h]; exact Nat.le_refl _
  ·exact Nat.le_trans (ih (by omega) (by omega)) (L.RN q (by omega))
theorem agree (p q nm : Nat) (hpq : p ≤ q) (hq : q ≤ ops.size) (hn : nm < L.nx p) (hk : ∀ k, p ≤ k → k < q → L.ch k = true → nm ∉ L.T k) : (L.H q).get nm = (L.H p).get nm := by
 induction q with
 | zero => rw [show p = 0 by omega]
 | succ q ih =>
  by_cases h : p = q + 1
  ·rw [h]
  ·have ih := ih (by omega) (by omega) fun k h1 h2 => hk k h1 (by omega)
   cases hc : L.ch q with
   | false => rw [(L.reader q (by omega) hc).1]; exact ih
   | true =>
    obtain ⟨e1, e2, e3, _⟩ := L.chain q (by omega) hc
    rw [e3, L.tr q (by omega) nm (by rw [e2]; have := L.dW p q (by omega) (by omega); omega) (hk q (by omega) (by omega) hc), e1]
    exact ih
theorem same (p q : Nat) (hpq : p ≤ q) (hq : q ≤ ops.size) (hk : ∀ k, p ≤ k → k < q → L.ch k = false) : L.H q = L.H p ∧ L.nx q = L.nx p := by
 induction q with
 | zero => rw [show p = 0 by omega]; exact ⟨rfl, rfl⟩
 | succ q ih =>
  by_cases h : p = q + 1
  ·rw [h]; exact ⟨rfl, rfl⟩
  ·have ih := ih (by omega) (by omega) fun k h1 h2 => hk k h1 (by omega)
   obtain ⟨e1, e2, _⟩ := L.reader q (by omega) (hk q (by omega) (by omega))
   rw [e1, e2]; exact ih
theorem Dj (j : Nat) (hj : j ≤ ops.size) (t : Nat) (v : AV) (h : (L.fr j).get t = some v) : (∃ k, k < j ∧ dJ ops k = some t ∧ v = L.V k) ∨ (pW.get t = some v ∧ ∀ k, k < j → dJ ops k ≠ some t) := by
 induction j with
 | zero => rw [L.RD] at h; exact .inr ⟨h, fun k hk => by omega⟩
 | succ j ih =>
  rw [L.RG j (by omega)] at h
  split at h
  ·rename_i e
   cases h
   exact .inl ⟨j, by omega, e, rfl⟩
  ·rename_i e
   rcases ih (by omega) h with ⟨k, h1, h2, h3⟩ | ⟨h1, h2⟩
   ·exact .inl ⟨k, by omega, h2, h3⟩
   ·refine .inr ⟨h1, fun k hk => ?_⟩
    by_cases hkj : k = j
    ·rw [hkj]; exact e
    ·exact h2 k (by omega)
structure Inv (μ0 : MM) (w0 : World) (a0 : Act) (D : Nat → Prop) (a : Act) (w : World) (p : Nat) (μ : MM) : Prop where
 Dk : p ≤ ops.size
 Dl : ∀ k, k < ops.size → L.ch k = true → (D k ↔ k < p)
 qN : dP (L.nx p) μ w.heap (L.H p)
 ext : ∀ g : G, g.H = L.H p → g.nx = L.nx p → Ext g0 μ0 w0 g μ w
 defers : a.defers = a0.defers
 size : nT ≤ a.tmps.size
 done : ∀ k, k < ops.size → D k → ∀ d, dJ ops k = some d → Rep (L.nx p) μ (L.V k) (a.tmps.getD d undef)
 rest : ∀ t, (∀ k, k < ops.size → D k → dJ ops k ≠ some t) → a.tmps.getD t undef = a0.tmps.getD t undef
 down : ∀ j, j < ops.size → D j → ∀ k, L.jV k j = true → D k
variable {L}
theorem Inv.names {μ0 : MM} {w0 : World} {a0 : Act} {D : Nat → Prop} {a : Act} {w : World} {p : Nat} {μ : MM} (I : L.Inv μ0 w0 a0 D a w p μ) : MM.upto g0.nx μ0 μ ∧ g0.nx ≤ L.nx p :=
 let E := I.ext ⟨L.H p, L.nx p, [], [], True⟩ rfl rfl
 ⟨E.names, E.nx⟩
theorem Inv.frame {μ0 : MM} {w0 : World} {a0 : Act} {D : Nat → Prop} {a : Act} {w : World} {p : Nat} {μ : MM} (I : L.Inv μ0 w0 a0 D a w p μ) (h0 : dG g0.nx μ0 pW a0.tmps nT) {j : Nat} (hj : j < ops.size) (hD : ¬ D j)
  (hP : ∀ k, L.jV k j = true → D k) {N : Nat} (hN : L.nx p ≤ N) : dG N μ (L.fin j) a.tmps nT where
 size := I.size
 val := fun t v hv => by
  obtain ⟨h1, h2⟩ := L.Dh j hj t v hv
  rcases L.Dj j (by omega) t v h1 with ⟨k, hk, hd, rfl⟩ | ⟨h3, h4⟩
  ·have hb : L.jV k j = true := by
    cases hb : L.jV k j with
    | true => rfl
    | false =>
     cases hb' : L.jV j k with
     | true => exact absurd (L.gZ _ _ hb') (by omega)
     | false => exact absurd hd (h2 k (by omega) (by omega) hb hb')
   exact (I.done k (by omega) (hP k hb) t hd).later (MM.upto.refl _ _) hN
  ·have : ∀ k, k < ops.size → D k → dJ ops k ≠ some t := fun k hk Ba e => by
    by_cases hkj : k < j
    ·exact h4 k hkj e
    ·have hne : k ≠ j := fun e => hD (e ▸ Ba)
     cases hb : L.jV j k with
     | true => exact hD (I.down k hk Ba j hb)
     | false =>
      cases hb' : L.jV k j with
      | true => exact absurd (L.gZ _ _ hb') (by omega)
      | false => exact h2 k hk hne hb' hb e
   rw [I.rest t this]
   exact (h0.val t v h3).later I.names.1 (Nat.le_trans I.names.2 hN)
end Plan
end Go.Sx
namespace Go.Sx
open M
mutual
theorem Rep.isLow {N : Nat} {μ : MM} : ∀ {v : AV} {c : Value}, Rep N μ v c → v.low N = true
 | .top, _, _ => rfl
 | .bool _, _, _ => rfl
 | .bD _, _, _ => rfl
 | .int .., _, _ => rfl
 | .flt .., _, _ => rfl
 | .raw .., _, _ => rfl
 | .bits .., _, _ => rfl
 | .vW .., _, _ => rfl
 | .str .., _, _ => rfl
 | .ptr a, _, r => by simp only [Rep] at r; exact Nat.ble_eq_true_of_le r.1
 | .iW, _, _ => rfl
 | .slc _ own a len, _, r => by simp only [Rep] at r; exact Nat.ble_eq_true_of_le r.1
 | .dL, _, _ => rfl
 | .mp g, _, r => by simp only [Rep] at r; exact Nat.ble_eq_true_of_le r.1
 | .wI, _, _ => rfl
 | .fn f l cap, _, r => by
  simp only [Rep] at r
  obtain ⟨fs, cs, rfl, h1, h2⟩ := r
  simp only [AV.low, aO.isLow h1, aO.isLow h2, Bool.and_self]
 | .qV, _, _ => rfl
 | .BM, _, _ => rfl
 | .hdr .., _, _ => rfl
 | .iP, _, _ => rfl
 | .iw .., _, r => by simp only [Rep] at r; exact Nat.ble_eq_true_of_le r.1
 | .KJ _, _, r => by simp only [Rep] at r; exact Nat.ble_eq_true_of_le r.1
 | .agg l, _, r => by
  simp only [Rep] at r
  obtain ⟨cs, rfl, h1⟩ := r
  simp only [AV.low, aO.isLow h1]
 | .lZ l, _, r => by
  simp only [Rep] at r
  obtain ⟨cs, rfl, h1⟩ := r
  simp only [AV.low, aO.isLow h1]
theorem aO.isLow {N : Nat} {μ : MM} : ∀ {l : List AV} {cs : List Value}, aO N μ l cs → mD N l = true
 | [], _, _ => rfl
 | v :: l, _, r => by
  simp only [aO] at r
  obtain ⟨c, t, rfl, h1, h2⟩ := r
  simp only [mD, Rep.isLow h1, aO.isLow h2, Bool.and_self]
end
theorem bY.back {N N' : Nat} {μ μ' : MM} (h : MM.upto N μ μ') (hz : ∀ b, μ'.fz b = μ.fz b) {hp hp' : Array Obj} {g : Nat} (hg : g < N) {b : aF} (r : bY N μ hp g b) (r' : bY N' μ' hp' g b) : bY N μ hp' g b := by
 cases b with
 | cells own sz n c =>
  simp only [bY, h.blk g hg, h.cap g hg, h.sz g hg, h.base g hg] at r r' ⊢
  refine ⟨r.1, r.2.1, fun hr => ?_⟩
  obtain ⟨cur, ty, fz, h1, h2, h3, h4⟩ := r'.2.2 hr
  obtain ⟨_, _, _, _, _, _, k4⟩ := r.2.2 hr
  refine ⟨cur, ty, fz, h1, h2, h3, fun i hi => ⟨(h4 i hi).1, fun o v hv => ?_⟩⟩
  obtain ⟨e1, cv, e2, e3⟩ := (h4 i hi).2 o v hv
  obtain ⟨_, cv', _, e4⟩ := (k4 i hi).2 o v hv
  exact ⟨e1, cv, e2, Rep.lY h (fun _ => hz) e4.isLow e3⟩
 | aJ s l => simp only [bY, h.blk g hg] at r r' ⊢; exact r'
 | iY s l => simp only [bY, h.blk g hg] at r r' ⊢; exact r'
 | sit s l pos => simp only [bY, h.blk g hg, h.base g hg] at r r' ⊢; exact r'
theorem aF.RP {μ μ' : MM} {g g' : Nat} (e : μ'.cap g' = μ.cap g) (b : aF) : b.real μ' g' ↔ b.real μ g := by
 cases b <;> simp [aF.real, e]
theorem dP.up {N N' : Nat} {μ : MM} {hp : Array Obj} {H H' : T aF} (h : dP N μ hp H) (hN : N ≤ N') (hs : ∀ g b, H'.get g = some b → H.get g = some b) : dP N' μ hp H' where
 lt := fun g b hg => Nat.lt_of_lt_of_le (h.lt g b (hs g b hg)) hN
 ok := fun g b hg => (h.ok g b (hs g b hg)).later (MM.upto.refl _ _) hN (h.lt g b (hs g b hg)) fun _ => rfl
 sep := fun g b g' b' hg hg' => h.sep g b g' b' (hs _ _ hg) (hs _ _ hg')
 fz := fun b o q => ⟨(h.fz b o q).1, fun ⟨g, bk, m1, m2⟩ => (h.fz b o q).2 ⟨g, bk, hs _ _ m1, m2⟩⟩
theorem MM.upto.mono {N N' : Nat} {μ μ' : MM} (h : MM.upto N' μ μ') (hN : N ≤ N') : MM.upto N μ μ' :=
 ⟨fun g hg => h.blk g (by omega), fun g hg => h.cap g (by omega), fun g hg => h.sz g (by omega), fun g hg => h.base g (by omega), h.fz⟩
theorem Ext.swap {g h g' h' : G} {μ μ' : MM} {w w' : World} (e : Ext g μ w g' μ' w') (h1 : h.H = g.H) (h2 : h.nx = g.nx) (h3 : h'.H = g'.H) (h4 : h'.nx = g'.nx) : Ext h μ w h' μ' w' where
 nx := by rw [h2, h4]; exact e.nx
 names := by rw [h2]; exact e.names
 os := e.os
 tape := e.tape
 output := e.output
 size := e.size
 block := fun B hB hn => e.block B hB (by rw [← h1]; exact hn)
 may := fun B hB hm => by rw [h1]; exact e.may B hB (by rw [← h3]; exact hm)
 fz := by rw [h1]; exact e.fz
theorem nI {a : Act} {dst : Option Tmp} {c : Value} {t : Nat} (h : dst ≠ some t) : (a.put dst c).tmps.getD t undef = a.tmps.getD t undef := by
 cases dst with
 | none => rfl
 | some d =>
  have : d ≠ t := fun e => h (by rw [e])
  simp only [Act.put, Array.getD_eq_getD_getElem?]
  rw [Array.getElem?_setIfInBounds_ne this]
theorem Az {a : Act} {c : Value} {d : Nat} (h : d < a.tmps.size) : (a.put (some d) c).tmps.getD d undef = c := by
 have : d < (a.tmps.setIfInBounds d c).size := by simpa using h
 simp only [Act.put, Array.getD_eq_getD_getElem?, Array.getElem?_eq_getElem this]
 simp
theorem size_put {a : Act} {dst : Option Tmp} {c : Value} : (a.put dst c).tmps.size = a.tmps.size := by cases dst <;> simp [Act.put]
namespace Plan
variable {P : Program} {ops : Array Oper} {nT : Nat} {g0 gf : G} {pW EG : Fr} {L : Plan P ops nT g0 gf pW EG}
theorem Ls {j p : Nat} (hj : j < ops.size) (hp : p ≤ ops.size) (h : ∀ k, L.ch k = true → L.jV k j = true → k < p) : L.lim j ≤ L.nx p := by
 rcases L.RH j hj with e | ⟨k, hk, hc, hb, e⟩
 ·rw [e]; exact L.dW 0 p (by omega) hp
 ·rw [e]; exact L.dW (k + 1) p (h k hc hb) hp
theorem Inv.reads {μ0 : MM} {w0 : World} {a0 : Act} {D : Nat → Prop} {a : Act} {w : World} {p : Nat} {μ : MM} (I : L.Inv μ0 w0 a0 D a w p μ) {j : Nat} (hj : j < ops.size) (hD : ¬ D j)
  (hP : ∀ k, L.jV k j = true → D k) (hc : L.ch j = false) {nm : Nat} {b : aF} (h : (L.iE j).H.get nm = some b) : (L.H p).get nm = some b := by
 obtain ⟨_, _, _, _, _, h6⟩ := L.reader j hj hc
 obtain ⟨h7, h8, h9⟩ := h6 nm b h
 by_cases hpj : p ≤ j
 ·have l1 : L.lim j ≤ L.nx p := Ls hj I.Dk fun k hk hb => (I.Dl k (by have := L.gZ _ _ hb; omega) hk).1 (hP k hb)
  rw [← L.agree p j nm hpj (by omega) (by omega) fun k k1 k2 k3 => ?_]
  ·exact h7
  ·have hnD : ¬ D k := fun hd => by have := (I.Dl k (by omega) k3).1 hd; omega
   refine h9 k (by omega) (by omega) k3 ?_ ?_
   ·cases hb : L.jV k j with
    | false => rfl
    | true => exact absurd (hP k hb) hnD
   ·cases hb : L.jV j k with
    | false => rfl
    | true => have := L.gZ _ _ hb; omega
 ·have l2 : L.lim j ≤ L.nx j := Ls hj (by omega) fun k hk hb => L.gZ _ _ hb
  rw [L.agree j p nm (by omega) I.Dk (by omega) fun k k1 k2 k3 => ?_]
  ·exact h7
  ·have hk : k < ops.size := by have := I.Dk; omega
   have hd : D k := (I.Dl k hk k3).2 k2
   refine h9 k hk (fun e => hD (e ▸ hd)) k3 ?_ ?_
   ·cases hb : L.jV k j with
    | false => rfl
    | true => have := L.gZ _ _ hb; omega
   ·cases hb : L.jV j k with
    | false => rfl
    | true => exact absurd (I.down k hk hd j hb) hD
theorem Inv.chains {μ0 : MM} {w0 : World} {a0 : Act} {D : Nat → Prop} {a : Act} {w : World} {p : Nat} {μ : MM} (I : L.Inv μ0 w0 a0 D a w p μ) {j : Nat} (hj : j < ops.size) (hD : ¬ D j)
  (hP : ∀ k, L.jV k j = true → D k) (hc : L.ch j = true) : L.H j = L.H p ∧ L.nx j = L.nx p := by
 have hpj : p ≤ j := by
  rcases Nat.lt_or_ge j p with h | h
  ·exact absurd ((I.Dl j hj hc).2 h) hD
  ·exact h
 refine L.same p j hpj (by omega) fun k k1 k2 => ?_
 cases hk : L.ch k with
 | false => rfl
 | true =>
  have := (I.Dl k (by omega) hk).1 (hP k (L.yt k j k2 hj hk hc))
  omega
theorem Inv.after {μ0 : MM} {w0 : World} {a0 : Act} {D : Nat → Prop} {a : Act} {w : World} {p : Nat} {μ : MM} (I : L.Inv μ0 w0 a0 D a w p μ) {j : Nat} (hj : j < ops.size) (hD : ¬ D j)
    (hP : ∀ k, L.jV k j = true → D k) {c : Value} {w' : World} (hA : After (L.iE j) μ w (L.eU j) (L.V j) c w') : ∃ p' μ', L.Inv μ0 w0 a0 (fun k => D k ∨ k = j) (a.put (dJ ops j) c) w' p' μ' := by
  obtain ⟨μ', hv, hg', hE⟩ := hA
  have hne : ∀ k, k < ops.size → D k → ∀ d, dJ ops k = some d → dJ ops j ≠ some d := fun k hk Ba d hd e => hD (by rw [L.yg j k d hj hk e hd]; exact Ba)
  have rest : ∀ t, (∀ k, k < ops.size → (D k ∨ k = j) → dJ ops k ≠ some t) → (a.put (dJ ops j) c).tmps.getD t undef = a0.tmps.getD t undef := fun t ht => by
    rw [nI (ht j hj (.inr rfl))]
    exact I.rest t fun k hk Ba => ht k hk (.inl Ba)
  have down : ∀ i, i < ops.size → (D i ∨ i = j) → ∀ k, L.jV k i = true → D k ∨ k = j := fun i hi hDi k hb => by
    rcases hDi with h | rfl
    · exact .inl (I.down i hi h k hb)
    · exact .inl (hP k hb)
  have size : nT ≤ (a.put (dJ ops j) c).tmps.size := by rw [size_put]; exact I.size
  have own : ∀ d, dJ ops j = some d → (a.put (dJ ops j) c).tmps.getD d undef = c := fun d hd => by
    rw [hd]; exact Az (Nat.lt_of_lt_of_le (L.Di j hj d hd) I.size)
  cases hc : L.ch j with
  | false =>
    obtain ⟨h1, h2, h3, h4, h5, h6⟩ := L.reader j hj hc
    have sub : ∀ nm b, (L.iE j).H.get nm = some b → (L.H p).get nm = some b := fun nm b h => I.reads hj hD hP hc h
    have hpn : L.nx p ≤ L.NX := Nat.le_trans (L.dW p _ I.Dk (Nat.le_refl _)) L.RI
    have hlim : L.lim j ≤ L.nx p := Ls hj I.Dk fun k hk hb => (I.Dl k (by have := L.gZ _ _ hb; omega) hk).1 (hP k hb)
    have names : MM.upto L.NX μ μ' := by rw [← h5]; exact hE.names
    have Jh : ∀ B, May μ (L.iE j).H B → May μ (L.H p) B := fun B ⟨g, b, e1, e2, e3, e4⟩ => ⟨g, b, sub g b e1, e2, e3, e4⟩
    have Y0 : ∀ N, MM.upto N μ ⟨μ.blk, μ.cap, μ.sz, μ.base, μ'.fz⟩ := fun N => ⟨fun _ _ => rfl, fun _ _ => rfl, fun _ _ => rfl, fun _ _ => rfl, names.fz⟩
    have names2 : MM.upto L.NX ⟨μ.blk, μ.cap, μ.sz, μ.base, μ'.fz⟩ μ' := ⟨names.blk, names.cap, names.sz, names.base, fun _ _ q => q⟩
    have re : ∀ g (b : aF), b.real ⟨μ.blk, μ.cap, μ.sz, μ.base, μ'.fz⟩ g ↔ b.real μ g := fun g b => by cases b <;> exact Iff.rfl
    refine ⟨p, ⟨μ.blk, μ.cap, μ.sz, μ.base, μ'.fz⟩, ?_⟩
    exact {
      Dk := I.Dk
      Dl := fun k hk hck => by
        have hkj : k ≠ j := fun e => by rw [e, hc] at hck; cases hck
        rw [← I.Dl k hk hck]
        exact ⟨fun h => h.resolve_right hkj, .inl⟩
      qN := {
        lt := I.qN.lt
        sep := fun g b g' b' hg hg' ho hr hr' he => I.qN.sep g b g' b' hg hg' ho ((re _ _).1 hr) ((re _ _).1 hr') he
        fz := fun b o q => ⟨(hg'.fz b o q).1, fun ⟨g, bk, m1, m2, m3, m4⟩ => by
          have QW := (re _ _).1 m3
          rcases hE.fz b o q with q1 | q1 | ⟨g2, b2, n1, n2, n3, n4⟩
          · exact (I.qN.fz b o q1).2 ⟨g, bk, m1, m2, QW, m4⟩
          · have := (I.qN.ok g bk m1).lt_size QW
            have QX : μ.blk g = b := m4
            omega
          · have hs := sub g2 b2 n1
            have QX : μ.blk g = b := m4
            have e : g = g2 := I.qN.sep g bk g2 b2 m1 hs m2 QW n3 (by rw [QX, n4])
            subst e
            rw [m1] at hs
            cases hs
            have hlt := I.qN.lt g bk m1
            have hout : (L.eU j).H.get g = some bk := by rw [L.tr j hj g (by rw [h5]; omega) (by rw [h3]; simp)]; exact n1
            refine (hg'.fz b o q).2 ⟨g, bk, hout, m2, (aF.RP (names.cap g (by omega)) bk).2 QW, by rw [names.blk g (by omega)]; exact QX⟩⟩
        ok := fun nm b hb => by
          have hlt := I.qN.lt nm b hb
          have old := I.qN.ok nm b hb
          cases hin : (L.iE j).H.get nm with
          | some b' =>
            have e := sub nm b' hin
            rw [hb] at e
            cases e
            have hout : (L.eU j).H.get nm = some b := by rw [L.tr j hj nm (by rw [h5]; omega) (by rw [h3]; simp)]; exact hin
            exact (old.later (Y0 _) (Nat.le_refl _) hlt fun _ => rfl).back (names2.mono hpn) (fun _ => rfl) hlt (hg'.ok nm b hout)
          | none =>
            refine old.later (Y0 _) (Nat.le_refl _) hlt fun hr => hE.block _ (old.lt_size hr) ?_
            rintro ⟨g, b', e1, e2, e3, e4⟩
            have := I.qN.sep g b' nm b (sub g b' e1) hb e2 e3 hr e4
            rw [this, hin] at e1
            cases e1 }
      ext := fun g e1 e2 => (I.ext g e1 e2).trans {
        nx := Nat.le_refl _
        names := Y0 _
        os := hE.os
        tape := hE.tape
        output := hE.output
        size := hE.size
        block := fun B hB hn => hE.block B hB fun hm => hn (by rw [e1]; exact Jh B hm)
        may := fun B hB hm => by
          obtain ⟨g1, bk, m1, m2, m3, m4⟩ := hm
          exact ⟨g1, bk, m1, m2, (re _ _).1 m3, m4⟩
        fz := fun b o q => by
          rcases hE.fz b o q with q1 | q1 | q1
          · exact .inl q1
          · exact .inr (.inl q1)
          · exact .inr (.inr (by rw [e1]; exact Jh b q1)) }
      defers := by rw [Act.put_defers]; exact I.defers
      size := size
      done := fun k hk Ba d hd => by
        rcases Ba with h | rfl
        · rw [nI (hne k hk h d hd)]; exact (I.done k hk h d hd).later (Y0 _) (Nat.le_refl _)
        · rw [own d hd]
          exact (Rep.lY (names2.mono (Nat.le_trans hlim hpn)) (fun _ _ => rfl) h4 hv).later (MM.upto.refl _ _) hlim
      rest := rest
      down := down }
  | true =>
    obtain ⟨h1, h2, h3, h4⟩ := L.chain j hj hc
    obtain ⟨e1, e2⟩ := I.chains hj hD hP hc
    refine ⟨j + 1, μ', ?_⟩
    exact {
      Dk := hj
      Dl := fun k hk hck => by
        constructor
        · rintro (h | rfl)
          · rcases Nat.lt_trichotomy k j with h' | h' | h'
            · omega
            · omega
            · exact absurd (I.down k hk h j (L.yt j k h' hk hc hck)) hD
          · omega
        · intro h
          by_cases hkj : k = j
          · exact .inr hkj
          · exact .inl (hP k (L.yt k j (by omega) hj hck hc))
      qN := by rw [h3, h4]; exact hg'
      ext := fun g f1 f2 => ((I.ext (L.iE j) (by rw [h1, e1]) (by rw [h2, e2])).trans hE).swap rfl rfl (by rw [f1, h3]) (by rw [f2, h4])
      defers := by rw [Act.put_defers]; exact I.defers
      size := size
      done := fun k hk Ba d hd => by
        rcases Ba with h | rfl
        · rw [nI (hne k hk h d hd), h4]
          exact (I.done k hk h d hd).later (by rw [← e2, ← h2]; exact hE.names) (by rw [← e2, ← h2]; exact hE.nx)
        · rw [own d hd, h4]
          exact hv
      rest := rest
      down := down }
end Plan
end Go.Sx
namespace Go.Sx
open M
namespace Plan
variable {P : Program} {ops : Array Oper} {nT : Nat} {g0 gf : G} {pW EG : Fr} {L : Plan P ops nT g0 gf pW EG}
theorem Inv.Lu {μ0 : MM} {w0 : World} {a0 : Act} {D : Nat → Prop} {a : Act} {w : World} {p : Nat} {μ : MM} (I : L.Inv μ0 w0 a0 D a w p μ) {j : Nat} (hj : j < ops.size) (hD : ¬ D j)
  (hP : ∀ k, L.jV k j = true → D k) : dP (L.iE j).nx μ w.heap (L.iE j).H ∧ L.nx p ≤ (L.iE j).nx := by
 cases hc : L.ch j with
 | false =>
  obtain ⟨h1, h2, h3, h4, h5, h6⟩ := L.reader j hj hc
  have hpn : L.nx p ≤ L.NX := Nat.le_trans (L.dW p _ I.Dk (Nat.le_refl _)) L.RI
  rw [h5]
  exact ⟨I.qN.up hpn fun g b h => I.reads hj hD hP hc h, hpn⟩
 | true =>
  obtain ⟨h1, h2, h3, h4⟩ := L.chain j hj hc
  obtain ⟨e1, e2⟩ := I.chains hj hD hP hc
  rw [h1, h2, e1, e2]
  exact ⟨I.qN, Nat.le_refl _⟩
theorem Inv.step {μ0 : MM} {w0 : World} {a0 : Act} {D : Nat → Prop} {a : Act} {w : World} {p : Nat} {μ : MM} (I : L.Inv μ0 w0 a0 D a w p μ) (h0 : dG g0.nx μ0 pW a0.tmps nT) (hcs : gf.cs) {j : Nat} (hj : j < ops.size) (hD : ¬ D j)
  (hP : ∀ k, L.jV k j = true → D k) {Q : Exit → Act → World → Prop} {K : Act → World → Prop} (hK : ∀ a' w' p' μ', L.Inv μ0 w0 a0 (fun k => D k ∨ k = j) a' w' p' μ' → K a' w') : wpOp P ops Q j K a w := by
 obtain ⟨hg, hle⟩ := I.Lu hj hD hP
 have ho : ops[j]? = some ops[j] := Array.getElem?_eq_getElem hj
 have hd : dJ ops j = (ops[j]).dst := by simp [dJ, ho]
 have := L.Jf j _ ho (L.Jg hcs j hj) μ w a hg (I.frame h0 hj hD hP hle) K Q fun c w' hA => by
  obtain ⟨p', μ', hI⟩ := I.after hj hD hP hA
  rw [hd] at hI
  exact hK _ _ _ _ hI
 unfold wpOp
 rw [ho]
 dsimp only
 split
 ·rename_i hw; rw [if_pos hw] at this; exact .inl this
 ·rename_i hw; rw [if_neg hw] at this; exact this
theorem Inv.fin {μ0 : MM} {w0 : World} {a0 : Act} {D : Nat → Prop} {a : Act} {w : World} {p : Nat} {μ : MM} (I : L.Inv μ0 w0 a0 D a w p μ) (h0 : dG g0.nx μ0 pW a0.tmps nT) (hall : ∀ k, k < ops.size → D k) : kG nT g0 μ0 w0 gf EG a0 a w := by
 obtain ⟨e1, e2⟩ := L.same p ops.size I.Dk (Nat.le_refl _) fun k k1 k2 => by
  cases hc : L.ch k with
  | false => rfl
  | true => have := (I.Dl k k2 hc).1 (hall k k2); omega
 rw [L.H_n] at e1
 rw [L.Je] at e2
 refine ⟨μ, by rw [e1, e2]; exact I.qN, I.ext gf e1 e2, ⟨I.size, fun t v hv => ?_⟩, I.defers⟩
 rw [← L.RF] at hv
 rcases L.Dj ops.size (Nat.le_refl _) t v hv with ⟨k, hk, hd, rfl⟩ | ⟨h1, h2⟩
 ·rw [e2]; exact I.done k hk (hall k hk) t hd
 ·rw [I.rest t fun k hk _ => h2 k hk, e2]
  exact (h0.val t v h1).later I.names.1 I.names.2
theorem Inv.start {μ0 : MM} {w0 : World} {a0 : Act} (hg : dP g0.nx μ0 w0.heap g0.H) (h0 : dG g0.nx μ0 pW a0.tmps nT) (D : Nat → Prop) (hD : ∀ k, ¬ D k) : L.Inv μ0 w0 a0 D a0 w0 0 μ0 where
 Dk := Nat.zero_le _
 Dl := fun k _ _ => ⟨fun h => absurd h (hD k), fun h => by omega⟩
 qN := by rw [L.VF, L.A8]; exact hg
 ext := fun g e1 e2 => Ext.same μ0 w0 (by rw [e1, L.VF]) (by rw [e2, L.A8])
 defers := rfl
 size := h0.size
 done := fun k _ h => absurd h (hD k)
 rest := fun _ _ => rfl
 down := fun j _ h => absurd h (hD j)
def jJ (listed : Array Bool) (k : Nat) : Prop := listed.getD k false = true
theorem AB {listed : Array Bool} {i : Nat} (hi : i < listed.size) : jJ (listed.setIfInBounds i true) = fun k => jJ listed k ∨ k = i := by
 funext k
 simp only [jJ, Array.getD_eq_getD_getElem?]
 by_cases h : i = k
 ·subst h
  rw [Array.getElem?_setIfInBounds_self_of_lt hi]
  simp
 ·rw [Array.getElem?_setIfInBounds_ne h]
  simp [Ne.symm h]
theorem rM {listed : Array Bool} {k : Nat} (hk : k < listed.size) : listed.getD k true = false ↔ ¬ jJ listed k := by
 simp [jJ, hk]
theorem any {μ0 : MM} {w0 : World} {a0 : Act} (h0 : dG g0.nx μ0 pW a0.tmps nT) (hcs : gf.cs) {Q : Exit → Act → World → Prop} (hQ : ∀ a w, kG nT g0 μ0 w0 gf EG a0 a w → Q .normal a w) :
  ∀ (fuel : Nat) (listed : Array Bool) (a : Act) (w : World) (p : Nat) (μ : MM), listed.size = ops.size → listed.toList.count false ≤ fuel → L.Inv μ0 w0 a0 (jJ listed) a w p μ → wpAny P .any ops Q fuel listed a w := by
 have final : ∀ (listed : Array Bool) a w p μ, listed.size = ops.size → L.Inv μ0 w0 a0 (jJ listed) a w p μ → Region.ready .any ops listed = [] → Q .normal a w := by
  intro listed a w p μ hs I hr
  refine hQ _ _ (I.fin h0 ?_)
  intro k
  induction k using Nat.strongRecOn with
  | _ k ih =>
   intro hk
   refine Classical.byContradiction fun hn => ?_
   have : k ∈ Region.ready .any ops listed := by
    refine mem_ready.2 ⟨(rM (by omega)).2 hn, ops[k], Array.getElem?_eq_getElem hk, fun e he hb => ?_⟩
    have hb := L.gZ _ _ (L.oZ k _ (Array.getElem?_eq_getElem hk) e he hb)
    exact ih e.on hb (by omega)
   rw [hr] at this
   cases this
 intro fuel
 induction fuel with
 | zero =>
  intro listed a w p μ hs hc I
  have hr : Region.ready .any ops listed = [] := by
   cases h : Region.ready .any ops listed with
   | nil => rfl
   | cons i l =>
    have hi : i ∈ Region.ready .any ops listed := by rw [h]; exact List.mem_cons_self
    obtain ⟨h1, o, ho, _⟩ := mem_ready.1 hi
    have hlt : i < ops.size := (Array.getElem?_eq_some_iff.1 ho).1
    have : false ∈ listed.toList := by
     have : listed[i]'(by omega) = false := by simpa [show i < listed.size by omega] using h1
     rw [← this]; simp
    have := List.count_pos_iff.2 this
    omega
  exact ⟨hr, final listed a w p μ hs I hr⟩
 | succ fuel ih =>
  intro listed a w p μ hs hc I
  refine ⟨final listed a w p μ hs I, fun i hi => ?_⟩
  obtain ⟨h1, o, ho, h2⟩ := mem_ready.1 hi
  have hlt : i < ops.size := (Array.getElem?_eq_some_iff.1 ho).1
  refine I.step h0 hcs hlt ((rM (by omega)).1 h1) ?_ fun a' w' p' μ' I' => ?_
  ·intro k hb
   obtain ⟨o', e, ho', he, hbi, hk⟩ := L.yj k i hlt hb
   rw [ho] at ho'
   cases ho'
   have he' : jJ listed e.on := h2 e he hbi
   rcases hk with rfl | hk
   ·exact he'
   ·exact I.down e.on (by have := L.gZ _ _ (L.oZ i o ho e he hbi); omega) he' k hk
  ·refine ih _ a' w' p' μ' (by simpa using hs) ?_ (by rw [AB (by omega)]; exact I')
   rw [Array.toList_setIfInBounds, List.count_set (by simp; omega)]
   have : listed.toList[i]'(by simp; omega) = false := by simpa [show i < listed.size by omega] using h1
   rw [this]
   have hm : false ∈ listed.toList := by rw [← this]; simp
   have := List.count_pos_iff.2 hm
   simp only [show (true == false) = false from rfl, beq_self_eq_true, if_true, Bool.false_eq_true, if_false]
   omega
theorem leads (L : Plan P ops nT g0 gf pW EG) (hm : P.follows .mixedOrders = true) (id : Nat) : yc P (.region id ops true) nT pW g0 (.normal, EG) gf := by
 refine ⟨L.RJ, fun hcs μ w a hg hf Q hQ => wp_region_any hm ?_⟩
 have hE : Ext g0 μ w g0 μ { w with drawn := w.drawn + 1 } := Ext.drawn μ w _ rfl rfl
 refine any (L := L) (w0 := { w with drawn := w.drawn + 1 }) hf hcs (fun a' w' h => hQ a' w' (h.trans hE rfl)) ops.size _ a _ 0 μ (by simp) ?_ (Inv.start (w0 := { w with drawn := w.drawn + 1 }) hg hf _ ?_)
 ·rw [Array.toList_replicate]; simp
 ·intro k h
  simp only [jJ, Array.getD_eq_getD_getElem?, Array.getElem?_replicate] at h
  split at h <;> simp at h
end Plan
end Go.Sx
namespace Go.Sx
open M
def wY (P : Program) (call : Calls') (all : List Oper) (fr : Fr) (o : Oper) : M AV :=
 match o.guard with
 | none => Iy P call fr o
 | some (j, want) =>
  match (all[j]?).bind (·.dst) with
  | none => no
  | some d =>
   match fr.get d with
   | some (.bool b) => bif b == want then Iy P call fr o else ret (.lZ [])
   | some (.bD b) => (dec b).andThen fun t => bif t == want then Iy P call (fr.upd d (some (.bool t))) o else ret (.lZ [])
   | some (.lZ _) => ret (.lZ [])
   | _ => no
def rO (Et : Bool) (v : AV) : M AV :=
 match v with
 | .bD b => bif Et then (dec b).andThen fun t => ret (.bool t) else ret (.bD b)
 | v => ret v
theorem aC.wY (P : Program) {call : Calls'} (hc : iO call) (all : List Oper) (fr : Fr) (o : Oper) : aC (Sx.wY P call all fr o) := by
 unfold Sx.wY
 repeat (first | with_reducible exact aC.ret _ | with_reducible exact aC.no | with_reducible exact aC.dec _ | with_reducible exact aC.Iy _ hc _ _ | with_reducible apply aC.cond | with_reducible apply aC.andThen | intro _ | split)
theorem aC.rO (Et : Bool) (v : AV) : aC (Sx.rO Et v) := by
 unfold Sx.rO
 repeat (first | with_reducible exact aC.ret _ | with_reducible exact aC.no | with_reducible exact aC.dec _ | with_reducible apply aC.cond | with_reducible apply aC.andThen | intro _ | split)
theorem After.acP {g g1 g' : G} {μ : MM} {w : World} {v : AV} {c : Value} {w' : World} {p : Prop} (k : Keep g g1 p) (h : After g1 μ w g' v c w') : After g μ w g' v c w' := by
 obtain ⟨μ', h1, h2, h3⟩ := h
 exact ⟨μ', h1, h2, h3.swap k.1.symm k.2.1.symm rfl rfl⟩
theorem GH {P : Program} {call : Calls'} (hcall : dw P call) {ops : Array Oper} {fr : Fr} {o : Oper} {v : AV} {g g' : G} (h : wY P call ops.toList fr o g = .done v g') :
  (g'.cs → g.cs) ∧ (g'.cs → ∀ μ w (a : Act) n, dP g.nx μ w.heap g.H → dG g.nx μ fr a.tmps n → Gz P ops o g μ w g' v a) := by
 unfold wY at h
 generalize hgd : o.guard = gd at h
 split at h
 ·obtain ⟨hc, hs⟩ := qL hcall h
  refine ⟨hc, fun hcs μ w a n hg hf next Q hn => ?_⟩
  rw [if_pos (by simp [Region.wanted, hgd])]
  exact hs hcs μ w a n hg hf next Q hn
 ·rename_i j want
  generalize hd : (ops.toList[j]?).bind (·.dst) = dd at h
  rw [Array.getElem?_toList] at hd
  split at h
  ·exact (bC h).elim
  ·rename_i d
   generalize hfd : fr.get d = fd at h
   split at h
   ·rename_i b
    have key : ∀ N μ (a : Act) n, dG N μ fr a.tmps n → Region.wanted o (yielded ops a.tmps) = (b == want) := fun N μ a n hf =>
     vF hgd (rH hd (by have := hf.val d _ hfd; simpa [Rep] using this))
    cases hb : (b == want) with
    | true =>
     rw [hb] at h key
     obtain ⟨hc, hs⟩ := qL hcall h
     refine ⟨hc, fun hcs μ w a n hg hf next Q hn => ?_⟩
     rw [if_pos (key _ _ a n hf)]
     exact hs hcs μ w a n hg hf next Q hn
    | false =>
     rw [hb] at h key
     obtain ⟨rfl, rfl⟩ := aB h
     refine ⟨id, fun hcs μ w a n hg hf next Q hn => ?_⟩
     rw [if_neg (by rw [key _ _ a n hf]; simp)]
     exact hn undef w (.gV (Keep.refl g) hg Rep.undef)
   ·rename_i b
    obtain ⟨t, g1, a1, h1⟩ := au h
    have k := nH a1
    have know : ∀ N μ (a : Act) n, b = t → dG N μ fr a.tmps n → dG N μ (fr.upd d (some (.bool t))) a.tmps n := fun N μ a n e hf =>
     hf.know hfd fun c hc => by simpa [Rep, e] using hc
    have key : ∀ N μ (a : Act) n, b = t → dG N μ fr a.tmps n → Region.wanted o (yielded ops a.tmps) = (t == want) := fun N μ a n e hf =>
     vF hgd (rH hd (by have := hf.val d _ hfd; rw [← e]; simpa [Rep] using this))
    cases hb : (t == want) with
    | true =>
     simp only [hb, cond_true] at h1
     simp only [hb] at key
     obtain ⟨hc, hs⟩ := qL hcall h1
     refine ⟨fun hcs => (k.2.2 (hc hcs)).1, fun hcs μ w a n hg hf next Q hn => ?_⟩
     have e := (k.2.2 (hc hcs)).2
     rw [if_pos (key _ _ a n e hf)]
     exact hs hcs μ w a n (by rw [k.1, k.2.1]; exact hg) (by rw [k.2.1]; exact know _ _ a n e hf) next Q fun c w' ha => hn c w' (ha.acP k)
    | false =>
     simp only [hb, cond_false] at h1
     simp only [hb] at key
     obtain ⟨rfl, rfl⟩ := aB h1
     refine ⟨fun hcs => (k.2.2 hcs).1, fun hcs μ w a n hg hf next Q hn => ?_⟩
     have e := (k.2.2 hcs).2
     rw [if_neg (by rw [key _ _ a n e hf]; simp)]
     exact hn undef w (.gV k hg Rep.undef)
   ·rename_i l
    have key : ∀ N μ (a : Act) n, dG N μ fr a.tmps n → Region.wanted o (yielded ops a.tmps) = false := fun N μ a n hf => by
     have := hf.val d _ hfd
     simp only [Rep] at this
     obtain ⟨cs, e, _⟩ := this
     exact EX hgd (Aq hd e)
    obtain ⟨rfl, rfl⟩ := aB h
    refine ⟨id, fun hcs μ w a n hg hf next Q hn => ?_⟩
    rw [if_neg (by rw [key _ _ a n hf]; simp)]
    exact hn undef w (.gV (Keep.refl g) hg Rep.undef)
   ·exact (bC h).elim
theorem EH {Et : Bool} {v u : AV} {g g' : G} (h : rO Et v g = .done u g') : ∃ p, Keep g g' p ∧ (p → ∀ N μ c, Rep N μ v c → Rep N μ u c) := by
 unfold rO at h
 split at h
 ·rename_i b
  cases Et with
  | true =>
   obtain ⟨t, g1, a1, h1⟩ := au h
   have k := nH a1
   obtain ⟨rfl, rfl⟩ := aB h1
   exact ⟨_, k, fun e N μ c hc => by simpa [Rep, e] using hc⟩
  | false =>
   obtain ⟨rfl, rfl⟩ := aB h
   exact ⟨_, Keep.refl _, fun _ _ _ _ hc => hc⟩
 ·obtain ⟨rfl, rfl⟩ := aB h
  exact ⟨_, Keep.refl _, fun _ _ _ _ hc => hc⟩
def yu (P : Program) (call : Calls') (all : List Oper) (Et : Bool) (fr : Fr) (o : Oper) : M AV := (wY P call all fr o).andThen fun v => rO Et v
theorem aC.yu (P : Program) {call : Calls'} (hc : iO call) (all : List Oper) (Et : Bool) (fr : Fr) (o : Oper) : aC (Sx.yu P call all Et fr o) := (aC.wY P hc all fr o).andThen fun v => aC.rO Et v
theorem o7 {P : Program} {call : Calls'} (hcall : dw P call) {ops : Array Oper} {Et : Bool} {fr : Fr} {o : Oper} {v : AV} {g g' : G} (h : yu P call ops.toList Et fr o g = .done v g') :
  (g'.cs → g.cs) ∧ (g'.cs → ∀ μ w (a : Act) n, dP g.nx μ w.heap g.H → dG g.nx μ fr a.tmps n → Gz P ops o g μ w g' v a) := by
 obtain ⟨u, g1, a1, h1⟩ := au h
 obtain ⟨hc, hs⟩ := GH hcall a1
 obtain ⟨p, k, hv⟩ := EH h1
 refine ⟨fun hcs => hc (k.2.2 hcs).1, fun hcs μ w a n hg hf next Q hn => hs (k.2.2 hcs).1 μ w a n hg hf next Q fun c w' ha => ?_⟩
 obtain ⟨μ', e1, e2, e3⟩ := ha
 exact hn c w' ⟨μ', by rw [k.2.1]; exact hv (k.2.2 hcs).2 _ _ _ e1, by rw [k.1, k.2.1]; exact e2, e3.swap rfl rfl k.1 k.2.1⟩
end Go.Sx
namespace Go.Sx
open M
def Dn (ms : List Nat) (o : Oper) : Nat := o.after.toList.foldl (fun s e => bif Region.binds .any e then s ||| (2 ^ e.on ||| ms.getD e.on 0) else s) 0
def dN : List Nat → List Oper → List Nat
 | ms, [] => ms
 | ms, o :: l => dN (ms ++ [Dn ms o]) l
def vT (ms : List Nat) (k j : Nat) : Bool := Nat.testBit (ms.getD j 0) k
def gX (ms : List Nat) (nT : Nat) : Nat → Nat → List Oper → Bool
 | _, _, [] => true
 | j, m, o :: l => (o.after.toList.all fun e => !Region.binds .any e || Nat.blt e.on j) && Nat.beq (ms.getD j 0) (Dn ms o) &&
  match o.dst with
  | none => gX ms nT (j + 1) m l
  | some d => Nat.blt d nT && !Nat.testBit m d && gX ms nT (j + 1) (m ||| 2 ^ d) l
def incs (ms : List Nat) (n j : Nat) : List Nat := (List.range n).filter fun k => !Nat.beq k j && !vT ms k j && !vT ms j k
theorem Ji {ms : List Nat} {n j k : Nat} : k ∈ incs ms n j ↔ k < n ∧ k ≠ j ∧ vT ms k j = false ∧ vT ms j k = false := by
 simp only [incs, List.mem_filter, List.mem_range, Bool.and_eq_true, Bool.not_eq_true', Bool.not_eq_true]
 constructor
 ·rintro ⟨h1, ⟨h2, h3⟩, h4⟩; exact ⟨h1, Nat.ne_of_beq_eq_false h2, h3, h4⟩
 ·rintro ⟨h1, h2, h3, h4⟩
  refine ⟨h1, ⟨?_, h3⟩, h4⟩
  cases h : Nat.beq k j with
  | false => rfl
  | true => exact absurd (Nat.eq_of_beq_eq_true h) h2
theorem yw (ms : List Nat) (k : Nat) : ∀ (l : List Edge) (s : Nat), Nat.testBit (l.foldl (fun s e => bif Region.binds .any e then s ||| (2 ^ e.on ||| ms.getD e.on 0) else s) s) k = true ↔
  Nat.testBit s k = true ∨ ∃ e ∈ l, Region.binds .any e = true ∧ (k = e.on ∨ Nat.testBit (ms.getD e.on 0) k = true)
 | [], s => by simp
 | e :: l, s => by
  rw [List.foldl_cons, yw ms k l]
  cases hb : Region.binds .any e with
  | false =>
   simp only [cond_false]
   constructor
   ·rintro (h | ⟨e', h1, h2⟩)
    ·exact .inl h
    ·exact .inr ⟨e', List.mem_cons_of_mem _ h1, h2⟩
   ·rintro (h | ⟨e', h1, h2⟩)
    ·exact .inl h
    ·rcases List.mem_cons.1 h1 with rfl | h1
     ·rw [hb] at h2; exact absurd h2.1 (by simp)
     ·exact .inr ⟨e', h1, h2⟩
  | true =>
   simp only [cond_true, Nat.testBit_or, Nat.testBit_two_pow, Bool.or_eq_true, decide_eq_true_eq]
   constructor
   ·rintro ((h | h | h) | ⟨e', h1, h2⟩)
    ·exact .inl h
    ·exact .inr ⟨e, List.mem_cons_self, hb, .inl h.symm⟩
    ·exact .inr ⟨e, List.mem_cons_self, hb, .inr h⟩
    ·exact .inr ⟨e', List.mem_cons_of_mem _ h1, h2⟩
   ·rintro (h | ⟨e', h1, h2⟩)
    ·exact .inl (.inl h)
    ·rcases List.mem_cons.1 h1 with rfl | h1
     ·rcases h2.2 with h | h
      ·exact .inl (.inr (.inl h.symm))
      ·exact .inl (.inr (.inr h))
     ·exact .inr ⟨e', h1, h2⟩
theorem o8 {ms : List Nat} {o : Oper} {k : Nat} : Nat.testBit (Dn ms o) k = true ↔ ∃ e ∈ o.after, Region.binds .any e = true ∧ (k = e.on ∨ Nat.testBit (ms.getD e.on 0) k = true) := by
 unfold Dn
 rw [yw]
 simp
theorem eG {ms : List Nat} {nT : Nat} : ∀ {l : List Oper} {j m : Nat}, gX ms nT j m l = true → ∀ i o, l[i]? = some o →
  (∀ e ∈ o.after, Region.binds .any e = true → e.on < j + i) ∧ ms.getD (j + i) 0 = Dn ms o ∧ ∀ d, o.dst = some d → d < nT ∧ Nat.testBit m d = false ∧ ∀ i' o', i < i' → l[i']? = some o' → o'.dst ≠ some d
 | [], j, m, h, i, o, hi => by simp at hi
 | o' :: l, j, m, h, i, o, hi => by
  simp only [gX, Bool.and_eq_true, List.all_eq_true] at h
  obtain ⟨⟨h1, h2⟩, h3⟩ := h
  have tail : ∃ m', gX ms nT (j + 1) m' l = true ∧ (∀ d, Nat.testBit m' d = false → Nat.testBit m d = false) ∧ ∀ d, o'.dst = some d → d < nT ∧ Nat.testBit m d = false ∧ Nat.testBit m' d = true := by
   cases hd : o'.dst with
   | none => rw [hd] at h3; exact ⟨m, h3, fun _ h => h, fun d hd => by cases hd⟩
   | some d =>
    rw [hd] at h3
    simp only [Bool.and_eq_true, Bool.not_eq_true', Bool.not_eq_true] at h3
    refine ⟨_, h3.2, fun d' h => ?_, fun d' e => ?_⟩
    ·rw [Nat.testBit_or, Bool.or_eq_false_iff] at h; exact h.1
    ·cases e; exact ⟨iJ h3.1.1, h3.1.2, by rw [Nat.testBit_or, Nat.testBit_two_pow]; simp⟩
  obtain ⟨m', t1, t2, t3⟩ := tail
  cases i with
  | zero =>
   simp only [List.getElem?_cons_zero, Option.some.injEq] at hi
   subst hi
   refine ⟨fun e he hb => ?_, by simpa using Nat.eq_of_beq_eq_true h2, fun d hd => ⟨(t3 d hd).1, (t3 d hd).2.1, fun i' o'' hi' Y1 => ?_⟩⟩
   ·have := h1 e (by simpa using he)
    rw [hb] at this
    exact iJ (by simpa using this)
   ·obtain ⟨Y2, rfl⟩ : ∃ Y2, i' = Y2 + 1 := ⟨i' - 1, by omega⟩
    intro e
    have := ((eG t1 Y2 o'' (by simpa using Y1)).2.2 d e).2.1
    rw [(t3 d hd).2.2] at this
    cases this
  | succ i =>
   obtain ⟨k1, k2, k3⟩ := eG t1 i o (by simpa using hi)
   refine ⟨fun e he hb => by have := k1 e he hb; omega, by rw [show j + (i + 1) = j + 1 + i by omega]; exact k2, fun d hd => ?_⟩
   obtain ⟨e1, e2, e3⟩ := k3 d hd
   exact ⟨e1, t2 d e2, fun i' o'' hi' Y1 => by
    obtain ⟨Y2, rfl⟩ : ∃ Y2, i' = Y2 + 1 := ⟨i' - 1, by omega⟩
    exact e3 Y2 o'' (by omega) (by simpa using Y1)⟩
def nJ {α : Type} (t : T α) : List Nat → T α
 | [] => t
 | k :: l => nJ (t.upd k none) l
theorem lH {α : Type} : ∀ (l : List Nat) (t : T α) (i : Nat), (nJ t l).get i = if i ∈ l then none else t.get i
 | [], t, i => by simp [nJ]
 | k :: l, t, i => by
  simp only [nJ, lH l, T.bF, List.mem_cons]
  by_cases h : i ∈ l
  ·simp [h]
  ·by_cases h' : i = k <;> simp [h, h']
def LC {α : Type} (lim : Nat) : Nat → Nat → T α → T α
 | _, _, .e => .e
 | a, b, .n l v r => .n (LC lim (2 * a) (a + b) l) (bif Nat.blt b lim then v else none) (LC lim (2 * a) (2 * a + b) r)
theorem Dp {α : Type} (lim : Nat) : ∀ (t : T α) (a b i : Nat), (LC lim a b t).get i = if a * i + b < lim then t.get i else none
 | .e, a, b, i => by simp [LC, T.tq]
 | .n l v r, a, b, 0 => by
  simp only [LC, T.qy, Nat.mul_zero, Nat.zero_add]
  by_cases h : b < lim
  ·rw [if_pos h, show Nat.blt b lim = true from Nat.ble_eq_true_of_le h, cond_true]
  ·rw [if_neg h]
   cases hb : Nat.blt b lim with
   | true => exact absurd (iJ hb) h
   | false => rfl
 | .n l v r, a, b, i + 1 => by
  simp only [LC, T.qA]
  cases hp : Nat.beq (i % 2) 0 with
  | true =>
   have hp' : i % 2 = 0 := Nat.eq_of_beq_eq_true hp
   simp only [cond_true, Dp lim l]
   have e : 2 * a * (i / 2) + (a + b) = a * (i + 1) + b := by
    have : i = 2 * (i / 2) := by omega
    rw [show 2 * a * (i / 2) = a * (2 * (i / 2)) by rw [Nat.mul_comm 2 a, Nat.mul_assoc], ← this, Nat.mul_succ, Nat.add_assoc]
   rw [e]
  | false =>
   have hp' : ¬ i % 2 = 0 := Nat.ne_of_beq_eq_false hp
   simp only [cond_false, Dp lim r]
   have e : 2 * a * (i / 2) + (2 * a + b) = a * (i + 1) + b := by
    have : i + 1 = 2 * (i / 2) + 2 := by omega
    rw [this, Nat.mul_add, show 2 * a * (i / 2) = a * (2 * (i / 2)) by rw [Nat.mul_comm 2 a, Nat.mul_assoc], Nat.mul_comm 2 a, Nat.add_assoc]
   rw [e]
end Go.Sx
namespace Go.Sx
open M
def light : Op → Bool
 | .move _ | .assign _ | .pick .. | .binOp .. | .unOp .. | .convert .. | .makeFunc .. | .field .. | .extract .. | .build .. | .nilCheck _ | .fieldAddr .. => true
 | _ => false
def NI (P : Program) : Nat → TypeId → Bool
 | 0, _ => true
 | n + 1, t =>
  match P.underlying t with
  | some (.slice _) | some (.pointer _) | some (.map _ _) | some (.func _ _ _) => true
  | some (.tuple ts) => ts.toList.isEmpty || ts.toList.any (NI P n)
  | some (.struct fs) => fs.toList.any fun f => NI P n f.type
  | some (.array _ e) => NI P n e
  | _ => false
def makes (P : Program) (o : Oper) : Bool :=
 match o.op with
 | .store .. | .alloc _ | .box .. | .buildSlice .. | .makeSlice .. | .mapUpdate .. | .insert .. | .makeMap .. => true
 | .call c =>
  match c.callee with
  | .value _ => NI P 3 o.type
  | .builtin b => match b with
   | .append | .copy => true
   | _ => false
  | _ => true
 | _ => false
structure Rc where
 v : AV
 fin : Fr
 iE : G
 eU : G
 ch : Bool
 T : List Nat
 lim : Nat
 pW : Fr
 wX : Fr
 g0 : G
 g1 : G
structure pX where
 nT : Nat
 all : List Oper
 ms : List Nat
 Ts : List (List Nat)
 NX : Nat
 yx : Nat
def pX.inc (C : pX) (j : Nat) : List Nat := incs C.ms C.all.length j
def pX.dst (C : pX) (k : Nat) : Option Tmp := (C.all[k]?).bind (·.dst)
def pX.fin (C : pX) (j : Nat) (fr : Fr) : Fr := nJ fr ((C.inc j).filterMap C.dst)
def pY (yx m : Nat) : List (Nat × Nat) → Nat
 | [] => yx
 | c :: l => bif Nat.testBit m c.1 then max c.2 (pY yx m l) else pY yx m l
def pX.Et (C : pX) (j : Nat) : Bool := C.all.any fun o => match o.guard with
 | some (k, _) => Nat.beq k j
 | none => false
def zH (C : pX) (j : Nat) (o : Oper) (lim : Nat) (g : G) : G :=
 { g with H := bif light o.op then .e else nJ (LC lim 1 0 g.H) ((C.inc j).flatMap fun k => C.Ts.getD k []), nx := C.NX, uV := [] }
def RS (P : Program) (call : Calls') (C : pX) (j : Nat) (o : Oper) (fr : Fr) (lim : Nat) : G → Aa Rc := fun g =>
 match yu P call C.all (C.Et j) (C.fin j fr) o (zH C j o lim g) with
 | .done v go =>
  bif (go.uV.all fun nm => Nat.ble C.NX nm) && v.low lim && Nat.ble C.NX go.nx then
   .done ⟨v, C.fin j fr, zH C j o lim g, go, false, [], lim, fr, (match o.dst with
    | some d => fr.upd d (some v)
    | none => fr), g, { g with path := go.path, cs := go.cs }⟩ { g with path := go.path, cs := go.cs }
  else .fail
 | .need b => .need b
 | .fail => .fail
def GI (P : Program) (call : Calls') (C : pX) (j : Nat) (o : Oper) (fr : Fr) (qc : List (Nat × Nat)) (lim : Nat) : G → Aa Rc := fun g =>
 match yu P call C.all (C.Et j) (C.fin j fr) o { g with uV := [] } with
 | .done v go =>
  bif (qc.all fun c => vT C.ms c.1 j) && Nat.ble g.nx go.nx then
   .done ⟨v, C.fin j fr, { g with uV := [] }, go, true, go.uV, lim, fr, (match o.dst with
    | some d => fr.upd d (some v)
    | none => fr), g, { go with uV := go.uV ++ g.uV }⟩ { go with uV := go.uV ++ g.uV }
  else .fail
 | .need b => .need b
 | .fail => .fail
def NJ (P : Program) (call : Calls') (C : pX) (j : Nat) (o : Oper) (fr : Fr) (qc : List (Nat × Nat)) : M Rc := fun g =>
 bif makes P o then GI P call C j o fr qc (pY C.yx (C.ms.getD j 0) qc) g
 else match RS P call C j o fr (pY C.yx (C.ms.getD j 0) qc) g with
  | .done rc g' => .done rc g'
  | .need b => .need b
  | .fail => GI P call C j o fr qc (pY C.yx (C.ms.getD j 0) qc) g
def uy (P : Program) (call : Calls') (C : pX) : Nat → List Oper → Fr → List (Nat × Nat) → M (List Rc)
 | _, [], _, _ => ret []
 | j, o :: l, fr, qc => (NJ P call C j o fr qc).andThen fun rc =>
  (uy P call C (j + 1) l rc.wX (bif rc.ch then (j, rc.g1.nx) :: qc else qc)).andThen fun rcs => ret (rc :: rcs)
def rP (C : pX) : Nat → List Rc → Bool
 | _, [] => true
 | j, rc :: l => ((rc.T.all fun nm => (C.Ts.getD j []).contains nm) || ((C.inc j).all fun k => ((C.all[k]?).map fun o => light o.op).getD true)) && rP C (j + 1) l
def zI : Fr → List Rc → Fr
 | fr, [] => fr
 | _, rc :: l => zI rc.wX l
def yA (P : Program) (call : Calls') (nT : Nat) (ops : List Oper) (fr : Fr) : M Fr := fun g =>
 bif gX (dN [] ops) nT 0 0 ops then
  match uy P call ⟨nT, ops, dN [] ops, [], g.nx + 4096, g.nx⟩ 0 ops fr [] g with
  | .done rcs g' =>
   bif Nat.ble g'.nx (g.nx + 4096) && rP ⟨nT, ops, dN [] ops, [], g.nx + 4096, g.nx⟩ 0 rcs then .done (zI fr rcs) g'
   else
    match uy P call ⟨nT, ops, dN [] ops, rcs.map (·.T), g.nx + 4294967296, g.nx⟩ 0 ops fr [] g with
    | .done GK g'' =>
     bif Nat.ble g''.nx (g.nx + 4294967296) && rP ⟨nT, ops, dN [] ops, rcs.map (·.T), g.nx + 4294967296, g.nx⟩ 0 GK then .done (zI fr GK) g'' else .fail
    | .need b => .need b
    | .fail => .fail
  | .need b => .need b
  | .fail => .fail
 else .fail
end Go.Sx
namespace Go.Sx
open M
def Dq (o : Oper) (fr : Fr) (v : AV) : Fr :=
 match o.dst with
 | some d => fr.upd d (some v)
 | none => fr
structure RU (P : Program) (call : Calls') (C : pX) (j : Nat) (o : Oper) (fr : Fr) (qc : List (Nat × Nat)) (g : G) (rc : Rc) (g' : G) : Prop where
 fin : rc.fin = C.fin j fr
 lim : rc.lim = pY C.yx (C.ms.getD j 0) qc
 pW : rc.pW = fr
 wX : rc.wX = Dq o fr rc.v
 g0 : rc.g0 = g
 g1 : rc.g1 = g'
 run : yu P call C.all (C.Et j) rc.fin o rc.iE = .done rc.v rc.eU
 acQ : rc.iE.cs = g.cs
 RV : g'.cs = rc.eU.cs
 tin : rc.iE.uV = []
 nxs : rc.iE.nx ≤ rc.eU.nx
 read : rc.ch = false → rc.T = [] ∧ rc.iE = zH C j o rc.lim g ∧ (∀ nm ∈ rc.eU.uV, C.NX ≤ nm) ∧ rc.v.low rc.lim = true ∧ g'.H = g.H ∧ g'.nx = g.nx ∧ g'.uV = g.uV
 chain : rc.ch = true → rc.iE.H = g.H ∧ rc.iE.nx = g.nx ∧ rc.T = rc.eU.uV ∧ g'.H = rc.eU.H ∧ g'.nx = rc.eU.nx ∧ g'.uV = rc.eU.uV ++ g.uV ∧ ∀ c ∈ qc, vT C.ms c.1 j = true
theorem LD {P : Program} {call : Calls'} {C : pX} {j : Nat} {o : Oper} {fr : Fr} {qc : List (Nat × Nat)} {g : G} {rc : Rc} {g' : G} (h : RS P call C j o fr (pY C.yx (C.ms.getD j 0) qc) g = .done rc g') : RU P call C j o fr qc g rc g' := by
 unfold RS at h
 generalize hone : yu P call C.all (C.Et j) (C.fin j fr) o (zH C j o (pY C.yx (C.ms.getD j 0) qc) g) = r at h
 split at h
 ·rename_i v go
  cases hb : ((go.uV.all fun nm => Nat.ble C.NX nm) && v.low (pY C.yx (C.ms.getD j 0) qc) && Nat.ble C.NX go.nx) with
  | false => rw [hb] at h; cases h
  | true =>
   rw [hb] at h
   cases h
   simp only [Bool.and_eq_true, List.all_eq_true] at hb
   exact ⟨rfl, rfl, rfl, rfl, rfl, rfl, hone, rfl, rfl, rfl, Nat.le_of_ble_eq_true hb.2, fun _ => ⟨rfl, rfl, fun nm hn => Nat.le_of_ble_eq_true (hb.1.1 nm hn), hb.1.2, rfl, rfl, rfl⟩, fun h => by cases h⟩
 ·cases h
 ·cases h
theorem AL {P : Program} {call : Calls'} {C : pX} {j : Nat} {o : Oper} {fr : Fr} {qc : List (Nat × Nat)} {g : G} {rc : Rc} {g' : G} (h : GI P call C j o fr qc (pY C.yx (C.ms.getD j 0) qc) g = .done rc g') : RU P call C j o fr qc g rc g' := by
 unfold GI at h
 generalize hone : yu P call C.all (C.Et j) (C.fin j fr) o { g with uV := [] } = r at h
 split at h
 ·rename_i v go
  cases hb : ((qc.all fun c => vT C.ms c.1 j) && Nat.ble g.nx go.nx) with
  | false => rw [hb] at h; cases h
  | true =>
   rw [hb] at h
   cases h
   simp only [Bool.and_eq_true, List.all_eq_true] at hb
   exact ⟨rfl, rfl, rfl, rfl, rfl, rfl, hone, rfl, rfl, rfl, Nat.le_of_ble_eq_true hb.2, (fun h => by cases h), fun _ => ⟨rfl, rfl, rfl, rfl, rfl, rfl, hb.1⟩⟩
 ·cases h
 ·cases h
theorem Dt {P : Program} {call : Calls'} {C : pX} {j : Nat} {o : Oper} {fr : Fr} {qc : List (Nat × Nat)} {g : G} {rc : Rc} {g' : G} (h : NJ P call C j o fr qc g = .done rc g') : RU P call C j o fr qc g rc g' := by
 unfold NJ at h
 cases hm : makes P o with
 | true => rw [hm] at h; exact AL h
 | false =>
  rw [hm] at h
  simp only [cond_false] at h
  split at h
  ·rename_i rc' g1 hr
   cases h
   exact LD hr
  ·cases h
  ·exact AL h
def EI (fr : Fr) (rcs : List Rc) : Nat → Fr
 | 0 => fr
 | i + 1 => ((rcs[i]?).map (·.wX)).getD fr
def KL (g : G) (rcs : List Rc) : Nat → G
 | 0 => g
 | i + 1 => ((rcs[i]?).map (·.g1)).getD g
theorem EY (fr : Fr) (rc : Rc) (rcs : List Rc) : ∀ i, i ≤ rcs.length → EI fr (rc :: rcs) (i + 1) = EI rc.wX rcs i
 | 0, _ => by simp [EI]
 | i + 1, h => by
  have : rcs[i]? = some rcs[i] := List.getElem?_eq_getElem (by omega)
  simp [EI, this]
theorem Du (g : G) (rc : Rc) (rcs : List Rc) : ∀ i, i ≤ rcs.length → KL g (rc :: rcs) (i + 1) = KL rc.g1 rcs i
 | 0, _ => by simp [KL]
 | i + 1, h => by
  have : rcs[i]? = some rcs[i] := List.getElem?_eq_getElem (by omega)
  simp [KL, this]
theorem Jj {P : Program} {call : Calls'} {C : pX} : ∀ {l : List Oper} {j : Nat} {fr : Fr} {qc : List (Nat × Nat)} {g : G} {rcs : List Rc} {g' : G}, uy P call C j l fr qc g = .done rcs g' →
  rcs.length = l.length ∧ KL g rcs l.length = g' ∧ EI fr rcs l.length = zI fr rcs ∧ ∀ i o, l[i]? = some o → ∃ rc nK, rcs[i]? = some rc ∧ RU P call C (j + i) o (EI fr rcs i) nK (KL g rcs i) rc (KL g rcs (i + 1)) ∧
   (∀ c ∈ nK, c ∈ qc ∨ ∃ m r, m < i ∧ rcs[m]? = some r ∧ r.ch = true ∧ c = (j + m, r.g1.nx)) ∧ (∀ c ∈ qc, c ∈ nK) ∧ (∀ m r, m < i → rcs[m]? = some r → r.ch = true → (j + m, r.g1.nx) ∈ nK)
 | [], j, fr, qc, g, rcs, g', h => by
  unfold uy at h
  obtain ⟨rfl, rfl⟩ := aB h
  exact ⟨rfl, rfl, rfl, fun i o hi => by simp at hi⟩
 | o :: l, j, fr, qc, g, rcs, g', h => by
  unfold uy at h
  obtain ⟨rc, g1, a1, h1⟩ := au h
  obtain ⟨GK, g2, a2, h2⟩ := au h1
  obtain ⟨rfl, rfl⟩ := aB h2
  have hr := Dt a1
  obtain ⟨p1, p2, p3, p4⟩ := Jj a2
  refine ⟨by simp [p1], ?_, ?_, fun i o' hi => ?_⟩
  ·rw [List.length_cons, Du _ _ _ _ (by omega), hr.g1]; exact p2
  ·rw [List.length_cons, EY _ _ _ _ (by omega)]; exact p3
  ·cases i with
   | zero =>
    simp only [List.getElem?_cons_zero, Option.some.injEq] at hi
    subst hi
    refine ⟨rc, qc, rfl, ?_, fun c hc => .inl hc, fun c hc => hc, fun m r hm => by omega⟩
    have e : KL g (rc :: GK) (0 + 1) = g1 := by simp [KL, hr.g1]
    rw [e]
    exact hr
   | succ i =>
    have hi' : l[i]? = some o' := by simpa using hi
    have hlt : i < l.length := (List.getElem?_eq_some_iff.1 hi').1
    obtain ⟨r', nK, q1, q2, q3, q4, q5⟩ := p4 i o' hi'
    refine ⟨r', nK, by simpa using q1, ?_, fun c hc => ?_, fun c hc => ?_, fun m r hm hr1 hr2 => ?_⟩
    ·rw [EY _ _ _ _ (by omega), Du _ _ _ _ (by omega), Du _ _ _ _ (by omega), hr.g1, show j + (i + 1) = j + 1 + i by omega]
     exact q2
    ·rcases q3 c hc with h3 | ⟨m, r, m1, m2, m3, m4⟩
     ·cases hch : rc.ch with
      | false => rw [hch] at h3; exact .inl h3
      | true =>
       rw [hch] at h3
       rcases List.mem_cons.1 h3 with rfl | h3
       ·exact .inr ⟨0, rc, by omega, rfl, hch, rfl⟩
       ·exact .inl h3
     ·exact .inr ⟨m + 1, r, by omega, by simpa using m2, m3, by rw [m4, show j + (m + 1) = j + 1 + m by omega]⟩
    ·refine q4 c ?_
     cases rc.ch
     ·exact hc
     ·exact List.mem_cons_of_mem _ hc
    ·cases m with
     | zero =>
      simp only [List.getElem?_cons_zero, Option.some.injEq] at hr1
      subst hr1
      refine q4 _ ?_
      rw [hr2]
      exact List.mem_cons_self
     | succ m =>
      rw [show j + (m + 1) = j + 1 + m by omega]
      exact q5 m r (by omega) (by simpa using hr1) hr2
theorem EZ {C : pX} : ∀ {l : List Rc} {j : Nat}, rP C j l = true → ∀ i rc, l[i]? = some rc → (∀ nm ∈ rc.T, nm ∈ C.Ts.getD (j + i) []) ∨ ∀ k ∈ C.inc (j + i), ∀ o, C.all[k]? = some o → light o.op = true
 | [], j, h, i, rc, hi => by simp at hi
 | r :: l, j, h, i, rc, hi => by
  simp only [rP, Bool.and_eq_true] at h
  cases i with
  | zero =>
   simp only [List.getElem?_cons_zero, Option.some.injEq] at hi
   subst hi
   rcases Bool.or_eq_true _ _ ▸ h.1 with h | h
   ·left
    rw [List.all_eq_true] at h
    exact fun nm hn => by simpa using h nm hn
   ·right
    rw [List.all_eq_true] at h
    intro k hk o ho
    have := h k hk
    rw [ho] at this
    simpa using this
  | succ i =>
   rw [show j + (i + 1) = j + 1 + i by omega]
   exact EZ h.2 i rc (by simpa using hi)
end Go.Sx
namespace Go.Sx
open M
theorem Dv (yx m : Nat) : ∀ (qc : List (Nat × Nat)), pY yx m qc = yx ∨ ∃ c ∈ qc, Nat.testBit m c.1 = true ∧ pY yx m qc = c.2
 | [] => .inl rfl
 | c :: l => by
  simp only [pY]
  cases hb : Nat.testBit m c.1 with
  | false =>
   simp only [cond_false]
   rcases Dv yx m l with h | ⟨c', h1, h2, h3⟩
   ·exact .inl h
   ·exact .inr ⟨c', List.mem_cons_of_mem _ h1, h2, h3⟩
  | true =>
   simp only [cond_true]
   rcases Nat.le_total c.2 (pY yx m l) with h | h
   ·rw [Nat.max_eq_right h]
    rcases Dv yx m l with h | ⟨c', h1, h2, h3⟩
    ·exact .inl h
    ·exact .inr ⟨c', List.mem_cons_of_mem _ h1, h2, h3⟩
   ·rw [Nat.max_eq_left h]
    exact .inr ⟨c, List.mem_cons_self, hb, rfl⟩
section
variable {P : Program} {call : Calls'} {ops : Array Oper} {nT : Nat} {ms : List Nat} {Ts : List (List Nat)} {NX : Nat} {g g' : G} {fr : Fr} {rcs : List Rc}
def pO (ops : Array Oper) (ms : List Nat) (k j : Nat) : Bool := Nat.blt j ops.size && vT ms k j
theorem NK (hst : gX ms nT 0 0 ops.toList = true) : ∀ (j k : Nat), pO ops ms k j = true → k < j := by
 intro j
 induction j using Nat.strongRecOn with
 | _ j ih =>
  intro k h
  simp only [pO, Bool.and_eq_true] at h
  have hj : j < ops.size := iJ h.1
  obtain ⟨s1, s2, _⟩ := eG hst j ops[j] (by simp [hj])
  have hb := h.2
  unfold vT at hb
  rw [Nat.zero_add] at s1 s2
  rw [s2, o8] at hb
  obtain ⟨e, he, hbi, hk⟩ := hb
  have hlt := s1 e he hbi
  rcases hk with rfl | hk
  ·exact hlt
  ·exact Nat.lt_trans (ih e.on hlt k (by simp only [pO, Bool.and_eq_true]; exact ⟨Nat.ble_eq_true_of_le (by omega), hk⟩)) hlt
def Y3 (hcall : dw P call) (hct : iO call) (hst : gX ms nT 0 0 ops.toList = true)
    (hp : uy P call ⟨nT, ops.toList, ms, Ts, NX, g.nx⟩ 0 ops.toList fr [] g = .done rcs g') (RX : rP ⟨nT, ops.toList, ms, Ts, NX, g.nx⟩ 0 rcs = true) (hNX : g'.nx ≤ NX) : Plan P ops nT g g' fr (zI fr rcs) :=
  have hat := Jj hp
  have len : rcs.length = ops.size := by rw [hat.1]; simp
  have kP : ∀ j (hj : j < ops.size), ∃ rc nK, rcs[j]? = some rc ∧ RU P call ⟨nT, ops.toList, ms, Ts, NX, g.nx⟩ j ops[j] (EI fr rcs j) nK (KL g rcs j) rc (KL g rcs (j + 1)) ∧
      (∀ c ∈ nK, ∃ m r, m < j ∧ rcs[m]? = some r ∧ r.ch = true ∧ c = (m, r.g1.nx)) ∧ (∀ m r, m < j → rcs[m]? = some r → r.ch = true → (m, r.g1.nx) ∈ nK) := fun j hj => by
    obtain ⟨rc, nK, h1, h2, h3, _, h5⟩ := hat.2.2.2 j ops[j] (by simp [hj])
    rw [Nat.zero_add] at h2
    refine ⟨rc, nK, h1, h2, fun c hc => ?_, fun m r hm hr hch => by simpa using h5 m r hm hr hch⟩
    rcases h3 c hc with h | ⟨m, r, k1, k2, k3, k4⟩
    · cases h
    · exact ⟨m, r, k1, k2, k3, by simpa using k4⟩
  have Y4 : ∀ k, (pX.mk nT ops.toList ms Ts NX g.nx).dst k = dJ ops k := fun k => by simp [pX.dst, dJ]
  have rQ : ∀ k j, k < ops.size → j < ops.size → k ≠ j → pO ops ms k j = false → pO ops ms j k = false → k ∈ (pX.mk nT ops.toList ms Ts NX g.nx).inc j := fun k j hk hj hne h1 h2 => by
    unfold pX.inc
    rw [Ji]
    simp only [pO, show Nat.blt j ops.size = true from Nat.ble_eq_true_of_le hj, show Nat.blt k ops.size = true from Nat.ble_eq_true_of_le hk, Bool.true_and] at h1 h2
    exact ⟨by simpa using hk, hne, h1, h2⟩
  have trj : ∀ j (hj : j < ops.size) rc, rcs[j]? = some rc → ∃ l, rc.eU.uV = l ++ [] ∧ rc.iE.nx ≤ rc.eU.nx ∧ ∀ nm, nm < rc.iE.nx → nm ∉ l → rc.eU.H.get nm = rc.iE.H.get nm := fun j hj rc hrc => by
    obtain ⟨rc', nK, h1, h2, _⟩ := kP j hj
    rw [hrc] at h1
    cases h1
    have := (aC.yu P hct _ _ _ _).of _ _ _ h2.run
    rw [← h2.tin]
    exact this
  { V := fun j => ((rcs[j]?).map (·.v)).getD .top
    fr := EI fr rcs
    H := fun j => (KL g rcs j).H
    nx := fun j => (KL g rcs j).nx
    ch := fun j => ((rcs[j]?).map (·.ch)).getD false
    T := fun j => ((rcs[j]?).map (·.T)).getD []
    jV := pO ops ms
    fin := fun j => ((rcs[j]?).map (·.fin)).getD .e
    iE := fun j => ((rcs[j]?).map (·.iE)).getD g
    eU := fun j => ((rcs[j]?).map (·.eU)).getD g
    lim := fun j => ((rcs[j]?).map (·.lim)).getD g.nx
    NX := NX
    RD := rfl
    RF := by rw [← hat.2.2.1]; simp
    VF := rfl
    A8 := rfl
    H_n := by rw [← hat.2.1]; simp
    Je := by rw [← hat.2.1]; simp
    Dh := fun j hj t v h => by
      obtain ⟨rc, nK, h1, h2, _⟩ := kP j hj
      simp only [h1, Option.map_some, Option.getD_some, h2.fin, pX.fin, lH] at h
      split at h
      · cases h
      · rename_i hn
        refine ⟨h, fun k hk hne b1 b2 e => hn ?_⟩
        rw [List.mem_filterMap]
        exact ⟨k, rQ k j hk hj hne b1 b2, by rw [Y4, e]⟩
    RG := fun j hj t => by
      obtain ⟨rc, nK, h1, h2, _⟩ := kP j hj
      have e : EI fr rcs (j + 1) = rc.wX := by simp [EI, h1]
      have hd : dJ ops j = (ops[j]).dst := by simp [dJ, hj]
      rw [e, h2.wX, hd]
      simp only [h1, Option.map_some, Option.getD_some, Dq]
      cases hdd : (ops[j]).dst with
      | none => simp
      | some d =>
        simp only [T.bF, Option.some.injEq]
        by_cases ht : t = d
        · rw [if_pos ht, if_pos ht.symm]
        · rw [if_neg ht, if_neg (Ne.symm ht)]
    Di := fun j hj d hd => by
      have := (eG hst j ops[j] (by simp [hj])).2.2 d (by simpa [dJ, hj] using hd)
      exact this.1
    yg := fun i j d hi hj h1 h2 => by
      have e1 : (ops[i]).dst = some d := by simpa [dJ, hi] using h1
      have e2 : (ops[j]).dst = some d := by simpa [dJ, hj] using h2
      rcases Nat.lt_trichotomy i j with h | h | h
      · exact absurd e2 (((eG hst i ops[i] (by simp [hi])).2.2 d e1).2.2 j ops[j] h (by simp [hj]))
      · exact h
      · exact absurd e1 (((eG hst j ops[j] (by simp [hj])).2.2 d e2).2.2 i ops[i] h (by simp [hi]))
    gZ := fun k j h => NK hst j k h
    oZ := fun j o ho e he hb => by
      have hj := (Array.getElem?_eq_some_iff.1 ho).1
      have s2 := (eG hst j o (by simpa using ho)).2.1
      rw [Nat.zero_add] at s2
      simp only [pO, Bool.and_eq_true]
      refine ⟨Nat.ble_eq_true_of_le hj, ?_⟩
      unfold vT
      rw [s2, o8]
      exact ⟨e, he, hb, .inl rfl⟩
    yj := fun k j hj h => by
      have s := eG hst j ops[j] (by simp [hj])
      simp only [pO, Bool.and_eq_true] at h
      have hb := h.2
      unfold vT at hb
      have s2 := s.2.1
      rw [Nat.zero_add] at s2
      rw [s2, o8] at hb
      obtain ⟨e, he, hbi, hk⟩ := hb
      refine ⟨ops[j], e, by simp [hj], he, hbi, hk.imp id fun hk => ?_⟩
      have := s.1 e he hbi
      simp only [pO, Bool.and_eq_true]
      exact ⟨Nat.ble_eq_true_of_le (by omega), hk⟩
    Jf := fun j o ho hcs μ w a hg hf => by
      have hj := (Array.getElem?_eq_some_iff.1 ho).1
      obtain ⟨rc, nK, h1, h2, _⟩ := kP j hj
      have eo : o = ops[j] := by rw [Array.getElem?_eq_getElem hj] at ho; cases ho; rfl
      simp only [h1, Option.map_some, Option.getD_some] at hcs hg hf ⊢
      rw [eo]
      exact (o7 hcall h2.run).2 hcs μ w a nT hg hf
    Yf := fun j hj => by
      obtain ⟨rc, nK, h1, h2, _⟩ := kP j hj
      simp only [h1, Option.map_some, Option.getD_some]
      exact h2.nxs
    tr := fun j hj nm hn hT => by
      obtain ⟨rc, nK, h1, h2, _⟩ := kP j hj
      obtain ⟨l, t1, _, t3⟩ := trj j hj rc h1
      simp only [h1, Option.map_some, Option.getD_some] at hn hT ⊢
      refine t3 nm hn ?_
      rw [List.append_nil] at t1
      rw [← t1]
      cases hc : rc.ch with
      | true => rw [← (h2.chain hc).2.2.1]; exact hT
      | false =>
        obtain ⟨_, e, hx, _⟩ := h2.read hc
        intro hm
        have : NX ≤ nm := hx nm hm
        rw [e] at hn
        simp only [zH] at hn
        omega
    reader := fun j hj hc => by
      obtain ⟨rc, nK, h1, h2, _⟩ := kP j hj
      simp only [h1, Option.map_some, Option.getD_some] at hc ⊢
      obtain ⟨r1, r2, r3, r4, r5, r6, _⟩ := h2.read hc
      refine ⟨r5, r6, r1, r4, by rw [r2]; rfl, fun nm b hb => ?_⟩
      rw [r2] at hb
      simp only [zH] at hb
      cases hl : light (ops[j]).op with
      | true => rw [hl] at hb; simp [T.get] at hb
      | false =>
        rw [hl] at hb
        simp only [cond_false, lH, Dp, Nat.one_mul, Nat.add_zero] at hb
        split at hb
        · cases hb
        · rename_i hn
          split at hb
          · rename_i hlt
            refine ⟨hb, hlt, fun k hk hne hck b1 b2 hT => ?_⟩
            obtain ⟨rk, chk, k1, k2, _⟩ := kP k hk
            simp only [k1, Option.map_some, Option.getD_some] at hT
            rcases EZ RX k rk k1 with hs | hs
            · refine hn ?_
              rw [List.mem_flatMap]
              exact ⟨k, rQ k j hk hj hne b1 b2, by simpa using hs nm hT⟩
            · have := hs j (by rw [Nat.zero_add]; exact rQ j k hj hk (Ne.symm hne) b2 b1) ops[j] (by simp [hj])
              rw [hl] at this
              cases this
          · cases hb
    chain := fun j hj hc => by
      obtain ⟨rc, nK, h1, h2, _⟩ := kP j hj
      simp only [h1, Option.map_some, Option.getD_some] at hc ⊢
      obtain ⟨r1, r2, r3, r4, r5, _⟩ := h2.chain hc
      exact ⟨r1, r2, r4, r5⟩
    yt := fun i j hij hj hi hc => by
      obtain ⟨rc, nK, h1, h2, h3, h4⟩ := kP j hj
      obtain ⟨ri, chi, i1, i2, _⟩ := kP i (by omega)
      simp only [h1, i1, Option.map_some, Option.getD_some] at hc hi
      have := (h2.chain hc).2.2.2.2.2.2 _ (h4 i ri hij i1 hi)
      simp only [pO, Bool.and_eq_true]
      exact ⟨Nat.ble_eq_true_of_le hj, this⟩
    RH := fun j hj => by
      obtain ⟨rc, nK, h1, h2, h3, h4⟩ := kP j hj
      simp only [h1, Option.map_some, Option.getD_some, h2.lim]
      rcases Dv g.nx (ms.getD j 0) nK with h | ⟨c, c1, c2, c3⟩
      · exact .inl h
      · obtain ⟨m, r, m1, m2, m3, rfl⟩ := h3 c c1
        refine .inr ⟨m, by omega, ?_, ?_, ?_⟩
        · simp [m2, m3]
        · simp only [pO, Bool.and_eq_true]
          exact ⟨Nat.ble_eq_true_of_le hj, c2⟩
        · rw [c3]; simp [KL, m2]
    RI := by rw [show ops.size = ops.toList.length by simp, hat.2.1]; exact hNX
    Jg := fun hcs => by
      have key : ∀ d j, j + d = ops.size → (KL g rcs j).cs := by
        intro d
        induction d with
        | zero => intro j hj; rw [show j = ops.toList.length by simp; omega, hat.2.1]; exact hcs
        | succ d ih =>
          intro j hj
          obtain ⟨rc, nK, h1, h2, _⟩ := kP j (by omega)
          have := ih (j + 1) (by omega)
          rw [h2.RV] at this
          rw [← h2.acQ]
          exact (o7 hcall h2.run).1 this
      intro j hj
      obtain ⟨rc, nK, h1, h2, _⟩ := kP j hj
      simp only [h1, Option.map_some, Option.getD_some]
      rw [← h2.RV]
      exact key (ops.size - (j + 1)) (j + 1) (by omega)
    RJ := fun hcs => by
      have key : ∀ d j, j + d = ops.size → (KL g rcs j).cs := by
        intro d
        induction d with
        | zero => intro j hj; rw [show j = ops.toList.length by simp; omega, hat.2.1]; exact hcs
        | succ d ih =>
          intro j hj
          obtain ⟨rc, nK, h1, h2, _⟩ := kP j (by omega)
          have := ih (j + 1) (by omega)
          rw [h2.RV] at this
          rw [← h2.acQ]
          exact (o7 hcall h2.run).1 this
      exact key ops.size 0 (by omega) }
end
end Go.Sx
