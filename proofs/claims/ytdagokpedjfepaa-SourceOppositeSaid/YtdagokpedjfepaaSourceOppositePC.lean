/- SourceOpposite: a part: summaries of functions that the statement reaches, printed by program, checked by the kernel. -/
import Derived.ProofKit
import Derived.OpenShut
import Derived.KernelRfl
import Derived.SizedLaws
import Derived.Test.YtdagokpedjfepaaProg
import Derived.Test.YtdagokpedjfepaaSourceOppositePB
namespace Go.Proofs.Ytdagokpedjfepaa
open Go.ChangeShapes Go.WideShapes Go.ChangeAt Go.RowKit
set_option linter.unusedVariables false
set_option linter.unusedSimpArgs false
set_option maxRecDepth 100000

theorem pza_goes (n q r u s0 s1 : Nat) (x : Tx) (M2 : List (Tx × Int)) (f : Nat → Nat × Nat) (hb : ∀ i, Sx.lfind Sx.seq x M2 = some i → 0 ≤ i ∧ i < u) :
  Sx.GoesB Try.prog (Sx.bodyOf Try.f48) Try.f48.ntmps 11 11 12 (Sx.frameOf [.ptr ⟨false, 2, 0, 0⟩, .slc true true ⟨false, 10, 0, 0⟩ u, .agg [.str true x, .fn (.func 22) [] []], .cpx true s0 s1] 0 .e) (Sx.hpL [(2, .cells false 7 1 (.fn fun _ => netR 6 7 8 n q r)), (4, .mSI true M2), (10, .cells true 1 u (.fn (cxR f)))]) (fun e fr' H' => e = .ret ∧ fr' = Sx.frL [(8, .sbool (putV cadd x M2 f (s0, s1)).2)] ∧ H' = Sx.hpL [(4, .mSI true M2), (10, .cells true 1 u (.fn (cxR (putV cadd x M2 f (s0, s1)).1)))]) := by
 rw [pz_is]
 refine Sx.GoesB.seqN (K1 := 12) (F1 := [(0, .ptr ⟨false, 2, 0, 0⟩), (1, .slc true true ⟨false, 10, 0, 0⟩ u), (3, .cpx true s0 s1), (6, .ptr ⟨false, 11, 0, 0⟩)]) (H1 := [(2, .cells false 7 1 (.fn fun _ => netR 6 7 8 n q r)), (4, .mSI true M2), (10, .cells true 1 u (.fn (cxR f))), (11, .cells true 2 1 (.fn fun _ => [.str true x, .fn (.func 22) [] []]))]) (Sx.GoesB.toN (pzaA 11 (by omega) n q r u 0 s0 s1 x M2 f false) ⟨(Sx.re rfl), (Sx.re rfl), (Sx.re rfl), (Sx.re rfl), trivial⟩ ⟨(Sx.hs rfl), (Sx.hs rfl), (Sx.hs rfl), hbl1 rfl, trivial⟩) (by omega) ?_
 cases hf : Sx.lfind Sx.seq x M2 with
 | none =>
  refine Sx.GoesB.seqN (K1 := 12) (F1 := [(0, .ptr ⟨false, 2, 0, 0⟩), (1, .slc true true ⟨false, 10, 0, 0⟩ u), (3, .cpx true s0 s1), (6, .ptr ⟨false, 11, 0, 0⟩), (9, .int true .i64 ((0 : Nat) : Int)), (10, .sbool false)]) (H1 := [(2, .cells false 7 1 (.fn fun _ => netR 6 7 8 n q r)), (4, .mSI true M2), (10, .cells true 1 u (.fn (cxR f))), (11, .cells true 2 1 (.fn fun _ => [.str true x, .fn (.func 22) [] []]))]) (Sx.GoesB.toN (pzaB 11 (by omega) n q r u 0 s0 s1 x M2 f false) ⟨(Sx.re rfl), (Sx.re rfl), (Sx.re rfl), (Sx.re rfl), ⟨_, rfl, Sx.AV.ge.int' _ _ _ (by rw [hf]; rfl)⟩, ⟨_, rfl, Sx.AV.ge.sbool' (by rw [hf]; rfl)⟩, trivial⟩ ⟨(Sx.hs rfl), (Sx.hs rfl), (Sx.hs rfl), (Sx.hs rfl), trivial⟩) (by omega) ?_
  refine (seqR (R := fun fr' H' => fr' = Sx.frL [(8, .sbool (putV cadd x M2 f (s0, s1)).2)] ∧ H' = Sx.hpL [(4, .mSI true M2), (10, .cells true 1 u (.fn (cxR (putV cadd x M2 f (s0, s1)).1)))]) (K1 := 12) (by omega) ((pzaC 11 (by omega) n q r u 0 s0 s1 x M2 f false).post fun e fr' H' h => ?_)).mono fun e fr' H' h => h
  rw [cond_false] at h
  obtain ⟨rfl, rfl, rfl⟩ := h
  have e1 : putV cadd x M2 f (s0, s1) = (f, true) := by unfold putV; rw [hf]
  exact ⟨[(8, .sbool true)], [(4, .mSI true M2), (10, .cells true 1 u (.fn (cxR f)))], ⟨⟨_, rfl, Sx.AV.ge.bool true⟩, trivial⟩, ⟨(Sx.hs rfl), (Sx.hs rfl), trivial⟩, rfl, by rw [e1], by rw [e1]⟩
 | some y =>
  obtain ⟨y0, y1⟩ := hb y hf
  obtain ⟨i, rfl⟩ : ∃ i : Nat, y = i := ⟨y.toNat, by omega⟩
  have e1 : putV cadd x M2 f (s0, s1) = (upd1 f i (cadd (f i) (s0, s1)), fin_0 (cadd (f i) (s0, s1)).1 (cadd (f i) (s0, s1)).2) := by unfold putV; rw [hf]; rfl
  refine Sx.GoesB.seqN (K1 := 12) (F1 := [(0, .ptr ⟨false, 2, 0, 0⟩), (1, .slc true true ⟨false, 10, 0, 0⟩ u), (3, .cpx true s0 s1), (6, .ptr ⟨false, 11, 0, 0⟩), (9, .int true .i64 (i : Int)), (10, .sbool true)]) (H1 := [(2, .cells false 7 1 (.fn fun _ => netR 6 7 8 n q r)), (4, .mSI true M2), (10, .cells true 1 u (.fn (cxR f))), (11, .cells true 2 1 (.fn fun _ => [.str true x, .fn (.func 22) [] []]))]) (Sx.GoesB.toN (pzaB 11 (by omega) n q r u 0 s0 s1 x M2 f false) ⟨(Sx.re rfl), (Sx.re rfl), (Sx.re rfl), (Sx.re rfl), ⟨_, rfl, Sx.AV.ge.int' _ _ _ (by rw [hf]; rfl)⟩, ⟨_, rfl, Sx.AV.ge.sbool' (by rw [hf]; rfl)⟩, trivial⟩ ⟨(Sx.hs rfl), (Sx.hs rfl), (Sx.hs rfl), (Sx.hs rfl), trivial⟩) (by omega) ?_
  refine Sx.GoesB.seqN (K1 := 12) (F1 := [(0, .ptr ⟨false, 2, 0, 0⟩), (1, .slc true true ⟨false, 10, 0, 0⟩ u), (3, .cpx true s0 s1), (6, .ptr ⟨false, 11, 0, 0⟩), (9, .int true .i64 (i : Int))]) (H1 := [(2, .cells false 7 1 (.fn fun _ => netR 6 7 8 n q r)), (4, .mSI true M2), (10, .cells true 1 u (.fn (cxR f))), (11, .cells true 2 1 (.fn fun _ => [.str true x, .fn (.func 22) [] []]))]) ((pzaC 11 (by omega) n q r u i s0 s1 x M2 f true).mono fun e fr' H' h => by rw [cond_true] at h; exact h) (by omega) ?_
  refine Sx.GoesB.seqN (K1 := 12) (F1 := [(1, .slc true true ⟨false, 10, 0, 0⟩ u), (9, .int true .i64 (i : Int))]) (H1 := [(2, .cells false 7 1 (.fn fun _ => netR 6 7 8 n q r)), (4, .mSI true M2), (10, .cells true 1 u (.fn (cxR (upd1 f i (cadd (f i) (s0, s1))))))]) (Sx.GoesB.toN (pzaD 11 (by omega) n q r u i s0 s1 x M2 f false (by omega) (by omega)) ⟨(Sx.re rfl), (Sx.re rfl), trivial⟩ ⟨(Sx.hs rfl), (Sx.hs rfl), gR rfl rfl (fun j hj => by rw [Nat.zero_add]; exact row_upd f i j (cadd (f i) (s0, s1))), trivial⟩) (by omega) ?_
  refine (pzE 11 (by omega) n q r u i s0 s1 x M2 (upd1 f i (cadd (f i) (s0, s1))) false (by omega) (by omega)).mono fun e fr' H' h => ?_
  obtain ⟨rfl, rfl, rfl⟩ := h
  refine ⟨rfl, ?_, ?_⟩
  ·rw [e1, Nat.zero_add, upd1_at]
  ·rw [e1]; rfl


theorem rep_ptr0 {N K0 i : Nat} {μ : Sx.MM} {ρ : Nat → Nat} {a : Sx.AA} {c : Value} (h : Sx.Rep N μ (.ptr a) c) (h1 : a.i = 0) (h2 : a.o = 0) (hi : i < K0) (e : ρ i = a.g) : Sx.Rep K0 (μ.via ρ) (.ptr ⟨false, i, 0, 0⟩) c := by
 simp only [Sx.Rep] at h ⊢
 refine ⟨hi, h.2.trans ?_⟩
 simp only [Sx.MM.addr, Sx.MM.via, e, h1, h2]
theorem view1 {N : Nat} {μ : Sx.MM} {hp : Array Obj} {g sz : Nat} {own : Bool} {c : Sx.Cont} {row : List Sx.AV} (h : Sx.BkOk N μ hp g (.cells own sz 1 c)) (k : Sx.RowGe (c.row 0) row) : Sx.BkOk N μ hp g (.cells false sz 1 (.fn fun _ => row)) := by
 refine ⟨h.1, h.2.1, fun hr => ?_⟩
 obtain ⟨cur, ty, fz, p1, p2, p3, p4⟩ := h.2.2 (.inl (by omega))
 refine ⟨cur, ty, fz, p1, p2, fun h => (by cases h), fun i hi => ?_⟩
 obtain rfl : i = 0 := by omega
 exact Sx.RowOk.ge (p4 0 (by omega)) k
theorem own1 {N : Nat} {μ : Sx.MM} {hp : Array Obj} {g sz m : Nat} {c : Sx.Cont} {rows : Nat → List Sx.AV} (h : Sx.BkOk N μ hp g (.cells true sz m c)) (k : ∀ j, j < m → Sx.RowGe (c.row j) (rows j)) : Sx.BkOk N μ hp g (.cells true sz m (.fn rows)) := by
 refine ⟨h.1, h.2.1, fun hr => ?_⟩
 obtain ⟨cur, ty, fz, p1, p2, p3, p4⟩ := h.2.2 hr
 exact ⟨cur, ty, fz, p1, p2, p3, fun i hi => Sx.RowOk.ge (p4 i hi) (k i hi)⟩
/-- a net's row, read: its slices and maps -/
structure NetA where
 n : Nat
 q : Nat
 r : Nat
 l : Sx.AA
 nd : Sx.AA
 bg : Sx.AA
 m1 : Nat
 m2 : Nat
 m3 : Nat
def flat0 (a : Sx.AA) : Bool := Nat.beq a.i 0 && Nat.beq a.o 0
def asNet : List Sx.AV → Option NetA
 | [.bool true, .slc _ true a1 n, .mp m1, .slc _ true a2 q, .mp m2, .slc _ true a3 r, .mp m3] => bif flat0 a1 && flat0 a2 && flat0 a3 then some ⟨n, q, r, a1, a2, a3, m1, m2, m3⟩ else none
 | _ => none
/-- the net at a name -/
noncomputable def netAt (N : Nat) : Sx.M NetA := (Sx.getC N).andThen fun b => (Sx.M.okIf (Nat.beq b.2.1 7 && Nat.beq b.2.2.1 1)).andThen fun _ => Sx.M.ofOpt (asNet (b.2.2.2.row 0))
theorem Tch_netAt (N : Nat) : Sx.Tch (netAt N) := (Sx.Tch.getC _).andThen fun _ => (Sx.Tch.okIf _).andThen fun _ => Sx.Tch.ofOpt _
theorem flat0_is {a : Sx.AA} (h : flat0 a = true) : a.i = 0 ∧ a.o = 0 := by
 unfold flat0 at h
 rw [Bool.and_eq_true] at h
 exact ⟨Nat.eq_of_beq_eq_true h.1, Nat.eq_of_beq_eq_true h.2⟩
theorem asNet_some {l : List Sx.AV} {w : NetA} (h : asNet l = some w) : ∃ s1 s2 s3, l = [.bool true, .slc s1 true w.l w.n, .mp w.m1, .slc s2 true w.nd w.q, .mp w.m2, .slc s3 true w.bg w.r, .mp w.m3] ∧ (w.l.i = 0 ∧ w.l.o = 0) ∧ (w.nd.i = 0 ∧ w.nd.o = 0) ∧ (w.bg.i = 0 ∧ w.bg.o = 0) := by
 unfold asNet at h
 split at h
 ·rename_i s1 a1 n m1 s2 a2 q m2 s3 a3 r m3
  cases c : flat0 a1 && flat0 a2 && flat0 a3 with
  | false => rw [c] at h; cases h
  | true =>
   rw [c] at h
   cases h
   simp only [Bool.and_eq_true] at c
   exact ⟨s1, s2, s3, rfl, flat0_is c.1.1, flat0_is c.1.2, flat0_is c.2⟩
 ·cases h
theorem netAt_done {N : Nat} {w : NetA} {g g' : Sx.G} (h : netAt N g = .done w g') : g = g' ∧ ∃ ob c s1 s2 s3, g.H.get N = some (.cells ob 7 1 c) ∧ c.row 0 = [.bool true, .slc s1 true w.l w.n, .mp w.m1, .slc s2 true w.nd w.q, .mp w.m2, .slc s3 true w.bg w.r, .mp w.m3] ∧ (w.l.i = 0 ∧ w.l.o = 0) ∧ (w.nd.i = 0 ∧ w.nd.o = 0) ∧ (w.bg.i = 0 ∧ w.bg.o = 0) := by
 unfold netAt at h
 obtain ⟨⟨ob, zb, mb, cb⟩, g1, a1, h1⟩ := Sx.done_of h
 obtain ⟨t1, rfl⟩ := Sx.getC_done a1
 obtain ⟨_, g2, a2, h2⟩ := Sx.done_of h1
 obtain ⟨hq, rfl⟩ := Sx.okIf_done a2
 obtain ⟨h3, rfl⟩ := Sx.ofOpt_done h2
 simp only [Bool.and_eq_true] at hq
 obtain rfl := Nat.eq_of_beq_eq_true hq.1
 obtain rfl := Nat.eq_of_beq_eq_true hq.2
 obtain ⟨s1, s2, s3, e, x⟩ := asNet_some h3
 exact ⟨rfl, ob, cb, s1, s2, s3, t1, e, x⟩
/-- the great names of a net's blocks -/
def netRho (N : Nat) (w : NetA) (i : Nat) : Nat := if i = 2 then N else if i = 3 then w.m1 else if i = 4 then w.m2 else if i = 5 then w.m3 else if i = 6 then w.l.g else if i = 7 then w.nd.g else w.bg.g
theorem net_row {c : Sx.Cont} {w : NetA} {s1 s2 s3 : Bool} (e : c.row 0 = [.bool true, .slc s1 true w.l w.n, .mp w.m1, .slc s2 true w.nd w.q, .mp w.m2, .slc s3 true w.bg w.r, .mp w.m3]) (h1 : w.l.i = 0 ∧ w.l.o = 0) (h2 : w.nd.i = 0 ∧ w.nd.o = 0) (h3 : w.bg.i = 0 ∧ w.bg.o = 0) {ρ : Nat → Nat} (p3 : ρ 3 = w.m1) (p4 : ρ 4 = w.m2) (p5 : ρ 5 = w.m3) (p6 : ρ 6 = w.l.g) (p7 : ρ 7 = w.nd.g) (p8 : ρ 8 = w.bg.g) : Sx.RowGe (c.row 0) (Sx.rens ρ (netR 6 7 8 w.n w.q w.r)) := by
 rw [e]
 refine ⟨Sx.AV.ge.refl _, rfl, Sx.AV.ge.hdr p6.symm h1.1 h1.2, rfl, ?_, rfl, Sx.AV.ge.hdr p7.symm h2.1 h2.2, rfl, ?_, rfl, Sx.AV.ge.hdr p8.symm h3.1 h3.2, rfl, ?_, rfl, trivial⟩
 ·show Sx.AV.ge (.mp w.m1) (.mp (ρ 3)); rw [p3]; exact Sx.AV.ge.refl _
 ·show Sx.AV.ge (.mp w.m2) (.mp (ρ 4)); rw [p4]; exact Sx.AV.ge.refl _
 ·show Sx.AV.ge (.mp w.m3) (.mp (ρ 5)); rw [p5]; exact Sx.AV.ge.refl _
theorem cxR_low {K : Nat} {f : Nat → Nat × Nat} {j : Nat} {u : Sx.AV} (h : u ∈ cxR f j) : u.low K = true := by rw [List.mem_singleton.1 h]; rfl
/-- a row as a number -/
noncomputable def cxof (c : Sx.Cont) (j : Nat) : Nat × Nat := (Sx.cre (c.row j), Sx.cim (c.row j))
def CxRow (l : List Sx.AV) : Prop := Sx.RowGe l [.cpx true (Sx.cre l) (Sx.cim l)]
/-- what put is handed -/
def PutQ (x : Tx) (M : List (Tx × Int)) (u : Nat) (c : Sx.Cont) : Prop := (∀ i, Sx.lfind Sx.seq x M = some i → 0 ≤ i ∧ i < (u : Int)) ∧ ∀ j, j < u → CxRow (c.row j)
noncomputable def putS : List Sx.AV → Sx.M Sx.AV
 | [.ptr aN, .slc _ own aL u, .agg [.str _ x, .fn (.func k) [] []], .cpx _ s0 s1] =>
  (Sx.M.okIf (flat0 aN && flat0 aL && own && (Nat.beq k 21 || Nat.beq k 22))).andThen fun _ => (netAt aN.g).andThen fun w => (Sx.M.getB w.m2).andThen fun bm => (Sx.M.ofOpt (Sx.asSI bm)).andThen fun M => (Sx.getC aL.g).andThen fun c => (Sx.M.okIf (c.1 && Nat.beq c.2.1 1)).andThen fun _ => (Sx.M.req (c.2.2.1 = u ∧ PutQ x M.2 u c.2.2.2)).andThen fun _ => (Sx.M.setB w.m2 (.mSI true M.2)).andThen fun _ => (Sx.M.setB aL.g (.cells true 1 u (.fn (cxR (putV (bif Nat.beq k 21 then csub else cadd) x M.2 (cxof c.2.2.2) (s0, s1)).1)))).andThen fun _ => Sx.M.ret (.sbool (putV (bif Nat.beq k 21 then csub else cadd) x M.2 (cxof c.2.2.2) (s0, s1)).2)
 | _ => Sx.M.no
theorem putS_tch : ∀ args, Sx.Tch (putS args) := by
 intro args
 unfold putS
 split
 ·exact (Sx.Tch.okIf _).andThen fun _ => (Tch_netAt _).andThen fun _ => (Sx.Tch.getB _).andThen fun _ => (Sx.Tch.ofOpt _).andThen fun _ => (Sx.Tch.getC _).andThen fun _ => (Sx.Tch.okIf _).andThen fun _ => (Sx.Tch.req _).andThen fun _ => (Sx.Tch.setB _ _).andThen fun _ => (Sx.Tch.setB _ _).andThen fun _ => Sx.Tch.ret _
 ·exact Sx.Tch.no
theorem pz_goes (k : Nat) (hk : (Nat.beq k 21 || Nat.beq k 22) = true) (n q r u s0 s1 : Nat) (x : Tx) (M2 : List (Tx × Int)) (f : Nat → Nat × Nat) (hb : ∀ i, Sx.lfind Sx.seq x M2 = some i → 0 ≤ i ∧ i < (u : Int)) :
  Sx.GoesB Try.prog (Sx.bodyOf Try.f48) Try.f48.ntmps 11 11 12 (Sx.frameOf [.ptr ⟨false, 2, 0, 0⟩, .slc true true ⟨false, 10, 0, 0⟩ u, .agg [.str true x, .fn (.func k) [] []], .cpx true s0 s1] 0 .e) (Sx.hpL [(2, .cells false 7 1 (.fn fun _ => netR 6 7 8 n q r)), (4, .mSI true M2), (10, .cells true 1 u (.fn (cxR f)))]) (fun e fr' H' => e = .ret ∧ fr' = Sx.frL [(8, .sbool (putV (bif Nat.beq k 21 then csub else cadd) x M2 f (s0, s1)).2)] ∧ H' = Sx.hpL [(4, .mSI true M2), (10, .cells true 1 u (.fn (cxR (putV (bif Nat.beq k 21 then csub else cadd) x M2 f (s0, s1)).1)))]) := by
 rcases Bool.or_eq_true_iff.1 hk with h | h
 ·obtain rfl := Nat.eq_of_beq_eq_true h
  exact pzs_goes n q r u s0 s1 x M2 f hb
 ·obtain rfl := Nat.eq_of_beq_eq_true h
  exact pza_goes n q r u s0 s1 x M2 f hb
theorem putS_ok : ∀ args v g g', putS args g = .done v g' → Sx.CallIs Try.prog 48 args v g g' := by
 intro args v g g' h
 unfold putS at h
 split at h
 case h_2 => exact (Sx.no_done h).elim
 rename_i aN s own aL u sx x k sc s0 s1
 obtain ⟨_, g1, a1, h1⟩ := Sx.done_of h
 clear h
 obtain ⟨q0, rfl⟩ := Sx.okIf_done a1
 simp only [Bool.and_eq_true] at q0
 obtain ⟨⟨⟨q1, q2⟩, q3⟩, q4⟩ := q0
 subst q3
 have q1 := flat0_is q1
 have q2 := flat0_is q2
 obtain ⟨w, g2, a2, h2⟩ := Sx.done_of h1
 clear h1
 obtain ⟨rfl, ob, cb, t1, t2, t3, hN, eN, f1, f2, f3⟩ := netAt_done a2
 obtain ⟨bm, g3, a3, h3⟩ := Sx.done_of h2
 clear h2
 obtain ⟨hm, rfl⟩ := Sx.getB_done a3
 obtain ⟨⟨sm, M⟩, g4, a4, h4⟩ := Sx.done_of h3
 clear h3
 obtain ⟨em, rfl⟩ := Sx.ofOpt_done a4
 have em := Sx.asSI_some em
 subst em
 obtain ⟨⟨oL, zL, nL, cL⟩, g5, a5, h5⟩ := Sx.done_of h4
 clear h4
 obtain ⟨hL, rfl⟩ := Sx.getC_done a5
 obtain ⟨_, g6, a6, h6⟩ := Sx.done_of h5
 clear h5
 obtain ⟨c0, rfl⟩ := Sx.okIf_done a6
 simp only [Bool.and_eq_true] at c0
 obtain ⟨c1, c2⟩ := c0
 subst c1
 obtain rfl := Nat.eq_of_beq_eq_true c2
 obtain ⟨_, g7, a7, h7⟩ := Sx.done_of h6
 clear h6
 have kk := Sx.req_done a7
 obtain ⟨_, g8, a8, h8⟩ := Sx.done_of h7
 clear h7
 cases a8
 obtain ⟨_, g9, a9, h9⟩ := Sx.done_of h8
 clear h8
 cases a9
 obtain ⟨rfl, rfl⟩ := Sx.ret_done h9
 dsimp only at hm hL kk ⊢
 have d1 : aN.g ≠ w.m2 := fun c => by rw [c, hm] at hN; cases hN
 have d2 : aN.g ≠ aL.g := fun c => by rw [c, hL] at hN; cases hN
 have d3 : w.m2 ≠ aL.g := fun c => by rw [c, hL] at hm; cases hm
 let ρ : Nat → Nat := fun i => if i = 10 then aL.g else netRho aN.g w i
 refine Sx.smallCall (c := (Sx.bodyOf Try.f48)) Try.func48 (by kernel_rfl) (by kernel_rfl) (argsC := [.ptr ⟨false, 2, 0, 0⟩, .slc true true ⟨false, 10, 0, 0⟩ u, .agg [.str true x, .fn (.func k) [] []], .cpx true s0 s1]) (bl := [(2, .cells false 7 1 (.fn fun _ => netR 6 7 8 w.n w.q w.r)), (4, .mSI true M), (10, .cells true 1 u (.fn (cxR (cxof cL))))]) (bl' := [(4, .mSI true M), (10, .cells true 1 u (.fn (cxR (putV (bif Nat.beq k 21 then csub else cadd) x M (cxof cL) (s0, s1)).1)))]) (B0 := 11) (K0 := 11) (K' := 12) (v := .sbool (putV (bif Nat.beq k 21 then csub else cadd) x M (cxof cL) (s0, s1)).2) (g' := { g7 with H := (g7.H.upd w.m2 (some (Sx.ABk.mSI true M))).upd aL.g (some (Sx.ABk.cells true 1 u (.fn (cxR (putV (bif Nat.beq k 21 then csub else cadd) x M (cxof cL) (s0, s1)).1)))), tch := aL.g :: w.m2 :: g7.tch }) (p := _) (fun hc => kk.2.2 hc) kk.2.1 ρ ?_ ?_ ?_ ?_ ?_ ?_
 ·intro hp N μ cs hr
  simp only [Sx.Reps] at hr ⊢
  obtain ⟨v1, r1, rfl, i1, v2, r2, rfl, i2, v3, r3, rfl, i3, v4, r4, rfl, i4, rfl⟩ := hr
  refine ⟨v1, _, rfl, rep_ptr0 i1 q1.1 q1.2 (by omega) rfl, v2, _, rfl, ?_, v3, _, rfl, ?_, v4, _, rfl, ?_, rfl⟩
  ·exact Sx.AV.ge.slc _ _ _ rfl _ _ _ (Sx.rep_slc0 (K0 := 11) (ρ := ρ) (i := 10) i2 q2.1 q2.2 (by omega) rfl)
  ·simp only [Sx.Rep, Sx.Reps] at i3 ⊢
   exact i3
  ·simp only [Sx.Rep] at i4 ⊢
   exact i4
 ·intro hp i b hbb
  have hm' := Sx.hpL_get hbb
  simp only [List.mem_cons, List.not_mem_nil, or_false] at hm'
  rcases hm' with hm' | hm' | hm'
  ·cases hm'
   exact ⟨by omega, fun j hj v hv => List.all_eq_true.1 (show (netR 6 7 8 w.n w.q w.r).all (fun v => v.low 11) = true from rfl) v hv, _, hN, fun N μ hp k => view1 k (net_row eN f1 f2 f3 rfl rfl rfl rfl rfl rfl), fun h => (by cases h), fun μ m hr => .inl (by omega)⟩
  ·cases hm'
   exact ⟨by omega, trivial, _, hm, fun N μ hp k => k, fun _ => rfl, fun μ m hr => hr⟩
  ·cases hm'
   obtain ⟨rfl, hp⟩ := hp
   exact ⟨by omega, fun j hj v hv => cxR_low hv, _, hL, fun N μ hpp k => own1 k hp.2, fun _ => rfl, fun μ m hr => hr⟩
 ·intro hp i j b b' hi hj e
  have hm1 := Sx.hpL_get hi
  have hm2 := Sx.hpL_get hj
  simp only [List.mem_cons, List.not_mem_nil, or_false] at hm1 hm2
  rcases hm1 with hm1 | hm1 | hm1 <;> rcases hm2 with hm2 | hm2 | hm2 <;> cases hm1 <;> cases hm2 <;> first | rfl | exact absurd e d1 | exact absurd e d1.symm | exact absurd e d2 | exact absurd e d2.symm | exact absurd e d3 | exact absurd e d3.symm
 ·intro hp
  refine (pz_goes k q4 w.n w.q w.r u s0 s1 x M (cxof cL) hp.2.1).mono fun e fr' H' h => ?_
  obtain ⟨rfl, rfl, rfl⟩ := h
  exact ⟨.inl rfl, _, _, Sx.res1 (t := 8) (by kernel_rfl) rfl, trivial, Sx.AV.ge.refl _, (Sx.hs rfl), (Sx.hs rfl), trivial⟩
 ·rfl
 ·intro hp i b hi
  simp only [] at hi
  rw [Sx.T.get_upd] at hi
  split at hi
  ·rename_i e
   cases hi
   exact .inr ⟨10, _, by omega, e.symm, rfl, fun j hj u hu => cxR_low hu, rfl, rfl, fun μ m h => h⟩
  ·rename_i e
   rw [Sx.T.get_upd] at hi
   split at hi
   ·rename_i e2
    cases hi
    exact .inr ⟨4, _, by omega, e2.symm, rfl, trivial, rfl, rfl, fun μ m h => h⟩
   ·rename_i e2
    rw [kk.1] at hi
    refine .inl ⟨hi, fun j bj hj ho e3 => ?_⟩
    have hm' := Sx.hpL_get hj
    simp only [List.mem_cons, List.not_mem_nil, or_false] at hm'
    rcases hm' with hm' | hm' | hm'
    ·cases hm'; cases ho
    ·cases hm'; exact e2 e3.symm
    ·cases hm'; exact e e3.symm


noncomputable def gamP : Sx.Known := Sx.kc 36 Sx.ofBits (Sx.kc 62 Sx.toBits (Sx.kc 81 smallS (Sx.kc 66 kindS (Sx.kc 63 rowOfS (Sx.kc 82 ofS (Sx.kc 64 nameS (Sx.kc 65 nodeS (Sx.kc 37 chkS (Sx.kc 88 constS (Sx.kc 83 cosS (Sx.kc 68 root2S (Sx.kc 10 phS (Sx.kc 47 finS (Sx.kc 21 subS (Sx.kc 22 addS (Sx.kc 14 netofS (Sx.kc 15 elsS (Sx.kc 48 putS (Sx.kn)))))))))))))))))))
theorem gamP_ok : Sx.KnownOk Try.prog gamP := Sx.kc_ok ((Sx.ofBits_is Try.prog).callIs Try.func36 (by kernel_rfl) (by kernel_rfl) (by kernel_rfl) (by kernel_rfl)) (Sx.kc_ok ((Sx.toBits_is Try.prog).callIs Try.func62 (by kernel_rfl) (by kernel_rfl) (by kernel_rfl) (by kernel_rfl)) (Sx.kc_ok smallS_ok (Sx.kc_ok kindS_ok (Sx.kc_ok rowOfS_ok (Sx.kc_ok ofS_ok (Sx.kc_ok nameS_ok (Sx.kc_ok nodeS_ok (Sx.kc_ok chkS_ok (Sx.kc_ok constS_ok (Sx.kc_ok cosS_ok (Sx.kc_ok root2S_ok (Sx.kc_ok phS_ok (Sx.kc_ok finS_ok (Sx.kc_ok subS_ok (Sx.kc_ok addS_ok (Sx.kc_ok netofS_ok (Sx.kc_ok elsS_ok (Sx.kc_ok putS_ok (Sx.kn_ok)))))))))))))))))))
theorem gamP_tch : Sx.KnownT gamP := Sx.kc_tch Sx.Tch.ofBits (Sx.kc_tch Sx.Tch.toBits (Sx.kc_tch smallS_tch (Sx.kc_tch kindS_tch (Sx.kc_tch rowOfS_tch (Sx.kc_tch ofS_tch (Sx.kc_tch nameS_tch (Sx.kc_tch nodeS_tch (Sx.kc_tch chkS_tch (Sx.kc_tch constS_tch (Sx.kc_tch cosS_tch (Sx.kc_tch root2S_tch (Sx.kc_tch phS_tch (Sx.kc_tch finS_tch (Sx.kc_tch subS_tch (Sx.kc_tch addS_tch (Sx.kc_tch netofS_tch (Sx.kc_tch elsS_tch (Sx.kc_tch putS_tch (Sx.kn_tch)))))))))))))))))))
noncomputable def callP : Sx.Calls' := Sx.runN Try.prog gamP (Sx.regionC Try.prog) 1000 50
theorem callP_ok : Sx.CallOk Try.prog callP := Sx.engineC gamP_ok gamP_tch (by kernel_rfl) (by kernel_rfl) 1000 50
theorem callP_reg (n : Nat) : Sx.RegionOk Try.prog (Sx.regionC Try.prog callP n) n := Sx.runN_regionC gamP_ok gamP_tch (by kernel_rfl) (by kernel_rfl) 1000 50 n
noncomputable abbrev piececallP (f : Func) (c : Code) (fr : Sx.Fr) (H : Sx.T Sx.ABk) (K : Nat) (path : List Bool) : Sx.Res (Sx.Ex × Sx.Fr) :=
 Sx.codeA Try.prog callP (Sx.regionC Try.prog callP f.ntmps) Sx.noLoops f.ntmps 1000 c fr ⟨H, K, [], path, True⟩


/-- the zero element, as it is built -/
def zrow : List Sx.AV := [Sx.AV.int false .u8 0, Sx.AV.str false [], Sx.AV.str false [], Sx.AV.str false [], Sx.AV.str false [], Sx.AV.str false [], Sx.AV.flt false (0 : Nat), Sx.AV.int false .i64 0]
/-- a net's elements and the zero element -/
def apz (E : Nat → El) (n j : Nat) : List Sx.AV := bif decide (0 + j < n) then elR (E (0 + (0 + j))) else zrow
def apz0 (E : Nat → El) (n j : Nat) : List Sx.AV := bif decide (j < n) then elR (E (0 + j)) else zrow
def nvL (n q r : Nat) (E : Nat → El) (M1 M2 M3 : List (Tx × Int)) (nd br : Nat → Tx) : List (Nat × Sx.ABk) := [(2, .cells false 7 1 (.fn fun _ => netR 6 7 8 n q r)), (3, .mSI true M1), (4, .mSI true M2), (5, .mSI true M3), (6, .cells false 8 n (.fn fun j => elR (E j))), (7, .cells false 1 q (.fn (txR nd))), (8, .cells false 1 r (.fn (txR br)))]
def rlL (n q r u : Nat) (E : Nat → El) (M1 M2 M3 : List (Tx × Int)) (nd br : Nat → Tx) (f : Nat → Nat × Nat) : List (Nat × Sx.ABk) := [(2, .cells false 7 1 (.fn fun _ => netR 6 7 8 n q r)), (3, .mSI true M1), (4, .mSI true M2), (5, .mSI true M3), (6, .cells false 8 n (.fn fun j => elR (E j))), (7, .cells false 1 q (.fn (txR nd))), (8, .cells false 1 r (.fn (txR br))), (9, .cells true 2 1 (.fn fun _ => [.int false .i64 (0), .int false .i64 (0)])), (10, .cells true 1 u (.fn (cxR f))), (11, .cells true 8 n (.fn fun j => elR (E j)))]
theorem riB_r2 (z : El) (n q r i u s0 s1 : Nat) (E : Nat → El) (M1 M2 M3 : List (Tx × Int)) (nd br : Nat → Tx) (f : Nat → Nat × Nat) (t : Bool) (e3 : Int) (c0 : (0 : Nat) + n ≤ n) (c1 : n * (104 : Nat) ≤ (140737488355328 : Nat)) (c2 : n ≤ (9223372036854775807 : Nat)) (c3 : ∀ (i : Nat), i < n → ∀ (o : Nat) (v : Sx.AV), (elR (E ((0 : Nat) + i)))[o]? = Option.some v → Sx.AV.inS (fun g => Sx.inR [(0, 12), (12, 13), (12, 12)] g = true) v) (c4 : n ≤ n) (c5 : (n + (1 : Nat)) * (104 : Nat) ≤ (140737488355328 : Nat)) (c6 : n + (1 : Nat) ≤ (9223372036854775807 : Nat)) (c7 : ∀ (i : Nat), i < n + (1 : Nat) → ∀ (o : Nat) (v : Sx.AV), (apz0 E n i)[o]? = Option.some v → Sx.AV.inS (fun g => Sx.inR [(0, 12), (14, 15), (13, 14), (13, 13), (12, 13), (12, 12)] g = true) v) (c8 : (0 : Nat) + (n + (1 : Nat)) ≤ n + (1 : Nat)) (c9 : PEQ (n + (1 : Nat)) (apz E n)) (c10 : decide (Prod.fst (ofX (rowsE (apz E n)) (n + 1)) = (0 : Int)) = false) (c11 : decide (Prod.fst (ofX (rowsE (apz E n)) (n + 1)) = (1 : Int)) = false) : Sx.PieceN 40 (Sx.Ex.normal) [(0, .ptr ⟨false, 2, 0, 0⟩), (3, .ptr ⟨false, 9, 0, 0⟩)] (nvL n q r E M1 M2 M3 nd br ++ [(9, .cells true 2 1 (.fn fun x => [.int false .i64 0, .int false .i64 0]))]) (piececallP Try.f16 ((Sx.nav [1,0] (Sx.bodyOf Try.f16))) (Sx.frL [(0, .ptr ⟨false, 2, 0, 0⟩), (3, .ptr ⟨false, 9, 0, 0⟩)]) (Sx.hpL (nvL n q r E M1 M2 M3 nd br ++ [(9, .cells true 2 1 (.fn fun _ => [.int false .i64 (0), .int false .i64 (0)]))])) 10 [false, false]) := Sx.eqn (by kernel_rfl) (ai (ai (ai (ai (ai (ai (ai (ai (ai trivial c0) (ai c1 c2)) c3) (ai c4 (ai c5 c6))) c7) c8) c9) c10) c11)
theorem riA_r0 (z : El) (n q r i u s0 s1 : Nat) (E : Nat → El) (M1 M2 M3 : List (Tx × Int)) (nd br : Nat → Tx) (f : Nat → Nat × Nat) (t : Bool) (e3 : Int) : Sx.PieceN 10 (Sx.Ex.normal) [(0, .ptr ⟨false, 2, 0, 0⟩), (3, .ptr ⟨false, 9, 0, 0⟩)] (nvL n q r E M1 M2 M3 nd br ++ [(9, .cells true 2 1 (.lit [] (.n .e (some [.int false .i64 0, .int false .i64 0]) .e)))]) (piececallP Try.f16 ((Sx.nav [0] (Sx.bodyOf Try.f16))) (Sx.frameOf [.ptr ⟨false, 2, 0, 0⟩] 0 .e) (Sx.hpL (nvL n q r E M1 M2 M3 nd br)) 9 []) := Sx.eqn (by kernel_rfl) trivial
theorem riA (B : Nat) (hB : B ≤ 9) (z : El) (n q r i u s0 s1 : Nat) (E : Nat → El) (M1 M2 M3 : List (Tx × Int)) (nd br : Nat → Tx) (f : Nat → Nat × Nat) (t : Bool) (e3 : Int) : Sx.GoesB Try.prog ((Sx.nav [0] (Sx.bodyOf Try.f16))) Try.f16.ntmps B 9 10 (Sx.frameOf [.ptr ⟨false, 2, 0, 0⟩] 0 .e) (Sx.hpL (nvL n q r E M1 M2 M3 nd br)) fun e fr' H' => (e = .normal ∧ fr' = Sx.frL [(0, .ptr ⟨false, 2, 0, 0⟩), (3, .ptr ⟨false, 9, 0, 0⟩)] ∧ H' = Sx.hpL (nvL n q r E M1 M2 M3 nd br ++ [(9, .cells true 2 1 (.lit [] (.n .e (some [.int false .i64 0, .int false .i64 0]) .e)))])) := by
 exact (Sx.GoesB.runN callP_ok (callP_reg _) (Sx.LoopsIn.none _ _ _) (riA_r0 z n q r i u s0 s1 E M1 M2 M3 nd br f t e3) hB).mono fun e fr' H' h => h
theorem riC_r0 (z : El) (n q r i u s0 s1 : Nat) (E : Nat → El) (M1 M2 M3 : List (Tx × Int)) (nd br : Nat → Tx) (f : Nat → Nat × Nat) (t : Bool) (e3 : Int) (c0 : (-9223372036854775808 : Int) ≤ (↑q : Int) + (↑r : Int)) (c1 : (↑q : Int) + (↑r : Int) ≤ (9223372036854775807 : Int)) (c2 : (0 : Int) ≤ (↑q : Int) + (↑r : Int)) (c3 : (↑q : Int) + (↑r : Int) ≤ (↑q : Int) + (↑r : Int)) (c4 : (16 : Int) * ((↑q : Int) + (↑r : Int)) ≤ (140737488355328 : Int)) (c5 : (↑q : Int) + (↑r : Int) ≤ (9223372036854775807 : Int)) : Sx.PieceN 11 (Sx.Ex.normal) [(0, .ptr ⟨false, 2, 0, 0⟩), (3, .ptr ⟨false, 9, 0, 0⟩), (4, .slc true true ⟨false, 10, 0, 0⟩ (Int.toNat (Int.ofNat (q + r))))] (nvL n q r E M1 M2 M3 nd br ++ [(9, .cells true 2 1 (.fn fun x => [.int false .i64 0, .int false .i64 0])), (10, .cells true 1 (Int.toNat ((↑q : Int) + (↑r : Int))) (.fn fun x => [.cpx false (0 : Nat) (0 : Nat)]))]) (piececallP Try.f16 ((Sx.nav [1,1,0] (Sx.bodyOf Try.f16))) (Sx.frL [(0, .ptr ⟨false, 2, 0, 0⟩), (3, .ptr ⟨false, 9, 0, 0⟩)]) (Sx.hpL (nvL n q r E M1 M2 M3 nd br ++ [(9, .cells true 2 1 (.fn fun _ => [.int false .i64 (0), .int false .i64 (0)]))])) 10 []) := Sx.eqn (by kernel_rfl) (ai (ai trivial (ai c0 c1)) (ai c2 (ai c3 (ai c4 c5))))
theorem riC (B : Nat) (hB : B ≤ 10) (z : El) (n q r i u s0 s1 : Nat) (E : Nat → El) (M1 M2 M3 : List (Tx × Int)) (nd br : Nat → Tx) (f : Nat → Nat × Nat) (t : Bool) (e3 : Int) (x0 : ((↑q : Int) + (↑r : Int) ≤ (9223372036854775807 : Int))) (x1 : ((16 : Int) * ((↑q : Int) + (↑r : Int)) ≤ (140737488355328 : Int))) (x2 : ((↑q : Int) + (↑r : Int) ≤ (9223372036854775807 : Int))) : Sx.GoesB Try.prog ((Sx.nav [1,1,0] (Sx.bodyOf Try.f16))) Try.f16.ntmps B 10 11 (Sx.frL [(0, .ptr ⟨false, 2, 0, 0⟩), (3, .ptr ⟨false, 9, 0, 0⟩)]) (Sx.hpL (nvL n q r E M1 M2 M3 nd br ++ [(9, .cells true 2 1 (.fn fun _ => [.int false .i64 (0), .int false .i64 (0)]))])) fun e fr' H' => (e = .normal ∧ fr' = Sx.frL [(0, .ptr ⟨false, 2, 0, 0⟩), (3, .ptr ⟨false, 9, 0, 0⟩), (4, .slc true true ⟨false, 10, 0, 0⟩ (Int.toNat (Int.ofNat (q + r))))] ∧ H' = Sx.hpL (nvL n q r E M1 M2 M3 nd br ++ [(9, .cells true 2 1 (.fn fun x => [.int false .i64 0, .int false .i64 0])), (10, .cells true 1 (Int.toNat ((↑q : Int) + (↑r : Int))) (.fn fun x => [.cpx false (0 : Nat) (0 : Nat)]))])) := by
 exact (Sx.GoesB.runN callP_ok (callP_reg _) (Sx.LoopsIn.none _ _ _) (riC_r0 z n q r i u s0 s1 E M1 M2 M3 nd br f t e3 (by first | decide | omega) (x0) (by first | decide | omega) (by first | decide | omega) (x1) (x2)) hB).mono fun e fr' H' h => h
theorem riD_r0 (z : El) (n q r i u s0 s1 : Nat) (E : Nat → El) (M1 M2 M3 : List (Tx × Int)) (nd br : Nat → Tx) (f : Nat → Nat × Nat) (t : Bool) (e3 : Int) (c0 : (0 : Nat) + n ≤ n) (c1 : n * (104 : Nat) ≤ (140737488355328 : Nat)) (c2 : n ≤ (9223372036854775807 : Nat)) : Sx.PieceN 12 (Sx.Ex.normal) [(0, .ptr ⟨false, 2, 0, 0⟩), (3, .ptr ⟨false, 9, 0, 0⟩), (4, .slc true true ⟨false, 10, 0, 0⟩ u), (19, .slc true true ⟨false, 11, 0, 0⟩ n), (20, .int true .i64 (↑n : Int)), (21, .int false .i64 0)] (nvL n q r E M1 M2 M3 nd br ++ [(9, .cells true 2 1 (.fn fun x => [.int false .i64 0, .int false .i64 0])), (10, .cells true 1 u (.fn (cxR f))), (11, .cells true 8 n (.fn fun j => (elR (E ((0 : Nat) + j)))))]) (piececallP Try.f16 ((Sx.nav [1,1,1,0,0] (Sx.bodyOf Try.f16))) (Sx.frL [(0, .ptr ⟨false, 2, 0, 0⟩), (3, .ptr ⟨false, 9, 0, 0⟩), (4, .slc true true ⟨false, 10, 0, 0⟩ u)]) (Sx.hpL (nvL n q r E M1 M2 M3 nd br ++ [(9, .cells true 2 1 (.fn fun _ => [.int false .i64 (0), .int false .i64 (0)])), (10, .cells true 1 u (.fn (cxR f)))])) 11 []) := Sx.eqn (by kernel_rfl) (ai (ai trivial c0) (ai c1 c2))
theorem riD (B : Nat) (hB : B ≤ 11) (z : El) (n q r i u s0 s1 : Nat) (E : Nat → El) (M1 M2 M3 : List (Tx × Int)) (nd br : Nat → Tx) (f : Nat → Nat × Nat) (t : Bool) (e3 : Int) (x0 : (n * (104 : Nat) ≤ (140737488355328 : Nat))) (x1 : (n ≤ (9223372036854775807 : Nat))) : Sx.GoesB Try.prog ((Sx.nav [1,1,1,0,0] (Sx.bodyOf Try.f16))) Try.f16.ntmps B 11 12 (Sx.frL [(0, .ptr ⟨false, 2, 0, 0⟩), (3, .ptr ⟨false, 9, 0, 0⟩), (4, .slc true true ⟨false, 10, 0, 0⟩ u)]) (Sx.hpL (nvL n q r E M1 M2 M3 nd br ++ [(9, .cells true 2 1 (.fn fun _ => [.int false .i64 (0), .int false .i64 (0)])), (10, .cells true 1 u (.fn (cxR f)))])) fun e fr' H' => (e = .normal ∧ fr' = Sx.frL [(0, .ptr ⟨false, 2, 0, 0⟩), (3, .ptr ⟨false, 9, 0, 0⟩), (4, .slc true true ⟨false, 10, 0, 0⟩ u), (19, .slc true true ⟨false, 11, 0, 0⟩ n), (20, .int true .i64 (↑n : Int)), (21, .int false .i64 0)] ∧ H' = Sx.hpL (nvL n q r E M1 M2 M3 nd br ++ [(9, .cells true 2 1 (.fn fun x => [.int false .i64 0, .int false .i64 0])), (10, .cells true 1 u (.fn (cxR f))), (11, .cells true 8 n (.fn fun j => (elR (E ((0 : Nat) + j)))))])) := by
 exact (Sx.GoesB.runN callP_ok (callP_reg _) (Sx.LoopsIn.none _ _ _) (riD_r0 z n q r i u s0 s1 E M1 M2 M3 nd br f t e3 (by first | decide | omega) (x0) (x1)) hB).mono fun e fr' H' h => h
theorem reA_r0 (z : El) (n q r i u s0 s1 : Nat) (E : Nat → El) (M1 M2 M3 : List (Tx × Int)) (nd br : Nat → Tx) (f : Nat → Nat × Nat) (t : Bool) (e3 : Int) : Sx.PieceN 12 (Sx.Ex.normal) [(0, .ptr ⟨false, 2, 0, 0⟩), (3, .ptr ⟨false, 9, 0, 0⟩), (4, .slc true true ⟨false, 10, 0, 0⟩ u), (19, .slc true true ⟨false, 11, 0, 0⟩ n), (20, .int true .i64 (↑n : Int)), (21, .int true .i64 (↑i : Int)), (22, .sbool (decide ((↑i : Int) < (↑n : Int))))] (nvL n q r E M1 M2 M3 nd br ++ [(9, .cells true 2 1 (.fn fun x => [.int false .i64 0, .int false .i64 0])), (10, .cells true 1 u (.fn (cxR f))), (11, .cells true 8 n (.fn fun j => elR (E j)))]) (piececallP Try.f16 ((Sx.nav [1,1,1,0,1,0,0,0] (Sx.bodyOf Try.f16))) (Sx.frL [(0, .ptr ⟨false, 2, 0, 0⟩), (3, .ptr ⟨false, 9, 0, 0⟩), (4, .slc true true ⟨false, 10, 0, 0⟩ u), (19, .slc true true ⟨false, 11, 0, 0⟩ n), (20, .int true .i64 n), (21, .int true .i64 (i : Int))]) (Sx.hpL (rlL n q r u E M1 M2 M3 nd br f)) 12 []) := Sx.eqn (by kernel_rfl) trivial
theorem reA (B : Nat) (hB : B ≤ 12) (z : El) (n q r i u s0 s1 : Nat) (E : Nat → El) (M1 M2 M3 : List (Tx × Int)) (nd br : Nat → Tx) (f : Nat → Nat × Nat) (t : Bool) (e3 : Int) : Sx.GoesB Try.prog ((Sx.nav [1,1,1,0,1,0,0,0] (Sx.bodyOf Try.f16))) Try.f16.ntmps B 12 12 (Sx.frL [(0, .ptr ⟨false, 2, 0, 0⟩), (3, .ptr ⟨false, 9, 0, 0⟩), (4, .slc true true ⟨false, 10, 0, 0⟩ u), (19, .slc true true ⟨false, 11, 0, 0⟩ n), (20, .int true .i64 n), (21, .int true .i64 (i : Int))]) (Sx.hpL (rlL n q r u E M1 M2 M3 nd br f)) fun e fr' H' => (e = .normal ∧ fr' = Sx.frL [(0, .ptr ⟨false, 2, 0, 0⟩), (3, .ptr ⟨false, 9, 0, 0⟩), (4, .slc true true ⟨false, 10, 0, 0⟩ u), (19, .slc true true ⟨false, 11, 0, 0⟩ n), (20, .int true .i64 (↑n : Int)), (21, .int true .i64 (↑i : Int)), (22, .sbool (decide ((↑i : Int) < (↑n : Int))))] ∧ H' = Sx.hpL (nvL n q r E M1 M2 M3 nd br ++ [(9, .cells true 2 1 (.fn fun x => [.int false .i64 0, .int false .i64 0])), (10, .cells true 1 u (.fn (cxR f))), (11, .cells true 8 n (.fn fun j => elR (E j)))])) := by
 exact (Sx.GoesB.runN callP_ok (callP_reg _) (Sx.LoopsIn.none _ _ _) (reA_r0 z n q r i u s0 s1 E M1 M2 M3 nd br f t e3) hB).mono fun e fr' H' h => h
theorem reB_r0 (z : El) (n q r i u s0 s1 : Nat) (E : Nat → El) (M1 M2 M3 : List (Tx × Int)) (nd br : Nat → Tx) (f : Nat → Nat × Nat) (t : Bool) (e3 : Int) (c0 : t = true) : Sx.PieceN 12 (Sx.Ex.normal) [(0, .ptr ⟨false, 2, 0, 0⟩), (3, .ptr ⟨false, 9, 0, 0⟩), (4, .slc true true ⟨false, 10, 0, 0⟩ u), (19, .slc true true ⟨false, 11, 0, 0⟩ n), (20, .int true .i64 (↑n : Int)), (21, .int true .i64 (↑i : Int))] (nvL n q r E M1 M2 M3 nd br ++ [(9, .cells true 2 1 (.fn fun x => [.int false .i64 0, .int false .i64 0])), (10, .cells true 1 u (.fn (cxR f))), (11, .cells true 8 n (.fn fun j => elR (E j)))]) (piececallP Try.f16 ((Sx.nav [1,1,1,0,1,0,0,1,0] (Sx.bodyOf Try.f16))) (Sx.frL [(0, .ptr ⟨false, 2, 0, 0⟩), (3, .ptr ⟨false, 9, 0, 0⟩), (4, .slc true true ⟨false, 10, 0, 0⟩ u), (19, .slc true true ⟨false, 11, 0, 0⟩ n), (20, .int true .i64 n), (21, .int true .i64 (i : Int)), (22, .sbool t)]) (Sx.hpL (rlL n q r u E M1 M2 M3 nd br f)) 12 [true]) := Sx.eqn (by kernel_rfl) (ai trivial c0)
theorem reB_r1 (z : El) (n q r i u s0 s1 : Nat) (E : Nat → El) (M1 M2 M3 : List (Tx × Int)) (nd br : Nat → Tx) (f : Nat → Nat × Nat) (t : Bool) (e3 : Int) (c0 : t = false) : Sx.PieceN 12 (Sx.Ex.exit (0 : Nat)) [(0, .ptr ⟨false, 2, 0, 0⟩), (3, .ptr ⟨false, 9, 0, 0⟩), (4, .slc true true ⟨false, 10, 0, 0⟩ u), (19, .slc true true ⟨false, 11, 0, 0⟩ n), (20, .int true .i64 (↑n : Int)), (21, .int true .i64 (↑i : Int))] (nvL n q r E M1 M2 M3 nd br ++ [(9, .cells true 2 1 (.fn fun x => [.int false .i64 0, .int false .i64 0])), (10, .cells true 1 u (.fn (cxR f))), (11, .cells true 8 n (.fn fun j => elR (E j)))]) (piececallP Try.f16 ((Sx.nav [1,1,1,0,1,0,0,1,0] (Sx.bodyOf Try.f16))) (Sx.frL [(0, .ptr ⟨false, 2, 0, 0⟩), (3, .ptr ⟨false, 9, 0, 0⟩), (4, .slc true true ⟨false, 10, 0, 0⟩ u), (19, .slc true true ⟨false, 11, 0, 0⟩ n), (20, .int true .i64 n), (21, .int true .i64 (i : Int)), (22, .sbool t)]) (Sx.hpL (rlL n q r u E M1 M2 M3 nd br f)) 12 [false]) := Sx.eqn (by kernel_rfl) (ai trivial c0)
theorem reB (B : Nat) (hB : B ≤ 12) (z : El) (n q r i u s0 s1 : Nat) (E : Nat → El) (M1 M2 M3 : List (Tx × Int)) (nd br : Nat → Tx) (f : Nat → Nat × Nat) (t : Bool) (e3 : Int) : Sx.GoesB Try.prog ((Sx.nav [1,1,1,0,1,0,0,1,0] (Sx.bodyOf Try.f16))) Try.f16.ntmps B 12 12 (Sx.frL [(0, .ptr ⟨false, 2, 0, 0⟩), (3, .ptr ⟨false, 9, 0, 0⟩), (4, .slc true true ⟨false, 10, 0, 0⟩ u), (19, .slc true true ⟨false, 11, 0, 0⟩ n), (20, .int true .i64 n), (21, .int true .i64 (i : Int)), (22, .sbool t)]) (Sx.hpL (rlL n q r u E M1 M2 M3 nd br f)) fun e fr' H' => (cond (t) (e = .normal ∧ fr' = Sx.frL [(0, .ptr ⟨false, 2, 0, 0⟩), (3, .ptr ⟨false, 9, 0, 0⟩), (4, .slc true true ⟨false, 10, 0, 0⟩ u), (19, .slc true true ⟨false, 11, 0, 0⟩ n), (20, .int true .i64 (↑n : Int)), (21, .int true .i64 (↑i : Int))] ∧ H' = Sx.hpL (nvL n q r E M1 M2 M3 nd br ++ [(9, .cells true 2 1 (.fn fun x => [.int false .i64 0, .int false .i64 0])), (10, .cells true 1 u (.fn (cxR f))), (11, .cells true 8 n (.fn fun j => elR (E j)))])) (e = .exit 0 ∧ fr' = Sx.frL [(0, .ptr ⟨false, 2, 0, 0⟩), (3, .ptr ⟨false, 9, 0, 0⟩), (4, .slc true true ⟨false, 10, 0, 0⟩ u), (19, .slc true true ⟨false, 11, 0, 0⟩ n), (20, .int true .i64 (↑n : Int)), (21, .int true .i64 (↑i : Int))] ∧ H' = Sx.hpL (nvL n q r E M1 M2 M3 nd br ++ [(9, .cells true 2 1 (.fn fun x => [.int false .i64 0, .int false .i64 0])), (10, .cells true 1 u (.fn (cxR f))), (11, .cells true 8 n (.fn fun j => elR (E j)))]))) := by
 rcases Bool.eq_false_or_eq_true (t) with t0 | t0
 ·
  exact (Sx.GoesB.runN callP_ok (callP_reg _) (Sx.LoopsIn.none _ _ _) (reB_r0 z n q r i u s0 s1 E M1 M2 M3 nd br f t e3 t0) hB).mono fun e fr' H' h => by first | (simp only [t0, cond_true, cond_false]; exact h) | (simp only [t0, cond_true, cond_false] at h ⊢; exact h)
 ·
  exact (Sx.GoesB.runN callP_ok (callP_reg _) (Sx.LoopsIn.none _ _ _) (reB_r1 z n q r i u s0 s1 E M1 M2 M3 nd br f t e3 t0) hB).mono fun e fr' H' h => by first | (simp only [t0, cond_true, cond_false]; exact h) | (simp only [t0, cond_true, cond_false] at h ⊢; exact h)
theorem reC_r0 (z : El) (n q r i u s0 s1 : Nat) (E : Nat → El) (M1 M2 M3 : List (Tx × Int)) (nd br : Nat → Tx) (f : Nat → Nat × Nat) (t : Bool) (e3 : Int) (c0 : (0 : Int) ≤ (↑i : Int)) (c1 : (↑i : Int) < (↑n : Int)) (c2 : (0 : Nat) + i < n) (c3 : (8 : Nat) ≤ (8 : Nat)) : Sx.PieceN 13 (Sx.Ex.normal) [(0, .ptr ⟨false, 2, 0, 0⟩), (3, .ptr ⟨false, 9, 0, 0⟩), (4, .slc true true ⟨false, 10, 0, 0⟩ u), (5, .int true .i64 (↑i : Int)), (6, .ptr ⟨false, 12, 0, 0⟩), (19, .slc true true ⟨false, 11, 0, 0⟩ n), (20, .int true .i64 (↑n : Int)), (21, .int true .i64 (↑i : Int))] (nvL n q r E M1 M2 M3 nd br ++ [(9, .cells true 2 1 (.fn fun x => [.int false .i64 0, .int false .i64 0])), (10, .cells true 1 u (.fn (cxR f))), (11, .cells true 8 n (.fn fun j => elR (E j))), (12, .cells true 8 1 (.lit [] (Sx.T.n Sx.T.e (Option.some (elR (E ((0 : Nat) + i)))) Sx.T.e)))]) (piececallP Try.f16 ((Sx.nav [1,1,1,0,1,0,0,1,1,0,0,0] (Sx.bodyOf Try.f16))) (Sx.frL [(0, .ptr ⟨false, 2, 0, 0⟩), (3, .ptr ⟨false, 9, 0, 0⟩), (4, .slc true true ⟨false, 10, 0, 0⟩ u), (19, .slc true true ⟨false, 11, 0, 0⟩ n), (20, .int true .i64 n), (21, .int true .i64 (i : Int))]) (Sx.hpL (rlL n q r u E M1 M2 M3 nd br f)) 12 []) := Sx.eqn (by kernel_rfl) (ai (ai (ai trivial (ai c0 c1)) c2) c3)
theorem reC (B : Nat) (hB : B ≤ 12) (z : El) (n q r i u s0 s1 : Nat) (E : Nat → El) (M1 M2 M3 : List (Tx × Int)) (nd br : Nat → Tx) (f : Nat → Nat × Nat) (t : Bool) (e3 : Int) (x0 : ((↑i : Int) < (↑n : Int))) (x1 : ((0 : Nat) + i < n)) : Sx.GoesB Try.prog ((Sx.nav [1,1,1,0,1,0,0,1,1,0,0,0] (Sx.bodyOf Try.f16))) Try.f16.ntmps B 12 13 (Sx.frL [(0, .ptr ⟨false, 2, 0, 0⟩), (3, .ptr ⟨false, 9, 0, 0⟩), (4, .slc true true ⟨false, 10, 0, 0⟩ u), (19, .slc true true ⟨false, 11, 0, 0⟩ n), (20, .int true .i64 n), (21, .int true .i64 (i : Int))]) (Sx.hpL (rlL n q r u E M1 M2 M3 nd br f)) fun e fr' H' => (e = .normal ∧ fr' = Sx.frL [(0, .ptr ⟨false, 2, 0, 0⟩), (3, .ptr ⟨false, 9, 0, 0⟩), (4, .slc true true ⟨false, 10, 0, 0⟩ u), (5, .int true .i64 (↑i : Int)), (6, .ptr ⟨false, 12, 0, 0⟩), (19, .slc true true ⟨false, 11, 0, 0⟩ n), (20, .int true .i64 (↑n : Int)), (21, .int true .i64 (↑i : Int))] ∧ H' = Sx.hpL (nvL n q r E M1 M2 M3 nd br ++ [(9, .cells true 2 1 (.fn fun x => [.int false .i64 0, .int false .i64 0])), (10, .cells true 1 u (.fn (cxR f))), (11, .cells true 8 n (.fn fun j => elR (E j))), (12, .cells true 8 1 (.lit [] (Sx.T.n Sx.T.e (Option.some (elR (E ((0 : Nat) + i)))) Sx.T.e)))])) := by
 exact (Sx.GoesB.runN callP_ok (callP_reg _) (Sx.LoopsIn.none _ _ _) (reC_r0 z n q r i u s0 s1 E M1 M2 M3 nd br f t e3 (by first | decide | omega) (x0) (x1) (by first | decide | omega)) hB).mono fun e fr' H' h => h
theorem reD_r0 (z : El) (n q r i u s0 s1 : Nat) (E : Nat → El) (M1 M2 M3 : List (Tx × Int)) (nd br : Nat → Tx) (f : Nat → Nat × Nat) (t : Bool) (e3 : Int) : Sx.PieceN 13 (Sx.Ex.normal) [(0, .ptr ⟨false, 2, 0, 0⟩), (3, .ptr ⟨false, 9, 0, 0⟩), (4, .slc true true ⟨false, 10, 0, 0⟩ u), (5, .int true .i64 (↑i : Int)), (6, .ptr ⟨false, 12, 0, 0⟩), (7, .cpx true (ph_0 (El.k z) (El.n z) (El.a z) (El.b z) (El.c z) (El.d z) (El.v z) (El.ph z)) (ph_1 (El.k z) (El.n z) (El.a z) (El.b z) (El.c z) (El.d z) (El.v z) (El.ph z))), (8, .int true .i64 (ph_2 (El.k z) (El.n z) (El.a z) (El.b z) (El.c z) (El.d z) (El.v z) (El.ph z))), (19, .slc true true ⟨false, 11, 0, 0⟩ n), (20, .int true .i64 (↑n : Int)), (21, .int true .i64 (↑i : Int))] (nvL n q r E M1 M2 M3 nd br ++ [(9, .cells true 2 1 (.fn fun x => [.int false .i64 0, .int false .i64 0])), (10, .cells true 1 u (.fn (cxR f))), (11, .cells true 8 n (.fn fun j => elR (E j))), (12, .cells true 8 1 (.fn fun _ => elR z))]) (piececallP Try.f16 ((Sx.nav [1,1,1,0,1,0,0,1,1,0,0,1,0] (Sx.bodyOf Try.f16))) (Sx.frL [(0, .ptr ⟨false, 2, 0, 0⟩), (3, .ptr ⟨false, 9, 0, 0⟩), (4, .slc true true ⟨false, 10, 0, 0⟩ u), (19, .slc true true ⟨false, 11, 0, 0⟩ n), (20, .int true .i64 n), (21, .int true .i64 (i : Int)), (5, .int true .i64 (i : Int)), (6, .ptr ⟨false, 12, 0, 0⟩)]) (Sx.hpL (rlL n q r u E M1 M2 M3 nd br f ++ [(12, .cells true 8 1 (.fn fun _ => elR z))])) 13 []) := Sx.eqn (by kernel_rfl) trivial
theorem reD (B : Nat) (hB : B ≤ 13) (z : El) (n q r i u s0 s1 : Nat) (E : Nat → El) (M1 M2 M3 : List (Tx × Int)) (nd br : Nat → Tx) (f : Nat → Nat × Nat) (t : Bool) (e3 : Int) : Sx.GoesB Try.prog ((Sx.nav [1,1,1,0,1,0,0,1,1,0,0,1,0] (Sx.bodyOf Try.f16))) Try.f16.ntmps B 13 13 (Sx.frL [(0, .ptr ⟨false, 2, 0, 0⟩), (3, .ptr ⟨false, 9, 0, 0⟩), (4, .slc true true ⟨false, 10, 0, 0⟩ u), (19, .slc true true ⟨false, 11, 0, 0⟩ n), (20, .int true .i64 n), (21, .int true .i64 (i : Int)), (5, .int true .i64 (i : Int)), (6, .ptr ⟨false, 12, 0, 0⟩)]) (Sx.hpL (rlL n q r u E M1 M2 M3 nd br f ++ [(12, .cells true 8 1 (.fn fun _ => elR z))])) fun e fr' H' => (e = .normal ∧ fr' = Sx.frL [(0, .ptr ⟨false, 2, 0, 0⟩), (3, .ptr ⟨false, 9, 0, 0⟩), (4, .slc true true ⟨false, 10, 0, 0⟩ u), (5, .int true .i64 (↑i : Int)), (6, .ptr ⟨false, 12, 0, 0⟩), (7, .cpx true (ph_0 (El.k z) (El.n z) (El.a z) (El.b z) (El.c z) (El.d z) (El.v z) (El.ph z)) (ph_1 (El.k z) (El.n z) (El.a z) (El.b z) (El.c z) (El.d z) (El.v z) (El.ph z))), (8, .int true .i64 (ph_2 (El.k z) (El.n z) (El.a z) (El.b z) (El.c z) (El.d z) (El.v z) (El.ph z))), (19, .slc true true ⟨false, 11, 0, 0⟩ n), (20, .int true .i64 (↑n : Int)), (21, .int true .i64 (↑i : Int))] ∧ H' = Sx.hpL (nvL n q r E M1 M2 M3 nd br ++ [(9, .cells true 2 1 (.fn fun x => [.int false .i64 0, .int false .i64 0])), (10, .cells true 1 u (.fn (cxR f))), (11, .cells true 8 n (.fn fun j => elR (E j))), (12, .cells true 8 1 (.fn fun _ => elR z))])) := by
 exact (Sx.GoesB.runN callP_ok (callP_reg _) (Sx.LoopsIn.none _ _ _) (reD_r0 z n q r i u s0 s1 E M1 M2 M3 nd br f t e3) hB).mono fun e fr' H' h => h
theorem reE_r0 (z : El) (n q r i u s0 s1 : Nat) (E : Nat → El) (M1 M2 M3 : List (Tx × Int)) (nd br : Nat → Tx) (f : Nat → Nat × Nat) (t : Bool) (e3 : Int) (c0 : (!decide (e3 = (0 : Int))) = false) : Sx.PieceN 13 (Sx.Ex.normal) [(0, .ptr ⟨false, 2, 0, 0⟩), (3, .ptr ⟨false, 9, 0, 0⟩), (4, .slc true true ⟨false, 10, 0, 0⟩ u), (5, .int true .i64 (↑i : Int)), (6, .ptr ⟨false, 12, 0, 0⟩), (7, .cpx true s0 s1), (19, .slc true true ⟨false, 11, 0, 0⟩ n), (20, .int true .i64 (↑n : Int)), (21, .int true .i64 (↑i : Int))] (nvL n q r E M1 M2 M3 nd br ++ [(9, .cells true 2 1 (.fn fun x => [.int false .i64 0, .int false .i64 0])), (10, .cells true 1 u (.fn (cxR f))), (11, .cells true 8 n (.fn fun j => elR (E j))), (12, .cells true 8 1 (.fn fun _ => elR z))]) (piececallP Try.f16 ((Sx.nav [1,1,1,0,1,0,0,1,1,0,0,1,1,0] (Sx.bodyOf Try.f16))) (Sx.frL [(0, .ptr ⟨false, 2, 0, 0⟩), (3, .ptr ⟨false, 9, 0, 0⟩), (4, .slc true true ⟨false, 10, 0, 0⟩ u), (19, .slc true true ⟨false, 11, 0, 0⟩ n), (20, .int true .i64 n), (21, .int true .i64 (i : Int)), (5, .int true .i64 (i : Int)), (6, .ptr ⟨false, 12, 0, 0⟩), (7, .cpx true s0 s1), (8, .int true .i64 e3)]) (Sx.hpL (rlL n q r u E M1 M2 M3 nd br f ++ [(12, .cells true 8 1 (.fn fun _ => elR z))])) 13 [false]) := Sx.eqn (by kernel_rfl) (ai trivial c0)
theorem reE_r1 (z : El) (n q r i u s0 s1 : Nat) (E : Nat → El) (M1 M2 M3 : List (Tx × Int)) (nd br : Nat → Tx) (f : Nat → Nat × Nat) (t : Bool) (e3 : Int) (c0 : (!decide (e3 = (0 : Int))) = true) : Sx.PieceN 13 (Sx.Ex.exit (1 : Nat)) [(0, .ptr ⟨false, 2, 0, 0⟩), (3, .ptr ⟨false, 9, 0, 0⟩), (4, .slc true true ⟨false, 10, 0, 0⟩ u), (5, .int true .i64 (↑i : Int)), (6, .ptr ⟨false, 12, 0, 0⟩), (7, .cpx true s0 s1), (19, .slc true true ⟨false, 11, 0, 0⟩ n), (20, .int true .i64 (↑n : Int)), (21, .int true .i64 (↑i : Int))] (nvL n q r E M1 M2 M3 nd br ++ [(9, .cells true 2 1 (.fn fun x => [.int false .i64 0, .int false .i64 0])), (10, .cells true 1 u (.fn (cxR f))), (11, .cells true 8 n (.fn fun j => elR (E j))), (12, .cells true 8 1 (.fn fun _ => elR z))]) (piececallP Try.f16 ((Sx.nav [1,1,1,0,1,0,0,1,1,0,0,1,1,0] (Sx.bodyOf Try.f16))) (Sx.frL [(0, .ptr ⟨false, 2, 0, 0⟩), (3, .ptr ⟨false, 9, 0, 0⟩), (4, .slc true true ⟨false, 10, 0, 0⟩ u), (19, .slc true true ⟨false, 11, 0, 0⟩ n), (20, .int true .i64 n), (21, .int true .i64 (i : Int)), (5, .int true .i64 (i : Int)), (6, .ptr ⟨false, 12, 0, 0⟩), (7, .cpx true s0 s1), (8, .int true .i64 e3)]) (Sx.hpL (rlL n q r u E M1 M2 M3 nd br f ++ [(12, .cells true 8 1 (.fn fun _ => elR z))])) 13 [true]) := Sx.eqn (by kernel_rfl) (ai trivial c0)
theorem reE (B : Nat) (hB : B ≤ 13) (z : El) (n q r i u s0 s1 : Nat) (E : Nat → El) (M1 M2 M3 : List (Tx × Int)) (nd br : Nat → Tx) (f : Nat → Nat × Nat) (t : Bool) (e3 : Int) : Sx.GoesB Try.prog ((Sx.nav [1,1,1,0,1,0,0,1,1,0,0,1,1,0] (Sx.bodyOf Try.f16))) Try.f16.ntmps B 13 13 (Sx.frL [(0, .ptr ⟨false, 2, 0, 0⟩), (3, .ptr ⟨false, 9, 0, 0⟩), (4, .slc true true ⟨false, 10, 0, 0⟩ u), (19, .slc true true ⟨false, 11, 0, 0⟩ n), (20, .int true .i64 n), (21, .int true .i64 (i : Int)), (5, .int true .i64 (i : Int)), (6, .ptr ⟨false, 12, 0, 0⟩), (7, .cpx true s0 s1), (8, .int true .i64 e3)]) (Sx.hpL (rlL n q r u E M1 M2 M3 nd br f ++ [(12, .cells true 8 1 (.fn fun _ => elR z))])) fun e fr' H' => (cond (decide (e3 = (0 : Int))) (e = .normal ∧ fr' = Sx.frL [(0, .ptr ⟨false, 2, 0, 0⟩), (3, .ptr ⟨false, 9, 0, 0⟩), (4, .slc true true ⟨false, 10, 0, 0⟩ u), (5, .int true .i64 (↑i : Int)), (6, .ptr ⟨false, 12, 0, 0⟩), (7, .cpx true s0 s1), (19, .slc true true ⟨false, 11, 0, 0⟩ n), (20, .int true .i64 (↑n : Int)), (21, .int true .i64 (↑i : Int))] ∧ H' = Sx.hpL (nvL n q r E M1 M2 M3 nd br ++ [(9, .cells true 2 1 (.fn fun x => [.int false .i64 0, .int false .i64 0])), (10, .cells true 1 u (.fn (cxR f))), (11, .cells true 8 n (.fn fun j => elR (E j))), (12, .cells true 8 1 (.fn fun _ => elR z))])) (e = .exit 1 ∧ fr' = Sx.frL [(0, .ptr ⟨false, 2, 0, 0⟩), (3, .ptr ⟨false, 9, 0, 0⟩), (4, .slc true true ⟨false, 10, 0, 0⟩ u), (5, .int true .i64 (↑i : Int)), (6, .ptr ⟨false, 12, 0, 0⟩), (7, .cpx true s0 s1), (19, .slc true true ⟨false, 11, 0, 0⟩ n), (20, .int true .i64 (↑n : Int)), (21, .int true .i64 (↑i : Int))] ∧ H' = Sx.hpL (nvL n q r E M1 M2 M3 nd br ++ [(9, .cells true 2 1 (.fn fun x => [.int false .i64 0, .int false .i64 0])), (10, .cells true 1 u (.fn (cxR f))), (11, .cells true 8 n (.fn fun j => elR (E j))), (12, .cells true 8 1 (.fn fun _ => elR z))]))) := by
 cases t0 : decide (e3 = (0 : Int)) with
 | true =>
  exact (Sx.GoesB.runN callP_ok (callP_reg _) (Sx.LoopsIn.none _ _ _) (reE_r0 z n q r i u s0 s1 E M1 M2 M3 nd br f t e3 (by rw [t0]; rfl)) hB).mono fun e fr' H' h => by first | (simp only [t0, cond_true, cond_false]; exact h) | (simp only [t0, cond_true, cond_false] at h ⊢; exact h)
 | false =>
  exact (Sx.GoesB.runN callP_ok (callP_reg _) (Sx.LoopsIn.none _ _ _) (reE_r1 z n q r i u s0 s1 E M1 M2 M3 nd br f t e3 (by rw [t0]; rfl)) hB).mono fun e fr' H' h => by first | (simp only [t0, cond_true, cond_false]; exact h) | (simp only [t0, cond_true, cond_false] at h ⊢; exact h)
theorem reF_r0 (z : El) (n q r i u s0 s1 : Nat) (E : Nat → El) (M1 M2 M3 : List (Tx × Int)) (nd br : Nat → Tx) (f : Nat → Nat × Nat) (t : Bool) (e3 : Int) : Sx.PieceN 13 (Sx.Ex.normal) [(0, .ptr ⟨false, 2, 0, 0⟩), (3, .ptr ⟨false, 9, 0, 0⟩), (4, .slc true true ⟨false, 10, 0, 0⟩ u), (5, .int true .i64 (↑i : Int)), (6, .ptr ⟨false, 12, 0, 0⟩), (7, .cpx true s0 s1), (9, .bool true), (19, .slc true true ⟨false, 11, 0, 0⟩ n), (20, .int true .i64 (↑n : Int)), (21, .int true .i64 (↑i : Int))] (nvL n q r E M1 M2 M3 nd br ++ [(9, .cells true 2 1 (.fn fun x => [.int false .i64 0, .int false .i64 0])), (10, .cells true 1 u (.fn (cxR f))), (11, .cells true 8 n (.fn fun j => elR (E j))), (12, .cells true 8 1 (.fn fun _ => elR z))]) (piececallP Try.f16 ((Sx.nav [1,1,1,0,1,0,0,1,1,0,0,1,1,1,0] (Sx.bodyOf Try.f16))) (Sx.frL [(0, .ptr ⟨false, 2, 0, 0⟩), (3, .ptr ⟨false, 9, 0, 0⟩), (4, .slc true true ⟨false, 10, 0, 0⟩ u), (19, .slc true true ⟨false, 11, 0, 0⟩ n), (20, .int true .i64 n), (21, .int true .i64 (i : Int)), (5, .int true .i64 (i : Int)), (6, .ptr ⟨false, 12, 0, 0⟩), (7, .cpx true s0 s1)]) (Sx.hpL (rlL n q r u E M1 M2 M3 nd br f ++ [(12, .cells true 8 1 (.fn fun _ => elR z))])) 13 []) := Sx.eqn (by kernel_rfl) trivial
theorem reF (B : Nat) (hB : B ≤ 13) (z : El) (n q r i u s0 s1 : Nat) (E : Nat → El) (M1 M2 M3 : List (Tx × Int)) (nd br : Nat → Tx) (f : Nat → Nat × Nat) (t : Bool) (e3 : Int) : Sx.GoesB Try.prog ((Sx.nav [1,1,1,0,1,0,0,1,1,0,0,1,1,1,0] (Sx.bodyOf Try.f16))) Try.f16.ntmps B 13 13 (Sx.frL [(0, .ptr ⟨false, 2, 0, 0⟩), (3, .ptr ⟨false, 9, 0, 0⟩), (4, .slc true true ⟨false, 10, 0, 0⟩ u), (19, .slc true true ⟨false, 11, 0, 0⟩ n), (20, .int true .i64 n), (21, .int true .i64 (i : Int)), (5, .int true .i64 (i : Int)), (6, .ptr ⟨false, 12, 0, 0⟩), (7, .cpx true s0 s1)]) (Sx.hpL (rlL n q r u E M1 M2 M3 nd br f ++ [(12, .cells true 8 1 (.fn fun _ => elR z))])) fun e fr' H' => (e = .normal ∧ fr' = Sx.frL [(0, .ptr ⟨false, 2, 0, 0⟩), (3, .ptr ⟨false, 9, 0, 0⟩), (4, .slc true true ⟨false, 10, 0, 0⟩ u), (5, .int true .i64 (↑i : Int)), (6, .ptr ⟨false, 12, 0, 0⟩), (7, .cpx true s0 s1), (9, .bool true), (19, .slc true true ⟨false, 11, 0, 0⟩ n), (20, .int true .i64 (↑n : Int)), (21, .int true .i64 (↑i : Int))] ∧ H' = Sx.hpL (nvL n q r E M1 M2 M3 nd br ++ [(9, .cells true 2 1 (.fn fun x => [.int false .i64 0, .int false .i64 0])), (10, .cells true 1 u (.fn (cxR f))), (11, .cells true 8 n (.fn fun j => elR (E j))), (12, .cells true 8 1 (.fn fun _ => elR z))])) := by
 exact (Sx.GoesB.runN callP_ok (callP_reg _) (Sx.LoopsIn.none _ _ _) (reF_r0 z n q r i u s0 s1 E M1 M2 M3 nd br f t e3) hB).mono fun e fr' H' h => h
theorem reG_r0 (z : El) (n q r i u s0 s1 : Nat) (E : Nat → El) (M1 M2 M3 : List (Tx × Int)) (nd br : Nat → Tx) (f : Nat → Nat × Nat) (t : Bool) (e3 : Int) (c0 : decide (El.k z = (5 : Int)) = true) (c1 : (0 : Nat) + q ≤ q) (c2 : q * (16 : Nat) ≤ (140737488355328 : Nat)) (c3 : q ≤ (9223372036854775807 : Nat)) (c4 : (-9223372036854775808 : Int) ≤ (↑q : Int) + Option.getD (Sx.lfind Sx.seq (El.n z) M3) (0 : Int)) (c5 : (↑q : Int) + Option.getD (Sx.lfind Sx.seq (El.n z) M3) (0 : Int) ≤ (9223372036854775807 : Int)) (c6 : (0 : Int) ≤ (↑q : Int) + Option.getD (Sx.lfind Sx.seq (El.n z) M3) (0 : Int)) (c7 : (↑q : Int) + Option.getD (Sx.lfind Sx.seq (El.n z) M3) (0 : Int) < (↑u : Int)) (c8 : (0 : Nat) + Int.toNat ((↑q : Int) + Option.getD (Sx.lfind Sx.seq (El.n z) M3) (0 : Int)) < u) (c9 : (1 : Nat) ≤ (1 : Nat)) : Sx.PieceN 20 (Sx.Ex.normal) [(0, .ptr ⟨false, 2, 0, 0⟩), (3, .ptr ⟨false, 9, 0, 0⟩), (4, .slc true true ⟨false, 10, 0, 0⟩ u), (5, .int true .i64 (↑i : Int)), (9, .sbool (fin_0 s0 s1)), (19, .slc true true ⟨false, 11, 0, 0⟩ n), (20, .int true .i64 (↑n : Int)), (21, .int true .i64 (↑i : Int))] (nvL n q r E M1 M2 M3 nd br ++ [(9, .cells true 2 1 (.fn fun x => [.int false .i64 0, .int false .i64 0])), (10, .cells true 1 u (.fn fun j => bif Nat.beq j ((0 : Nat) + Int.toNat ((↑q : Int) + Option.getD (Sx.lfind Sx.seq (El.n z) M3) (0 : Int))) then [.cpx true s0 s1] else (cxR f j))), (11, .cells true 8 n (.fn fun j => elR (E j)))]) (piececallP Try.f16 ((Sx.nav [1,1,1,0,1,0,0,1,1,0,0,1,1,1,1,0] (Sx.bodyOf Try.f16))) (Sx.frL [(0, .ptr ⟨false, 2, 0, 0⟩), (3, .ptr ⟨false, 9, 0, 0⟩), (4, .slc true true ⟨false, 10, 0, 0⟩ u), (19, .slc true true ⟨false, 11, 0, 0⟩ n), (20, .int true .i64 n), (21, .int true .i64 (i : Int)), (5, .int true .i64 (i : Int)), (6, .ptr ⟨false, 12, 0, 0⟩), (7, .cpx true s0 s1), (9, .bool true)]) (Sx.hpL (rlL n q r u E M1 M2 M3 nd br f ++ [(12, .cells true 8 1 (.fn fun _ => elR z))])) 13 [true]) := Sx.eqn (by kernel_rfl) (ai (ai (ai (ai (ai (ai (ai trivial c0) c1) (ai c2 c3)) (ai c4 c5)) (ai c6 c7)) c8) c9)
theorem reG_r1 (z : El) (n q r i u s0 s1 : Nat) (E : Nat → El) (M1 M2 M3 : List (Tx × Int)) (nd br : Nat → Tx) (f : Nat → Nat × Nat) (t : Bool) (e3 : Int) (c0 : decide (El.k z = (5 : Int)) = false) (c1 : u = u) (c2 : ∀ (i : Int), Sx.lfind Sx.seq (El.a z) M2 = Option.some i → (0 : Int) ≤ i ∧ i < (↑u : Int)) (c3 : ∀ (j : Nat), j < u → CxRow (cxR f j)) (c4 : u = u) (c5 : ∀ (i : Int), Sx.lfind Sx.seq (El.b z) M2 = Option.some i → (0 : Int) ≤ i ∧ i < (↑u : Int)) (c6 : ∀ (j : Nat), j < u → CxRow (cxR (Prod.fst (putV csub (El.a z) M2 (cxof (.fn (cxR f))) (s0, s1))) j)) (c7 : Prod.snd (putV cadd (El.b z) M2 (cxof (.fn (cxR (Prod.fst (putV csub (El.a z) M2 (cxof (.fn (cxR f))) (s0, s1)))))) (s0, s1)) = true) : Sx.PieceN 20 (Sx.Ex.normal) [(0, .ptr ⟨false, 2, 0, 0⟩), (3, .ptr ⟨false, 9, 0, 0⟩), (4, .slc true true ⟨false, 10, 0, 0⟩ u), (5, .int true .i64 (↑i : Int)), (9, .sbool (Prod.snd (putV csub (El.a z) M2 (cxof (.fn (cxR f))) (s0, s1)))), (19, .slc true true ⟨false, 11, 0, 0⟩ n), (20, .int true .i64 (↑n : Int)), (21, .int true .i64 (↑i : Int))] (nvL n q r E M1 M2 M3 nd br ++ [(9, .cells true 2 1 (.fn fun x => [.int false .i64 0, .int false .i64 0])), (10, .cells true 1 u (.fn fun j => [.cpx true (Prod.fst (Prod.fst (putV cadd (El.b z) M2 (cxof (.fn (cxR (Prod.fst (putV csub (El.a z) M2 (cxof (.fn (cxR f))) (s0, s1)))))) (s0, s1)) j)) (Prod.snd (Prod.fst (putV cadd (El.b z) M2 (cxof (.fn (cxR (Prod.fst (putV csub (El.a z) M2 (cxof (.fn (cxR f))) (s0, s1)))))) (s0, s1)) j))])), (11, .cells true 8 n (.fn fun j => elR (E j)))]) (piececallP Try.f16 ((Sx.nav [1,1,1,0,1,0,0,1,1,0,0,1,1,1,1,0] (Sx.bodyOf Try.f16))) (Sx.frL [(0, .ptr ⟨false, 2, 0, 0⟩), (3, .ptr ⟨false, 9, 0, 0⟩), (4, .slc true true ⟨false, 10, 0, 0⟩ u), (19, .slc true true ⟨false, 11, 0, 0⟩ n), (20, .int true .i64 n), (21, .int true .i64 (i : Int)), (5, .int true .i64 (i : Int)), (6, .ptr ⟨false, 12, 0, 0⟩), (7, .cpx true s0 s1), (9, .bool true)]) (Sx.hpL (rlL n q r u E M1 M2 M3 nd br f ++ [(12, .cells true 8 1 (.fn fun _ => elR z))])) 13 [false, true]) := Sx.eqn (by kernel_rfl) (ai (ai (ai (ai trivial c0) (ai c1 (ai c2 c3))) (ai c4 (ai c5 c6))) c7)
theorem reG_r2 (z : El) (n q r i u s0 s1 : Nat) (E : Nat → El) (M1 M2 M3 : List (Tx × Int)) (nd br : Nat → Tx) (f : Nat → Nat × Nat) (t : Bool) (e3 : Int) (c0 : decide (El.k z = (5 : Int)) = false) (c1 : u = u) (c2 : ∀ (i : Int), Sx.lfind Sx.seq (El.a z) M2 = Option.some i → (0 : Int) ≤ i ∧ i < (↑u : Int)) (c3 : ∀ (j : Nat), j < u → CxRow (cxR f j)) (c4 : u = u) (c5 : ∀ (i : Int), Sx.lfind Sx.seq (El.b z) M2 = Option.some i → (0 : Int) ≤ i ∧ i < (↑u : Int)) (c6 : ∀ (j : Nat), j < u → CxRow (cxR (Prod.fst (putV csub (El.a z) M2 (cxof (.fn (cxR f))) (s0, s1))) j)) (c7 : Prod.snd (putV cadd (El.b z) M2 (cxof (.fn (cxR (Prod.fst (putV csub (El.a z) M2 (cxof (.fn (cxR f))) (s0, s1)))))) (s0, s1)) = false) : Sx.PieceN 20 (Sx.Ex.normal) [(0, .ptr ⟨false, 2, 0, 0⟩), (3, .ptr ⟨false, 9, 0, 0⟩), (4, .slc true true ⟨false, 10, 0, 0⟩ u), (5, .int true .i64 (↑i : Int)), (9, .bool false), (19, .slc true true ⟨false, 11, 0, 0⟩ n), (20, .int true .i64 (↑n : Int)), (21, .int true .i64 (↑i : Int))] (nvL n q r E M1 M2 M3 nd br ++ [(9, .cells true 2 1 (.fn fun x => [.int false .i64 0, .int false .i64 0])), (10, .cells true 1 u (.fn fun j => [.cpx true (Prod.fst (Prod.fst (putV cadd (El.b z) M2 (cxof (.fn (cxR (Prod.fst (putV csub (El.a z) M2 (cxof (.fn (cxR f))) (s0, s1)))))) (s0, s1)) j)) (Prod.snd (Prod.fst (putV cadd (El.b z) M2 (cxof (.fn (cxR (Prod.fst (putV csub (El.a z) M2 (cxof (.fn (cxR f))) (s0, s1)))))) (s0, s1)) j))])), (11, .cells true 8 n (.fn fun j => elR (E j)))]) (piececallP Try.f16 ((Sx.nav [1,1,1,0,1,0,0,1,1,0,0,1,1,1,1,0] (Sx.bodyOf Try.f16))) (Sx.frL [(0, .ptr ⟨false, 2, 0, 0⟩), (3, .ptr ⟨false, 9, 0, 0⟩), (4, .slc true true ⟨false, 10, 0, 0⟩ u), (19, .slc true true ⟨false, 11, 0, 0⟩ n), (20, .int true .i64 n), (21, .int true .i64 (i : Int)), (5, .int true .i64 (i : Int)), (6, .ptr ⟨false, 12, 0, 0⟩), (7, .cpx true s0 s1), (9, .bool true)]) (Sx.hpL (rlL n q r u E M1 M2 M3 nd br f ++ [(12, .cells true 8 1 (.fn fun _ => elR z))])) 13 [false, false]) := Sx.eqn (by kernel_rfl) (ai (ai (ai (ai trivial c0) (ai c1 (ai c2 c3))) (ai c4 (ai c5 c6))) c7)
theorem reG (B : Nat) (hB : B ≤ 13) (z : El) (n q r i u s0 s1 : Nat) (E : Nat → El) (M1 M2 M3 : List (Tx × Int)) (nd br : Nat → Tx) (f : Nat → Nat × Nat) (t : Bool) (e3 : Int) (x0 : ((decide (El.k z = (5 : Int))) = true → (q * (16 : Nat) ≤ (140737488355328 : Nat)))) (x1 : ((decide (El.k z = (5 : Int))) = true → (q ≤ (9223372036854775807 : Nat)))) (x2 : ((decide (El.k z = (5 : Int))) = true → ((-9223372036854775808 : Int) ≤ (↑q : Int) + Option.getD (Sx.lfind Sx.seq (El.n z) M3) (0 : Int)))) (x3 : ((decide (El.k z = (5 : Int))) = true → ((↑q : Int) + Option.getD (Sx.lfind Sx.seq (El.n z) M3) (0 : Int) ≤ (9223372036854775807 : Int)))) (x4 : ((decide (El.k z = (5 : Int))) = true → ((0 : Int) ≤ (↑q : Int) + Option.getD (Sx.lfind Sx.seq (El.n z) M3) (0 : Int)))) (x5 : ((decide (El.k z = (5 : Int))) = true → ((↑q : Int) + Option.getD (Sx.lfind Sx.seq (El.n z) M3) (0 : Int) < (↑u : Int)))) (x6 : ((decide (El.k z = (5 : Int))) = true → ((0 : Nat) + Int.toNat ((↑q : Int) + Option.getD (Sx.lfind Sx.seq (El.n z) M3) (0 : Int)) < u))) (x7 : ((decide (El.k z = (5 : Int))) = false → (u = u))) (x8 : ((decide (El.k z = (5 : Int))) = false → (∀ (i : Int), Sx.lfind Sx.seq (El.a z) M2 = Option.some i → (0 : Int) ≤ i ∧ i < (↑u : Int)))) (x9 : ((decide (El.k z = (5 : Int))) = false → (∀ (j : Nat), j < u → CxRow (cxR f j)))) (x10 : ((decide (El.k z = (5 : Int))) = false → (u = u))) (x11 : ((decide (El.k z = (5 : Int))) = false → (∀ (i : Int), Sx.lfind Sx.seq (El.b z) M2 = Option.some i → (0 : Int) ≤ i ∧ i < (↑u : Int)))) (x12 : ((decide (El.k z = (5 : Int))) = false → (∀ (j : Nat), j < u → CxRow (cxR (Prod.fst (putV csub (El.a z) M2 (cxof (.fn (cxR f))) (s0, s1))) j)))) : Sx.GoesB Try.prog ((Sx.nav [1,1,1,0,1,0,0,1,1,0,0,1,1,1,1,0] (Sx.bodyOf Try.f16))) Try.f16.ntmps B 13 20 (Sx.frL [(0, .ptr ⟨false, 2, 0, 0⟩), (3, .ptr ⟨false, 9, 0, 0⟩), (4, .slc true true ⟨false, 10, 0, 0⟩ u), (19, .slc true true ⟨false, 11, 0, 0⟩ n), (20, .int true .i64 n), (21, .int true .i64 (i : Int)), (5, .int true .i64 (i : Int)), (6, .ptr ⟨false, 12, 0, 0⟩), (7, .cpx true s0 s1), (9, .bool true)]) (Sx.hpL (rlL n q r u E M1 M2 M3 nd br f ++ [(12, .cells true 8 1 (.fn fun _ => elR z))])) fun e fr' H' => (cond (decide (El.k z = (5 : Int))) (e = .normal ∧ fr' = Sx.frL [(0, .ptr ⟨false, 2, 0, 0⟩), (3, .ptr ⟨false, 9, 0, 0⟩), (4, .slc true true ⟨false, 10, 0, 0⟩ u), (5, .int true .i64 (↑i : Int)), (9, .sbool (fin_0 s0 s1)), (19, .slc true true ⟨false, 11, 0, 0⟩ n), (20, .int true .i64 (↑n : Int)), (21, .int true .i64 (↑i : Int))] ∧ H' = Sx.hpL (nvL n q r E M1 M2 M3 nd br ++ [(9, .cells true 2 1 (.fn fun x => [.int false .i64 0, .int false .i64 0])), (10, .cells true 1 u (.fn fun j => bif Nat.beq j ((0 : Nat) + Int.toNat ((↑q : Int) + Option.getD (Sx.lfind Sx.seq (El.n z) M3) (0 : Int))) then [.cpx true s0 s1] else (cxR f j))), (11, .cells true 8 n (.fn fun j => elR (E j)))])) (cond (Prod.snd (putV cadd (El.b z) M2 (cxof (.fn (cxR (Prod.fst (putV csub (El.a z) M2 (cxof (.fn (cxR f))) (s0, s1)))))) (s0, s1))) (e = .normal ∧ fr' = Sx.frL [(0, .ptr ⟨false, 2, 0, 0⟩), (3, .ptr ⟨false, 9, 0, 0⟩), (4, .slc true true ⟨false, 10, 0, 0⟩ u), (5, .int true .i64 (↑i : Int)), (9, .sbool (Prod.snd (putV csub (El.a z) M2 (cxof (.fn (cxR f))) (s0, s1)))), (19, .slc true true ⟨false, 11, 0, 0⟩ n), (20, .int true .i64 (↑n : Int)), (21, .int true .i64 (↑i : Int))] ∧ H' = Sx.hpL (nvL n q r E M1 M2 M3 nd br ++ [(9, .cells true 2 1 (.fn fun x => [.int false .i64 0, .int false .i64 0])), (10, .cells true 1 u (.fn fun j => [.cpx true (Prod.fst (Prod.fst (putV cadd (El.b z) M2 (cxof (.fn (cxR (Prod.fst (putV csub (El.a z) M2 (cxof (.fn (cxR f))) (s0, s1)))))) (s0, s1)) j)) (Prod.snd (Prod.fst (putV cadd (El.b z) M2 (cxof (.fn (cxR (Prod.fst (putV csub (El.a z) M2 (cxof (.fn (cxR f))) (s0, s1)))))) (s0, s1)) j))])), (11, .cells true 8 n (.fn fun j => elR (E j)))])) (e = .normal ∧ fr' = Sx.frL [(0, .ptr ⟨false, 2, 0, 0⟩), (3, .ptr ⟨false, 9, 0, 0⟩), (4, .slc true true ⟨false, 10, 0, 0⟩ u), (5, .int true .i64 (↑i : Int)), (9, .bool false), (19, .slc true true ⟨false, 11, 0, 0⟩ n), (20, .int true .i64 (↑n : Int)), (21, .int true .i64 (↑i : Int))] ∧ H' = Sx.hpL (nvL n q r E M1 M2 M3 nd br ++ [(9, .cells true 2 1 (.fn fun x => [.int false .i64 0, .int false .i64 0])), (10, .cells true 1 u (.fn fun j => [.cpx true (Prod.fst (Prod.fst (putV cadd (El.b z) M2 (cxof (.fn (cxR (Prod.fst (putV csub (El.a z) M2 (cxof (.fn (cxR f))) (s0, s1)))))) (s0, s1)) j)) (Prod.snd (Prod.fst (putV cadd (El.b z) M2 (cxof (.fn (cxR (Prod.fst (putV csub (El.a z) M2 (cxof (.fn (cxR f))) (s0, s1)))))) (s0, s1)) j))])), (11, .cells true 8 n (.fn fun j => elR (E j)))])))) := by
 cases t0 : decide (El.k z = (5 : Int)) with
 | true =>
  exact (Sx.GoesB.runN callP_ok (callP_reg _) (Sx.LoopsIn.none _ _ _) (reG_r0 z n q r i u s0 s1 E M1 M2 M3 nd br f t e3 t0 (by first | decide | ((try simp only [decide_eq_true_eq, decide_eq_false_iff_not] at t0); (try simp only [List.length_take, List.length_drop]); omega)) (x0 t0) (x1 t0) (x2 t0) (x3 t0) (x4 t0) (x5 t0) (x6 t0) (by first | decide | ((try simp only [decide_eq_true_eq, decide_eq_false_iff_not] at t0); (try simp only [List.length_take, List.length_drop]); omega))) hB).mono fun e fr' H' h => by first | (simp only [t0, cond_true, cond_false]; exact h) | (simp only [t0, cond_true, cond_false] at h ⊢; exact h)
 | false =>
  cases t1 : Prod.snd (putV cadd (El.b z) M2 (cxof (.fn (cxR (Prod.fst (putV csub (El.a z) M2 (cxof (.fn (cxR f))) (s0, s1)))))) (s0, s1)) with
  | true =>
   exact (Sx.GoesB.runN callP_ok (callP_reg _) (Sx.LoopsIn.none _ _ _) (reG_r1 z n q r i u s0 s1 E M1 M2 M3 nd br f t e3 t0 (x7 t0) (x8 t0) (x9 t0) (x10 t0) (x11 t0) (x12 t0) t1) hB).mono fun e fr' H' h => by first | (simp only [t0, t1, cond_true, cond_false]; exact h) | (simp only [t0, t1, cond_true, cond_false] at h ⊢; exact h)
  | false =>
   exact (Sx.GoesB.runN callP_ok (callP_reg _) (Sx.LoopsIn.none _ _ _) (reG_r2 z n q r i u s0 s1 E M1 M2 M3 nd br f t e3 t0 (x7 t0) (x8 t0) (x9 t0) (x10 t0) (x11 t0) (x12 t0) t1) hB).mono fun e fr' H' h => by first | (simp only [t0, t1, cond_true, cond_false]; exact h) | (simp only [t0, t1, cond_true, cond_false] at h ⊢; exact h)
theorem reH_r0 (z : El) (n q r i u s0 s1 : Nat) (E : Nat → El) (M1 M2 M3 : List (Tx × Int)) (nd br : Nat → Tx) (f : Nat → Nat × Nat) (t : Bool) (e3 : Int) (c0 : (!t) = false) : Sx.PieceN 20 (Sx.Ex.normal) [(0, .ptr ⟨false, 2, 0, 0⟩), (3, .ptr ⟨false, 9, 0, 0⟩), (4, .slc true true ⟨false, 10, 0, 0⟩ u), (19, .slc true true ⟨false, 11, 0, 0⟩ n), (20, .int true .i64 (↑n : Int)), (21, .int true .i64 (↑i : Int))] (nvL n q r E M1 M2 M3 nd br ++ [(9, .cells true 2 1 (.fn fun x => [.int false .i64 0, .int false .i64 0])), (10, .cells true 1 u (.fn (cxR f))), (11, .cells true 8 n (.fn fun j => elR (E j)))]) (piececallP Try.f16 ((Sx.nav [1,1,1,0,1,0,0,1,1,0,0,1,1,1,1,1] (Sx.bodyOf Try.f16))) (Sx.frL [(0, .ptr ⟨false, 2, 0, 0⟩), (3, .ptr ⟨false, 9, 0, 0⟩), (4, .slc true true ⟨false, 10, 0, 0⟩ u), (19, .slc true true ⟨false, 11, 0, 0⟩ n), (20, .int true .i64 n), (21, .int true .i64 (i : Int)), (5, .int true .i64 (i : Int)), (9, .sbool t)]) (Sx.hpL (rlL n q r u E M1 M2 M3 nd br f)) 20 [false]) := Sx.eqn (by kernel_rfl) (ai trivial c0)
theorem reH_r1 (z : El) (n q r i u s0 s1 : Nat) (E : Nat → El) (M1 M2 M3 : List (Tx × Int)) (nd br : Nat → Tx) (f : Nat → Nat × Nat) (t : Bool) (e3 : Int) (c0 : (!t) = true) : Sx.PieceN 20 (Sx.Ex.ret) [(0, .ptr ⟨false, 2, 0, 0⟩), (2, .nils), (3, .ptr ⟨false, 9, 0, 0⟩), (4, .slc true true ⟨false, 10, 0, 0⟩ u), (19, .slc true true ⟨false, 11, 0, 0⟩ n), (20, .int true .i64 (↑n : Int)), (21, .int true .i64 (↑i : Int))] (nvL n q r E M1 M2 M3 nd br ++ [(9, .cells true 2 1 (.fn fun j => bif Nat.beq j 0 then [.int false .i64 6, .int true .i64 (↑i : Int)] else [.int false .i64 0, .int false .i64 0])), (10, .cells true 1 u (.fn (cxR f))), (11, .cells true 8 n (.fn fun j => elR (E j)))]) (piececallP Try.f16 ((Sx.nav [1,1,1,0,1,0,0,1,1,0,0,1,1,1,1,1] (Sx.bodyOf Try.f16))) (Sx.frL [(0, .ptr ⟨false, 2, 0, 0⟩), (3, .ptr ⟨false, 9, 0, 0⟩), (4, .slc true true ⟨false, 10, 0, 0⟩ u), (19, .slc true true ⟨false, 11, 0, 0⟩ n), (20, .int true .i64 n), (21, .int true .i64 (i : Int)), (5, .int true .i64 (i : Int)), (9, .sbool t)]) (Sx.hpL (rlL n q r u E M1 M2 M3 nd br f)) 20 [true]) := Sx.eqn (by kernel_rfl) (ai trivial c0)
theorem reH (B : Nat) (hB : B ≤ 20) (z : El) (n q r i u s0 s1 : Nat) (E : Nat → El) (M1 M2 M3 : List (Tx × Int)) (nd br : Nat → Tx) (f : Nat → Nat × Nat) (t : Bool) (e3 : Int) : Sx.GoesB Try.prog ((Sx.nav [1,1,1,0,1,0,0,1,1,0,0,1,1,1,1,1] (Sx.bodyOf Try.f16))) Try.f16.ntmps B 20 20 (Sx.frL [(0, .ptr ⟨false, 2, 0, 0⟩), (3, .ptr ⟨false, 9, 0, 0⟩), (4, .slc true true ⟨false, 10, 0, 0⟩ u), (19, .slc true true ⟨false, 11, 0, 0⟩ n), (20, .int true .i64 n), (21, .int true .i64 (i : Int)), (5, .int true .i64 (i : Int)), (9, .sbool t)]) (Sx.hpL (rlL n q r u E M1 M2 M3 nd br f)) fun e fr' H' => (cond (t) (e = .normal ∧ fr' = Sx.frL [(0, .ptr ⟨false, 2, 0, 0⟩), (3, .ptr ⟨false, 9, 0, 0⟩), (4, .slc true true ⟨false, 10, 0, 0⟩ u), (19, .slc true true ⟨false, 11, 0, 0⟩ n), (20, .int true .i64 (↑n : Int)), (21, .int true .i64 (↑i : Int))] ∧ H' = Sx.hpL (nvL n q r E M1 M2 M3 nd br ++ [(9, .cells true 2 1 (.fn fun x => [.int false .i64 0, .int false .i64 0])), (10, .cells true 1 u (.fn (cxR f))), (11, .cells true 8 n (.fn fun j => elR (E j)))])) (e = .ret ∧ fr' = Sx.frL [(0, .ptr ⟨false, 2, 0, 0⟩), (2, .nils), (3, .ptr ⟨false, 9, 0, 0⟩), (4, .slc true true ⟨false, 10, 0, 0⟩ u), (19, .slc true true ⟨false, 11, 0, 0⟩ n), (20, .int true .i64 (↑n : Int)), (21, .int true .i64 (↑i : Int))] ∧ H' = Sx.hpL (nvL n q r E M1 M2 M3 nd br ++ [(9, .cells true 2 1 (.fn fun j => bif Nat.beq j 0 then [.int false .i64 6, .int true .i64 (↑i : Int)] else [.int false .i64 0, .int false .i64 0])), (10, .cells true 1 u (.fn (cxR f))), (11, .cells true 8 n (.fn fun j => elR (E j)))]))) := by
 rcases Bool.eq_false_or_eq_true (t) with t0 | t0
 ·
  exact (Sx.GoesB.runN callP_ok (callP_reg _) (Sx.LoopsIn.none _ _ _) (reH_r0 z n q r i u s0 s1 E M1 M2 M3 nd br f t e3 (by rw [t0]; rfl)) hB).mono fun e fr' H' h => by first | (simp only [t0, cond_true, cond_false]; exact h) | (simp only [t0, cond_true, cond_false] at h ⊢; exact h)
 ·
  exact (Sx.GoesB.runN callP_ok (callP_reg _) (Sx.LoopsIn.none _ _ _) (reH_r1 z n q r i u s0 s1 E M1 M2 M3 nd br f t e3 (by rw [t0]; rfl)) hB).mono fun e fr' H' h => by first | (simp only [t0, cond_true, cond_false]; exact h) | (simp only [t0, cond_true, cond_false] at h ⊢; exact h)
theorem reI_r0 (z : El) (n q r i u s0 s1 : Nat) (E : Nat → El) (M1 M2 M3 : List (Tx × Int)) (nd br : Nat → Tx) (f : Nat → Nat × Nat) (t : Bool) (e3 : Int) (c0 : (-9223372036854775808 : Int) ≤ (↑i : Int) + (1 : Int)) (c1 : (↑i : Int) + (1 : Int) ≤ (9223372036854775807 : Int)) : Sx.PieceN 20 (Sx.Ex.normal) [(0, .ptr ⟨false, 2, 0, 0⟩), (3, .ptr ⟨false, 9, 0, 0⟩), (4, .slc true true ⟨false, 10, 0, 0⟩ u), (19, .slc true true ⟨false, 11, 0, 0⟩ n), (20, .int true .i64 (↑n : Int)), (21, .int true .i64 ((↑i : Int) + (1 : Int)))] (nvL n q r E M1 M2 M3 nd br ++ [(9, .cells true 2 1 (.fn fun x => [.int false .i64 0, .int false .i64 0])), (10, .cells true 1 u (.fn (cxR f))), (11, .cells true 8 n (.fn fun j => elR (E j)))]) (piececallP Try.f16 ((Sx.nav [1,1,1,0,1,0,0,1,1,1] (Sx.bodyOf Try.f16))) (Sx.frL [(0, .ptr ⟨false, 2, 0, 0⟩), (3, .ptr ⟨false, 9, 0, 0⟩), (4, .slc true true ⟨false, 10, 0, 0⟩ u), (19, .slc true true ⟨false, 11, 0, 0⟩ n), (20, .int true .i64 n), (21, .int true .i64 (i : Int))]) (Sx.hpL (rlL n q r u E M1 M2 M3 nd br f)) 20 []) := Sx.eqn (by kernel_rfl) (ai trivial (ai c0 c1))
theorem reI (B : Nat) (hB : B ≤ 20) (z : El) (n q r i u s0 s1 : Nat) (E : Nat → El) (M1 M2 M3 : List (Tx × Int)) (nd br : Nat → Tx) (f : Nat → Nat × Nat) (t : Bool) (e3 : Int) (x0 : ((↑i : Int) + (1 : Int) ≤ (9223372036854775807 : Int))) : Sx.GoesB Try.prog ((Sx.nav [1,1,1,0,1,0,0,1,1,1] (Sx.bodyOf Try.f16))) Try.f16.ntmps B 20 20 (Sx.frL [(0, .ptr ⟨false, 2, 0, 0⟩), (3, .ptr ⟨false, 9, 0, 0⟩), (4, .slc true true ⟨false, 10, 0, 0⟩ u), (19, .slc true true ⟨false, 11, 0, 0⟩ n), (20, .int true .i64 n), (21, .int true .i64 (i : Int))]) (Sx.hpL (rlL n q r u E M1 M2 M3 nd br f)) fun e fr' H' => (e = .normal ∧ fr' = Sx.frL [(0, .ptr ⟨false, 2, 0, 0⟩), (3, .ptr ⟨false, 9, 0, 0⟩), (4, .slc true true ⟨false, 10, 0, 0⟩ u), (19, .slc true true ⟨false, 11, 0, 0⟩ n), (20, .int true .i64 (↑n : Int)), (21, .int true .i64 ((↑i : Int) + (1 : Int)))] ∧ H' = Sx.hpL (nvL n q r E M1 M2 M3 nd br ++ [(9, .cells true 2 1 (.fn fun x => [.int false .i64 0, .int false .i64 0])), (10, .cells true 1 u (.fn (cxR f))), (11, .cells true 8 n (.fn fun j => elR (E j)))])) := by
 exact (Sx.GoesB.runN callP_ok (callP_reg _) (Sx.LoopsIn.none _ _ _) (reI_r0 z n q r i u s0 s1 E M1 M2 M3 nd br f t e3 (by first | decide | omega) (x0)) hB).mono fun e fr' H' h => h
theorem riE_r0 (z : El) (n q r i u s0 s1 : Nat) (E : Nat → El) (M1 M2 M3 : List (Tx × Int)) (nd br : Nat → Tx) (f : Nat → Nat × Nat) (t : Bool) (e3 : Int) : Sx.PieceN 12 (Sx.Ex.ret) [(2, .slc true true ⟨false, 10, 0, 0⟩ u), (3, .ptr ⟨false, 9, 0, 0⟩)] [(3, .mSI true M1), (4, .mSI true M2), (5, .mSI true M3), (9, .cells true 2 1 (.fn fun j => bif Nat.beq j 0 then [.int false .i64 0, .int false .i64 0] else [.int false .i64 0, .int false .i64 0])), (10, .cells true 1 u (.fn (cxR f)))] (piececallP Try.f16 ((Sx.nav [1,1,1,1] (Sx.bodyOf Try.f16))) (Sx.frL [(0, .ptr ⟨false, 2, 0, 0⟩), (3, .ptr ⟨false, 9, 0, 0⟩), (4, .slc true true ⟨false, 10, 0, 0⟩ u)]) (Sx.hpL (nvL n q r E M1 M2 M3 nd br ++ [(9, .cells true 2 1 (.fn fun _ => [.int false .i64 (0), .int false .i64 (0)])), (10, .cells true 1 u (.fn (cxR f)))])) 12 []) := Sx.eqn (by kernel_rfl) trivial
theorem riE (B : Nat) (hB : B ≤ 12) (z : El) (n q r i u s0 s1 : Nat) (E : Nat → El) (M1 M2 M3 : List (Tx × Int)) (nd br : Nat → Tx) (f : Nat → Nat × Nat) (t : Bool) (e3 : Int) : Sx.GoesB Try.prog ((Sx.nav [1,1,1,1] (Sx.bodyOf Try.f16))) Try.f16.ntmps B 12 12 (Sx.frL [(0, .ptr ⟨false, 2, 0, 0⟩), (3, .ptr ⟨false, 9, 0, 0⟩), (4, .slc true true ⟨false, 10, 0, 0⟩ u)]) (Sx.hpL (nvL n q r E M1 M2 M3 nd br ++ [(9, .cells true 2 1 (.fn fun _ => [.int false .i64 (0), .int false .i64 (0)])), (10, .cells true 1 u (.fn (cxR f)))])) fun e fr' H' => (e = .ret ∧ fr' = Sx.frL [(2, .slc true true ⟨false, 10, 0, 0⟩ u), (3, .ptr ⟨false, 9, 0, 0⟩)] ∧ H' = Sx.hpL [(3, .mSI true M1), (4, .mSI true M2), (5, .mSI true M3), (9, .cells true 2 1 (.fn fun j => bif Nat.beq j 0 then [.int false .i64 0, .int false .i64 0] else [.int false .i64 0, .int false .i64 0])), (10, .cells true 1 u (.fn (cxR f)))]) := by
 exact (Sx.GoesB.runN callP_ok (callP_reg _) (Sx.LoopsIn.none _ _ _) (riE_r0 z n q r i u s0 s1 E M1 M2 M3 nd br f t e3) hB).mono fun e fr' H' h => h


noncomputable def phE (z : El) : Nat × Nat := (ph_0 z.k z.n z.a z.b z.c z.d z.v z.ph, ph_1 z.k z.n z.a z.b z.c z.d z.v z.ph)
noncomputable def ph2E (z : El) : Int := ph_2 z.k z.n z.a z.b z.c z.d z.v z.ph
/-- what an element does to a net's right side; whether all stays finite -/
noncomputable def stepR (nodes brs : List Tx) (z : El) (f : Nat → Nat × Nat) : (Nat → Nat × Nat) × Bool :=
 bif decide (ph2E z = 0) then (bif decide (z.k = 5) then (upd1 f (nodes.length + ((pos z.n brs).getD 0)) (phE z), fin_0 (phE z).1 (phE z).2)
  else ((putV cadd z.b (zipF 0 nodes) (putV csub z.a (zipF 0 nodes) f (phE z)).1 (phE z)).1, (putV cadd z.b (zipF 0 nodes) (putV csub z.a (zipF 0 nodes) f (phE z)).1 (phE z)).2 && (putV csub z.a (zipF 0 nodes) f (phE z)).2))
 else (f, true)
noncomputable def RF (E : Nat → El) (n : Nat) : Nat → Nat → Nat × Nat
 | 0 => fun _ => (0, 0)
 | i + 1 => (stepR (ND E n) (BR E n) (E i) (RF E n i)).1
noncomputable def RB (E : Nat → El) (n i : Nat) : Bool := (stepR (ND E n) (BR E n) (E i) (RF E n i)).2
def ulen (E : Nat → El) (n : Nat) : Nat := (ND E n).length + (BR E n).length
theorem BR_in {E : Nat → El} : ∀ {n i : Nat}, i < n → isBr (E i) = true → (E i).n ∈ BR E n
 | n + 1, i, h, hb => by
  unfold BR
  by_cases c : i < n
  ·have := BR_in c hb
   cases isBr (E n) <;> simp [this]
  ·obtain rfl : i = n := by omega
   rw [hb]; simp
theorem find_br {E : Nat → El} {n i : Nat} (hi : i < n) (hk : (E i).k = 5) : ∃ m, m < (BR E n).length ∧ pos (E i).n (BR E n) = some m ∧ Sx.lfind Sx.seq (E i).n (zipF 0 (BR E n)) = some (m : Int) := by
 obtain ⟨m, hm⟩ := pos_some (BR_in hi (isBr_5 (decide_eq_true hk)))
 exact ⟨m, (pos_lt hm).1, hm, by rw [find_zip, hm]; simp⟩
theorem find_nd {nodes : List Tx} {x : Tx} {u : Nat} (hu : nodes.length ≤ u) : ∀ i, Sx.lfind Sx.seq x (zipF 0 nodes) = some i → 0 ≤ i ∧ i < (u : Int) := by
 intro i h
 rw [find_zip] at h
 cases q : pos x nodes with
 | none => rw [q] at h; cases h
 | some m =>
  rw [q] at h
  cases h
  have := (pos_lt q).1
  simp only [Nat.zero_add]
  omega
theorem cx_row (f : Nat → Nat × Nat) (j : Nat) : CxRow ((Sx.Cont.fn (cxR f)).row j) := ⟨Sx.AV.ge.refl _, rfl, trivial⟩
theorem cxof_fn (f : Nat → Nat × Nat) : cxof (.fn (cxR f)) = f := by funext j; rfl


theorem re_body : (Sx.nav [1,1,1,0,1,0,0] (Sx.bodyOf Try.f16)) = .seq (Sx.nav [1,1,1,0,1,0,0,0] (Sx.bodyOf Try.f16)) (.seq (Sx.nav [1,1,1,0,1,0,0,1,0] (Sx.bodyOf Try.f16)) (.seq (.block 1 (.seq (Sx.nav [1,1,1,0,1,0,0,1,1,0,0,0] (Sx.bodyOf Try.f16)) (.seq (Sx.nav [1,1,1,0,1,0,0,1,1,0,0,1,0] (Sx.bodyOf Try.f16)) (.seq (Sx.nav [1,1,1,0,1,0,0,1,1,0,0,1,1,0] (Sx.bodyOf Try.f16)) (.seq (Sx.nav [1,1,1,0,1,0,0,1,1,0,0,1,1,1,0] (Sx.bodyOf Try.f16)) (.seq (Sx.nav [1,1,1,0,1,0,0,1,1,0,0,1,1,1,1,0] (Sx.bodyOf Try.f16)) (Sx.nav [1,1,1,0,1,0,0,1,1,0,0,1,1,1,1,1] (Sx.bodyOf Try.f16)))))))) (Sx.nav [1,1,1,0,1,0,0,1,1,1] (Sx.bodyOf Try.f16)))) := by kernel_rfl
theorem RF_skip {E : Nat → El} {n i : Nat} (h : ph2E (E i) ≠ 0) : RF E n (i + 1) = RF E n i ∧ RB E n i = true := by
 unfold RB
 rw [RF, stepR, decide_eq_false h]
 exact ⟨rfl, rfl⟩
theorem re_main (n i : Nat) (E : Nat → El) (hi : i < n) (hn : n ≤ 256) (hp : ph2E (E i) = 0) :
  Sx.GoesB Try.prog (Sx.nav [1,1,1,0,1,0,0,1,1,0,0,1,1,1,1,0] (Sx.bodyOf Try.f16)) Try.f16.ntmps 9 13 20 (Sx.frL [(0, .ptr ⟨false, 2, 0, 0⟩), (3, .ptr ⟨false, 9, 0, 0⟩), (4, .slc true true ⟨false, 10, 0, 0⟩ (ulen E n)), (19, .slc true true ⟨false, 11, 0, 0⟩ n), (20, .int true .i64 n), (21, .int true .i64 (i : Int)), (5, .int true .i64 (i : Int)), (6, .ptr ⟨false, 12, 0, 0⟩), (7, .cpx true (phE (E i)).1 (phE (E i)).2), (9, .bool true)]) (Sx.hpL [(2, .cells false 7 1 (.fn fun _ => netR 6 7 8 n (ND E n).length (BR E n).length)), (3, .mSI true (zipF 0 (NM E n))), (4, .mSI true (zipF 0 (ND E n))), (5, .mSI true (zipF 0 (BR E n))), (6, .cells false 8 (n) (.fn fun j => elR (E j))), (7, .cells false 1 ((ND E n).length) (.fn (txR (lget (ND E n))))), (8, .cells false 1 ((BR E n).length) (.fn (txR (lget (BR E n))))), (9, .cells true 2 1 (.fn fun _ => [.int false .i64 (0), .int false .i64 (0)])), (10, .cells true 1 (ulen E n) (.fn (cxR (RF E n i)))), (11, .cells true 8 n (.fn fun j => elR (E j))), (12, .cells true 8 1 (.fn fun _ => elR (E i)))]) (Sx.Nm [(0, .ptr ⟨false, 2, 0, 0⟩), (3, .ptr ⟨false, 9, 0, 0⟩), (4, .slc true true ⟨false, 10, 0, 0⟩ (ulen E n)), (19, .slc true true ⟨false, 11, 0, 0⟩ n), (20, .int true .i64 n), (21, .int true .i64 (i : Int)), (5, .int true .i64 (i : Int)), (9, .sbool (RB E n i))] [(2, .cells false 7 1 (.fn fun _ => netR 6 7 8 n (ND E n).length (BR E n).length)), (3, .mSI true (zipF 0 (NM E n))), (4, .mSI true (zipF 0 (ND E n))), (5, .mSI true (zipF 0 (BR E n))), (6, .cells false 8 (n) (.fn fun j => elR (E j))), (7, .cells false 1 ((ND E n).length) (.fn (txR (lget (ND E n))))), (8, .cells false 1 ((BR E n).length) (.fn (txR (lget (BR E n))))), (9, .cells true 2 1 (.fn fun _ => [.int false .i64 (0), .int false .i64 (0)])), (10, .cells true 1 (ulen E n) (.fn (cxR (RF E n (i + 1))))), (11, .cells true 8 n (.fn fun j => elR (E j)))]) := by
 have lq := ND_b E n hn
 have lr := BR_b E n hn
 have hu : (ND E n).length ≤ ulen E n := by unfold ulen; omega
 have hh := reG 9 (by omega) (E i) n (ND E n).length (BR E n).length i (ulen E n) (phE (E i)).1 (phE (E i)).2 E (zipF 0 (NM E n)) (zipF 0 (ND E n)) (zipF 0 (BR E n)) (lget (ND E n)) (lget (BR E n)) (RF E n i) false 0
 by_cases h5 : (E i).k = 5
 ·obtain ⟨m, m1, m2, m3⟩ := find_br hi h5
  have e5 : (((ND E n).length : Int) + (Sx.lfind Sx.seq (E i).n (zipF 0 (BR E n))).getD 0) = (((ND E n).length + m : Nat) : Int) := by rw [m3]; simp
  have hlt : (ND E n).length + m < ulen E n := by unfold ulen; omega
  have e1 : RF E n (i + 1) = upd1 (RF E n i) ((ND E n).length + m) (phE (E i)) ∧ RB E n i = fin_0 (phE (E i)).1 (phE (E i)).2 := by
   unfold RB
   rw [RF, stepR, decide_eq_true hp, decide_eq_true h5, m2]
   exact ⟨rfl, rfl⟩
  refine (hh (fun _ => by omega) (fun _ => by omega) (fun _ => by rw [e5]; omega) (fun _ => by rw [e5]; omega) (fun _ => by rw [e5]; omega) (fun _ => by rw [e5]; omega) (fun _ => by rw [e5, Int.toNat_natCast, Nat.zero_add]; exact hlt) (fun h => absurd h5 (of_decide_eq_false h)) (fun h => absurd h5 (of_decide_eq_false h)) (fun h => absurd h5 (of_decide_eq_false h)) (fun h => absurd h5 (of_decide_eq_false h)) (fun h => absurd h5 (of_decide_eq_false h)) (fun h => absurd h5 (of_decide_eq_false h))).post fun e fr' H' h => ?_
  rw [decide_eq_true h5, cond_true] at h
  obtain ⟨rfl, rfl, rfl⟩ := h
  refine ⟨[(0, .ptr ⟨false, 2, 0, 0⟩), (3, .ptr ⟨false, 9, 0, 0⟩), (4, .slc true true ⟨false, 10, 0, 0⟩ (ulen E n)), (19, .slc true true ⟨false, 11, 0, 0⟩ n), (20, .int true .i64 n), (21, .int true .i64 (i : Int)), (5, .int true .i64 (i : Int)), (9, .sbool (RB E n i))], [(2, .cells false 7 1 (.fn fun _ => netR 6 7 8 n (ND E n).length (BR E n).length)), (3, .mSI true (zipF 0 (NM E n))), (4, .mSI true (zipF 0 (ND E n))), (5, .mSI true (zipF 0 (BR E n))), (6, .cells false 8 (n) (.fn fun j => elR (E j))), (7, .cells false 1 ((ND E n).length) (.fn (txR (lget (ND E n))))), (8, .cells false 1 ((BR E n).length) (.fn (txR (lget (BR E n))))), (9, .cells true 2 1 (.fn fun _ => [.int false .i64 (0), .int false .i64 (0)])), (10, .cells true 1 (ulen E n) (.fn (cxR (RF E n (i + 1))))), (11, .cells true 8 n (.fn fun j => elR (E j)))], ⟨(Sx.re rfl), (Sx.re rfl), (Sx.re rfl), (Sx.re rfl), (Sx.re rfl), (Sx.re rfl), (Sx.re rfl), ⟨_, rfl, Sx.AV.ge.sbool' e1.2.symm⟩, trivial⟩, ⟨(Sx.hs rfl), (Sx.hs rfl), (Sx.hs rfl), (Sx.hs rfl), (Sx.hs rfl), (Sx.hs rfl), (Sx.hs rfl), (Sx.hs rfl), gR rfl rfl (fun j hj => ?_), (Sx.hs rfl), trivial⟩, rfl, rfl, rfl⟩
  rw [e1.1, e5, Int.toNat_natCast, Nat.zero_add]
  exact row_upd (RF E n i) _ j (phE (E i))
 ·have c1 : ∀ (f : Nat → Nat × Nat) (j : Nat), j < ulen E n → CxRow (cxR f j) := fun f j _ => ⟨Sx.AV.ge.refl _, rfl, trivial⟩
  have e1 : RF E n (i + 1) = (putV cadd (E i).b (zipF 0 (ND E n)) (putV csub (E i).a (zipF 0 (ND E n)) (RF E n i) (phE (E i))).1 (phE (E i))).1 ∧ RB E n i = ((putV cadd (E i).b (zipF 0 (ND E n)) (putV csub (E i).a (zipF 0 (ND E n)) (RF E n i) (phE (E i))).1 (phE (E i))).2 && (putV csub (E i).a (zipF 0 (ND E n)) (RF E n i) (phE (E i))).2) := by
   unfold RB
   rw [RF, stepR, decide_eq_true hp, decide_eq_false h5]
   exact ⟨rfl, rfl⟩
  refine (hh (fun h => absurd (of_decide_eq_true h) h5) (fun h => absurd (of_decide_eq_true h) h5) (fun h => absurd (of_decide_eq_true h) h5) (fun h => absurd (of_decide_eq_true h) h5) (fun h => absurd (of_decide_eq_true h) h5) (fun h => absurd (of_decide_eq_true h) h5) (fun h => absurd (of_decide_eq_true h) h5) (fun _ => rfl) (fun _ => find_nd hu) (fun _ => c1 _) (fun _ => rfl) (fun _ => find_nd hu) (fun _ => c1 _)).post fun e fr' H' h => ?_
  rw [decide_eq_false h5, cond_false] at h
  simp only [cxof_fn] at h
  refine Sx.cond_elim h (fun t h => ?_) (fun t h => ?_)
  ·obtain ⟨rfl, rfl, rfl⟩ := h
   refine ⟨[(0, .ptr ⟨false, 2, 0, 0⟩), (3, .ptr ⟨false, 9, 0, 0⟩), (4, .slc true true ⟨false, 10, 0, 0⟩ (ulen E n)), (19, .slc true true ⟨false, 11, 0, 0⟩ n), (20, .int true .i64 n), (21, .int true .i64 (i : Int)), (5, .int true .i64 (i : Int)), (9, .sbool (RB E n i))], [(2, .cells false 7 1 (.fn fun _ => netR 6 7 8 n (ND E n).length (BR E n).length)), (3, .mSI true (zipF 0 (NM E n))), (4, .mSI true (zipF 0 (ND E n))), (5, .mSI true (zipF 0 (BR E n))), (6, .cells false 8 (n) (.fn fun j => elR (E j))), (7, .cells false 1 ((ND E n).length) (.fn (txR (lget (ND E n))))), (8, .cells false 1 ((BR E n).length) (.fn (txR (lget (BR E n))))), (9, .cells true 2 1 (.fn fun _ => [.int false .i64 (0), .int false .i64 (0)])), (10, .cells true 1 (ulen E n) (.fn (cxR (RF E n (i + 1))))), (11, .cells true 8 n (.fn fun j => elR (E j)))], ⟨(Sx.re rfl), (Sx.re rfl), (Sx.re rfl), (Sx.re rfl), (Sx.re rfl), (Sx.re rfl), (Sx.re rfl), ⟨_, rfl, Sx.AV.ge.sbool' ?_⟩, trivial⟩, ⟨(Sx.hs rfl), (Sx.hs rfl), (Sx.hs rfl), (Sx.hs rfl), (Sx.hs rfl), (Sx.hs rfl), (Sx.hs rfl), (Sx.hs rfl), gR rfl rfl (fun j hj => ?_), (Sx.hs rfl), trivial⟩, rfl, rfl, rfl⟩
   ·rw [e1.2]
    show _ = ((putV cadd (E i).b (zipF 0 (ND E n)) (putV csub (E i).a (zipF 0 (ND E n)) (RF E n i) ((phE (E i)).1, (phE (E i)).2)).1 ((phE (E i)).1, (phE (E i)).2)).2 && _)
    rw [t, Bool.true_and]
   ·rw [e1.1]; rfl
  ·obtain ⟨rfl, rfl, rfl⟩ := h
   refine ⟨[(0, .ptr ⟨false, 2, 0, 0⟩), (3, .ptr ⟨false, 9, 0, 0⟩), (4, .slc true true ⟨false, 10, 0, 0⟩ (ulen E n)), (19, .slc true true ⟨false, 11, 0, 0⟩ n), (20, .int true .i64 n), (21, .int true .i64 (i : Int)), (5, .int true .i64 (i : Int)), (9, .sbool (RB E n i))], [(2, .cells false 7 1 (.fn fun _ => netR 6 7 8 n (ND E n).length (BR E n).length)), (3, .mSI true (zipF 0 (NM E n))), (4, .mSI true (zipF 0 (ND E n))), (5, .mSI true (zipF 0 (BR E n))), (6, .cells false 8 (n) (.fn fun j => elR (E j))), (7, .cells false 1 ((ND E n).length) (.fn (txR (lget (ND E n))))), (8, .cells false 1 ((BR E n).length) (.fn (txR (lget (BR E n))))), (9, .cells true 2 1 (.fn fun _ => [.int false .i64 (0), .int false .i64 (0)])), (10, .cells true 1 (ulen E n) (.fn (cxR (RF E n (i + 1))))), (11, .cells true 8 n (.fn fun j => elR (E j)))], ⟨(Sx.re rfl), (Sx.re rfl), (Sx.re rfl), (Sx.re rfl), (Sx.re rfl), (Sx.re rfl), (Sx.re rfl), ⟨_, rfl, Sx.AV.ge.bool' ?_⟩, trivial⟩, ⟨(Sx.hs rfl), (Sx.hs rfl), (Sx.hs rfl), (Sx.hs rfl), (Sx.hs rfl), (Sx.hs rfl), (Sx.hs rfl), (Sx.hs rfl), gR rfl rfl (fun j hj => ?_), (Sx.hs rfl), trivial⟩, rfl, rfl, rfl⟩
   ·rw [e1.2]
    show _ = ((putV cadd (E i).b (zipF 0 (ND E n)) (putV csub (E i).a (zipF 0 (ND E n)) (RF E n i) ((phE (E i)).1, (phE (E i)).2)).1 ((phE (E i)).1, (phE (E i)).2)).2 && _)
    rw [t, Bool.false_and]
   ·rw [e1.1]; rfl
/-- an element's round up to the test of what it sends over -/
theorem re_pre (n i : Nat) (E : Nat → El) (hi : i < n) (hn : n ≤ 256) {K' : Nat} (hK : 20 ≤ K') {Post : Sx.Po} (hp : ph2E (E i) = 0)
  (k : Sx.GoesB Try.prog (Sx.nav [1,1,1,0,1,0,0,1,1,0,0,1,1,1,1,1] (Sx.bodyOf Try.f16)) Try.f16.ntmps 9 20 K' (Sx.frL [(0, .ptr ⟨false, 2, 0, 0⟩), (3, .ptr ⟨false, 9, 0, 0⟩), (4, .slc true true ⟨false, 10, 0, 0⟩ (ulen E n)), (19, .slc true true ⟨false, 11, 0, 0⟩ n), (20, .int true .i64 n), (21, .int true .i64 (i : Int)), (5, .int true .i64 (i : Int)), (9, .sbool (RB E n i))]) (Sx.hpL [(2, .cells false 7 1 (.fn fun _ => netR 6 7 8 n (ND E n).length (BR E n).length)), (3, .mSI true (zipF 0 (NM E n))), (4, .mSI true (zipF 0 (ND E n))), (5, .mSI true (zipF 0 (BR E n))), (6, .cells false 8 (n) (.fn fun j => elR (E j))), (7, .cells false 1 ((ND E n).length) (.fn (txR (lget (ND E n))))), (8, .cells false 1 ((BR E n).length) (.fn (txR (lget (BR E n))))), (9, .cells true 2 1 (.fn fun _ => [.int false .i64 (0), .int false .i64 (0)])), (10, .cells true 1 (ulen E n) (.fn (cxR (RF E n (i + 1))))), (11, .cells true 8 n (.fn fun j => elR (E j)))]) Post) :
  Sx.GoesB Try.prog (.seq (Sx.nav [1,1,1,0,1,0,0,1,1,0,0,0] (Sx.bodyOf Try.f16)) (.seq (Sx.nav [1,1,1,0,1,0,0,1,1,0,0,1,0] (Sx.bodyOf Try.f16)) (.seq (Sx.nav [1,1,1,0,1,0,0,1,1,0,0,1,1,0] (Sx.bodyOf Try.f16)) (.seq (Sx.nav [1,1,1,0,1,0,0,1,1,0,0,1,1,1,0] (Sx.bodyOf Try.f16)) (.seq (Sx.nav [1,1,1,0,1,0,0,1,1,0,0,1,1,1,1,0] (Sx.bodyOf Try.f16)) (Sx.nav [1,1,1,0,1,0,0,1,1,0,0,1,1,1,1,1] (Sx.bodyOf Try.f16))))))) Try.f16.ntmps 9 12 K' (Sx.frL [(0, .ptr ⟨false, 2, 0, 0⟩), (3, .ptr ⟨false, 9, 0, 0⟩), (4, .slc true true ⟨false, 10, 0, 0⟩ (ulen E n)), (19, .slc true true ⟨false, 11, 0, 0⟩ n), (20, .int true .i64 n), (21, .int true .i64 (i : Int))]) (Sx.hpL [(2, .cells false 7 1 (.fn fun _ => netR 6 7 8 n (ND E n).length (BR E n).length)), (3, .mSI true (zipF 0 (NM E n))), (4, .mSI true (zipF 0 (ND E n))), (5, .mSI true (zipF 0 (BR E n))), (6, .cells false 8 (n) (.fn fun j => elR (E j))), (7, .cells false 1 ((ND E n).length) (.fn (txR (lget (ND E n))))), (8, .cells false 1 ((BR E n).length) (.fn (txR (lget (BR E n))))), (9, .cells true 2 1 (.fn fun _ => [.int false .i64 (0), .int false .i64 (0)])), (10, .cells true 1 (ulen E n) (.fn (cxR (RF E n i)))), (11, .cells true 8 n (.fn fun j => elR (E j)))]) Post := by
 refine Sx.GoesB.seqN (K1 := 13) (F1 := [(0, .ptr ⟨false, 2, 0, 0⟩), (3, .ptr ⟨false, 9, 0, 0⟩), (4, .slc true true ⟨false, 10, 0, 0⟩ (ulen E n)), (19, .slc true true ⟨false, 11, 0, 0⟩ n), (20, .int true .i64 n), (21, .int true .i64 (i : Int)), (5, .int true .i64 (i : Int)), (6, .ptr ⟨false, 12, 0, 0⟩)]) (H1 := [(2, .cells false 7 1 (.fn fun _ => netR 6 7 8 n (ND E n).length (BR E n).length)), (3, .mSI true (zipF 0 (NM E n))), (4, .mSI true (zipF 0 (ND E n))), (5, .mSI true (zipF 0 (BR E n))), (6, .cells false 8 (n) (.fn fun j => elR (E j))), (7, .cells false 1 ((ND E n).length) (.fn (txR (lget (ND E n))))), (8, .cells false 1 ((BR E n).length) (.fn (txR (lget (BR E n))))), (9, .cells true 2 1 (.fn fun _ => [.int false .i64 (0), .int false .i64 (0)])), (10, .cells true 1 (ulen E n) (.fn (cxR (RF E n i)))), (11, .cells true 8 n (.fn fun j => elR (E j))), (12, .cells true 8 1 (.fn fun _ => elR (E i)))]) (Sx.GoesB.toN (reC 9 (by omega) (E i) n (ND E n).length (BR E n).length i (ulen E n) 0 0 E (zipF 0 (NM E n)) (zipF 0 (ND E n)) (zipF 0 (BR E n)) (lget (ND E n)) (lget (BR E n)) (RF E n i) false 0 (by omega) (by omega)) ⟨(Sx.re rfl), (Sx.re rfl), (Sx.re rfl), (Sx.re rfl), (Sx.re rfl), (Sx.re rfl), (Sx.re rfl), (Sx.re rfl), trivial⟩ ⟨(Sx.hs rfl), (Sx.hs rfl), (Sx.hs rfl), (Sx.hs rfl), (Sx.hs rfl), (Sx.hs rfl), (Sx.hs rfl), (Sx.hs rfl), (Sx.hs rfl), (Sx.hs rfl), hbl1 rfl (by show elR (E (0 + i)) = elR (E i); rw [Nat.zero_add]), trivial⟩) (by omega) ?_
 refine Sx.GoesB.seqN (K1 := 13) (F1 := [(0, .ptr ⟨false, 2, 0, 0⟩), (3, .ptr ⟨false, 9, 0, 0⟩), (4, .slc true true ⟨false, 10, 0, 0⟩ (ulen E n)), (19, .slc true true ⟨false, 11, 0, 0⟩ n), (20, .int true .i64 n), (21, .int true .i64 (i : Int)), (5, .int true .i64 (i : Int)), (6, .ptr ⟨false, 12, 0, 0⟩), (7, .cpx true (phE (E i)).1 (phE (E i)).2), (8, .int true .i64 (ph2E (E i)))]) (H1 := [(2, .cells false 7 1 (.fn fun _ => netR 6 7 8 n (ND E n).length (BR E n).length)), (3, .mSI true (zipF 0 (NM E n))), (4, .mSI true (zipF 0 (ND E n))), (5, .mSI true (zipF 0 (BR E n))), (6, .cells false 8 (n) (.fn fun j => elR (E j))), (7, .cells false 1 ((ND E n).length) (.fn (txR (lget (ND E n))))), (8, .cells false 1 ((BR E n).length) (.fn (txR (lget (BR E n))))), (9, .cells true 2 1 (.fn fun _ => [.int false .i64 (0), .int false .i64 (0)])), (10, .cells true 1 (ulen E n) (.fn (cxR (RF E n i)))), (11, .cells true 8 n (.fn fun j => elR (E j))), (12, .cells true 8 1 (.fn fun _ => elR (E i)))]) (Sx.GoesB.toN (reD 9 (by omega) (E i) n (ND E n).length (BR E n).length i (ulen E n) 0 0 E (zipF 0 (NM E n)) (zipF 0 (ND E n)) (zipF 0 (BR E n)) (lget (ND E n)) (lget (BR E n)) (RF E n i) false 0) ⟨(Sx.re rfl), (Sx.re rfl), (Sx.re rfl), (Sx.re rfl), (Sx.re rfl), (Sx.re rfl), (Sx.re rfl), (Sx.re rfl), (Sx.re rfl), (Sx.re rfl), trivial⟩ ⟨(Sx.hs rfl), (Sx.hs rfl), (Sx.hs rfl), (Sx.hs rfl), (Sx.hs rfl), (Sx.hs rfl), (Sx.hs rfl), (Sx.hs rfl), (Sx.hs rfl), (Sx.hs rfl), (Sx.hs rfl), trivial⟩) (by omega) ?_
 refine Sx.GoesB.seqN (K1 := 13) (F1 := [(0, .ptr ⟨false, 2, 0, 0⟩), (3, .ptr ⟨false, 9, 0, 0⟩), (4, .slc true true ⟨false, 10, 0, 0⟩ (ulen E n)), (19, .slc true true ⟨false, 11, 0, 0⟩ n), (20, .int true .i64 n), (21, .int true .i64 (i : Int)), (5, .int true .i64 (i : Int)), (6, .ptr ⟨false, 12, 0, 0⟩), (7, .cpx true (phE (E i)).1 (phE (E i)).2)]) (H1 := [(2, .cells false 7 1 (.fn fun _ => netR 6 7 8 n (ND E n).length (BR E n).length)), (3, .mSI true (zipF 0 (NM E n))), (4, .mSI true (zipF 0 (ND E n))), (5, .mSI true (zipF 0 (BR E n))), (6, .cells false 8 (n) (.fn fun j => elR (E j))), (7, .cells false 1 ((ND E n).length) (.fn (txR (lget (ND E n))))), (8, .cells false 1 ((BR E n).length) (.fn (txR (lget (BR E n))))), (9, .cells true 2 1 (.fn fun _ => [.int false .i64 (0), .int false .i64 (0)])), (10, .cells true 1 (ulen E n) (.fn (cxR (RF E n i)))), (11, .cells true 8 n (.fn fun j => elR (E j))), (12, .cells true 8 1 (.fn fun _ => elR (E i)))]) (Sx.GoesB.toN (F := [(0, .ptr ⟨false, 2, 0, 0⟩), (3, .ptr ⟨false, 9, 0, 0⟩), (4, .slc true true ⟨false, 10, 0, 0⟩ (ulen E n)), (19, .slc true true ⟨false, 11, 0, 0⟩ n), (20, .int true .i64 n), (21, .int true .i64 (i : Int)), (5, .int true .i64 (i : Int)), (6, .ptr ⟨false, 12, 0, 0⟩), (7, .cpx true (phE (E i)).1 (phE (E i)).2)]) (H1 := [(2, .cells false 7 1 (.fn fun _ => netR 6 7 8 n (ND E n).length (BR E n).length)), (3, .mSI true (zipF 0 (NM E n))), (4, .mSI true (zipF 0 (ND E n))), (5, .mSI true (zipF 0 (BR E n))), (6, .cells false 8 (n) (.fn fun j => elR (E j))), (7, .cells false 1 ((ND E n).length) (.fn (txR (lget (ND E n))))), (8, .cells false 1 ((BR E n).length) (.fn (txR (lget (BR E n))))), (9, .cells true 2 1 (.fn fun _ => [.int false .i64 (0), .int false .i64 (0)])), (10, .cells true 1 (ulen E n) (.fn (cxR (RF E n i)))), (11, .cells true 8 n (.fn fun j => elR (E j))), (12, .cells true 8 1 (.fn fun _ => elR (E i)))]) ((reE 9 (by omega) (E i) n (ND E n).length (BR E n).length i (ulen E n) (phE (E i)).1 (phE (E i)).2 E (zipF 0 (NM E n)) (zipF 0 (ND E n)) (zipF 0 (BR E n)) (lget (ND E n)) (lget (BR E n)) (RF E n i) false (ph2E (E i))).mono fun e fr' H' h => by
  rw [decide_eq_true hp, cond_true] at h
  exact h) ⟨(Sx.re rfl), (Sx.re rfl), (Sx.re rfl), (Sx.re rfl), (Sx.re rfl), (Sx.re rfl), (Sx.re rfl), (Sx.re rfl), (Sx.re rfl), trivial⟩ ⟨(Sx.hs rfl), (Sx.hs rfl), (Sx.hs rfl), (Sx.hs rfl), (Sx.hs rfl), (Sx.hs rfl), (Sx.hs rfl), (Sx.hs rfl), (Sx.hs rfl), (Sx.hs rfl), (Sx.hs rfl), trivial⟩) (by omega) ?_
 refine Sx.GoesB.seqN (K1 := 13) (F1 := [(0, .ptr ⟨false, 2, 0, 0⟩), (3, .ptr ⟨false, 9, 0, 0⟩), (4, .slc true true ⟨false, 10, 0, 0⟩ (ulen E n)), (19, .slc true true ⟨false, 11, 0, 0⟩ n), (20, .int true .i64 n), (21, .int true .i64 (i : Int)), (5, .int true .i64 (i : Int)), (6, .ptr ⟨false, 12, 0, 0⟩), (7, .cpx true (phE (E i)).1 (phE (E i)).2), (9, .bool true)]) (H1 := [(2, .cells false 7 1 (.fn fun _ => netR 6 7 8 n (ND E n).length (BR E n).length)), (3, .mSI true (zipF 0 (NM E n))), (4, .mSI true (zipF 0 (ND E n))), (5, .mSI true (zipF 0 (BR E n))), (6, .cells false 8 (n) (.fn fun j => elR (E j))), (7, .cells false 1 ((ND E n).length) (.fn (txR (lget (ND E n))))), (8, .cells false 1 ((BR E n).length) (.fn (txR (lget (BR E n))))), (9, .cells true 2 1 (.fn fun _ => [.int false .i64 (0), .int false .i64 (0)])), (10, .cells true 1 (ulen E n) (.fn (cxR (RF E n i)))), (11, .cells true 8 n (.fn fun j => elR (E j))), (12, .cells true 8 1 (.fn fun _ => elR (E i)))]) (Sx.GoesB.toN (reF 9 (by omega) (E i) n (ND E n).length (BR E n).length i (ulen E n) (phE (E i)).1 (phE (E i)).2 E (zipF 0 (NM E n)) (zipF 0 (ND E n)) (zipF 0 (BR E n)) (lget (ND E n)) (lget (BR E n)) (RF E n i) false 0) ⟨(Sx.re rfl), (Sx.re rfl), (Sx.re rfl), (Sx.re rfl), (Sx.re rfl), (Sx.re rfl), (Sx.re rfl), (Sx.re rfl), (Sx.re rfl), (Sx.re rfl), trivial⟩ ⟨(Sx.hs rfl), (Sx.hs rfl), (Sx.hs rfl), (Sx.hs rfl), (Sx.hs rfl), (Sx.hs rfl), (Sx.hs rfl), (Sx.hs rfl), (Sx.hs rfl), (Sx.hs rfl), (Sx.hs rfl), trivial⟩) (by omega) ?_
 exact Sx.GoesB.seqN (K1 := 20) (re_main n i E hi hn hp) hK k


theorem cz1 {b : Bool} {x y : Int} (hx : x ≠ 1) (hy : y ≠ 1) : (bif b then x else y) ≠ 1 := by cases b <;> assumption
theorem chk_ne1 (k : Int) (n a b c d : List UInt8) (v : Nat) (ph : Int) : chk_0 k n a b c d v ph ≠ 1 := by
 unfold chk_0
 repeat' (first | decide | apply cz1)
theorem bad_ne1 (E : Nat → El) (i : Nat) : badE chkE E i ≠ 1 := by
 unfold badE
 refine cz1 (cz1 (by decide) (by decide)) (chk_ne1 _ _ _ _ _ _ _ _)
theorem ofE_ne1 (E : Nat → El) (n : Nat) : ∀ m, (ofE chkE E n m).1 ≠ 1
 | 0 => by
  unfold ofE
  cases decide (32 < (ND E n).length) || decide (64 < (ND E n).length + (BR E n).length) <;> decide
 | m + 1 => by
  unfold ofE
  cases decide (badE chkE E (n - (m + 1)) = 0)
  ·exact bad_ne1 _ _
  ·exact ofE_ne1 E n m
theorem ofR_ne1 (E : Nat → El) (n : Nat) : (ofR chkE E n).1 ≠ 1 := by
 unfold ofR
 cases decide (256 < n)
 ·exact ofE_ne1 _ _ _
 ·show (3 : Int) ≠ 1
  decide
theorem ofE_zero {E : Nat → El} {n : Nat} : ∀ m, m ≤ n → (ofE chkE E n m).1 = 0 → ∀ j, n - m ≤ j → j < n → badE chkE E j = 0
 | 0, _, _, j, h1, h2 => by omega
 | m + 1, hm, h, j, h1, h2 => by
  unfold ofE at h
  by_cases c : badE chkE E (n - (m + 1)) = 0
  ·rw [decide_eq_true c, cond_true] at h
   by_cases q : j = n - (m + 1)
   ·rw [q]; exact c
   ·exact ofE_zero m (by omega) h j (by omega) h2
  ·rw [decide_eq_false c, cond_false] at h
   exact absurd h c
theorem ofR_zero {E : Nat → El} {n : Nat} (h : (ofR chkE E n).1 = 0) : n ≤ 256 ∧ ∀ j, j < n → badE chkE E j = 0 := by
 unfold ofR at h
 by_cases c : 256 < n
 ·rw [decide_eq_true c] at h; exact absurd (show (3 : Int) = 0 from h) (by decide)
 ·rw [decide_eq_false c, cond_false] at h
  exact ⟨by omega, fun j hj => ofE_zero n (Nat.le_refl _) h j (by omega) hj⟩
theorem apz_last (E : Nat → El) (n : Nat) : rowsE (apz E n) n = ⟨0, [], [], [], [], [], 0, 0⟩ := by
 unfold rowsE apz
 rw [decide_eq_false (by omega), cond_false]; rfl
theorem apz_err (E : Nat → El) (n : Nat) : (ofX (rowsE (apz E n)) (n + 1)).1 ≠ 0 ∧ (ofX (rowsE (apz E n)) (n + 1)).1 ≠ 1 := by
 rw [ofX_is]
 refine ⟨fun h => ?_, ofR_ne1 _ _⟩
 have := (ofR_zero h).2 n (by omega)
 have c : chkE (rowsE (apz E n) n) ≠ 0 := by rw [apz_last]; decide +kernel
 rw [bad_chk c] at this
 exact c this
theorem ge_fltraw (s s' : Bool) : Sx.AV.ge (.flt s 0) (.raw s' 0) := fun N μ c h => by
 simp only [Sx.Rep] at h ⊢
 obtain ⟨x, rfl, h2, h3⟩ := h
 cases q : Sx.isnan x with
 | true => unfold Sx.cn at h2; rw [q] at h2; exact absurd (show Sx.qn = 0 from h2) (by decide)
 | false =>
  rw [Sx.cn_of_not q] at h2
  subst h2
  exact ⟨rfl, h3⟩
theorem peq_apz (E : Nat → El) (n : Nat) : PEQ (n + 1) (apz E n) := by
 refine ⟨⟨fun j hj => ?_⟩, fun j hj u hu => ?_⟩
 ·unfold rowsE apz
  by_cases c : 0 + j < n
  ·rw [decide_eq_true c, cond_true]; exact RowGe_refl _ rfl
  ·rw [decide_eq_false c, cond_false]
   exact ⟨Sx.AV.ge.int _ _ _ _, rfl, Sx.AV.ge.str' _ _ rfl, rfl, Sx.AV.ge.str' _ _ rfl, rfl, Sx.AV.ge.str' _ _ rfl, rfl, Sx.AV.ge.str' _ _ rfl, rfl, Sx.AV.ge.str' _ _ rfl, rfl, ge_fltraw _ _, rfl, Sx.AV.ge.int _ _ _ _, rfl, trivial⟩
 ·unfold apz at hu
  by_cases c : 0 + j < n
  ·rw [decide_eq_true c, cond_true] at hu; exact List.all_eq_true.1 (elR_low 0 _) u hu
  ·rw [decide_eq_false c, cond_false] at hu; exact List.all_eq_true.1 (show zrow.all (fun v => v.low 0) = true from rfl) u hu
theorem apz0_inS {S : Nat → Prop} {E : Nat → El} {n i o : Nat} {v : Sx.AV} (h : (apz0 E n i)[o]? = some v) : v.inS S := by
 unfold apz0 at h
 by_cases c : i < n
 ·rw [decide_eq_true c] at h
  exact elR_inS h
 ·rw [decide_eq_false c, cond_false] at h
  unfold zrow at h
  match o, h with
  | 0, h => cases h; trivial
  | 1, h => cases h; trivial
  | 2, h => cases h; trivial
  | 3, h => cases h; trivial
  | 4, h => cases h; trivial
  | 5, h => cases h; trivial
  | 6, h => cases h; trivial
  | 7, h => cases h; trivial
def QRP (E : Nat → El) (n : Nat) : Sx.Po := fun e fr' H' => e = .ret ∧ ((∃ k, k < n ∧ (∀ j, j < k → RB E n j = true) ∧ RB E n k = false ∧ fr' = Sx.frL [(2, .nils), (3, .ptr ⟨false, 9, 0, 0⟩)] ∧ H' = Sx.hpL [(3, .mSI true (zipF 0 (NM E n))), (4, .mSI true (zipF 0 (ND E n))), (5, .mSI true (zipF 0 (BR E n))), (9, .cells true 2 1 (.fn fun _ => [.int false .i64 6, .int true .i64 (k : Int)]))]) ∨ ((∀ j, j < n → RB E n j = true) ∧ fr' = Sx.frL [(2, .slc true true ⟨false, 10, 0, 0⟩ (ulen E n)), (3, .ptr ⟨false, 9, 0, 0⟩)] ∧ H' = Sx.hpL [(3, .mSI true (zipF 0 (NM E n))), (4, .mSI true (zipF 0 (ND E n))), (5, .mSI true (zipF 0 (BR E n))), (9, .cells true 2 1 (.fn fun _ => [.int false .i64 (0), .int false .i64 (0)])), (10, .cells true 1 (ulen E n) (.fn (cxR (RF E n n))))]))
theorem re_step (n i : Nat) (E : Nat → El) (hi : i ≤ n) (hn : n ≤ 256) (hg : ∀ j, j < i → RB E n j = true) :
  Sx.GoesB Try.prog (Sx.nav [1,1,1,0,1,0,0] (Sx.bodyOf Try.f16)) Try.f16.ntmps 9 12 12 (Sx.frL [(0, .ptr ⟨false, 2, 0, 0⟩), (3, .ptr ⟨false, 9, 0, 0⟩), (4, .slc true true ⟨false, 10, 0, 0⟩ (ulen E n)), (19, .slc true true ⟨false, 11, 0, 0⟩ n), (20, .int true .i64 n), (21, .int true .i64 (i : Int))]) (Sx.hpL [(2, .cells false 7 1 (.fn fun _ => netR 6 7 8 n (ND E n).length (BR E n).length)), (3, .mSI true (zipF 0 (NM E n))), (4, .mSI true (zipF 0 (ND E n))), (5, .mSI true (zipF 0 (BR E n))), (6, .cells false 8 (n) (.fn fun j => elR (E j))), (7, .cells false 1 ((ND E n).length) (.fn (txR (lget (ND E n))))), (8, .cells false 1 ((BR E n).length) (.fn (txR (lget (BR E n))))), (9, .cells true 2 1 (.fn fun _ => [.int false .i64 (0), .int false .i64 (0)])), (10, .cells true 1 (ulen E n) (.fn (cxR (RF E n i)))), (11, .cells true 8 n (.fn fun j => elR (E j)))]) (fun e fr H => (e = .normal ∧ i < n ∧ (∀ j, j < i + 1 → RB E n j = true) ∧ fr = Sx.frL [(0, .ptr ⟨false, 2, 0, 0⟩), (3, .ptr ⟨false, 9, 0, 0⟩), (4, .slc true true ⟨false, 10, 0, 0⟩ (ulen E n)), (19, .slc true true ⟨false, 11, 0, 0⟩ n), (20, .int true .i64 n), (21, .int true .i64 ((i + 1 : Nat) : Int))] ∧ H = Sx.hpL [(2, .cells false 7 1 (.fn fun _ => netR 6 7 8 n (ND E n).length (BR E n).length)), (3, .mSI true (zipF 0 (NM E n))), (4, .mSI true (zipF 0 (ND E n))), (5, .mSI true (zipF 0 (BR E n))), (6, .cells false 8 (n) (.fn fun j => elR (E j))), (7, .cells false 1 ((ND E n).length) (.fn (txR (lget (ND E n))))), (8, .cells false 1 ((BR E n).length) (.fn (txR (lget (BR E n))))), (9, .cells true 2 1 (.fn fun _ => [.int false .i64 (0), .int false .i64 (0)])), (10, .cells true 1 (ulen E n) (.fn (cxR (RF E n (i + 1))))), (11, .cells true 8 n (.fn fun j => elR (E j)))]) ∨ (e = .exit 0 ∧ (∀ j, j < n → RB E n j = true) ∧ fr = Sx.frL [(0, .ptr ⟨false, 2, 0, 0⟩), (3, .ptr ⟨false, 9, 0, 0⟩), (4, .slc true true ⟨false, 10, 0, 0⟩ (ulen E n))] ∧ H = Sx.hpL [(2, .cells false 7 1 (.fn fun _ => netR 6 7 8 n (ND E n).length (BR E n).length)), (3, .mSI true (zipF 0 (NM E n))), (4, .mSI true (zipF 0 (ND E n))), (5, .mSI true (zipF 0 (BR E n))), (6, .cells false 8 (n) (.fn fun j => elR (E j))), (7, .cells false 1 ((ND E n).length) (.fn (txR (lget (ND E n))))), (8, .cells false 1 ((BR E n).length) (.fn (txR (lget (BR E n))))), (9, .cells true 2 1 (.fn fun _ => [.int false .i64 (0), .int false .i64 (0)])), (10, .cells true 1 (ulen E n) (.fn (cxR (RF E n n))))]) ∨ (e = .ret ∧ QRP E n .ret fr H)) := by
 rw [re_body]
 by_cases hlt : i < n
 ·have go : RB E n i = true → Sx.GoesB Try.prog (.block 1 (.seq (Sx.nav [1,1,1,0,1,0,0,1,1,0,0,0] (Sx.bodyOf Try.f16)) (.seq (Sx.nav [1,1,1,0,1,0,0,1,1,0,0,1,0] (Sx.bodyOf Try.f16)) (.seq (Sx.nav [1,1,1,0,1,0,0,1,1,0,0,1,1,0] (Sx.bodyOf Try.f16)) (.seq (Sx.nav [1,1,1,0,1,0,0,1,1,0,0,1,1,1,0] (Sx.bodyOf Try.f16)) (.seq (Sx.nav [1,1,1,0,1,0,0,1,1,0,0,1,1,1,1,0] (Sx.bodyOf Try.f16)) (Sx.nav [1,1,1,0,1,0,0,1,1,0,0,1,1,1,1,1] (Sx.bodyOf Try.f16)))))))) Try.f16.ntmps 9 12 20 (Sx.frL [(0, .ptr ⟨false, 2, 0, 0⟩), (3, .ptr ⟨false, 9, 0, 0⟩), (4, .slc true true ⟨false, 10, 0, 0⟩ (ulen E n)), (19, .slc true true ⟨false, 11, 0, 0⟩ n), (20, .int true .i64 n), (21, .int true .i64 (i : Int))]) (Sx.hpL [(2, .cells false 7 1 (.fn fun _ => netR 6 7 8 n (ND E n).length (BR E n).length)), (3, .mSI true (zipF 0 (NM E n))), (4, .mSI true (zipF 0 (ND E n))), (5, .mSI true (zipF 0 (BR E n))), (6, .cells false 8 (n) (.fn fun j => elR (E j))), (7, .cells false 1 ((ND E n).length) (.fn (txR (lget (ND E n))))), (8, .cells false 1 ((BR E n).length) (.fn (txR (lget (BR E n))))), (9, .cells true 2 1 (.fn fun _ => [.int false .i64 (0), .int false .i64 (0)])), (10, .cells true 1 (ulen E n) (.fn (cxR (RF E n i)))), (11, .cells true 8 n (.fn fun j => elR (E j)))]) (Sx.Nm [(0, .ptr ⟨false, 2, 0, 0⟩), (3, .ptr ⟨false, 9, 0, 0⟩), (4, .slc true true ⟨false, 10, 0, 0⟩ (ulen E n)), (19, .slc true true ⟨false, 11, 0, 0⟩ n), (20, .int true .i64 n), (21, .int true .i64 (i : Int))] [(2, .cells false 7 1 (.fn fun _ => netR 6 7 8 n (ND E n).length (BR E n).length)), (3, .mSI true (zipF 0 (NM E n))), (4, .mSI true (zipF 0 (ND E n))), (5, .mSI true (zipF 0 (BR E n))), (6, .cells false 8 (n) (.fn fun j => elR (E j))), (7, .cells false 1 ((ND E n).length) (.fn (txR (lget (ND E n))))), (8, .cells false 1 ((BR E n).length) (.fn (txR (lget (BR E n))))), (9, .cells true 2 1 (.fn fun _ => [.int false .i64 (0), .int false .i64 (0)])), (10, .cells true 1 (ulen E n) (.fn (cxR (RF E n (i + 1))))), (11, .cells true 8 n (.fn fun j => elR (E j)))]) → Sx.GoesB Try.prog (.seq (Sx.nav [1,1,1,0,1,0,0,0] (Sx.bodyOf Try.f16)) (.seq (Sx.nav [1,1,1,0,1,0,0,1,0] (Sx.bodyOf Try.f16)) (.seq (.block 1 (.seq (Sx.nav [1,1,1,0,1,0,0,1,1,0,0,0] (Sx.bodyOf Try.f16)) (.seq (Sx.nav [1,1,1,0,1,0,0,1,1,0,0,1,0] (Sx.bodyOf Try.f16)) (.seq (Sx.nav [1,1,1,0,1,0,0,1,1,0,0,1,1,0] (Sx.bodyOf Try.f16)) (.seq (Sx.nav [1,1,1,0,1,0,0,1,1,0,0,1,1,1,0] (Sx.bodyOf Try.f16)) (.seq (Sx.nav [1,1,1,0,1,0,0,1,1,0,0,1,1,1,1,0] (Sx.bodyOf Try.f16)) (Sx.nav [1,1,1,0,1,0,0,1,1,0,0,1,1,1,1,1] (Sx.bodyOf Try.f16)))))))) (Sx.nav [1,1,1,0,1,0,0,1,1,1] (Sx.bodyOf Try.f16))))) Try.f16.ntmps 9 12 12 (Sx.frL [(0, .ptr ⟨false, 2, 0, 0⟩), (3, .ptr ⟨false, 9, 0, 0⟩), (4, .slc true true ⟨false, 10, 0, 0⟩ (ulen E n)), (19, .slc true true ⟨false, 11, 0, 0⟩ n), (20, .int true .i64 n), (21, .int true .i64 (i : Int))]) (Sx.hpL [(2, .cells false 7 1 (.fn fun _ => netR 6 7 8 n (ND E n).length (BR E n).length)), (3, .mSI true (zipF 0 (NM E n))), (4, .mSI true (zipF 0 (ND E n))), (5, .mSI true (zipF 0 (BR E n))), (6, .cells false 8 (n) (.fn fun j => elR (E j))), (7, .cells false 1 ((ND E n).length) (.fn (txR (lget (ND E n))))), (8, .cells false 1 ((BR E n).length) (.fn (txR (lget (BR E n))))), (9, .cells true 2 1 (.fn fun _ => [.int false .i64 (0), .int false .i64 (0)])), (10, .cells true 1 (ulen E n) (.fn (cxR (RF E n i)))), (11, .cells true 8 n (.fn fun j => elR (E j)))]) (fun e fr H => (e = .normal ∧ i < n ∧ (∀ j, j < i + 1 → RB E n j = true) ∧ fr = Sx.frL [(0, .ptr ⟨false, 2, 0, 0⟩), (3, .ptr ⟨false, 9, 0, 0⟩), (4, .slc true true ⟨false, 10, 0, 0⟩ (ulen E n)), (19, .slc true true ⟨false, 11, 0, 0⟩ n), (20, .int true .i64 n), (21, .int true .i64 ((i + 1 : Nat) : Int))] ∧ H = Sx.hpL [(2, .cells false 7 1 (.fn fun _ => netR 6 7 8 n (ND E n).length (BR E n).length)), (3, .mSI true (zipF 0 (NM E n))), (4, .mSI true (zipF 0 (ND E n))), (5, .mSI true (zipF 0 (BR E n))), (6, .cells false 8 (n) (.fn fun j => elR (E j))), (7, .cells false 1 ((ND E n).length) (.fn (txR (lget (ND E n))))), (8, .cells false 1 ((BR E n).length) (.fn (txR (lget (BR E n))))), (9, .cells true 2 1 (.fn fun _ => [.int false .i64 (0), .int false .i64 (0)])), (10, .cells true 1 (ulen E n) (.fn (cxR (RF E n (i + 1))))), (11, .cells true 8 n (.fn fun j => elR (E j)))]) ∨ (e = .exit 0 ∧ (∀ j, j < n → RB E n j = true) ∧ fr = Sx.frL [(0, .ptr ⟨false, 2, 0, 0⟩), (3, .ptr ⟨false, 9, 0, 0⟩), (4, .slc true true ⟨false, 10, 0, 0⟩ (ulen E n))] ∧ H = Sx.hpL [(2, .cells false 7 1 (.fn fun _ => netR 6 7 8 n (ND E n).length (BR E n).length)), (3, .mSI true (zipF 0 (NM E n))), (4, .mSI true (zipF 0 (ND E n))), (5, .mSI true (zipF 0 (BR E n))), (6, .cells false 8 (n) (.fn fun j => elR (E j))), (7, .cells false 1 ((ND E n).length) (.fn (txR (lget (ND E n))))), (8, .cells false 1 ((BR E n).length) (.fn (txR (lget (BR E n))))), (9, .cells true 2 1 (.fn fun _ => [.int false .i64 (0), .int false .i64 (0)])), (10, .cells true 1 (ulen E n) (.fn (cxR (RF E n n))))]) ∨ (e = .ret ∧ QRP E n .ret fr H)) := fun hb h => by
   have main : Sx.GoesB Try.prog (.seq (Sx.nav [1,1,1,0,1,0,0,0] (Sx.bodyOf Try.f16)) (.seq (Sx.nav [1,1,1,0,1,0,0,1,0] (Sx.bodyOf Try.f16)) (.seq (.block 1 (.seq (Sx.nav [1,1,1,0,1,0,0,1,1,0,0,0] (Sx.bodyOf Try.f16)) (.seq (Sx.nav [1,1,1,0,1,0,0,1,1,0,0,1,0] (Sx.bodyOf Try.f16)) (.seq (Sx.nav [1,1,1,0,1,0,0,1,1,0,0,1,1,0] (Sx.bodyOf Try.f16)) (.seq (Sx.nav [1,1,1,0,1,0,0,1,1,0,0,1,1,1,0] (Sx.bodyOf Try.f16)) (.seq (Sx.nav [1,1,1,0,1,0,0,1,1,0,0,1,1,1,1,0] (Sx.bodyOf Try.f16)) (Sx.nav [1,1,1,0,1,0,0,1,1,0,0,1,1,1,1,1] (Sx.bodyOf Try.f16)))))))) (Sx.nav [1,1,1,0,1,0,0,1,1,1] (Sx.bodyOf Try.f16))))) Try.f16.ntmps 9 12 20 (Sx.frL [(0, .ptr ⟨false, 2, 0, 0⟩), (3, .ptr ⟨false, 9, 0, 0⟩), (4, .slc true true ⟨false, 10, 0, 0⟩ (ulen E n)), (19, .slc true true ⟨false, 11, 0, 0⟩ n), (20, .int true .i64 n), (21, .int true .i64 (i : Int))]) (Sx.hpL [(2, .cells false 7 1 (.fn fun _ => netR 6 7 8 n (ND E n).length (BR E n).length)), (3, .mSI true (zipF 0 (NM E n))), (4, .mSI true (zipF 0 (ND E n))), (5, .mSI true (zipF 0 (BR E n))), (6, .cells false 8 (n) (.fn fun j => elR (E j))), (7, .cells false 1 ((ND E n).length) (.fn (txR (lget (ND E n))))), (8, .cells false 1 ((BR E n).length) (.fn (txR (lget (BR E n))))), (9, .cells true 2 1 (.fn fun _ => [.int false .i64 (0), .int false .i64 (0)])), (10, .cells true 1 (ulen E n) (.fn (cxR (RF E n i)))), (11, .cells true 8 n (.fn fun j => elR (E j)))]) (Sx.Nm [(0, .ptr ⟨false, 2, 0, 0⟩), (3, .ptr ⟨false, 9, 0, 0⟩), (4, .slc true true ⟨false, 10, 0, 0⟩ (ulen E n)), (19, .slc true true ⟨false, 11, 0, 0⟩ n), (20, .int true .i64 n), (21, .int true .i64 ((i : Int) + 1 : Int))] [(2, .cells false 7 1 (.fn fun _ => netR 6 7 8 n (ND E n).length (BR E n).length)), (3, .mSI true (zipF 0 (NM E n))), (4, .mSI true (zipF 0 (ND E n))), (5, .mSI true (zipF 0 (BR E n))), (6, .cells false 8 (n) (.fn fun j => elR (E j))), (7, .cells false 1 ((ND E n).length) (.fn (txR (lget (ND E n))))), (8, .cells false 1 ((BR E n).length) (.fn (txR (lget (BR E n))))), (9, .cells true 2 1 (.fn fun _ => [.int false .i64 (0), .int false .i64 (0)])), (10, .cells true 1 (ulen E n) (.fn (cxR (RF E n (i + 1))))), (11, .cells true 8 n (.fn fun j => elR (E j)))]) := by
    refine Sx.GoesB.seqN (K1 := 12) (reA 9 (by omega) (E i) n (ND E n).length (BR E n).length i (ulen E n) 0 0 E (zipF 0 (NM E n)) (zipF 0 (ND E n)) (zipF 0 (BR E n)) (lget (ND E n)) (lget (BR E n)) (RF E n i) false 0) (by omega) ?_
    refine Sx.GoesB.seqN (K1 := 12) (F1 := [(0, .ptr ⟨false, 2, 0, 0⟩), (3, .ptr ⟨false, 9, 0, 0⟩), (4, .slc true true ⟨false, 10, 0, 0⟩ (ulen E n)), (19, .slc true true ⟨false, 11, 0, 0⟩ n), (20, .int true .i64 n), (21, .int true .i64 (i : Int))]) (H1 := [(2, .cells false 7 1 (.fn fun _ => netR 6 7 8 n (ND E n).length (BR E n).length)), (3, .mSI true (zipF 0 (NM E n))), (4, .mSI true (zipF 0 (ND E n))), (5, .mSI true (zipF 0 (BR E n))), (6, .cells false 8 (n) (.fn fun j => elR (E j))), (7, .cells false 1 ((ND E n).length) (.fn (txR (lget (ND E n))))), (8, .cells false 1 ((BR E n).length) (.fn (txR (lget (BR E n))))), (9, .cells true 2 1 (.fn fun _ => [.int false .i64 (0), .int false .i64 (0)])), (10, .cells true 1 (ulen E n) (.fn (cxR (RF E n i)))), (11, .cells true 8 n (.fn fun j => elR (E j)))]) ((reB 9 (by omega) (E i) n (ND E n).length (BR E n).length i (ulen E n) 0 0 E (zipF 0 (NM E n)) (zipF 0 (ND E n)) (zipF 0 (BR E n)) (lget (ND E n)) (lget (BR E n)) (RF E n i) (decide ((i : Int) < (n : Int))) 0).mono fun e fr' H' h => ?_) (by omega) ?_
    ·rw [decide_eq_true (by omega), cond_true] at h
     exact h
    exact Sx.GoesB.seqN (K1 := 20) h (by omega) (reI 9 (by omega) (E i) n (ND E n).length (BR E n).length i (ulen E n) 0 0 E (zipF 0 (NM E n)) (zipF 0 (ND E n)) (zipF 0 (BR E n)) (lget (ND E n)) (lget (BR E n)) (RF E n (i + 1)) false 0 (by omega))
   refine main.renG fun e fr' H' h => ?_
   obtain ⟨rfl, rfl, rfl⟩ := h
   exact ⟨id, [(0, .ptr ⟨false, 2, 0, 0⟩), (3, .ptr ⟨false, 9, 0, 0⟩), (4, .slc true true ⟨false, 10, 0, 0⟩ (ulen E n)), (19, .slc true true ⟨false, 11, 0, 0⟩ n), (20, .int true .i64 n), (21, .int true .i64 ((i + 1 : Nat) : Int))], [(2, .cells false 7 1 (.fn fun _ => netR 6 7 8 n (ND E n).length (BR E n).length)), (3, .mSI true (zipF 0 (NM E n))), (4, .mSI true (zipF 0 (ND E n))), (5, .mSI true (zipF 0 (BR E n))), (6, .cells false 8 (n) (.fn fun j => elR (E j))), (7, .cells false 1 ((ND E n).length) (.fn (txR (lget (ND E n))))), (8, .cells false 1 ((BR E n).length) (.fn (txR (lget (BR E n))))), (9, .cells true 2 1 (.fn fun _ => [.int false .i64 (0), .int false .i64 (0)])), (10, .cells true 1 (ulen E n) (.fn (cxR (RF E n (i + 1))))), (11, .cells true 8 n (.fn fun j => elR (E j)))], fun g hg => rfl, ⟨⟨_, rfl, Sx.AV.ge.refl _, rfl⟩, ⟨_, rfl, Sx.AV.ge.refl _, rfl⟩, ⟨_, rfl, Sx.AV.ge.refl _, rfl⟩, ⟨_, rfl, Sx.AV.ge.refl _, rfl⟩, ⟨_, rfl, Sx.AV.ge.refl _, rfl⟩, ⟨_, rfl, Sx.AV.ge.refl _, rfl⟩, trivial⟩, ⟨rgB rfl rfl rfl (by omega), rgM rfl rfl (by omega), rgM rfl rfl (by omega), rgM rfl rfl (by omega), rgR rfl rfl (fun j _ => rfl) (fun j _ => rfl) (by omega), rgR rfl rfl (fun j _ => rfl) (fun j _ => rfl) (by omega), rgR rfl rfl (fun j _ => rfl) (fun j _ => rfl) (by omega), rgB rfl rfl rfl (by omega), rgR rfl rfl (fun j _ => rfl) (fun j _ => rfl) (by omega), rgR rfl rfl (fun j _ => rfl) (fun j _ => rfl) (by omega), trivial⟩, fun i j _ _ h => h, .inl ⟨rfl, hlt, fun j hj => by
    by_cases c : j < i
    ·exact hg j c
    ·obtain rfl : j = i := by omega
     exact hb, rfl, rfl⟩⟩
  by_cases hp : ph2E (E i) = 0
  ·by_cases hb : RB E n i = true
   ·refine go hb (Sx.GoesB.blockN (re_pre n i E hlt hn (by omega) hp ((reH 9 (by omega) (E i) n (ND E n).length (BR E n).length i (ulen E n) 0 0 E (zipF 0 (NM E n)) (zipF 0 (ND E n)) (zipF 0 (BR E n)) (lget (ND E n)) (lget (BR E n)) (RF E n (i + 1)) (RB E n i) 0).mono fun e fr' H' h => ?_)))
    rw [hb, cond_true] at h
    exact h
   ·have hb : RB E n i = false := Bool.eq_false_iff.2 hb
    have inn : Sx.GoesB Try.prog (.block 1 (.seq (Sx.nav [1,1,1,0,1,0,0,1,1,0,0,0] (Sx.bodyOf Try.f16)) (.seq (Sx.nav [1,1,1,0,1,0,0,1,1,0,0,1,0] (Sx.bodyOf Try.f16)) (.seq (Sx.nav [1,1,1,0,1,0,0,1,1,0,0,1,1,0] (Sx.bodyOf Try.f16)) (.seq (Sx.nav [1,1,1,0,1,0,0,1,1,0,0,1,1,1,0] (Sx.bodyOf Try.f16)) (.seq (Sx.nav [1,1,1,0,1,0,0,1,1,0,0,1,1,1,1,0] (Sx.bodyOf Try.f16)) (Sx.nav [1,1,1,0,1,0,0,1,1,0,0,1,1,1,1,1] (Sx.bodyOf Try.f16)))))))) Try.f16.ntmps 9 12 20 (Sx.frL [(0, .ptr ⟨false, 2, 0, 0⟩), (3, .ptr ⟨false, 9, 0, 0⟩), (4, .slc true true ⟨false, 10, 0, 0⟩ (ulen E n)), (19, .slc true true ⟨false, 11, 0, 0⟩ n), (20, .int true .i64 n), (21, .int true .i64 (i : Int))]) (Sx.hpL [(2, .cells false 7 1 (.fn fun _ => netR 6 7 8 n (ND E n).length (BR E n).length)), (3, .mSI true (zipF 0 (NM E n))), (4, .mSI true (zipF 0 (ND E n))), (5, .mSI true (zipF 0 (BR E n))), (6, .cells false 8 (n) (.fn fun j => elR (E j))), (7, .cells false 1 ((ND E n).length) (.fn (txR (lget (ND E n))))), (8, .cells false 1 ((BR E n).length) (.fn (txR (lget (BR E n))))), (9, .cells true 2 1 (.fn fun _ => [.int false .i64 (0), .int false .i64 (0)])), (10, .cells true 1 (ulen E n) (.fn (cxR (RF E n i)))), (11, .cells true 8 n (.fn fun j => elR (E j)))]) (fun e fr' H' => e = .ret ∧ fr' = Sx.frL [(2, .nils), (3, .ptr ⟨false, 9, 0, 0⟩)] ∧ H' = Sx.hpL [(3, .mSI true (zipF 0 (NM E n))), (4, .mSI true (zipF 0 (ND E n))), (5, .mSI true (zipF 0 (BR E n))), (9, .cells true 2 1 (.fn fun _ => [.int false .i64 6, .int true .i64 (i : Int)]))]) := blockR (re_pre n i E hlt hn (by omega) hp ((reH 9 (by omega) (E i) n (ND E n).length (BR E n).length i (ulen E n) 0 0 E (zipF 0 (NM E n)) (zipF 0 (ND E n)) (zipF 0 (BR E n)) (lget (ND E n)) (lget (BR E n)) (RF E n (i + 1)) (RB E n i) 0).post fun e fr' H' h => by
     rw [hb, cond_false] at h
     obtain ⟨rfl, rfl, rfl⟩ := h
     exact ⟨[(2, .nils), (3, .ptr ⟨false, 9, 0, 0⟩)], [(3, .mSI true (zipF 0 (NM E n))), (4, .mSI true (zipF 0 (ND E n))), (5, .mSI true (zipF 0 (BR E n))), (9, .cells true 2 1 (.fn fun _ => [.int false .i64 6, .int true .i64 (i : Int)]))], ⟨(Sx.re rfl), (Sx.re rfl), trivial⟩, ⟨(Sx.hs rfl), (Sx.hs rfl), (Sx.hs rfl), ⟨_, rfl, rfl, rfl, rfl, of1 (p := fun j => _ = _) rfl⟩, trivial⟩, rfl, rfl, rfl⟩))
    have main : Sx.GoesB Try.prog (.seq (Sx.nav [1,1,1,0,1,0,0,0] (Sx.bodyOf Try.f16)) (.seq (Sx.nav [1,1,1,0,1,0,0,1,0] (Sx.bodyOf Try.f16)) (.seq (.block 1 (.seq (Sx.nav [1,1,1,0,1,0,0,1,1,0,0,0] (Sx.bodyOf Try.f16)) (.seq (Sx.nav [1,1,1,0,1,0,0,1,1,0,0,1,0] (Sx.bodyOf Try.f16)) (.seq (Sx.nav [1,1,1,0,1,0,0,1,1,0,0,1,1,0] (Sx.bodyOf Try.f16)) (.seq (Sx.nav [1,1,1,0,1,0,0,1,1,0,0,1,1,1,0] (Sx.bodyOf Try.f16)) (.seq (Sx.nav [1,1,1,0,1,0,0,1,1,0,0,1,1,1,1,0] (Sx.bodyOf Try.f16)) (Sx.nav [1,1,1,0,1,0,0,1,1,0,0,1,1,1,1,1] (Sx.bodyOf Try.f16)))))))) (Sx.nav [1,1,1,0,1,0,0,1,1,1] (Sx.bodyOf Try.f16))))) Try.f16.ntmps 9 12 20 (Sx.frL [(0, .ptr ⟨false, 2, 0, 0⟩), (3, .ptr ⟨false, 9, 0, 0⟩), (4, .slc true true ⟨false, 10, 0, 0⟩ (ulen E n)), (19, .slc true true ⟨false, 11, 0, 0⟩ n), (20, .int true .i64 n), (21, .int true .i64 (i : Int))]) (Sx.hpL [(2, .cells false 7 1 (.fn fun _ => netR 6 7 8 n (ND E n).length (BR E n).length)), (3, .mSI true (zipF 0 (NM E n))), (4, .mSI true (zipF 0 (ND E n))), (5, .mSI true (zipF 0 (BR E n))), (6, .cells false 8 (n) (.fn fun j => elR (E j))), (7, .cells false 1 ((ND E n).length) (.fn (txR (lget (ND E n))))), (8, .cells false 1 ((BR E n).length) (.fn (txR (lget (BR E n))))), (9, .cells true 2 1 (.fn fun _ => [.int false .i64 (0), .int false .i64 (0)])), (10, .cells true 1 (ulen E n) (.fn (cxR (RF E n i)))), (11, .cells true 8 n (.fn fun j => elR (E j)))]) (fun e fr' H' => e = .ret ∧ fr' = Sx.frL [(2, .nils), (3, .ptr ⟨false, 9, 0, 0⟩)] ∧ H' = Sx.hpL [(3, .mSI true (zipF 0 (NM E n))), (4, .mSI true (zipF 0 (ND E n))), (5, .mSI true (zipF 0 (BR E n))), (9, .cells true 2 1 (.fn fun _ => [.int false .i64 6, .int true .i64 (i : Int)]))]) := by
     refine Sx.GoesB.seqN (K1 := 12) (reA 9 (by omega) (E i) n (ND E n).length (BR E n).length i (ulen E n) 0 0 E (zipF 0 (NM E n)) (zipF 0 (ND E n)) (zipF 0 (BR E n)) (lget (ND E n)) (lget (BR E n)) (RF E n i) false 0) (by omega) ?_
     refine Sx.GoesB.seqN (K1 := 12) (F1 := [(0, .ptr ⟨false, 2, 0, 0⟩), (3, .ptr ⟨false, 9, 0, 0⟩), (4, .slc true true ⟨false, 10, 0, 0⟩ (ulen E n)), (19, .slc true true ⟨false, 11, 0, 0⟩ n), (20, .int true .i64 n), (21, .int true .i64 (i : Int))]) (H1 := [(2, .cells false 7 1 (.fn fun _ => netR 6 7 8 n (ND E n).length (BR E n).length)), (3, .mSI true (zipF 0 (NM E n))), (4, .mSI true (zipF 0 (ND E n))), (5, .mSI true (zipF 0 (BR E n))), (6, .cells false 8 (n) (.fn fun j => elR (E j))), (7, .cells false 1 ((ND E n).length) (.fn (txR (lget (ND E n))))), (8, .cells false 1 ((BR E n).length) (.fn (txR (lget (BR E n))))), (9, .cells true 2 1 (.fn fun _ => [.int false .i64 (0), .int false .i64 (0)])), (10, .cells true 1 (ulen E n) (.fn (cxR (RF E n i)))), (11, .cells true 8 n (.fn fun j => elR (E j)))]) ((reB 9 (by omega) (E i) n (ND E n).length (BR E n).length i (ulen E n) 0 0 E (zipF 0 (NM E n)) (zipF 0 (ND E n)) (zipF 0 (BR E n)) (lget (ND E n)) (lget (BR E n)) (RF E n i) (decide ((i : Int) < (n : Int))) 0).mono fun e fr' H' h => ?_) (by omega) ?_
     ·rw [decide_eq_true (by omega), cond_true] at h
      exact h
     exact seqR (K1 := 20) (by omega) inn
    refine main.renG fun e fr' H' h => ?_
    obtain ⟨rfl, rfl, rfl⟩ := h
    exact ⟨id, [(2, .nils), (3, .ptr ⟨false, 9, 0, 0⟩)], [(3, .mSI true (zipF 0 (NM E n))), (4, .mSI true (zipF 0 (ND E n))), (5, .mSI true (zipF 0 (BR E n))), (9, .cells true 2 1 (.fn fun _ => [.int false .i64 6, .int true .i64 (i : Int)]))], fun g hg => rfl, ⟨⟨_, rfl, Sx.AV.ge.refl _, rfl⟩, ⟨_, rfl, Sx.AV.ge.refl _, rfl⟩, trivial⟩, ⟨rgM rfl rfl (by omega), rgM rfl rfl (by omega), rgM rfl rfl (by omega), rgB rfl rfl rfl (by omega), trivial⟩, fun i j _ _ h => h, .inr (.inr ⟨rfl, rfl, .inl ⟨i, hlt, hg, hb, rfl, rfl⟩⟩)⟩
  ·obtain ⟨s1, s2⟩ := RF_skip hp
   refine go s2 (Sx.GoesB.block (Post := Sx.Nm [(0, .ptr ⟨false, 2, 0, 0⟩), (3, .ptr ⟨false, 9, 0, 0⟩), (4, .slc true true ⟨false, 10, 0, 0⟩ (ulen E n)), (19, .slc true true ⟨false, 11, 0, 0⟩ n), (20, .int true .i64 n), (21, .int true .i64 (i : Int))] [(2, .cells false 7 1 (.fn fun _ => netR 6 7 8 n (ND E n).length (BR E n).length)), (3, .mSI true (zipF 0 (NM E n))), (4, .mSI true (zipF 0 (ND E n))), (5, .mSI true (zipF 0 (BR E n))), (6, .cells false 8 (n) (.fn fun j => elR (E j))), (7, .cells false 1 ((ND E n).length) (.fn (txR (lget (ND E n))))), (8, .cells false 1 ((BR E n).length) (.fn (txR (lget (BR E n))))), (9, .cells true 2 1 (.fn fun _ => [.int false .i64 (0), .int false .i64 (0)])), (10, .cells true 1 (ulen E n) (.fn (cxR (RF E n (i + 1))))), (11, .cells true 8 n (.fn fun j => elR (E j)))]) ?_)
   rw [s1]
   refine Sx.GoesB.seqN (K1 := 13) (F1 := [(0, .ptr ⟨false, 2, 0, 0⟩), (3, .ptr ⟨false, 9, 0, 0⟩), (4, .slc true true ⟨false, 10, 0, 0⟩ (ulen E n)), (19, .slc true true ⟨false, 11, 0, 0⟩ n), (20, .int true .i64 n), (21, .int true .i64 (i : Int)), (5, .int true .i64 (i : Int)), (6, .ptr ⟨false, 12, 0, 0⟩)]) (H1 := [(2, .cells false 7 1 (.fn fun _ => netR 6 7 8 n (ND E n).length (BR E n).length)), (3, .mSI true (zipF 0 (NM E n))), (4, .mSI true (zipF 0 (ND E n))), (5, .mSI true (zipF 0 (BR E n))), (6, .cells false 8 (n) (.fn fun j => elR (E j))), (7, .cells false 1 ((ND E n).length) (.fn (txR (lget (ND E n))))), (8, .cells false 1 ((BR E n).length) (.fn (txR (lget (BR E n))))), (9, .cells true 2 1 (.fn fun _ => [.int false .i64 (0), .int false .i64 (0)])), (10, .cells true 1 (ulen E n) (.fn (cxR (RF E n i)))), (11, .cells true 8 n (.fn fun j => elR (E j))), (12, .cells true 8 1 (.fn fun _ => elR (E i)))]) (Sx.GoesB.toN (reC 9 (by omega) (E i) n (ND E n).length (BR E n).length i (ulen E n) 0 0 E (zipF 0 (NM E n)) (zipF 0 (ND E n)) (zipF 0 (BR E n)) (lget (ND E n)) (lget (BR E n)) (RF E n i) false 0 (by omega) (by omega)) ⟨(Sx.re rfl), (Sx.re rfl), (Sx.re rfl), (Sx.re rfl), (Sx.re rfl), (Sx.re rfl), (Sx.re rfl), (Sx.re rfl), trivial⟩ ⟨(Sx.hs rfl), (Sx.hs rfl), (Sx.hs rfl), (Sx.hs rfl), (Sx.hs rfl), (Sx.hs rfl), (Sx.hs rfl), (Sx.hs rfl), (Sx.hs rfl), (Sx.hs rfl), hbl1 rfl (by show elR (E (0 + i)) = elR (E i); rw [Nat.zero_add]), trivial⟩) (by omega) ?_
   refine Sx.GoesB.seqN (K1 := 13) (F1 := [(0, .ptr ⟨false, 2, 0, 0⟩), (3, .ptr ⟨false, 9, 0, 0⟩), (4, .slc true true ⟨false, 10, 0, 0⟩ (ulen E n)), (19, .slc true true ⟨false, 11, 0, 0⟩ n), (20, .int true .i64 n), (21, .int true .i64 (i : Int)), (5, .int true .i64 (i : Int)), (6, .ptr ⟨false, 12, 0, 0⟩), (7, .cpx true (phE (E i)).1 (phE (E i)).2), (8, .int true .i64 (ph2E (E i)))]) (H1 := [(2, .cells false 7 1 (.fn fun _ => netR 6 7 8 n (ND E n).length (BR E n).length)), (3, .mSI true (zipF 0 (NM E n))), (4, .mSI true (zipF 0 (ND E n))), (5, .mSI true (zipF 0 (BR E n))), (6, .cells false 8 (n) (.fn fun j => elR (E j))), (7, .cells false 1 ((ND E n).length) (.fn (txR (lget (ND E n))))), (8, .cells false 1 ((BR E n).length) (.fn (txR (lget (BR E n))))), (9, .cells true 2 1 (.fn fun _ => [.int false .i64 (0), .int false .i64 (0)])), (10, .cells true 1 (ulen E n) (.fn (cxR (RF E n i)))), (11, .cells true 8 n (.fn fun j => elR (E j))), (12, .cells true 8 1 (.fn fun _ => elR (E i)))]) (Sx.GoesB.toN (reD 9 (by omega) (E i) n (ND E n).length (BR E n).length i (ulen E n) 0 0 E (zipF 0 (NM E n)) (zipF 0 (ND E n)) (zipF 0 (BR E n)) (lget (ND E n)) (lget (BR E n)) (RF E n i) false 0) ⟨(Sx.re rfl), (Sx.re rfl), (Sx.re rfl), (Sx.re rfl), (Sx.re rfl), (Sx.re rfl), (Sx.re rfl), (Sx.re rfl), (Sx.re rfl), (Sx.re rfl), trivial⟩ ⟨(Sx.hs rfl), (Sx.hs rfl), (Sx.hs rfl), (Sx.hs rfl), (Sx.hs rfl), (Sx.hs rfl), (Sx.hs rfl), (Sx.hs rfl), (Sx.hs rfl), (Sx.hs rfl), (Sx.hs rfl), trivial⟩) (by omega) ?_
   refine Sx.GoesB.seq (K1 := 13) (by omega) ((reE 9 (by omega) (E i) n (ND E n).length (BR E n).length i (ulen E n) (phE (E i)).1 (phE (E i)).2 E (zipF 0 (NM E n)) (zipF 0 (ND E n)) (zipF 0 (BR E n)) (lget (ND E n)) (lget (BR E n)) (RF E n i) false (ph2E (E i))).post fun e fr' H' h => ?_)
   rw [decide_eq_false hp, cond_false] at h
   obtain ⟨rfl, rfl, rfl⟩ := h
   exact ⟨[(0, .ptr ⟨false, 2, 0, 0⟩), (3, .ptr ⟨false, 9, 0, 0⟩), (4, .slc true true ⟨false, 10, 0, 0⟩ (ulen E n)), (19, .slc true true ⟨false, 11, 0, 0⟩ n), (20, .int true .i64 n), (21, .int true .i64 (i : Int))], [(2, .cells false 7 1 (.fn fun _ => netR 6 7 8 n (ND E n).length (BR E n).length)), (3, .mSI true (zipF 0 (NM E n))), (4, .mSI true (zipF 0 (ND E n))), (5, .mSI true (zipF 0 (BR E n))), (6, .cells false 8 (n) (.fn fun j => elR (E j))), (7, .cells false 1 ((ND E n).length) (.fn (txR (lget (ND E n))))), (8, .cells false 1 ((BR E n).length) (.fn (txR (lget (BR E n))))), (9, .cells true 2 1 (.fn fun _ => [.int false .i64 (0), .int false .i64 (0)])), (10, .cells true 1 (ulen E n) (.fn (cxR (RF E n i)))), (11, .cells true 8 n (.fn fun j => elR (E j)))], ⟨(Sx.re rfl), (Sx.re rfl), (Sx.re rfl), (Sx.re rfl), (Sx.re rfl), (Sx.re rfl), trivial⟩, ⟨(Sx.hs rfl), (Sx.hs rfl), (Sx.hs rfl), (Sx.hs rfl), (Sx.hs rfl), (Sx.hs rfl), (Sx.hs rfl), (Sx.hs rfl), (Sx.hs rfl), (Sx.hs rfl), trivial⟩, by
    show (if (1 : Nat) = 1 then Sx.Nm _ _ Sx.Ex.normal _ _ else _)
    rw [if_pos rfl]; exact ⟨rfl, rfl, rfl⟩⟩
 ·obtain rfl : i = n := by omega
  refine Sx.GoesB.seqN (K1 := 12) (reA 9 (by omega) (E i) i (ND E i).length (BR E i).length i (ulen E i) 0 0 E (zipF 0 (NM E i)) (zipF 0 (ND E i)) (zipF 0 (BR E i)) (lget (ND E i)) (lget (BR E i)) (RF E i i) false 0) (by omega) ?_
  refine Sx.GoesB.seq (K1 := 12) (by omega) ((reB 9 (by omega) (E i) i (ND E i).length (BR E i).length i (ulen E i) 0 0 E (zipF 0 (NM E i)) (zipF 0 (ND E i)) (zipF 0 (BR E i)) (lget (ND E i)) (lget (BR E i)) (RF E i i) (decide ((i : Int) < (i : Int))) 0).post fun e fr' H' h => ?_)
  rw [decide_eq_false (by omega), cond_false] at h
  obtain ⟨rfl, rfl, rfl⟩ := h
  exact ⟨[(0, .ptr ⟨false, 2, 0, 0⟩), (3, .ptr ⟨false, 9, 0, 0⟩), (4, .slc true true ⟨false, 10, 0, 0⟩ (ulen E i))], [(2, .cells false 7 1 (.fn fun _ => netR 6 7 8 i (ND E i).length (BR E i).length)), (3, .mSI true (zipF 0 (NM E i))), (4, .mSI true (zipF 0 (ND E i))), (5, .mSI true (zipF 0 (BR E i))), (6, .cells false 8 (i) (.fn fun j => elR (E j))), (7, .cells false 1 ((ND E i).length) (.fn (txR (lget (ND E i))))), (8, .cells false 1 ((BR E i).length) (.fn (txR (lget (BR E i))))), (9, .cells true 2 1 (.fn fun _ => [.int false .i64 (0), .int false .i64 (0)])), (10, .cells true 1 (ulen E i) (.fn (cxR (RF E i i))))], ⟨(Sx.re rfl), (Sx.re rfl), (Sx.re rfl), trivial⟩, ⟨(Sx.hs rfl), (Sx.hs rfl), (Sx.hs rfl), (Sx.hs rfl), (Sx.hs rfl), (Sx.hs rfl), (Sx.hs rfl), (Sx.hs rfl), (Sx.hs rfl), trivial⟩, .inr (.inl ⟨rfl, hg, rfl, rfl⟩)⟩


theorem ri_is : (Sx.bodyOf Try.f16) = .seq (Sx.nav [0] (Sx.bodyOf Try.f16)) (.seq (Sx.nav [1,0] (Sx.bodyOf Try.f16)) (.seq (Sx.nav [1,1,0] (Sx.bodyOf Try.f16)) (.seq (.seq (Sx.nav [1,1,1,0,0] (Sx.bodyOf Try.f16)) (.block 0 (.loop (Sx.nav [1,1,1,0,1,0,0] (Sx.bodyOf Try.f16))))) (Sx.nav [1,1,1,1] (Sx.bodyOf Try.f16))))) := by kernel_rfl
theorem right_goes (n : Nat) (E : Nat → El) (hn : n ≤ 256) :
  Sx.GoesB Try.prog (Sx.bodyOf Try.f16) Try.f16.ntmps 9 9 12 (Sx.frameOf [.ptr ⟨false, 2, 0, 0⟩] 0 .e) (Sx.hpL [(2, .cells false 7 1 (.fn fun _ => netR 6 7 8 n (ND E n).length (BR E n).length)), (3, .mSI true (zipF 0 (NM E n))), (4, .mSI true (zipF 0 (ND E n))), (5, .mSI true (zipF 0 (BR E n))), (6, .cells false 8 (n) (.fn fun j => elR (E j))), (7, .cells false 1 ((ND E n).length) (.fn (txR (lget (ND E n))))), (8, .cells false 1 ((BR E n).length) (.fn (txR (lget (BR E n)))))]) (QRP E n) := by
 have lq := ND_b E n hn
 have lr := BR_b E n hn
 rw [ri_is]
 refine Sx.GoesB.seqN (K1 := 10) (F1 := [(0, .ptr ⟨false, 2, 0, 0⟩), (3, .ptr ⟨false, 9, 0, 0⟩)]) (H1 := [(2, .cells false 7 1 (.fn fun _ => netR 6 7 8 n (ND E n).length (BR E n).length)), (3, .mSI true (zipF 0 (NM E n))), (4, .mSI true (zipF 0 (ND E n))), (5, .mSI true (zipF 0 (BR E n))), (6, .cells false 8 (n) (.fn fun j => elR (E j))), (7, .cells false 1 ((ND E n).length) (.fn (txR (lget (ND E n))))), (8, .cells false 1 ((BR E n).length) (.fn (txR (lget (BR E n))))), (9, .cells true 2 1 (.fn fun _ => [.int false .i64 (0), .int false .i64 (0)]))]) (Sx.GoesB.toN (riA 9 (by omega) (E 0) n (ND E n).length (BR E n).length 0 (ulen E n) 0 0 E (zipF 0 (NM E n)) (zipF 0 (ND E n)) (zipF 0 (BR E n)) (lget (ND E n)) (lget (BR E n)) (RF E n 0) false 0) ⟨(Sx.re rfl), (Sx.re rfl), trivial⟩ ⟨(Sx.hs rfl), (Sx.hs rfl), (Sx.hs rfl), (Sx.hs rfl), (Sx.hs rfl), (Sx.hs rfl), (Sx.hs rfl), hbl1 rfl, trivial⟩) (by omega) ?_
 refine Sx.GoesB.seqN (K1 := 10) (F1 := [(0, .ptr ⟨false, 2, 0, 0⟩), (3, .ptr ⟨false, 9, 0, 0⟩)]) (H1 := [(2, .cells false 7 1 (.fn fun _ => netR 6 7 8 n (ND E n).length (BR E n).length)), (3, .mSI true (zipF 0 (NM E n))), (4, .mSI true (zipF 0 (ND E n))), (5, .mSI true (zipF 0 (BR E n))), (6, .cells false 8 (n) (.fn fun j => elR (E j))), (7, .cells false 1 ((ND E n).length) (.fn (txR (lget (ND E n))))), (8, .cells false 1 ((BR E n).length) (.fn (txR (lget (BR E n))))), (9, .cells true 2 1 (.fn fun _ => [.int false .i64 (0), .int false .i64 (0)]))]) ?_ (by omega) ?_
 ·obtain ⟨z0, z1⟩ := apz_err E n
  refine (Sx.GoesB.runN callP_ok (callP_reg _) (Sx.LoopsIn.none _ _ _) (riB_r2 (E 0) n (ND E n).length (BR E n).length 0 (ulen E n) 0 0 E (zipF 0 (NM E n)) (zipF 0 (ND E n)) (zipF 0 (BR E n)) (lget (ND E n)) (lget (BR E n)) (RF E n 0) false 0 (by omega) (by omega) (by omega) (fun i hi o v hv => elR_inS hv) (Nat.le_refl _) (by omega) (by omega) (fun i hi o v hv => apz0_inS hv) (by omega) (peq_apz E n) (decide_eq_false z0) (decide_eq_false z1)) (show 9 ≤ 10 by omega)).renG fun e fr' H' h => ?_
  obtain ⟨rfl, rfl, rfl⟩ := h
  exact ⟨id, [(0, .ptr ⟨false, 2, 0, 0⟩), (3, .ptr ⟨false, 9, 0, 0⟩)], [(2, .cells false 7 1 (.fn fun _ => netR 6 7 8 n (ND E n).length (BR E n).length)), (3, .mSI true (zipF 0 (NM E n))), (4, .mSI true (zipF 0 (ND E n))), (5, .mSI true (zipF 0 (BR E n))), (6, .cells false 8 (n) (.fn fun j => elR (E j))), (7, .cells false 1 ((ND E n).length) (.fn (txR (lget (ND E n))))), (8, .cells false 1 ((BR E n).length) (.fn (txR (lget (BR E n))))), (9, .cells true 2 1 (.fn fun _ => [.int false .i64 (0), .int false .i64 (0)]))], fun g hg => rfl, ⟨⟨_, rfl, Sx.AV.ge.refl _, rfl⟩, ⟨_, rfl, Sx.AV.ge.refl _, rfl⟩, trivial⟩, ⟨rgB rfl rfl rfl (by omega), rgM rfl rfl (by omega), rgM rfl rfl (by omega), rgM rfl rfl (by omega), rgR rfl rfl (fun j _ => rfl) (fun j _ => rfl) (by omega), rgR rfl rfl (fun j _ => rfl) (fun j _ => rfl) (by omega), rgR rfl rfl (fun j _ => rfl) (fun j _ => rfl) (by omega), rgB rfl rfl rfl (by omega), trivial⟩, fun i j _ _ h => h, rfl, rfl, rfl⟩
 refine Sx.GoesB.seq (K1 := 11) (by omega) ((riC 9 (by omega) (E 0) n (ND E n).length (BR E n).length 0 (ulen E n) 0 0 E (zipF 0 (NM E n)) (zipF 0 (ND E n)) (zipF 0 (BR E n)) (lget (ND E n)) (lget (BR E n)) (RF E n 0) false 0 (by omega) (by omega) (by omega)).mono fun e fr' H' h => ?_)
 obtain ⟨rfl, rfl, rfl⟩ := h
 refine Sx.GoesB.weakGL (fl := [(0, .ptr ⟨false, 2, 0, 0⟩), (3, .ptr ⟨false, 9, 0, 0⟩), (4, .slc true true ⟨false, 10, 0, 0⟩ (ulen E n))]) (bl := [(2, .cells false 7 1 (.fn fun _ => netR 6 7 8 n (ND E n).length (BR E n).length)), (3, .mSI true (zipF 0 (NM E n))), (4, .mSI true (zipF 0 (ND E n))), (5, .mSI true (zipF 0 (BR E n))), (6, .cells false 8 (n) (.fn fun j => elR (E j))), (7, .cells false 1 ((ND E n).length) (.fn (txR (lget (ND E n))))), (8, .cells false 1 ((BR E n).length) (.fn (txR (lget (BR E n))))), (9, .cells true 2 1 (.fn fun _ => [.int false .i64 (0), .int false .i64 (0)])), (10, .cells true 1 (ulen E n) (.fn (cxR (RF E n 0))))]) ⟨(Sx.re rfl), (Sx.re rfl), ⟨_, rfl, Sx.AV.ge.slc _ _ _ (by unfold ulen; first | omega | rfl | simp)⟩, trivial⟩ ⟨⟨_, rfl, rfl, rfl, rfl, fun j _ => RowGe_refl _ rfl⟩, ⟨_, rfl, rfl⟩, ⟨_, rfl, rfl⟩, ⟨_, rfl, rfl⟩, ⟨_, rfl, rfl, rfl, rfl, fun j _ => RowGe_refl _ rfl⟩, ⟨_, rfl, rfl, rfl, rfl, fun j _ => RowGe_refl _ rfl⟩, ⟨_, rfl, rfl, rfl, rfl, fun j _ => RowGe_refl _ rfl⟩, ⟨_, rfl, rfl, rfl, rfl, fun j _ => RowGe_refl _ rfl⟩, ⟨_, rfl, rfl, rfl, by unfold ulen; first | omega | rfl | simp, fun j _ => ⟨Sx.AV.ge.cpx' _ _ rfl rfl, rfl, trivial⟩⟩, trivial⟩ ?_
 refine Sx.GoesB.seq (K1 := 12) (by omega) (Sx.GoesB.seqN (K1 := 12) (F1 := [(0, .ptr ⟨false, 2, 0, 0⟩), (3, .ptr ⟨false, 9, 0, 0⟩), (4, .slc true true ⟨false, 10, 0, 0⟩ (ulen E n)), (19, .slc true true ⟨false, 11, 0, 0⟩ n), (20, .int true .i64 n), (21, .int true .i64 ((0 : Nat) : Int))]) (H1 := [(2, .cells false 7 1 (.fn fun _ => netR 6 7 8 n (ND E n).length (BR E n).length)), (3, .mSI true (zipF 0 (NM E n))), (4, .mSI true (zipF 0 (ND E n))), (5, .mSI true (zipF 0 (BR E n))), (6, .cells false 8 (n) (.fn fun j => elR (E j))), (7, .cells false 1 ((ND E n).length) (.fn (txR (lget (ND E n))))), (8, .cells false 1 ((BR E n).length) (.fn (txR (lget (BR E n))))), (9, .cells true 2 1 (.fn fun _ => [.int false .i64 (0), .int false .i64 (0)])), (10, .cells true 1 (ulen E n) (.fn (cxR (RF E n 0)))), (11, .cells true 8 n (.fn fun j => elR (E j)))]) (Sx.GoesB.toN (riD 9 (by omega) (E 0) n (ND E n).length (BR E n).length 0 (ulen E n) 0 0 E (zipF 0 (NM E n)) (zipF 0 (ND E n)) (zipF 0 (BR E n)) (lget (ND E n)) (lget (BR E n)) (RF E n 0) false 0 (by omega) (by omega)) ⟨(Sx.re rfl), (Sx.re rfl), (Sx.re rfl), (Sx.re rfl), (Sx.re rfl), ⟨_, rfl, Sx.AV.ge.int _ _ _ _⟩, trivial⟩ ⟨(Sx.hs rfl), (Sx.hs rfl), (Sx.hs rfl), (Sx.hs rfl), (Sx.hs rfl), (Sx.hs rfl), (Sx.hs rfl), (Sx.hs rfl), (Sx.hs rfl), gR rfl rfl (fun j _ => by rw [Nat.zero_add]), trivial⟩) (by omega) ((Sx.GoesB.count (P := Try.prog) (n := Try.f16.ntmps) (B := 9) (K := 12) (c := (Sx.nav [1,1,1,0,1,0,0] (Sx.bodyOf Try.f16))) (id := 0) n (fun i => [(0, .ptr ⟨false, 2, 0, 0⟩), (3, .ptr ⟨false, 9, 0, 0⟩), (4, .slc true true ⟨false, 10, 0, 0⟩ (ulen E n)), (19, .slc true true ⟨false, 11, 0, 0⟩ n), (20, .int true .i64 n), (21, .int true .i64 (i : Int))]) (fun i => [(2, .cells false 7 1 (.fn fun _ => netR 6 7 8 n (ND E n).length (BR E n).length)), (3, .mSI true (zipF 0 (NM E n))), (4, .mSI true (zipF 0 (ND E n))), (5, .mSI true (zipF 0 (BR E n))), (6, .cells false 8 (n) (.fn fun j => elR (E j))), (7, .cells false 1 ((ND E n).length) (.fn (txR (lget (ND E n))))), (8, .cells false 1 ((BR E n).length) (.fn (txR (lget (BR E n))))), (9, .cells true 2 1 (.fn fun _ => [.int false .i64 (0), .int false .i64 (0)])), (10, .cells true 1 (ulen E n) (.fn (cxR (RF E n i)))), (11, .cells true 8 n (.fn fun j => elR (E j)))]) [(0, .ptr ⟨false, 2, 0, 0⟩), (3, .ptr ⟨false, 9, 0, 0⟩), (4, .slc true true ⟨false, 10, 0, 0⟩ (ulen E n))] [(2, .cells false 7 1 (.fn fun _ => netR 6 7 8 n (ND E n).length (BR E n).length)), (3, .mSI true (zipF 0 (NM E n))), (4, .mSI true (zipF 0 (ND E n))), (5, .mSI true (zipF 0 (BR E n))), (6, .cells false 8 (n) (.fn fun j => elR (E j))), (7, .cells false 1 ((ND E n).length) (.fn (txR (lget (ND E n))))), (8, .cells false 1 ((BR E n).length) (.fn (txR (lget (BR E n))))), (9, .cells true 2 1 (.fn fun _ => [.int false .i64 (0), .int false .i64 (0)])), (10, .cells true 1 (ulen E n) (.fn (cxR (RF E n n))))] (fun i => ∀ j, j < i → RB E n j = true) (QRP E n .ret) (fun j hj => absurd hj (Nat.not_lt_zero _)) (fun i hi hg => re_step n i E hi hn hg)).mono fun e fr' H' h => ?_))
 rcases h with ⟨rfl, hg, rfl, rfl⟩ | ⟨rfl, h⟩
 ·refine (riE 9 (by omega) (E 0) n (ND E n).length (BR E n).length 0 (ulen E n) 0 0 E (zipF 0 (NM E n)) (zipF 0 (ND E n)) (zipF 0 (BR E n)) (lget (ND E n)) (lget (BR E n)) (RF E n n) false 0).post fun e fr' H' h => ?_
  obtain ⟨rfl, rfl, rfl⟩ := h
  exact ⟨[(2, .slc true true ⟨false, 10, 0, 0⟩ (ulen E n)), (3, .ptr ⟨false, 9, 0, 0⟩)], [(3, .mSI true (zipF 0 (NM E n))), (4, .mSI true (zipF 0 (ND E n))), (5, .mSI true (zipF 0 (BR E n))), (9, .cells true 2 1 (.fn fun _ => [.int false .i64 (0), .int false .i64 (0)])), (10, .cells true 1 (ulen E n) (.fn (cxR (RF E n n))))], ⟨(Sx.re rfl), (Sx.re rfl), trivial⟩, ⟨(Sx.hs rfl), (Sx.hs rfl), (Sx.hs rfl), ⟨_, rfl, rfl, rfl, rfl, of1 (p := fun j => _ = _) rfl⟩, (Sx.hs rfl), trivial⟩, rfl, .inr ⟨hg, rfl, rfl⟩⟩
 ·exact h


/-- what a net's blocks hold -/
structure NetQ (n q r nl nn nb : Nat) (M1 M2 M3 : List (Tx × Int)) (cl cn cb : Nat → List Sx.AV) : Prop where
 n256 : n ≤ 256
 ln : nl = n
 lq : nn = q
 lr : nb = r
 q_is : q = (ND (rowsE cl) n).length
 r_is : r = (BR (rowsE cl) n).length
 m1 : M1 = zipF 0 (NM (rowsE cl) n)
 m2 : M2 = zipF 0 (ND (rowsE cl) n)
 m3 : M3 = zipF 0 (BR (rowsE cl) n)
 rl : ∀ j, j < n → Sx.RowGe (cl j) (elR (rowsE cl j))
 rn : ∀ j, j < q → Sx.RowGe (cn j) (txR (lget (ND (rowsE cl) n)) j)
 rb : ∀ j, j < r → Sx.RowGe (cb j) (txR (lget (BR (rowsE cl) n)) j)
/-- the net at a name, its elements -/
noncomputable def netRd (N : Nat) : Sx.M (NetA × (Nat → El)) :=
 (netAt N).andThen fun w => (Sx.M.okIf (Sx.nodupB [N, w.m1, w.m2, w.m3, w.l.g, w.nd.g, w.bg.g])).andThen fun _ => (Sx.M.getB w.m1).andThen fun b1 => (Sx.M.ofOpt (Sx.asSI b1)).andThen fun M1 => (Sx.M.getB w.m2).andThen fun b2 => (Sx.M.ofOpt (Sx.asSI b2)).andThen fun M2 => (Sx.M.getB w.m3).andThen fun b3 => (Sx.M.ofOpt (Sx.asSI b3)).andThen fun M3 =>
  (Sx.getC w.l.g).andThen fun cl => (Sx.getC w.nd.g).andThen fun cn => (Sx.getC w.bg.g).andThen fun cb => (Sx.M.okIf (Nat.beq cl.2.1 8 && Nat.beq cn.2.1 1 && Nat.beq cb.2.1 1)).andThen fun _ =>
   (Sx.M.req (NetQ w.n w.q w.r cl.2.2.1 cn.2.2.1 cb.2.2.1 M1.2 M2.2 M3.2 cl.2.2.2.row cn.2.2.2.row cb.2.2.2.row)).andThen fun _ => Sx.M.ret (w, rowsE cl.2.2.2.row)
theorem Tch_netRd (N : Nat) : Sx.Tch (netRd N) := (Tch_netAt _).andThen fun _ => (Sx.Tch.okIf _).andThen fun _ => (Sx.Tch.getB _).andThen fun _ => (Sx.Tch.ofOpt _).andThen fun _ => (Sx.Tch.getB _).andThen fun _ => (Sx.Tch.ofOpt _).andThen fun _ => (Sx.Tch.getB _).andThen fun _ => (Sx.Tch.ofOpt _).andThen fun _ => (Sx.Tch.getC _).andThen fun _ => (Sx.Tch.getC _).andThen fun _ => (Sx.Tch.getC _).andThen fun _ => (Sx.Tch.okIf _).andThen fun _ => (Sx.Tch.req _).andThen fun _ => Sx.Tch.ret _
/-- what netRd found -/
structure NetF (g : Sx.G) (N : Nat) (w : NetA) (E : Nat → El) : Prop where
 net : ∃ ob c s1 s2 s3, g.H.get N = some (.cells ob 7 1 c) ∧ c.row 0 = [.bool true, .slc s1 true w.l w.n, .mp w.m1, .slc s2 true w.nd w.q, .mp w.m2, .slc s3 true w.bg w.r, .mp w.m3]
 l0 : w.l.i = 0 ∧ w.l.o = 0
 nd0 : w.nd.i = 0 ∧ w.nd.o = 0
 bg0 : w.bg.i = 0 ∧ w.bg.o = 0
 dup : [N, w.m1, w.m2, w.m3, w.l.g, w.nd.g, w.bg.g].Nodup
 n256 : w.n ≤ 256
 q_is : w.q = (ND E w.n).length
 r_is : w.r = (BR E w.n).length
 m1 : ∃ s, g.H.get w.m1 = some (.mSI s (zipF 0 (NM E w.n)))
 m2 : ∃ s, g.H.get w.m2 = some (.mSI s (zipF 0 (ND E w.n)))
 m3 : ∃ s, g.H.get w.m3 = some (.mSI s (zipF 0 (BR E w.n)))
 l : ∃ o c, g.H.get w.l.g = some (.cells o 8 w.n c) ∧ ∀ j, j < w.n → Sx.RowGe (c.row j) (elR (E j))
 nd : ∃ o c, g.H.get w.nd.g = some (.cells o 1 w.q c) ∧ ∀ j, j < w.q → Sx.RowGe (c.row j) (txR (lget (ND E w.n)) j)
 bg : ∃ o c, g.H.get w.bg.g = some (.cells o 1 w.r c) ∧ ∀ j, j < w.r → Sx.RowGe (c.row j) (txR (lget (BR E w.n)) j)
theorem netRd_done {N : Nat} {y : NetA × (Nat → El)} {g g' : Sx.G} (h : netRd N g = .done y g') : ∃ q, Sx.Keep g g' q ∧ (q → NetF g N y.1 y.2) := by
 unfold netRd at h
 obtain ⟨w, g1, a1, h⟩ := Sx.done_of h
 obtain ⟨rfl, ob, c, s1, s2, s3, hN, eN, f1, f2, f3⟩ := netAt_done a1
 obtain ⟨_, g2, a2, h⟩ := Sx.done_of h
 obtain ⟨dd, rfl⟩ := Sx.okIf_done a2
 obtain ⟨b1, g3, a3, h⟩ := Sx.done_of h
 obtain ⟨hb1, rfl⟩ := Sx.getB_done a3
 obtain ⟨⟨t1, M1⟩, g4, a4, h⟩ := Sx.done_of h
 obtain ⟨e1, rfl⟩ := Sx.ofOpt_done a4
 obtain ⟨b2, g5, a5, h⟩ := Sx.done_of h
 obtain ⟨hb2, rfl⟩ := Sx.getB_done a5
 obtain ⟨⟨t2, M2⟩, g6, a6, h⟩ := Sx.done_of h
 obtain ⟨e2, rfl⟩ := Sx.ofOpt_done a6
 obtain ⟨b3, g7, a7, h⟩ := Sx.done_of h
 obtain ⟨hb3, rfl⟩ := Sx.getB_done a7
 obtain ⟨⟨t3, M3⟩, g8, a8, h⟩ := Sx.done_of h
 obtain ⟨e3, rfl⟩ := Sx.ofOpt_done a8
 obtain ⟨⟨o1, z1, k1, cl⟩, g9, a9, h⟩ := Sx.done_of h
 obtain ⟨hl, rfl⟩ := Sx.getC_done a9
 obtain ⟨⟨o2, z2, k2, cn⟩, g10, a10, h⟩ := Sx.done_of h
 obtain ⟨hn, rfl⟩ := Sx.getC_done a10
 obtain ⟨⟨o3, z3, k3, cb⟩, g11, a11, h⟩ := Sx.done_of h
 obtain ⟨hbb, rfl⟩ := Sx.getC_done a11
 obtain ⟨_, g12, a12, h⟩ := Sx.done_of h
 obtain ⟨zz, rfl⟩ := Sx.okIf_done a12
 obtain ⟨_, g13, a13, h⟩ := Sx.done_of h
 have kk := Sx.req_done a13
 obtain ⟨rfl, rfl⟩ := Sx.ret_done h
 have e1 := Sx.asSI_some e1
 have e2 := Sx.asSI_some e2
 have e3 := Sx.asSI_some e3
 subst e1 e2 e3
 simp only [Bool.and_eq_true] at zz
 obtain ⟨⟨y1, y2⟩, y3⟩ := zz
 obtain rfl := Nat.eq_of_beq_eq_true y1
 obtain rfl := Nat.eq_of_beq_eq_true y2
 obtain rfl := Nat.eq_of_beq_eq_true y3
 refine ⟨_, kk, fun Q => ?_⟩
 dsimp only at Q hl hn hbb hb1 hb2 hb3 ⊢
 have i1 := Q.ln
 have i2 := Q.lq
 have i3 := Q.lr
 subst i1 i2 i3
 refine ⟨⟨ob, c, s1, s2, s3, hN, eN⟩, f1, f2, f3, Sx.nodup_of dd, Q.n256, Q.q_is, Q.r_is, ⟨t1, by rw [hb1, Q.m1]⟩, ⟨t2, by rw [hb2, Q.m2]⟩, ⟨t3, by rw [hb3, Q.m3]⟩, ⟨_, _, hl, Q.rl⟩, ⟨_, _, hn, Q.rn⟩, ⟨_, _, hbb, Q.rb⟩⟩
theorem viewR {N : Nat} {μ : Sx.MM} {hp : Array Obj} {g sz m : Nat} {own : Bool} {c : Sx.Cont} {rows : Nat → List Sx.AV} (h : Sx.BkOk N μ hp g (.cells own sz m c)) (k : ∀ j, j < m → Sx.RowGe (c.row j) (rows j)) : Sx.BkOk N μ hp g (.cells false sz m (.fn rows)) := by
 refine ⟨h.1, h.2.1, fun hr => ?_⟩
 obtain ⟨cur, ty, fz, p1, p2, p3, p4⟩ := h.2.2 (hr.elim .inl fun c => by cases c.1)
 exact ⟨cur, ty, fz, p1, p2, fun h => (by cases h), fun i hi => Sx.RowOk.ge (p4 i hi) (k i hi)⟩


def fbk (p : Nat → Bool) : Nat → Nat → Nat
 | i, 0 => i
 | i, m + 1 => bif p i then fbk p (i + 1) m else i
theorem fbk_all {p : Nat → Bool} : ∀ (m i : Nat), (∀ j, i ≤ j → j < i + m → p j = true) → fbk p i m = i + m
 | 0, i, _ => rfl
 | m + 1, i, h => by
  unfold fbk
  rw [h i (Nat.le_refl _) (by omega), cond_true, fbk_all m (i + 1) fun j a b => h j (by omega) (by omega)]
  omega
theorem fbk_at {p : Nat → Bool} {k : Nat} (hk : p k = false) : ∀ (m i : Nat), i ≤ k → k < i + m → (∀ j, i ≤ j → j < k → p j = true) → fbk p i m = k
 | 0, i, h1, h2, _ => by omega
 | m + 1, i, h1, h2, h => by
  unfold fbk
  by_cases c : i = k
  ·subst c; rw [hk, cond_false]
  ·rw [h i (Nat.le_refl _) (by omega), cond_true]
   exact fbk_at hk m (i + 1) (by omega) (by omega) fun j a b => h j (by omega) b
noncomputable def rightS : List Sx.AV → Sx.M Sx.AV
 | [.ptr aN] => (Sx.M.okIf (flat0 aN)).andThen fun _ => (netRd aN.g).andThen fun y => (Sx.M.setB y.1.m1 (.mSI true (zipF 0 (NM y.2 y.1.n)))).andThen fun _ => (Sx.M.setB y.1.m2 (.mSI true (zipF 0 (ND y.2 y.1.n)))).andThen fun _ => (Sx.M.setB y.1.m3 (.mSI true (zipF 0 (BR y.2 y.1.n)))).andThen fun _ => (Sx.M.dec (decide (fbk (RB y.2 y.1.n) 0 y.1.n = y.1.n))).andThen fun d =>
   bif d then (Sx.M.newB (.cells true 1 (ulen y.2 y.1.n) (.fn (cxR (RF y.2 y.1.n y.1.n))))).andThen fun N => Sx.M.ret (.tup [.slc true true ⟨false, N, 0, 0⟩ (ulen y.2 y.1.n), .agg [.int false .i64 0, .int false .i64 0]])
   else Sx.M.ret (.tup [.nils, .agg [.int false .i64 6, .int true .i64 ((fbk (RB y.2 y.1.n) 0 y.1.n : Nat) : Int)]])
 | _ => Sx.M.no
theorem rightS_tch : ∀ args, Sx.Tch (rightS args) := by
 intro args
 unfold rightS
 split
 ·exact (Sx.Tch.okIf _).andThen fun _ => (Tch_netRd _).andThen fun _ => (Sx.Tch.setB _ _).andThen fun _ => (Sx.Tch.setB _ _).andThen fun _ => (Sx.Tch.setB _ _).andThen fun _ => (Sx.Tch.dec _).andThen fun d => Sx.Tch.cond ((Sx.Tch.newB _).andThen fun _ => Sx.Tch.ret _) (Sx.Tch.ret _)
 ·exact Sx.Tch.no
/-- the net's blocks, told in the small heap -/
theorem net_told {g : Sx.G} {N : Nat} {w : NetA} {E : Nat → El} (F : NetF g N w E) : ∀ i b, (Sx.hpL [(2, .cells false 7 1 (.fn fun _ => netR 6 7 8 w.n w.q w.r)), (3, .mSI true (zipF 0 (NM E w.n))), (4, .mSI true (zipF 0 (ND E w.n))), (5, .mSI true (zipF 0 (BR E w.n))), (6, .cells false 8 w.n (.fn fun j => elR (E j))), (7, .cells false 1 w.q (.fn (txR (lget (ND E w.n))))), (8, .cells false 1 w.r (.fn (txR (lget (BR E w.n)))))]).get i = some b → Sx.Told g (netRho N w) 9 i b := by
 intro i b hbb
 have hm' := Sx.hpL_get hbb
 simp only [List.mem_cons, List.not_mem_nil, or_false] at hm'
 rcases hm' with h | h | h | h | h | h | h <;> cases h
 ·obtain ⟨ob, c, s1, s2, s3, hN, eN⟩ := F.net
  exact ⟨by omega, fun j hj v hv => List.all_eq_true.1 (show (netR 6 7 8 w.n w.q w.r).all (fun v => v.low 9) = true from rfl) v hv, _, hN, fun N μ hp k => view1 k (net_row eN F.l0 F.nd0 F.bg0 rfl rfl rfl rfl rfl rfl), fun h => (by cases h), fun μ m hr => .inl (by omega)⟩
 ·obtain ⟨s, h⟩ := F.m1
  exact ⟨by omega, trivial, _, h, fun N μ hp k => k, fun _ => rfl, fun μ m hr => hr⟩
 ·obtain ⟨s, h⟩ := F.m2
  exact ⟨by omega, trivial, _, h, fun N μ hp k => k, fun _ => rfl, fun μ m hr => hr⟩
 ·obtain ⟨s, h⟩ := F.m3
  exact ⟨by omega, trivial, _, h, fun N μ hp k => k, fun _ => rfl, fun μ m hr => hr⟩
 ·obtain ⟨o, c, h, hr⟩ := F.l
  exact ⟨by omega, fun j hj v hv => List.all_eq_true.1 (elR_low 9 _) v hv, _, h, fun N μ hp k => viewR k hr, fun h => (by cases h), fun μ m hr => hr.elim .inl fun c => by cases c.1⟩
 ·obtain ⟨o, c, h, hr⟩ := F.nd
  exact ⟨by omega, fun j hj v hv => by rw [List.mem_singleton.1 hv]; rfl, _, h, fun N μ hp k => viewR k hr, fun h => (by cases h), fun μ m hr => hr.elim .inl fun c => by cases c.1⟩
 ·obtain ⟨o, c, h, hr⟩ := F.bg
  exact ⟨by omega, fun j hj v hv => by rw [List.mem_singleton.1 hv]; rfl, _, h, fun N μ hp k => viewR k hr, fun h => (by cases h), fun μ m hr => hr.elim .inl fun c => by cases c.1⟩
theorem net_inj {g : Sx.G} {N : Nat} {w : NetA} {E : Nat → El} (F : NetF g N w E) : ∀ i j b b', (Sx.hpL [(2, .cells false 7 1 (.fn fun _ => netR 6 7 8 w.n w.q w.r)), (3, .mSI true (zipF 0 (NM E w.n))), (4, .mSI true (zipF 0 (ND E w.n))), (5, .mSI true (zipF 0 (BR E w.n))), (6, .cells false 8 w.n (.fn fun j => elR (E j))), (7, .cells false 1 w.q (.fn (txR (lget (ND E w.n))))), (8, .cells false 1 w.r (.fn (txR (lget (BR E w.n)))))]).get i = some b → (Sx.hpL [(2, .cells false 7 1 (.fn fun _ => netR 6 7 8 w.n w.q w.r)), (3, .mSI true (zipF 0 (NM E w.n))), (4, .mSI true (zipF 0 (ND E w.n))), (5, .mSI true (zipF 0 (BR E w.n))), (6, .cells false 8 w.n (.fn fun j => elR (E j))), (7, .cells false 1 w.q (.fn (txR (lget (ND E w.n))))), (8, .cells false 1 w.r (.fn (txR (lget (BR E w.n)))))]).get j = some b' → netRho N w i = netRho N w j → i = j := by
 intro i j b b' hi hj e
 have d := F.dup
 simp only [List.nodup_cons, List.mem_cons, List.not_mem_nil, or_false, not_or, not_false_eq_true, List.nodup_nil, and_true] at d
 obtain ⟨⟨d1, d2, d3, d4, d5, d6⟩, ⟨d7, d8, d9, d10, d11⟩, ⟨d12, d13, d14, d15⟩, ⟨d16, d17, d18⟩, ⟨d19, d20⟩, d21⟩ := d
 have hm1 := Sx.hpL_get hi
 have hm2 := Sx.hpL_get hj
 simp only [List.mem_cons, List.not_mem_nil, or_false] at hm1 hm2
 rcases hm1 with h | h | h | h | h | h | h <;> cases h <;> rcases hm2 with h | h | h | h | h | h | h <;> cases h <;> first | rfl | exact absurd e (by assumption) | exact absurd e.symm (by assumption)


def kapN (w : NetA) (x i : Nat) : Nat := if i = w.m1 then 3 else if i = w.m2 then 4 else if i = w.m3 then 5 else if i = x then 10 else 11
theorem rightS_ok : ∀ args v g g', rightS args g = .done v g' → Sx.CallIs Try.prog 16 args v g g' := by
 intro args v g g' h
 unfold rightS at h
 split at h
 case h_2 => exact (Sx.no_done h).elim
 rename_i aN
 obtain ⟨_, g1, a1, h⟩ := Sx.done_of h
 obtain ⟨q0, rfl⟩ := Sx.okIf_done a1
 have q0 := flat0_is q0
 obtain ⟨⟨w, E⟩, g3, a3, h⟩ := Sx.done_of h
 obtain ⟨qf, kk0, f0⟩ := netRd_done a3
 dsimp only at h f0
 obtain ⟨_, g4, a4, h⟩ := Sx.done_of h
 obtain ⟨_, g5, a5, h⟩ := Sx.done_of h
 obtain ⟨_, g55, a55, h⟩ := Sx.done_of h
 obtain ⟨b1, b2, b3⟩ := Sx.setB_done a4
 obtain ⟨b4, b5, b6⟩ := Sx.setB_done a5
 obtain ⟨b7, b8, b9⟩ := Sx.setB_done a55
 obtain ⟨d, g6, a6, h⟩ := Sx.done_of h
 have k6 := Sx.dec_done a6
 have hnx : g6.nx = g.nx := by rw [k6.2.1, b8, b5, b2, kk0.2.1]
 have hH : g6.H = ((g3.H.upd w.m1 (some (Sx.ABk.mSI true (zipF 0 (NM E w.n))))).upd w.m2 (some (Sx.ABk.mSI true (zipF 0 (ND E w.n))))).upd w.m3 (some (Sx.ABk.mSI true (zipF 0 (BR E w.n)))) := by rw [k6.1, b7, b4, b1]
 have kk : g6.cs → g.cs ∧ (qf ∧ decide (fbk (RB E w.n) 0 w.n = w.n) = d) := fun hc => by
  obtain ⟨c1, c2⟩ := k6.2.2 hc
  rw [b9, b6, b3] at c1
  exact ⟨(kk0.2.2 c1).1, (kk0.2.2 c1).2, c2⟩
 have kk : True ∧ True ∧ (g6.cs → g.cs ∧ (qf ∧ decide (fbk (RB E w.n) 0 w.n = w.n) = d)) := ⟨trivial, trivial, kk⟩
 have ff : (qf ∧ decide (fbk (RB E w.n) 0 w.n = w.n) = d) → NetF g aN.g w E := fun h => f0 h.1
 cases d with
 | true =>
  rw [cond_true] at h
  obtain ⟨N, g7, a7, h⟩ := Sx.done_of h
  obtain ⟨rfl, rfl⟩ := Sx.ret_done h
  cases a7
  rw [hnx]
  refine Sx.smallCallN (c := (Sx.bodyOf Try.f16)) Try.func16 (by kernel_rfl) (by kernel_rfl) (argsC := [.ptr ⟨false, 2, 0, 0⟩]) (bl := [(2, .cells false 7 1 (.fn fun _ => netR 6 7 8 w.n w.q w.r)), (3, .mSI true (zipF 0 (NM E w.n))), (4, .mSI true (zipF 0 (ND E w.n))), (5, .mSI true (zipF 0 (BR E w.n))), (6, .cells false 8 w.n (.fn fun j => elR (E j))), (7, .cells false 1 w.q (.fn (txR (lget (ND E w.n))))), (8, .cells false 1 w.r (.fn (txR (lget (BR E w.n)))))]) (bl' := [(w.m1, .mSI true (zipF 0 (NM E w.n))), (w.m2, .mSI true (zipF 0 (ND E w.n))), (w.m3, .mSI true (zipF 0 (BR E w.n))), (g.nx, .cells true 1 (ulen E w.n) (.fn (cxR (RF E w.n w.n))))]) (K0 := 9) (K' := 12) (p := _) (fun hc => kk.2.2 hc) (netRho aN.g w) (kapN w g.nx) (nms := [10]) (g' := { g6 with H := g6.H.upd g.nx (some (Sx.ABk.cells true 1 (ulen E w.n) (.fn (cxR (RF E w.n w.n))))), nx := g.nx + 1 }) (show g.nx + 1 = g.nx + 1 from rfl) (v := .tup [.slc true true ⟨false, g.nx, 0, 0⟩ (ulen E w.n), .agg [.int false .i64 0, .int false .i64 0]]) (fun i => i = w.m1 ∨ i = w.m2 ∨ i = w.m3 ∨ i = g.nx) ?_ ?_ ?_ (fun nm h => by rw [List.mem_singleton.1 h]; omega) (by decide) ?_ ?_ ?_ ?_ ?_ ?_ ?_
  ·intro hp N μ cs hr
   simp only [Sx.Reps] at hr ⊢
   obtain ⟨v1, r1, rfl, i1, rfl⟩ := hr
   exact ⟨v1, _, rfl, rep_ptr0 i1 q0.1 q0.2 (by omega) rfl, rfl⟩
  ·exact fun hp => net_told (ff hp)
  ·exact fun hp => net_inj (ff hp)
  ·intro hp hL j hj
   obtain rfl : j = 0 := by simpa using hj
   obtain ⟨⟨_, h1⟩, ⟨_, h2⟩, ⟨_, h3⟩⟩ := (⟨(ff hp).m1, (ff hp).m2, (ff hp).m3⟩ : _ ∧ _ ∧ _)
   have := hL _ _ h1; have := hL _ _ h2; have := hL _ _ h3
   show kapN w g.nx (g.nx + 0) = 10
   unfold kapN
   rw [if_neg (by omega), if_neg (by omega), if_neg (by omega), if_pos (by omega)]
  ·intro hp hL i hi
   have d := (ff hp).dup
   simp only [List.nodup_cons, List.mem_cons, List.not_mem_nil, or_false, not_or, not_false_eq_true, List.nodup_nil, and_true] at d
   obtain ⟨⟨d1, d2, d3, d4, d5, d6⟩, ⟨d7, d8, d9, d10, d11⟩, ⟨d12, d13, d14, d15⟩, ⟨d16, d17, d18⟩, ⟨d19, d20⟩, d21⟩ := d
   obtain ⟨⟨_, h1⟩, ⟨_, h2⟩, ⟨_, h3⟩⟩ := (⟨(ff hp).m1, (ff hp).m2, (ff hp).m3⟩ : _ ∧ _ ∧ _)
   have l1 := hL _ _ h1
   have l2 := hL _ _ h2
   have l3 := hL _ _ h3
   have k1 : (kapN w g.nx) w.m1 = 3 := if_pos rfl
   have k2 : (kapN w g.nx) w.m2 = 4 := (if_neg (fun c => d7 c.symm)).trans (if_pos rfl)
   have k3 : (kapN w g.nx) w.m3 = 5 := (if_neg (fun c => d8 c.symm)).trans ((if_neg (fun c => d12 c.symm)).trans (if_pos rfl))
   have k4 : (kapN w g.nx) g.nx = 10 := (if_neg (by omega)).trans ((if_neg (by omega)).trans ((if_neg (by omega)).trans (if_pos rfl)))
   rcases hi with rfl | rfl | rfl | rfl
   ·exact ⟨by show _ < g.nx + 1; omega, fun _ => by rw [k1]; exact ⟨by omega, rfl⟩⟩
   ·exact ⟨by show _ < g.nx + 1; omega, fun _ => by rw [k2]; exact ⟨by omega, rfl⟩⟩
   ·exact ⟨by show _ < g.nx + 1; omega, fun _ => by rw [k3]; exact ⟨by omega, rfl⟩⟩
   ·exact ⟨by show _ < g.nx + 1; omega, fun h => by omega⟩
  ·intro hp hL
   have d := (ff hp).dup
   simp only [List.nodup_cons, List.mem_cons, List.not_mem_nil, or_false, not_or, not_false_eq_true, List.nodup_nil, and_true] at d
   obtain ⟨⟨d1, d2, d3, d4, d5, d6⟩, ⟨d7, d8, d9, d10, d11⟩, ⟨d12, d13, d14, d15⟩, ⟨d16, d17, d18⟩, ⟨d19, d20⟩, d21⟩ := d
   obtain ⟨⟨_, h1⟩, ⟨_, h2⟩, ⟨_, h3⟩⟩ := (⟨(ff hp).m1, (ff hp).m2, (ff hp).m3⟩ : _ ∧ _ ∧ _)
   have l1 := hL _ _ h1
   have l2 := hL _ _ h2
   have l3 := hL _ _ h3
   have k1 : (kapN w g.nx) w.m1 = 3 := if_pos rfl
   have k2 : (kapN w g.nx) w.m2 = 4 := (if_neg (fun c => d7 c.symm)).trans (if_pos rfl)
   have k3 : (kapN w g.nx) w.m3 = 5 := (if_neg (fun c => d8 c.symm)).trans ((if_neg (fun c => d12 c.symm)).trans (if_pos rfl))
   have k4 : (kapN w g.nx) g.nx = 10 := (if_neg (by omega)).trans ((if_neg (by omega)).trans ((if_neg (by omega)).trans (if_pos rfl)))
   rw [(ff hp).q_is, (ff hp).r_is]
   refine (right_goes w.n E (ff hp).n256).mono fun e fr' H' h => ?_
   have hd := of_decide_eq_true hp.2
   obtain ⟨rfl, ⟨k, hk, ha, hb, rfl, rfl⟩ | ⟨ha, rfl, rfl⟩⟩ := h
   ·have e1 : fbk (RB E w.n) 0 w.n = k := fbk_at hb w.n 0 (by omega) (by omega) fun j _ hj => ha j hj
    omega
   ·have e1 : fbk (RB E w.n) 0 w.n = w.n := by rw [fbk_all w.n 0 fun j _ hj => ha j (by omega), Nat.zero_add]
    refine ⟨.inl rfl, [.slc true true ⟨false, 10, 0, 0⟩ (ulen E w.n), .agg [.int false .i64 0, .int false .i64 0]], _, rfl, trivial, ?_, ?_⟩
    ·simp only [Sx.AV.ren, Sx.rens, Sx.AA.ren, k4]
     exact Sx.AV.ge.refl _
    intro q hq
    simp only [List.mem_cons, List.not_mem_nil, or_false] at hq
    rcases hq with rfl | rfl | rfl | rfl
    ·exact ⟨_, (by rw [k1]; rfl), Sx.SameC.refl _⟩
    ·exact ⟨_, (by rw [k2]; rfl), Sx.SameC.refl _⟩
    ·exact ⟨_, (by rw [k3]; rfl), Sx.SameC.refl _⟩
    ·exact ⟨.cells true 1 (ulen E w.n) (.fn (cxR (RF E w.n w.n))), (by rw [k4]; rfl), ⟨rfl, rfl, rfl, fun j hj => rfl⟩⟩
  ·intro hp hL
   have : Nat.blt g.nx (g.nx + 1) = true := Nat.ble_eq_true_of_le (Nat.le_refl _)
   simp [Sx.AV.low, Sx.lows, this]
  ·intro hp hL
   simp only [Sx.AV.inS, Sx.insS]
   exact ⟨.inr (.inr (.inr trivial)), ⟨trivial, trivial, trivial⟩, trivial⟩
  ·intro hp hL q hq
   have d := (ff hp).dup
   simp only [List.nodup_cons, List.mem_cons, List.not_mem_nil, or_false, not_or, not_false_eq_true, List.nodup_nil, and_true] at d
   obtain ⟨⟨d1, d2, d3, d4, d5, d6⟩, ⟨d7, d8, d9, d10, d11⟩, ⟨d12, d13, d14, d15⟩, ⟨d16, d17, d18⟩, ⟨d19, d20⟩, d21⟩ := d
   obtain ⟨⟨_, h1⟩, ⟨_, h2⟩, ⟨_, h3⟩⟩ := (⟨(ff hp).m1, (ff hp).m2, (ff hp).m3⟩ : _ ∧ _ ∧ _)
   have l1 := hL _ _ h1
   have l2 := hL _ _ h2
   have l3 := hL _ _ h3
   have k1 : (kapN w g.nx) w.m1 = 3 := if_pos rfl
   have k2 : (kapN w g.nx) w.m2 = 4 := (if_neg (fun c => d7 c.symm)).trans (if_pos rfl)
   have k3 : (kapN w g.nx) w.m3 = 5 := (if_neg (fun c => d8 c.symm)).trans ((if_neg (fun c => d12 c.symm)).trans (if_pos rfl))
   have k4 : (kapN w g.nx) g.nx = 10 := (if_neg (by omega)).trans ((if_neg (by omega)).trans ((if_neg (by omega)).trans (if_pos rfl)))
   simp only [List.mem_cons, List.not_mem_nil, or_false] at hq
   rcases hq with rfl | rfl | rfl | rfl
   ·exact ⟨.inl rfl, trivial, trivial, fun _ => ⟨_, (by rw [k1]; rfl), rfl, fun μ m h => h⟩, fun _ => rfl⟩
   ·exact ⟨.inr (.inl rfl), trivial, trivial, fun _ => ⟨_, (by rw [k2]; rfl), rfl, fun μ m h => h⟩, fun _ => rfl⟩
   ·exact ⟨.inr (.inr (.inl rfl)), trivial, trivial, fun _ => ⟨_, (by rw [k3]; rfl), rfl, fun μ m h => h⟩, fun _ => rfl⟩
   ·refine ⟨.inr (.inr (.inr rfl)), fun j hj o v hv => ?_, fun j hj v hv => cxR_low hv, fun h => (by omega), fun _ => rfl⟩
    match o, hv with
    | 0, hv => cases hv; trivial
  ·intro hp hL i b hi
   have hi : (g6.H.upd g.nx (some (Sx.ABk.cells true 1 (ulen E w.n) (.fn (cxR (RF E w.n w.n)))))).get i = some b := hi
   rw [hH] at hi
   rw [Sx.T.get_upd] at hi
   split at hi
   ·rename_i e; cases hi; subst e; exact .inr (by simp)
   rename_i n4
   rw [Sx.T.get_upd] at hi
   split at hi
   ·rename_i e; cases hi; subst e; exact .inr (by simp)
   rename_i n3
   rw [Sx.T.get_upd] at hi
   split at hi
   ·rename_i e; cases hi; subst e; exact .inr (by simp)
   rename_i n2
   rw [Sx.T.get_upd] at hi
   split at hi
   ·rename_i e; cases hi; subst e; exact .inr (by simp)
   rename_i n1
   rw [kk0.1] at hi
   refine .inl ⟨hi, fun j bj hj ho e => ?_⟩
   have hm' := Sx.hpL_get hj
   simp only [List.mem_cons, List.not_mem_nil, or_false] at hm'
   rcases hm' with h | h | h | h | h | h | h <;> cases h
   ·cases ho
   ·exact n1 e.symm
   ·exact n2 e.symm
   ·exact n3 e.symm
   ·cases ho
   ·cases ho
   ·cases ho
 | false =>
  rw [cond_false] at h
  obtain ⟨rfl, rfl⟩ := Sx.ret_done h
  refine Sx.smallCallN (c := (Sx.bodyOf Try.f16)) Try.func16 (by kernel_rfl) (by kernel_rfl) (argsC := [.ptr ⟨false, 2, 0, 0⟩]) (bl := [(2, .cells false 7 1 (.fn fun _ => netR 6 7 8 w.n w.q w.r)), (3, .mSI true (zipF 0 (NM E w.n))), (4, .mSI true (zipF 0 (ND E w.n))), (5, .mSI true (zipF 0 (BR E w.n))), (6, .cells false 8 w.n (.fn fun j => elR (E j))), (7, .cells false 1 w.q (.fn (txR (lget (ND E w.n))))), (8, .cells false 1 w.r (.fn (txR (lget (BR E w.n)))))]) (bl' := [(w.m1, .mSI true (zipF 0 (NM E w.n))), (w.m2, .mSI true (zipF 0 (ND E w.n))), (w.m3, .mSI true (zipF 0 (BR E w.n)))]) (K0 := 9) (K' := 12) (p := _) (fun hc => kk.2.2 hc) (netRho aN.g w) (kapN w g.nx) (nms := [])  (show g6.nx = g.nx from hnx) (v := .tup [.nils, .agg [.int false .i64 6, .int true .i64 ((fbk (RB E w.n) 0 w.n : Nat) : Int)]]) (fun i => i = w.m1 ∨ i = w.m2 ∨ i = w.m3) ?_ ?_ ?_ (fun nm h => by cases h) List.nodup_nil ?_ ?_ ?_ ?_ ?_ ?_ ?_
  ·intro hp N μ cs hr
   simp only [Sx.Reps] at hr ⊢
   obtain ⟨v1, r1, rfl, i1, rfl⟩ := hr
   exact ⟨v1, _, rfl, rep_ptr0 i1 q0.1 q0.2 (by omega) rfl, rfl⟩
  ·exact fun hp => net_told (ff hp)
  ·exact fun hp => net_inj (ff hp)
  ·intro hp hL j hj
   exact absurd hj (Nat.not_lt_zero _)
  ·intro hp hL i hi
   have d := (ff hp).dup
   simp only [List.nodup_cons, List.mem_cons, List.not_mem_nil, or_false, not_or, not_false_eq_true, List.nodup_nil, and_true] at d
   obtain ⟨⟨d1, d2, d3, d4, d5, d6⟩, ⟨d7, d8, d9, d10, d11⟩, ⟨d12, d13, d14, d15⟩, ⟨d16, d17, d18⟩, ⟨d19, d20⟩, d21⟩ := d
   obtain ⟨⟨_, h1⟩, ⟨_, h2⟩, ⟨_, h3⟩⟩ := (⟨(ff hp).m1, (ff hp).m2, (ff hp).m3⟩ : _ ∧ _ ∧ _)
   have l1 := hL _ _ h1
   have l2 := hL _ _ h2
   have l3 := hL _ _ h3
   have k1 : (kapN w g.nx) w.m1 = 3 := if_pos rfl
   have k2 : (kapN w g.nx) w.m2 = 4 := (if_neg (fun c => d7 c.symm)).trans (if_pos rfl)
   have k3 : (kapN w g.nx) w.m3 = 5 := (if_neg (fun c => d8 c.symm)).trans ((if_neg (fun c => d12 c.symm)).trans (if_pos rfl))
   rcases hi with rfl | rfl | rfl
   ·exact ⟨by show _ < g6.nx; rw [hnx]; omega, fun _ => by rw [k1]; exact ⟨by omega, rfl⟩⟩
   ·exact ⟨by show _ < g6.nx; rw [hnx]; omega, fun _ => by rw [k2]; exact ⟨by omega, rfl⟩⟩
   ·exact ⟨by show _ < g6.nx; rw [hnx]; omega, fun _ => by rw [k3]; exact ⟨by omega, rfl⟩⟩
  ·intro hp hL
   have d := (ff hp).dup
   simp only [List.nodup_cons, List.mem_cons, List.not_mem_nil, or_false, not_or, not_false_eq_true, List.nodup_nil, and_true] at d
   obtain ⟨⟨d1, d2, d3, d4, d5, d6⟩, ⟨d7, d8, d9, d10, d11⟩, ⟨d12, d13, d14, d15⟩, ⟨d16, d17, d18⟩, ⟨d19, d20⟩, d21⟩ := d
   obtain ⟨⟨_, h1⟩, ⟨_, h2⟩, ⟨_, h3⟩⟩ := (⟨(ff hp).m1, (ff hp).m2, (ff hp).m3⟩ : _ ∧ _ ∧ _)
   have l1 := hL _ _ h1
   have l2 := hL _ _ h2
   have l3 := hL _ _ h3
   have k1 : (kapN w g.nx) w.m1 = 3 := if_pos rfl
   have k2 : (kapN w g.nx) w.m2 = 4 := (if_neg (fun c => d7 c.symm)).trans (if_pos rfl)
   have k3 : (kapN w g.nx) w.m3 = 5 := (if_neg (fun c => d8 c.symm)).trans ((if_neg (fun c => d12 c.symm)).trans (if_pos rfl))
   rw [(ff hp).q_is, (ff hp).r_is]
   refine (right_goes w.n E (ff hp).n256).mono fun e fr' H' h => ?_
   have hd := of_decide_eq_false hp.2
   obtain ⟨rfl, ⟨k, hk, ha, hb, rfl, rfl⟩ | ⟨ha, rfl, rfl⟩⟩ := h
   ·have e1 : fbk (RB E w.n) 0 w.n = k := fbk_at hb w.n 0 (by omega) (by omega) fun j _ hj => ha j hj
    refine ⟨.inl rfl, [.nils, .agg [.int false .i64 6, .int true .i64 (k : Int)]], _, rfl, trivial, ?_, ?_⟩
    ·rw [e1]; simp only [Sx.AV.ren, Sx.rens]
     exact Sx.AV.ge.refl _
    intro q hq
    simp only [List.mem_cons, List.not_mem_nil, or_false] at hq
    rcases hq with rfl | rfl | rfl
    ·exact ⟨_, (by rw [k1]; rfl), Sx.SameC.refl _⟩
    ·exact ⟨_, (by rw [k2]; rfl), Sx.SameC.refl _⟩
    ·exact ⟨_, (by rw [k3]; rfl), Sx.SameC.refl _⟩
   ·have e1 : fbk (RB E w.n) 0 w.n = w.n := by rw [fbk_all w.n 0 fun j _ hj => ha j (by omega), Nat.zero_add]
    exact absurd e1 hd
  ·intro hp hL
   simp [Sx.AV.low, Sx.lows]
  ·intro hp hL
   simp [Sx.AV.inS, Sx.insS]
  ·intro hp hL q hq
   have d := (ff hp).dup
   simp only [List.nodup_cons, List.mem_cons, List.not_mem_nil, or_false, not_or, not_false_eq_true, List.nodup_nil, and_true] at d
   obtain ⟨⟨d1, d2, d3, d4, d5, d6⟩, ⟨d7, d8, d9, d10, d11⟩, ⟨d12, d13, d14, d15⟩, ⟨d16, d17, d18⟩, ⟨d19, d20⟩, d21⟩ := d
   obtain ⟨⟨_, h1⟩, ⟨_, h2⟩, ⟨_, h3⟩⟩ := (⟨(ff hp).m1, (ff hp).m2, (ff hp).m3⟩ : _ ∧ _ ∧ _)
   have l1 := hL _ _ h1
   have l2 := hL _ _ h2
   have l3 := hL _ _ h3
   have k1 : (kapN w g.nx) w.m1 = 3 := if_pos rfl
   have k2 : (kapN w g.nx) w.m2 = 4 := (if_neg (fun c => d7 c.symm)).trans (if_pos rfl)
   have k3 : (kapN w g.nx) w.m3 = 5 := (if_neg (fun c => d8 c.symm)).trans ((if_neg (fun c => d12 c.symm)).trans (if_pos rfl))
   simp only [List.mem_cons, List.not_mem_nil, or_false] at hq
   rcases hq with rfl | rfl | rfl
   ·exact ⟨.inl rfl, trivial, trivial, fun _ => ⟨_, (by rw [k1]; rfl), rfl, fun μ m h => h⟩, fun _ => rfl⟩
   ·exact ⟨.inr (.inl rfl), trivial, trivial, fun _ => ⟨_, (by rw [k2]; rfl), rfl, fun μ m h => h⟩, fun _ => rfl⟩
   ·exact ⟨.inr (.inr rfl), trivial, trivial, fun _ => ⟨_, (by rw [k3]; rfl), rfl, fun μ m h => h⟩, fun _ => rfl⟩
  ·intro hp hL i b hi
   rw [hH] at hi
   rw [Sx.T.get_upd] at hi
   split at hi
   ·rename_i e; cases hi; subst e; exact .inr (by simp)
   rename_i n3
   rw [Sx.T.get_upd] at hi
   split at hi
   ·rename_i e; cases hi; subst e; exact .inr (by simp)
   rename_i n2
   rw [Sx.T.get_upd] at hi
   split at hi
   ·rename_i e; cases hi; subst e; exact .inr (by simp)
   rename_i n1
   rw [kk0.1] at hi
   refine .inl ⟨hi, fun j bj hj ho e => ?_⟩
   have hm' := Sx.hpL_get hj
   simp only [List.mem_cons, List.not_mem_nil, or_false] at hm'
   rcases hm' with h | h | h | h | h | h | h <;> cases h
   ·cases ho
   ·exact n1 e.symm
   ·exact n2 e.symm
   ·exact n3 e.symm
   ·cases ho
   ·cases ho
   ·cases ho


theorem awake_run : Sx.pureP (.bool true) (call0 13 [] (Sx.G.on [])) = (Sx.AV.bool true = Sx.AV.bool true ∧ True) := by kernel_rfl
noncomputable def awakeS : List Sx.AV → Sx.M Sx.AV
 | [] => Sx.M.ret (.bool true)
 | args => call0 13 args
theorem awakeS_ok : ∀ args v g g', awakeS args g = .done v g' → Sx.CallIs Try.prog 13 args v g g' := by
 intro args v g g' h
 unfold awakeS at h
 split at h
 ·obtain ⟨rfl, rfl⟩ := Sx.ret_done h
  refine Sx.scal call0_ok fun μ cargs ha => ?_
  have ha' : Sx.Reps 0 Sx.MM.none [] cargs.toList := by simpa only [Sx.Reps] using ha
  exact ⟨[], [], _, ha', ⟨by rw [awake_run]; exact ⟨rfl, trivial⟩⟩, rfl, fun c hc => by have := hc g.nx μ; simpa only [Sx.Rep] using this⟩
 ·exact call0_ok _ _ _ _ _ h
theorem awakeS_tch : ∀ args, Sx.Tch (awakeS args) := by
 intro args
 unfold awakeS
 split
 ·exact Sx.Tch.ret _
 ·exact call0_tch _ _


noncomputable def gamQ : Sx.Known := Sx.kc 36 Sx.ofBits (Sx.kc 62 Sx.toBits (Sx.kc 81 smallS (Sx.kc 66 kindS (Sx.kc 63 rowOfS (Sx.kc 82 ofS (Sx.kc 64 nameS (Sx.kc 65 nodeS (Sx.kc 37 chkS (Sx.kc 88 constS (Sx.kc 83 cosS (Sx.kc 68 root2S (Sx.kc 10 phS (Sx.kc 47 finS (Sx.kc 21 subS (Sx.kc 22 addS (Sx.kc 14 netofS (Sx.kc 15 elsS (Sx.kc 48 putS (Sx.kc 16 rightS (Sx.kc 13 awakeS (Sx.kn)))))))))))))))))))))
theorem gamQ_ok : Sx.KnownOk Try.prog gamQ := Sx.kc_ok ((Sx.ofBits_is Try.prog).callIs Try.func36 (by kernel_rfl) (by kernel_rfl) (by kernel_rfl) (by kernel_rfl)) (Sx.kc_ok ((Sx.toBits_is Try.prog).callIs Try.func62 (by kernel_rfl) (by kernel_rfl) (by kernel_rfl) (by kernel_rfl)) (Sx.kc_ok smallS_ok (Sx.kc_ok kindS_ok (Sx.kc_ok rowOfS_ok (Sx.kc_ok ofS_ok (Sx.kc_ok nameS_ok (Sx.kc_ok nodeS_ok (Sx.kc_ok chkS_ok (Sx.kc_ok constS_ok (Sx.kc_ok cosS_ok (Sx.kc_ok root2S_ok (Sx.kc_ok phS_ok (Sx.kc_ok finS_ok (Sx.kc_ok subS_ok (Sx.kc_ok addS_ok (Sx.kc_ok netofS_ok (Sx.kc_ok elsS_ok (Sx.kc_ok putS_ok (Sx.kc_ok rightS_ok (Sx.kc_ok awakeS_ok (Sx.kn_ok)))))))))))))))))))))
theorem gamQ_tch : Sx.KnownT gamQ := Sx.kc_tch Sx.Tch.ofBits (Sx.kc_tch Sx.Tch.toBits (Sx.kc_tch smallS_tch (Sx.kc_tch kindS_tch (Sx.kc_tch rowOfS_tch (Sx.kc_tch ofS_tch (Sx.kc_tch nameS_tch (Sx.kc_tch nodeS_tch (Sx.kc_tch chkS_tch (Sx.kc_tch constS_tch (Sx.kc_tch cosS_tch (Sx.kc_tch root2S_tch (Sx.kc_tch phS_tch (Sx.kc_tch finS_tch (Sx.kc_tch subS_tch (Sx.kc_tch addS_tch (Sx.kc_tch netofS_tch (Sx.kc_tch elsS_tch (Sx.kc_tch putS_tch (Sx.kc_tch rightS_tch (Sx.kc_tch awakeS_tch (Sx.kn_tch)))))))))))))))))))))
noncomputable def callQ : Sx.Calls' := Sx.runN Try.prog gamQ (Sx.regionC Try.prog) 1000 50
theorem callQ_ok : Sx.CallOk Try.prog callQ := Sx.engineC gamQ_ok gamQ_tch (by kernel_rfl) (by kernel_rfl) 1000 50
theorem callQ_tch : Sx.CallT callQ := Sx.runA_tch gamQ_tch (fun _ _ _ h => by cases h) (fun call hc n l fr => Sx.regionC_tch hc n l fr) 50
theorem pick_r0 (x y : Int) (c0 : y ≠ (0 : Int)) (c1 : decide (Int.tmod x y < (0 : Int)) = true) (c2 : (-9223372036854775808 : Int) ≤ Int.tmod x y + y) (c3 : Int.tmod x y + y ≤ (9223372036854775807 : Int)) : Sx.PureP (Sx.AV.int true .i64 (Int.tmod x y + y)) (callQ 19 [.int true .i64 x, .int true .i64 y] (Sx.G.on [true])) := Sx.eqq (q := (((True ∧ (y ≠ (0 : Int))) ∧ (decide (Int.tmod x y < (0 : Int)) = true)) ∧ (((-9223372036854775808 : Int) ≤ Int.tmod x y + y) ∧ (Int.tmod x y + y ≤ (9223372036854775807 : Int))))) (by kernel_rfl) ⟨⟨⟨trivial, c0⟩, c1⟩, ⟨c2, c3⟩⟩
theorem pick_r1 (x y : Int) (c0 : y ≠ (0 : Int)) (c1 : decide (Int.tmod x y < (0 : Int)) = false) : Sx.PureP (Sx.AV.int true .i64 (Int.tmod x y)) (callQ 19 [.int true .i64 x, .int true .i64 y] (Sx.G.on [false])) := Sx.eqq (q := ((True ∧ (y ≠ (0 : Int))) ∧ (decide (Int.tmod x y < (0 : Int)) = false))) (by kernel_rfl) ⟨⟨trivial, c0⟩, c1⟩
noncomputable def pick_0 (x y : Int) : Int := (bif decide (Int.tmod x y < (0 : Int)) then (Int.tmod x y + y) else (Int.tmod x y))
noncomputable def pickS : List Sx.AV → Sx.M Sx.AV
 | [.int s0 .i64 x, .int s1 .i64 y] => (Sx.M.req (((decide (Int.tmod x y < (0 : Int))) = true → (y ≠ (0 : Int))) ∧ ((decide (Int.tmod x y < (0 : Int))) = true → ((-9223372036854775808 : Int) ≤ Int.tmod x y + y)) ∧ ((decide (Int.tmod x y < (0 : Int))) = true → (Int.tmod x y + y ≤ (9223372036854775807 : Int))) ∧ ((decide (Int.tmod x y < (0 : Int))) = false → (y ≠ (0 : Int))))).andThen fun _ => Sx.M.ret (Sx.AV.int (Bool.or s0 s1) (IntKind.i64) (pick_0 x y))
 | args => callQ 19 args
theorem pickS_ok : ∀ args v g g', pickS args g = .done v g' → Sx.CallIs Try.prog 19 args v g g' := by
 intro args v g g' h
 unfold pickS at h
 split at h
 ·rename_i s0 x s1 y
  obtain ⟨_, g1, a1, h1⟩ := Sx.done_of h
  obtain ⟨rfl, rfl⟩ := Sx.ret_done h1
  refine Sx.scalK callQ_ok (Sx.req_done a1) fun hp μ cargs ha => ?_
  have ha' : Sx.Reps 0 Sx.MM.none [.int true .i64 x, .int true .i64 y] cargs.toList := by simpa only [Sx.Reps, Sx.Rep] using ha
  cases t0 : decide (Int.tmod x y < (0 : Int)) with
  | true =>
   exact ⟨_, _, _, ha', pick_r0 x y (hp.1 t0) t0 (hp.2.1 t0) (hp.2.2.1 t0), rfl, fun cv hc => by have := hc g.nx μ; have e0 : pick_0 x y = (Int.tmod x y + y) := (Sx.ct t0).trans (rfl); rw [e0]; simpa only [Sx.Rep, Sx.Reps, Sx.Rep_cmpB] using this⟩
  | false =>
   exact ⟨_, _, _, ha', pick_r1 x y (hp.2.2.2 t0) t0, rfl, fun cv hc => by have := hc g.nx μ; have e0 : pick_0 x y = (Int.tmod x y) := (Sx.cf t0).trans (rfl); rw [e0]; simpa only [Sx.Rep, Sx.Reps, Sx.Rep_cmpB] using this⟩
 ·exact callQ_ok _ _ _ _ _ h
theorem pickS_tch : ∀ args, Sx.Tch (pickS args) := by
 intro args
 unfold pickS
 split
 ·exact (Sx.Tch.req _).andThen fun _ => Sx.Tch.ret _
 ·exact callQ_tch _ _
noncomputable def gamS : Sx.Known := Sx.kc 36 Sx.ofBits (Sx.kc 62 Sx.toBits (Sx.kc 81 smallS (Sx.kc 66 kindS (Sx.kc 63 rowOfS (Sx.kc 82 ofS (Sx.kc 64 nameS (Sx.kc 65 nodeS (Sx.kc 37 chkS (Sx.kc 88 constS (Sx.kc 83 cosS (Sx.kc 68 root2S (Sx.kc 10 phS (Sx.kc 47 finS (Sx.kc 21 subS (Sx.kc 22 addS (Sx.kc 14 netofS (Sx.kc 15 elsS (Sx.kc 48 putS (Sx.kc 16 rightS (Sx.kc 13 awakeS (Sx.kc 19 pickS (Sx.kn))))))))))))))))))))))
theorem gamS_ok : Sx.KnownOk Try.prog gamS := Sx.kc_ok ((Sx.ofBits_is Try.prog).callIs Try.func36 (by kernel_rfl) (by kernel_rfl) (by kernel_rfl) (by kernel_rfl)) (Sx.kc_ok ((Sx.toBits_is Try.prog).callIs Try.func62 (by kernel_rfl) (by kernel_rfl) (by kernel_rfl) (by kernel_rfl)) (Sx.kc_ok smallS_ok (Sx.kc_ok kindS_ok (Sx.kc_ok rowOfS_ok (Sx.kc_ok ofS_ok (Sx.kc_ok nameS_ok (Sx.kc_ok nodeS_ok (Sx.kc_ok chkS_ok (Sx.kc_ok constS_ok (Sx.kc_ok cosS_ok (Sx.kc_ok root2S_ok (Sx.kc_ok phS_ok (Sx.kc_ok finS_ok (Sx.kc_ok subS_ok (Sx.kc_ok addS_ok (Sx.kc_ok netofS_ok (Sx.kc_ok elsS_ok (Sx.kc_ok putS_ok (Sx.kc_ok rightS_ok (Sx.kc_ok awakeS_ok (Sx.kc_ok pickS_ok (Sx.kn_ok))))))))))))))))))))))
theorem gamS_tch : Sx.KnownT gamS := Sx.kc_tch Sx.Tch.ofBits (Sx.kc_tch Sx.Tch.toBits (Sx.kc_tch smallS_tch (Sx.kc_tch kindS_tch (Sx.kc_tch rowOfS_tch (Sx.kc_tch ofS_tch (Sx.kc_tch nameS_tch (Sx.kc_tch nodeS_tch (Sx.kc_tch chkS_tch (Sx.kc_tch constS_tch (Sx.kc_tch cosS_tch (Sx.kc_tch root2S_tch (Sx.kc_tch phS_tch (Sx.kc_tch finS_tch (Sx.kc_tch subS_tch (Sx.kc_tch addS_tch (Sx.kc_tch netofS_tch (Sx.kc_tch elsS_tch (Sx.kc_tch putS_tch (Sx.kc_tch rightS_tch (Sx.kc_tch awakeS_tch (Sx.kc_tch pickS_tch (Sx.kn_tch))))))))))))))))))))))
noncomputable def callS : Sx.Calls' := Sx.runN Try.prog gamS (Sx.regionC Try.prog) 1000 50
theorem callS_ok : Sx.CallOk Try.prog callS := Sx.engineC gamS_ok gamS_tch (by kernel_rfl) (by kernel_rfl) 1000 50
theorem callS_reg (n : Nat) : Sx.RegionOk Try.prog (Sx.regionC Try.prog callS n) n := Sx.runN_regionC gamS_ok gamS_tch (by kernel_rfl) (by kernel_rfl) 1000 50 n
noncomputable abbrev piececallS (f : Func) (c : Code) (fr : Sx.Fr) (H : Sx.T Sx.ABk) (K : Nat) (path : List Bool) : Sx.Res (Sx.Ex × Sx.Fr) :=
 Sx.codeA Try.prog callS (Sx.regionC Try.prog callS f.ntmps) Sx.noLoops f.ntmps 1000 c fr ⟨H, K, [], path, True⟩


theorem tuA_r0 (n i : Nat) (ph : Bool) (G T : Nat → El) : Sx.PieceN 1 (Sx.Ex.normal) [(0, .slc true false ⟨false, 0, 0, 0⟩ n), (1, .sbool ph)] [(0, .cells false 8 n (.fn fun j => (elR (G j))))] (piececallS Try.f34 ((Sx.nav [0] (Sx.bodyOf Try.f34))) (Sx.frameOf [.slc true false ⟨false, 0, 0, 0⟩ n, .sbool ph] 0 .e) (Sx.hpL [(0, .cells false 8 n (.fn fun j => elR (G j)))]) 1 []) := Sx.eqn (by kernel_rfl) trivial
theorem tuA (B : Nat) (hB : B ≤ 1) (n i : Nat) (ph : Bool) (G T : Nat → El) : Sx.GoesB Try.prog ((Sx.nav [0] (Sx.bodyOf Try.f34))) Try.f34.ntmps B 1 1 (Sx.frameOf [.slc true false ⟨false, 0, 0, 0⟩ n, .sbool ph] 0 .e) (Sx.hpL [(0, .cells false 8 n (.fn fun j => elR (G j)))]) fun e fr' H' => (e = .normal ∧ fr' = Sx.frL [(0, .slc true false ⟨false, 0, 0, 0⟩ n), (1, .sbool ph)] ∧ H' = Sx.hpL [(0, .cells false 8 n (.fn fun j => (elR (G j))))]) := by
 exact (Sx.GoesB.runN callS_ok (callS_reg _) (Sx.LoopsIn.none _ _ _) (tuA_r0 n i ph G T) hB).mono fun e fr' H' h => h
theorem tuB_r0 (n i : Nat) (ph : Bool) (G T : Nat → El) : Sx.PieceN 1 (Sx.Ex.normal) [(0, .slc true false ⟨false, 0, 0, 0⟩ n), (1, .sbool ph), (5, .nils)] [(0, .cells false 8 n (.fn fun j => (elR (G j))))] (piececallS Try.f34 ((Sx.nav [1,0] (Sx.bodyOf Try.f34))) (Sx.frL [(0, .slc true false ⟨false, 0, 0, 0⟩ n), (1, .sbool ph)]) (Sx.hpL [(0, .cells false 8 n (.fn fun j => elR (G j)))]) 1 []) := Sx.eqn (by kernel_rfl) trivial
theorem tuB (B : Nat) (hB : B ≤ 1) (n i : Nat) (ph : Bool) (G T : Nat → El) : Sx.GoesB Try.prog ((Sx.nav [1,0] (Sx.bodyOf Try.f34))) Try.f34.ntmps B 1 1 (Sx.frL [(0, .slc true false ⟨false, 0, 0, 0⟩ n), (1, .sbool ph)]) (Sx.hpL [(0, .cells false 8 n (.fn fun j => elR (G j)))]) fun e fr' H' => (e = .normal ∧ fr' = Sx.frL [(0, .slc true false ⟨false, 0, 0, 0⟩ n), (1, .sbool ph), (5, .nils)] ∧ H' = Sx.hpL [(0, .cells false 8 n (.fn fun j => (elR (G j))))]) := by
 exact (Sx.GoesB.runN callS_ok (callS_reg _) (Sx.LoopsIn.none _ _ _) (tuB_r0 n i ph G T) hB).mono fun e fr' H' h => h
theorem tuC_r0 (n i : Nat) (ph : Bool) (G T : Nat → El) : Sx.PieceN 2 (Sx.Ex.normal) [(0, .slc true false ⟨false, 0, 0, 0⟩ n), (1, .sbool ph), (5, .slc true true ⟨false, 1, 0, 0⟩ i), (6, .int false .i64 0)] [(0, .cells false 8 n (.fn fun j => (elR (G j)))), (1, .cells true 8 i (.fn fun j => (elR (T j))))] (piececallS Try.f34 ((Sx.nav [1,1,0,0] (Sx.bodyOf Try.f34))) (Sx.frL [(0, .slc true false ⟨false, 0, 0, 0⟩ n), (1, .sbool ph), (5, .slc true true ⟨false, 1, 0, 0⟩ i)]) (Sx.hpL [(0, .cells false 8 n (.fn fun j => elR (G j))), (1, .cells true 8 i (.fn fun j => elR (T j)))]) 2 []) := Sx.eqn (by kernel_rfl) trivial
theorem tuC (B : Nat) (hB : B ≤ 2) (n i : Nat) (ph : Bool) (G T : Nat → El) : Sx.GoesB Try.prog ((Sx.nav [1,1,0,0] (Sx.bodyOf Try.f34))) Try.f34.ntmps B 2 2 (Sx.frL [(0, .slc true false ⟨false, 0, 0, 0⟩ n), (1, .sbool ph), (5, .slc true true ⟨false, 1, 0, 0⟩ i)]) (Sx.hpL [(0, .cells false 8 n (.fn fun j => elR (G j))), (1, .cells true 8 i (.fn fun j => elR (T j)))]) fun e fr' H' => (e = .normal ∧ fr' = Sx.frL [(0, .slc true false ⟨false, 0, 0, 0⟩ n), (1, .sbool ph), (5, .slc true true ⟨false, 1, 0, 0⟩ i), (6, .int false .i64 0)] ∧ H' = Sx.hpL [(0, .cells false 8 n (.fn fun j => (elR (G j)))), (1, .cells true 8 i (.fn fun j => (elR (T j))))]) := by
 exact (Sx.GoesB.runN callS_ok (callS_reg _) (Sx.LoopsIn.none _ _ _) (tuC_r0 n i ph G T) hB).mono fun e fr' H' h => h
theorem tuL_r0 (n i : Nat) (ph : Bool) (G T : Nat → El) (c0 : decide ((↑i : Int) < (↑n : Int)) = true) (c1 : (0 : Int) ≤ (↑i : Int)) (c2 : (↑i : Int) < (↑n : Int)) (c3 : (0 : Nat) + i < n) (c4 : (8 : Nat) ≤ (8 : Nat)) (c5 : decide (El.k (G ((0 : Nat) + i)) = (4 : Int)) = true) (c6 : ph = true) (c7 : (24 : Int) ≠ (0 : Int)) (c8 : (-9223372036854775808 : Int) ≤ Int.tmod (El.ph (G ((0 : Nat) + i))) (24 : Int) + (12 : Int)) (c9 : Int.tmod (El.ph (G ((0 : Nat) + i))) (24 : Int) + (12 : Int) ≤ (9223372036854775807 : Int)) (c10 : i ≤ i) (c11 : (i + (1 : Nat)) * (104 : Nat) ≤ (140737488355328 : Nat)) (c12 : i + (1 : Nat) ≤ (9223372036854775807 : Nat)) (c13 : (-9223372036854775808 : Int) ≤ (↑i : Int) + (1 : Int)) (c14 : (↑i : Int) + (1 : Int) ≤ (9223372036854775807 : Int)) : Sx.PieceN 5 (Sx.Ex.normal) [(0, .slc true false ⟨false, 0, 0, 0⟩ n), (1, .sbool ph), (5, .slc true true ⟨false, 4, 0, 0⟩ (i + (1 : Nat))), (6, .int true .i64 ((↑i : Int) + (1 : Int)))] [(0, .cells false 8 n (.fn fun j => (elR (G j)))), (4, .cells true 8 (i + (1 : Nat)) (.fn fun j => bif decide (j < i) then (elR (T j)) else [.int true .u8 (El.k (G ((0 : Nat) + i))), .str true (El.n (G ((0 : Nat) + i))), .str true (El.a (G ((0 : Nat) + i))), .str true (El.b (G ((0 : Nat) + i))), .str true (El.c (G ((0 : Nat) + i))), .str true (El.d (G ((0 : Nat) + i))), .raw true (El.v (G ((0 : Nat) + i))), .int true .i64 (Int.tmod (El.ph (G ((0 : Nat) + i))) (24 : Int) + (12 : Int))]))] (piececallS Try.f34 ((Sx.nav [1,1,0,1,0,0] (Sx.bodyOf Try.f34))) (Sx.frL [(0, .slc true false ⟨false, 0, 0, 0⟩ n), (1, .sbool ph), (5, .slc true true ⟨false, 1, 0, 0⟩ i), (6, .int true .i64 (i : Int))]) (Sx.hpL [(0, .cells false 8 n (.fn fun j => elR (G j))), (1, .cells true 8 i (.fn fun j => elR (T j)))]) 2 [true, true, true]) := Sx.eqn (by kernel_rfl) (ai (ai (ai (ai (ai (ai (ai (ai (ai (ai trivial c0) (ai c1 c2)) c3) c4) c5) c6) c7) (ai c8 c9)) (ai c10 (ai c11 c12))) (ai c13 c14))
theorem tuL_r1 (n i : Nat) (ph : Bool) (G T : Nat → El) (c0 : decide ((↑i : Int) < (↑n : Int)) = true) (c1 : (0 : Int) ≤ (↑i : Int)) (c2 : (↑i : Int) < (↑n : Int)) (c3 : (0 : Nat) + i < n) (c4 : (8 : Nat) ≤ (8 : Nat)) (c5 : decide (El.k (G ((0 : Nat) + i)) = (4 : Int)) = true) (c6 : ph = false) (c7 : i ≤ i) (c8 : (i + (1 : Nat)) * (104 : Nat) ≤ (140737488355328 : Nat)) (c9 : i + (1 : Nat) ≤ (9223372036854775807 : Nat)) (c10 : (-9223372036854775808 : Int) ≤ (↑i : Int) + (1 : Int)) (c11 : (↑i : Int) + (1 : Int) ≤ (9223372036854775807 : Int)) : Sx.PieceN 5 (Sx.Ex.normal) [(0, .slc true false ⟨false, 0, 0, 0⟩ n), (1, .sbool ph), (5, .slc true true ⟨false, 4, 0, 0⟩ (i + (1 : Nat))), (6, .int true .i64 ((↑i : Int) + (1 : Int)))] [(0, .cells false 8 n (.fn fun j => (elR (G j)))), (4, .cells true 8 (i + (1 : Nat)) (.fn fun j => bif decide (j < i) then (elR (T j)) else [.int true .u8 (El.k (G ((0 : Nat) + i))), .str true (El.n (G ((0 : Nat) + i))), .str true (El.a (G ((0 : Nat) + i))), .str true (El.b (G ((0 : Nat) + i))), .str true (El.c (G ((0 : Nat) + i))), .str true (El.d (G ((0 : Nat) + i))), .flt true (Sx.fneg (Sx.cn (El.v (G ((0 : Nat) + i))))), .int true .i64 (El.ph (G ((0 : Nat) + i)))]))] (piececallS Try.f34 ((Sx.nav [1,1,0,1,0,0] (Sx.bodyOf Try.f34))) (Sx.frL [(0, .slc true false ⟨false, 0, 0, 0⟩ n), (1, .sbool ph), (5, .slc true true ⟨false, 1, 0, 0⟩ i), (6, .int true .i64 (i : Int))]) (Sx.hpL [(0, .cells false 8 n (.fn fun j => elR (G j))), (1, .cells true 8 i (.fn fun j => elR (T j)))]) 2 [true, true, false]) := Sx.eqn (by kernel_rfl) (ai (ai (ai (ai (ai (ai (ai (ai trivial c0) (ai c1 c2)) c3) c4) c5) c6) (ai c7 (ai c8 c9))) (ai c10 c11))
theorem tuL_r2 (n i : Nat) (ph : Bool) (G T : Nat → El) (c0 : decide ((↑i : Int) < (↑n : Int)) = true) (c1 : (0 : Int) ≤ (↑i : Int)) (c2 : (↑i : Int) < (↑n : Int)) (c3 : (0 : Nat) + i < n) (c4 : (8 : Nat) ≤ (8 : Nat)) (c5 : decide (El.k (G ((0 : Nat) + i)) = (4 : Int)) = false) (c6 : decide (El.k (G ((0 : Nat) + i)) = (5 : Int)) = true) (c7 : ph = true) (c8 : (24 : Int) ≠ (0 : Int)) (c9 : (-9223372036854775808 : Int) ≤ Int.tmod (El.ph (G ((0 : Nat) + i))) (24 : Int) + (12 : Int)) (c10 : Int.tmod (El.ph (G ((0 : Nat) + i))) (24 : Int) + (12 : Int) ≤ (9223372036854775807 : Int)) (c11 : i ≤ i) (c12 : (i + (1 : Nat)) * (104 : Nat) ≤ (140737488355328 : Nat)) (c13 : i + (1 : Nat) ≤ (9223372036854775807 : Nat)) (c14 : (-9223372036854775808 : Int) ≤ (↑i : Int) + (1 : Int)) (c15 : (↑i : Int) + (1 : Int) ≤ (9223372036854775807 : Int)) : Sx.PieceN 5 (Sx.Ex.normal) [(0, .slc true false ⟨false, 0, 0, 0⟩ n), (1, .sbool ph), (5, .slc true true ⟨false, 4, 0, 0⟩ (i + (1 : Nat))), (6, .int true .i64 ((↑i : Int) + (1 : Int)))] [(0, .cells false 8 n (.fn fun j => (elR (G j)))), (4, .cells true 8 (i + (1 : Nat)) (.fn fun j => bif decide (j < i) then (elR (T j)) else [.int true .u8 (El.k (G ((0 : Nat) + i))), .str true (El.n (G ((0 : Nat) + i))), .str true (El.a (G ((0 : Nat) + i))), .str true (El.b (G ((0 : Nat) + i))), .str true (El.c (G ((0 : Nat) + i))), .str true (El.d (G ((0 : Nat) + i))), .raw true (El.v (G ((0 : Nat) + i))), .int true .i64 (Int.tmod (El.ph (G ((0 : Nat) + i))) (24 : Int) + (12 : Int))]))] (piececallS Try.f34 ((Sx.nav [1,1,0,1,0,0] (Sx.bodyOf Try.f34))) (Sx.frL [(0, .slc true false ⟨false, 0, 0, 0⟩ n), (1, .sbool ph), (5, .slc true true ⟨false, 1, 0, 0⟩ i), (6, .int true .i64 (i : Int))]) (Sx.hpL [(0, .cells false 8 n (.fn fun j => elR (G j))), (1, .cells true 8 i (.fn fun j => elR (T j)))]) 2 [true, false, true, true]) := Sx.eqn (by kernel_rfl) (ai (ai (ai (ai (ai (ai (ai (ai (ai (ai (ai trivial c0) (ai c1 c2)) c3) c4) c5) c6) c7) c8) (ai c9 c10)) (ai c11 (ai c12 c13))) (ai c14 c15))
theorem tuL_r3 (n i : Nat) (ph : Bool) (G T : Nat → El) (c0 : decide ((↑i : Int) < (↑n : Int)) = true) (c1 : (0 : Int) ≤ (↑i : Int)) (c2 : (↑i : Int) < (↑n : Int)) (c3 : (0 : Nat) + i < n) (c4 : (8 : Nat) ≤ (8 : Nat)) (c5 : decide (El.k (G ((0 : Nat) + i)) = (4 : Int)) = false) (c6 : decide (El.k (G ((0 : Nat) + i)) = (5 : Int)) = true) (c7 : ph = false) (c8 : i ≤ i) (c9 : (i + (1 : Nat)) * (104 : Nat) ≤ (140737488355328 : Nat)) (c10 : i + (1 : Nat) ≤ (9223372036854775807 : Nat)) (c11 : (-9223372036854775808 : Int) ≤ (↑i : Int) + (1 : Int)) (c12 : (↑i : Int) + (1 : Int) ≤ (9223372036854775807 : Int)) : Sx.PieceN 5 (Sx.Ex.normal) [(0, .slc true false ⟨false, 0, 0, 0⟩ n), (1, .sbool ph), (5, .slc true true ⟨false, 4, 0, 0⟩ (i + (1 : Nat))), (6, .int true .i64 ((↑i : Int) + (1 : Int)))] [(0, .cells false 8 n (.fn fun j => (elR (G j)))), (4, .cells true 8 (i + (1 : Nat)) (.fn fun j => bif decide (j < i) then (elR (T j)) else [.int true .u8 (El.k (G ((0 : Nat) + i))), .str true (El.n (G ((0 : Nat) + i))), .str true (El.a (G ((0 : Nat) + i))), .str true (El.b (G ((0 : Nat) + i))), .str true (El.c (G ((0 : Nat) + i))), .str true (El.d (G ((0 : Nat) + i))), .flt true (Sx.fneg (Sx.cn (El.v (G ((0 : Nat) + i))))), .int true .i64 (El.ph (G ((0 : Nat) + i)))]))] (piececallS Try.f34 ((Sx.nav [1,1,0,1,0,0] (Sx.bodyOf Try.f34))) (Sx.frL [(0, .slc true false ⟨false, 0, 0, 0⟩ n), (1, .sbool ph), (5, .slc true true ⟨false, 1, 0, 0⟩ i), (6, .int true .i64 (i : Int))]) (Sx.hpL [(0, .cells false 8 n (.fn fun j => elR (G j))), (1, .cells true 8 i (.fn fun j => elR (T j)))]) 2 [true, false, true, false]) := Sx.eqn (by kernel_rfl) (ai (ai (ai (ai (ai (ai (ai (ai (ai trivial c0) (ai c1 c2)) c3) c4) c5) c6) c7) (ai c8 (ai c9 c10))) (ai c11 c12))
theorem tuL_r4 (n i : Nat) (ph : Bool) (G T : Nat → El) (c0 : decide ((↑i : Int) < (↑n : Int)) = true) (c1 : (0 : Int) ≤ (↑i : Int)) (c2 : (↑i : Int) < (↑n : Int)) (c3 : (0 : Nat) + i < n) (c4 : (8 : Nat) ≤ (8 : Nat)) (c5 : decide (El.k (G ((0 : Nat) + i)) = (4 : Int)) = false) (c6 : decide (El.k (G ((0 : Nat) + i)) = (5 : Int)) = false) (c7 : i ≤ i) (c8 : (i + (1 : Nat)) * (104 : Nat) ≤ (140737488355328 : Nat)) (c9 : i + (1 : Nat) ≤ (9223372036854775807 : Nat)) (c10 : (-9223372036854775808 : Int) ≤ (↑i : Int) + (1 : Int)) (c11 : (↑i : Int) + (1 : Int) ≤ (9223372036854775807 : Int)) : Sx.PieceN 5 (Sx.Ex.normal) [(0, .slc true false ⟨false, 0, 0, 0⟩ n), (1, .sbool ph), (5, .slc true true ⟨false, 4, 0, 0⟩ (i + (1 : Nat))), (6, .int true .i64 ((↑i : Int) + (1 : Int)))] [(0, .cells false 8 n (.fn fun j => (elR (G j)))), (4, .cells true 8 (i + (1 : Nat)) (.fn fun j => bif decide (j < i) then (elR (T j)) else (elR (G ((0 : Nat) + i)))))] (piececallS Try.f34 ((Sx.nav [1,1,0,1,0,0] (Sx.bodyOf Try.f34))) (Sx.frL [(0, .slc true false ⟨false, 0, 0, 0⟩ n), (1, .sbool ph), (5, .slc true true ⟨false, 1, 0, 0⟩ i), (6, .int true .i64 (i : Int))]) (Sx.hpL [(0, .cells false 8 n (.fn fun j => elR (G j))), (1, .cells true 8 i (.fn fun j => elR (T j)))]) 2 [true, false, false]) := Sx.eqn (by kernel_rfl) (ai (ai (ai (ai (ai (ai (ai (ai trivial c0) (ai c1 c2)) c3) c4) c5) c6) (ai c7 (ai c8 c9))) (ai c10 c11))
theorem tuL_r5 (n i : Nat) (ph : Bool) (G T : Nat → El) (c0 : decide ((↑i : Int) < (↑n : Int)) = false) : Sx.PieceN 5 (Sx.Ex.exit (0 : Nat)) [(0, .slc true false ⟨false, 0, 0, 0⟩ n), (1, .sbool ph), (5, .slc true true ⟨false, 1, 0, 0⟩ i), (6, .int true .i64 (↑i : Int))] [(0, .cells false 8 n (.fn fun j => (elR (G j)))), (1, .cells true 8 i (.fn fun j => (elR (T j))))] (piececallS Try.f34 ((Sx.nav [1,1,0,1,0,0] (Sx.bodyOf Try.f34))) (Sx.frL [(0, .slc true false ⟨false, 0, 0, 0⟩ n), (1, .sbool ph), (5, .slc true true ⟨false, 1, 0, 0⟩ i), (6, .int true .i64 (i : Int))]) (Sx.hpL [(0, .cells false 8 n (.fn fun j => elR (G j))), (1, .cells true 8 i (.fn fun j => elR (T j)))]) 2 [false]) := Sx.eqn (by kernel_rfl) (ai trivial c0)
theorem tuE_r0 (n i : Nat) (ph : Bool) (G T : Nat → El) : Sx.PieceN 2 (Sx.Ex.ret) [(4, .slc true true ⟨false, 1, 0, 0⟩ n)] [(1, .cells true 8 n (.fn fun j => (elR (T j))))] (piececallS Try.f34 ((Sx.nav [1,1,1] (Sx.bodyOf Try.f34))) (Sx.frL [(0, .slc true false ⟨false, 0, 0, 0⟩ n), (1, .sbool ph), (5, .slc true true ⟨false, 1, 0, 0⟩ n)]) (Sx.hpL [(0, .cells false 8 n (.fn fun j => elR (G j))), (1, .cells true 8 n (.fn fun j => elR (T j)))]) 2 []) := Sx.eqn (by kernel_rfl) trivial
theorem tuE (B : Nat) (hB : B ≤ 2) (n i : Nat) (ph : Bool) (G T : Nat → El) : Sx.GoesB Try.prog ((Sx.nav [1,1,1] (Sx.bodyOf Try.f34))) Try.f34.ntmps B 2 2 (Sx.frL [(0, .slc true false ⟨false, 0, 0, 0⟩ n), (1, .sbool ph), (5, .slc true true ⟨false, 1, 0, 0⟩ n)]) (Sx.hpL [(0, .cells false 8 n (.fn fun j => elR (G j))), (1, .cells true 8 n (.fn fun j => elR (T j)))]) fun e fr' H' => (e = .ret ∧ fr' = Sx.frL [(4, .slc true true ⟨false, 1, 0, 0⟩ n)] ∧ H' = Sx.hpL [(1, .cells true 8 n (.fn fun j => (elR (T j))))]) := by
 exact (Sx.GoesB.runN callS_ok (callS_reg _) (Sx.LoopsIn.none _ _ _) (tuE_r0 n i ph G T) hB).mono fun e fr' H' h => h
/-- an element the other way round -/
def tz (ph : Bool) (z : El) : El := bif decide (z.k = 4) || decide (z.k = 5) then (bif ph then { z with ph := Int.tmod z.ph 24 + 12 } else { z with v := Sx.fneg (Sx.cn z.v) }) else z
theorem atB_weakG {n B K : Nat} {H : Sx.T Sx.ABk} {μ : Sx.MM} {w w' : World} {H' : Sx.T Sx.ABk} {fr' : Sx.Fr} {a a' : Act} {fl : List (Nat × Sx.AV)} {bl : List (Nat × Sx.ABk)} (hf : Sx.Ge fr' fl) (hH : Sx.GeG H' bl) (h : Sx.AtB n B K H μ w H' fr' a a' w') : Sx.AtB n B K H μ w (Sx.hpL bl) (Sx.frL fl) a a' w' := by
 obtain ⟨μ', k1, k2, k3, k4⟩ := h.of
 have G := fun i b (hb : (Sx.hpL bl).get i = some b) => hH.get _ (Sx.hpL_get hb)
 refine ⟨μ', ⟨fun i b hb => ?_, fun i b hb => ?_, fun i b j b' hi hj ho hr hr' he => ?_⟩, ⟨k2.names, k2.os, k2.tape, k2.output, k2.size, k2.block, fun b hb hm => k2.may b hb ?_⟩, ⟨k3.size, fun t v ht => ?_⟩, k4⟩
 ·obtain ⟨b0, h1, h2⟩ := G i b hb; exact k1.lt i b0 h1
 ·obtain ⟨b0, h1, h2⟩ := G i b hb; exact h2.ok (k1.ok i b0 h1)
 ·obtain ⟨b0, h1, h2⟩ := G i b hi
  obtain ⟨b1, l1, l2⟩ := G j b' hj
  exact k1.sep i b0 j b1 h1 l1 (by rw [h2.owned]; exact ho) ((h2.real _ _).2 hr) ((l2.real _ _).2 hr') he
 ·obtain ⟨i, x, m1, m2, m3, m4⟩ := hm
  obtain ⟨b0, h1, h2⟩ := G i x m1
  exact ⟨i, b0, h1, by rw [h2.owned]; exact m2, (h2.real _ _).2 m3, m4⟩
 ·obtain ⟨u, h1, h2⟩ := hf.get _ (Sx.frL_get ht)
  exact h2 _ _ _ (k3.val t u h1)
theorem goes_postG {P : Program} {n B K K' : Nat} {c : Code} {fr : Sx.Fr} {H : Sx.T Sx.ABk} {Post Post' : Sx.Po} (h : Sx.GoesB P c n B K K' fr H Post) (k : ∀ e fr' H', Post e fr' H' → ∃ fl bl, Sx.Ge fr' fl ∧ Sx.GeG H' bl ∧ Post' e (Sx.frL fl) (Sx.hpL bl)) : Sx.GoesB P c n B K K' fr H Post' :=
 fun μ w a hg hf Q hQ => h μ w a hg hf Q fun e fr' H' a' w' hp ha => by
  obtain ⟨fl, bl, h1, h2, h3⟩ := k _ _ _ hp
  exact hQ e _ _ a' w' h3 (atB_weakG h1 h2 ha)
theorem ge_fraw {x : Nat} (s s' : Bool) (hx : x < 18446744073709551616) (hn : Sx.isnan x = false) : Sx.AV.ge (.flt s x) (.raw s' x) := fun N μ c h => by
 simp only [Sx.Rep] at h ⊢
 obtain ⟨y, rfl, h2, h3⟩ := h
 have e : y = x := by
  cases c : Sx.isnan y with
  | false => rw [← h2, Sx.cn_of_not c]
  | true =>
   rw [Sx.cn_of_nan c] at h2
   rw [← h2] at hn
   exact absurd hn (by decide)
 subst e
 exact ⟨rfl, h3⟩
theorem tm_12 (x : Int) : -24 < Int.tmod x 24 ∧ Int.tmod x 24 < 24 := ⟨Int.lt_tmod_of_pos x (by omega), Int.tmod_lt_of_pos x (by omega)⟩
theorem fneg_row (z : El) (h1 : z.v < 18446744073709551616) (h2 : Sx.isnan z.v = false) : Sx.RowGe [.int true .u8 z.k, .str true z.n, .str true z.a, .str true z.b, .str true z.c, .str true z.d, .flt true (Sx.fneg (Sx.cn z.v)), .int true .i64 z.ph] (elR { z with v := Sx.fneg (Sx.cn z.v) }) := by
 have hl : Sx.fneg (Sx.cn z.v) < 18446744073709551616 := Sx.fneg_lt (Sx.cn_lt h1)
 have hn : Sx.isnan (Sx.fneg (Sx.cn z.v)) = false := by
  rcases Sx.fneg_cases (Sx.cn z.v) with ⟨a, _⟩ | ⟨_, _, b⟩
  ·exact absurd a (by rw [Sx.cn_of_not h2, h2]; decide)
  ·exact b
 exact ⟨Sx.AV.ge.refl _, rfl, Sx.AV.ge.refl _, rfl, Sx.AV.ge.refl _, rfl, Sx.AV.ge.refl _, rfl, Sx.AV.ge.refl _, rfl, Sx.AV.ge.refl _, rfl, ge_fraw _ _ hl hn, rfl, Sx.AV.ge.refl _, rfl, trivial⟩
theorem tu_is : (Sx.bodyOf Try.f34) = .seq (Sx.nav [0] (Sx.bodyOf Try.f34)) (.seq (Sx.nav [1,0] (Sx.bodyOf Try.f34)) (.seq (.seq (Sx.nav [1,1,0,0] (Sx.bodyOf Try.f34)) (.block 0 (.loop (Sx.nav [1,1,0,1,0,0] (Sx.bodyOf Try.f34))))) (Sx.nav [1,1,1] (Sx.bodyOf Try.f34)))) := by kernel_rfl
theorem tu_step (n i : Nat) (ph : Bool) (G : Nat → El) (hi : i < n) (hn : n * 104 ≤ 140737488355328) (hv : ∀ j, j < n → ((G j).k = 4 ∨ (G j).k = 5) → (G j).v < 18446744073709551616 ∧ Sx.isnan (G j).v = false) :
  Sx.GoesB Try.prog (Sx.nav [1,1,0,1,0,0] (Sx.bodyOf Try.f34)) Try.f34.ntmps 1 2 2 (Sx.frL [(0, .slc true false ⟨false, 0, 0, 0⟩ n), (1, .sbool ph), (5, .slc true true ⟨false, 1, 0, 0⟩ i), (6, .int true .i64 (i : Int))]) (Sx.hpL [(0, .cells false 8 n (.fn fun j => elR (G j))), (1, .cells true 8 i (.fn fun j => elR (tz ph (G j))))]) (Sx.Nm [(0, .slc true false ⟨false, 0, 0, 0⟩ n), (1, .sbool ph), (5, .slc true true ⟨false, 1, 0, 0⟩ (i + 1 : Nat)), (6, .int true .i64 ((i + 1 : Nat) : Int))] [(0, .cells false 8 n (.fn fun j => elR (G j))), (1, .cells true 8 (i + 1) (.fn fun j => elR (tz ph (G j))))]) := by
 have hm := tm_12 (G (0 + i)).ph
 have key : ∀ row : List Sx.AV, Sx.RowGe row (elR (tz ph (G i))) → Sx.GoesB Try.prog (Sx.nav [1,1,0,1,0,0] (Sx.bodyOf Try.f34)) Try.f34.ntmps 1 2 5 (Sx.frL [(0, .slc true false ⟨false, 0, 0, 0⟩ n), (1, .sbool ph), (5, .slc true true ⟨false, 1, 0, 0⟩ i), (6, .int true .i64 (i : Int))]) (Sx.hpL [(0, .cells false 8 n (.fn fun j => elR (G j))), (1, .cells true 8 i (.fn fun j => elR (tz ph (G j))))]) (fun e' fr' H' => e' = .normal ∧ fr' = Sx.frL [(0, .slc true false ⟨false, 0, 0, 0⟩ n), (1, .sbool ph), (5, .slc true true ⟨false, 4, 0, 0⟩ (i + 1)), (6, .int true .i64 ((i : Int) + 1))] ∧ H' = Sx.hpL [(0, .cells false 8 n (.fn fun j => elR (G j))), (4, .cells true 8 (i + 1) (.fn fun j => bif decide (j < i) then elR (tz ph (G j)) else row))]) → Sx.GoesB Try.prog (Sx.nav [1,1,0,1,0,0] (Sx.bodyOf Try.f34)) Try.f34.ntmps 1 2 2 (Sx.frL [(0, .slc true false ⟨false, 0, 0, 0⟩ n), (1, .sbool ph), (5, .slc true true ⟨false, 1, 0, 0⟩ i), (6, .int true .i64 (i : Int))]) (Sx.hpL [(0, .cells false 8 n (.fn fun j => elR (G j))), (1, .cells true 8 i (.fn fun j => elR (tz ph (G j))))]) (Sx.Nm [(0, .slc true false ⟨false, 0, 0, 0⟩ n), (1, .sbool ph), (5, .slc true true ⟨false, 1, 0, 0⟩ (i + 1 : Nat)), (6, .int true .i64 ((i + 1 : Nat) : Int))] [(0, .cells false 8 n (.fn fun j => elR (G j))), (1, .cells true 8 (i + 1) (.fn fun j => elR (tz ph (G j))))]) := by
  intro row hr h
  refine Sx.GoesB.renG (goes_postG h (Post' := Sx.Nm [(0, .slc true false ⟨false, 0, 0, 0⟩ n), (1, .sbool ph), (5, .slc true true ⟨false, 4, 0, 0⟩ (i + 1)), (6, .int true .i64 ((i + 1 : Nat) : Int))] [(0, .cells false 8 n (.fn fun j => elR (G j))), (4, .cells true 8 (i + 1) (.fn fun j => elR (tz ph (G j))))]) fun e fr' H' h => ?_) fun e fr' H' h => ?_
  ·obtain ⟨rfl, rfl, rfl⟩ := h
   refine ⟨[(0, .slc true false ⟨false, 0, 0, 0⟩ n), (1, .sbool ph), (5, .slc true true ⟨false, 4, 0, 0⟩ (i + 1)), (6, .int true .i64 ((i + 1 : Nat) : Int))], [(0, .cells false 8 n (.fn fun j => elR (G j))), (4, .cells true 8 (i + 1) (.fn fun j => elR (tz ph (G j))))], ⟨(Sx.re rfl), (Sx.re rfl), (Sx.re rfl), ⟨_, rfl, Sx.AV.ge.int' _ _ _ (by omega)⟩, trivial⟩, ⟨⟨_, rfl, rfl, rfl, rfl, fun j _ => RowGe_refl _ rfl⟩, ⟨_, rfl, rfl, rfl, rfl, fun j hj => ?_⟩, trivial⟩, rfl, rfl, rfl⟩
   show Sx.RowGe (bif decide (j < i) then elR (tz ph (G j)) else row) (elR (tz ph (G j)))
   by_cases c : j < i
   ·rw [decide_eq_true c]; exact RowGe_refl _ rfl
   ·obtain rfl : j = i := by omega
    rw [decide_eq_false c]; exact hr
  ·obtain ⟨rfl, rfl, rfl⟩ := h
   exact ⟨sg 1 4, [(0, .slc true false ⟨false, 0, 0, 0⟩ n), (1, .sbool ph), (5, .slc true true ⟨false, 1, 0, 0⟩ (i + 1)), (6, .int true .i64 ((i + 1 : Nat) : Int))], [(0, .cells false 8 n (.fn fun j => elR (G j))), (1, .cells true 8 (i + 1) (.fn fun j => elR (tz ph (G j))))], sg_low (by omega), ⟨⟨_, rfl, Sx.AV.ge.refl _, rfl⟩, ⟨_, rfl, Sx.AV.ge.refl _, rfl⟩, ⟨_, rfl, Sx.AV.ge.refl _, rfl⟩, ⟨_, rfl, Sx.AV.ge.refl _, rfl⟩, trivial⟩, ⟨rgR rfl rfl (fun j _ => rfl) (fun j _ => rfl) (by omega), rgR rfl rfl (fun j _ => rfl) (fun j _ => rfl) (by omega), trivial⟩, sg_inj (by omega), rfl, rfl, rfl⟩
 have run := fun {e F Hl path} (h : Sx.PieceN 5 e F Hl (piececallS Try.f34 (Sx.nav [1,1,0,1,0,0] (Sx.bodyOf Try.f34)) (Sx.frL [(0, .slc true false ⟨false, 0, 0, 0⟩ n), (1, .sbool ph), (5, .slc true true ⟨false, 1, 0, 0⟩ i), (6, .int true .i64 (i : Int))]) (Sx.hpL [(0, .cells false 8 n (.fn fun j => elR (G j))), (1, .cells true 8 i (.fn fun j => elR (tz ph (G j))))]) 2 path)) => Sx.GoesB.runN (B := 1) callS_ok (callS_reg _) (Sx.LoopsIn.none _ _ _) h (by omega)
 by_cases k4 : (G (0 + i)).k = 4
 ·have e1 : tz ph (G i) = (bif ph then { G i with ph := Int.tmod (G i).ph 24 + 12 } else { G i with v := Sx.fneg (Sx.cn (G i).v) }) := by rw [Nat.zero_add] at k4; unfold tz; rw [decide_eq_true k4]; rfl
  cases ph with
  | true =>
   refine key _ ?_ (run (tuL_r0 n i true G (fun j => tz true (G j)) (decide_eq_true (by omega)) (by omega) (by omega) (by omega) (by omega) (decide_eq_true k4) rfl (by omega) (by omega) (by omega) (by omega) (by omega) (by omega) (by omega) (by omega)))
   rw [e1, Nat.zero_add]; exact RowGe_refl _ rfl
  | false =>
   refine key _ ?_ (run (tuL_r1 n i false G (fun j => tz false (G j)) (decide_eq_true (by omega)) (by omega) (by omega) (by omega) (by omega) (decide_eq_true k4) rfl (by omega) (by omega) (by omega) (by omega) (by omega)))
   rw [e1]
   rw [Nat.zero_add] at k4 ⊢
   obtain ⟨h1, h2⟩ := hv i hi (.inl k4)
   exact fneg_row (G i) h1 h2
 ·by_cases k5 : (G (0 + i)).k = 5
  ·have e1 : tz ph (G i) = (bif ph then { G i with ph := Int.tmod (G i).ph 24 + 12 } else { G i with v := Sx.fneg (Sx.cn (G i).v) }) := by rw [Nat.zero_add] at k5; unfold tz; rw [decide_eq_true k5, Bool.or_true]; rfl
   cases ph with
   | true =>
    refine key _ ?_ (run (tuL_r2 n i true G (fun j => tz true (G j)) (decide_eq_true (by omega)) (by omega) (by omega) (by omega) (by omega) (decide_eq_false k4) (decide_eq_true k5) rfl (by omega) (by omega) (by omega) (by omega) (by omega) (by omega) (by omega) (by omega)))
    rw [e1, Nat.zero_add]; exact RowGe_refl _ rfl
   | false =>
    refine key _ ?_ (run (tuL_r3 n i false G (fun j => tz false (G j)) (decide_eq_true (by omega)) (by omega) (by omega) (by omega) (by omega) (decide_eq_false k4) (decide_eq_true k5) rfl (by omega) (by omega) (by omega) (by omega) (by omega)))
    rw [e1]
    rw [Nat.zero_add] at k5 ⊢
    obtain ⟨h1, h2⟩ := hv i hi (.inr k5)
    exact fneg_row (G i) h1 h2
  ·refine key _ ?_ (run (tuL_r4 n i ph G (fun j => tz ph (G j)) (decide_eq_true (by omega)) (by omega) (by omega) (by omega) (by omega) (decide_eq_false k4) (decide_eq_false k5) (by omega) (by omega) (by omega) (by omega) (by omega)))
   rw [Nat.zero_add] at k4 k5 ⊢
   rw [show tz ph (G i) = G i by unfold tz; rw [decide_eq_false k4, decide_eq_false k5]; rfl]
   exact RowGe_refl _ rfl
theorem tu_end (n : Nat) (ph : Bool) (G : Nat → El) : Sx.GoesB Try.prog (Sx.nav [1,1,0,1,0,0] (Sx.bodyOf Try.f34)) Try.f34.ntmps 1 2 2 (Sx.frL [(0, .slc true false ⟨false, 0, 0, 0⟩ n), (1, .sbool ph), (5, .slc true true ⟨false, 1, 0, 0⟩ (n : Nat)), (6, .int true .i64 ((n : Nat) : Int))]) (Sx.hpL [(0, .cells false 8 n (.fn fun j => elR (G j))), (1, .cells true 8 n (.fn fun j => elR (tz ph (G j))))]) (Sx.Xm 0 [(0, .slc true false ⟨false, 0, 0, 0⟩ n), (1, .sbool ph), (5, .slc true true ⟨false, 1, 0, 0⟩ n)] [(0, .cells false 8 n (.fn fun j => elR (G j))), (1, .cells true 8 n (.fn fun j => elR (tz ph (G j))))]) := by
 refine Sx.GoesB.renG (Sx.GoesB.runN (B := 1) callS_ok (callS_reg _) (Sx.LoopsIn.none _ _ _) (tuL_r5 n n ph G (fun j => tz ph (G j)) (decide_eq_false (by omega))) (by omega)) fun e fr' H' h => ?_
 obtain ⟨rfl, rfl, rfl⟩ := h
 exact ⟨id, [(0, .slc true false ⟨false, 0, 0, 0⟩ n), (1, .sbool ph), (5, .slc true true ⟨false, 1, 0, 0⟩ n)], [(0, .cells false 8 n (.fn fun j => elR (G j))), (1, .cells true 8 n (.fn fun j => elR (tz ph (G j))))], fun g hg => rfl, ⟨⟨_, rfl, Sx.AV.ge.refl _, rfl⟩, ⟨_, rfl, Sx.AV.ge.refl _, rfl⟩, ⟨_, rfl, Sx.AV.ge.refl _, rfl⟩, trivial⟩, ⟨rgR rfl rfl (fun j _ => rfl) (fun j _ => rfl) (by omega), rgR rfl rfl (fun j _ => rfl) (fun j _ => rfl) (by omega), trivial⟩, fun i j _ _ h => h, rfl, rfl, rfl⟩
end Go.Proofs.Ytdagokpedjfepaa
