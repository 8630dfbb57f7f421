/- GraphVolts: a part: summaries of functions that the statement reaches, printed by program, checked by the kernel. -/
import Derived.ProofKit
import Derived.OpenShut
import Derived.KernelRfl
import Derived.SizedLaws
import Derived.Test.YtgjdeclenlgaeaaProg
import Derived.Test.YtgjdeclenlgaeaaGraphVoltsPB
namespace Go.Proofs.Ytgjdeclenlgaeaa
open Go.ChangeShapes Go.WideShapes Go.ChangeAt Go.RowKit Go.Sx
set_option linter.unusedVariables false
set_option linter.unusedSimpArgs false
set_option maxRecDepth 100000

theorem vo_r7 (n m i : Nat) (E : tE) (zl : tM) (hm : m ≤ 4096) (hz : ∀ x, 0 ≤ (lfind seq x zl).getD 0 ∧ (lfind seq x zl).getD 0 < (m : Int)) :
  GoesB Try.prog (nav [1,1,1,0,1,0,0,1,1,0,0,1,0] (bodyOf Try.f15)) Try.f15.ntmps 9 14 14 (frL [(3, .ptr ⟨false, 9, 0, 0⟩), (11, sL 12 n), (12, iT (n : Int)), (13, iT (i : Int)), (5, .ptr ⟨false, 13, 0, 0⟩)]) (hpL [(9, .cells true 2 1 (.fn fun _ => [.mp 11, sL 10 m])), (10, .cells true 1 m (.fn fun k => [iT (((Ul (plc zl) (vl E i)) k : Nat) : Int)])), (11, .mSI true zl), (12, .cells true 8 n (.fn fun j => elR (E j))), (13, .cells true 8 1 (.fn fun _ => elR (E i)))]) (fun e fr' H' => e = .normal ∧ fr' = frL [(3, .ptr ⟨false, 9, 0, 0⟩), (11, sL 12 n), (12, iT (n : Int)), (13, iT (i : Int)), (33, .sbool (vfail zl E i))] ∧ H' = hpL [(9, .cells true 2 1 (.fn fun _ => [.mp 11, sL 10 m])), (10, .cells true 1 m (.fn fun k => [iT (((Ul (plc zl) (vl E (i + 1))) k : Nat) : Int)])), (11, .mSI true zl), (12, .cells true 8 n (.fn fun j => elR (E j)))]) := by
 have hu := Ul_le (plc zl) (vl E i)
 have la : plc zl (E i).a < m := by have := hz (E i).a; unfold plc; omega
 have lb : plc zl (E i).b < m := by have := hz (E i).b; unfold plc; omega
 refine (voF 9 (by omega) n m i (Ul (plc zl) (vl E i)) E zl rfl hm (fun j hj => ⟨⟨by rw [uO_row hj]; exact AV.ge.refl _, rfl, trivial⟩, by rw [uO_row hj]; exact hu j⟩) hz).post fun e fr' H' h => ?_
 have sel : vsel (E i) = true → (e = .normal ∧ fr' = frL [(3, .ptr ⟨false, 9, 0, 0⟩), (11, sL 12 n), (12, iT (n : Int)), (13, iT (i : Int)), (33, .sbool (!!decide (((root (uO m (Cont.row (.fn fun k => [iT (((Ul (plc zl) (vl E i)) k : Nat) : Int)]))) (plc zl (E i).a) : Nat) : Int) = ((root (uO m (Cont.row (.fn fun k => [iT (((Ul (plc zl) (vl E i)) k : Nat) : Int)]))) (plc zl (E i).b) : Nat) : Int))))] ∧ H' = hpL [(9, .cells true 2 1 (.fn fun _ => [.mp 11, sL 10 m])), (10, .cells true 1 m (.fn fun k => [iT ((jn (uO m (Cont.row (.fn fun k => [AV.int true .i64 (((Ul (plc zl) (vl E i)) k : Nat) : Int)]))) (plc zl (E i).a) (plc zl (E i).b) k : Nat) : Int)])), (11, .mSI true zl), (12, .cells true 8 n (.fn fun j => elR (E j)))]) → ∃ fl bl, Ge fr' fl ∧ GeH H' bl ∧ (e = .normal ∧ frL fl = frL [(3, .ptr ⟨false, 9, 0, 0⟩), (11, sL 12 n), (12, iT (n : Int)), (13, iT (i : Int)), (33, .sbool (vfail zl E i))] ∧ hpL bl = hpL [(9, .cells true 2 1 (.fn fun _ => [.mp 11, sL 10 m])), (10, .cells true 1 m (.fn fun k => [iT (((Ul (plc zl) (vl E (i + 1))) k : Nat) : Int)])), (11, .mSI true zl), (12, .cells true 8 n (.fn fun j => elR (E j)))]) := fun hs h => by
  obtain ⟨rfl, rfl, rfl⟩ := h
  refine ⟨[(3, .ptr ⟨false, 9, 0, 0⟩), (11, sL 12 n), (12, iT (n : Int)), (13, iT (i : Int)), (33, .sbool (vfail zl E i))], [(9, .cells true 2 1 (.fn fun _ => [.mp 11, sL 10 m])), (10, .cells true 1 m (.fn fun k => [iT (((Ul (plc zl) (vl E (i + 1))) k : Nat) : Int)])), (11, .mSI true zl), (12, .cells true 8 n (.fn fun j => elR (E j)))], ⟨re rfl, re rfl, re rfl, re rfl, ⟨_, rfl, ?_⟩, trivial⟩, ⟨(Sx.hs rfl), ⟨_, rfl, rfl, rfl, rfl, fun k hk => ?_⟩, eHh rfl⟩, rfl, rfl, rfl⟩
  ·rw [root_uO hu la, root_uO hu lb]
   unfold vfail
   rw [hs, Bool.true_and, Bool.not_not]
   have : decide (((root (Ul (plc zl) (vl E i)) (plc zl (E i).a) : Nat) : Int) = ((root (Ul (plc zl) (vl E i)) (plc zl (E i).b) : Nat) : Int)) = decide (cls (plc zl) (vl E i) (E i).a = cls (plc zl) (vl E i) (E i).b) := decide_eq_decide.2 (by unfold cls; omega)
   rw [this]
   exact AV.ge.refl _
  ·show [iT ((jn (uO m (Cont.row (.fn fun k => [AV.int true .i64 (((Ul (plc zl) (vl E i)) k : Nat) : Int)]))) (plc zl (E i).a) (plc zl (E i).b) k : Nat) : Int)] = [iT (((Ul (plc zl) (vl E (i + 1))) k : Nat) : Int)]
   rw [jn_uO hu la lb hk]
   conv => rhs; unfold vl
   rw [hs, cond_true, Ul_snoc]
 cases q1 : decide ((E i).k = 5) with
 | true =>
  rw [q1, cond_true] at h
  exact sel (by unfold vsel; rw [q1]; rfl) h
 | false =>
  rw [q1, cond_false] at h
  cases q2 : decide ((E i).k = 7) with
  | true =>
   rw [q2, cond_true] at h
   exact sel (by unfold vsel; rw [q1, q2]; rfl) h
  | false =>
   rw [q2, cond_false] at h
   obtain ⟨rfl, rfl, rfl⟩ := h
   have hs : vsel (E i) = false := by unfold vsel; rw [q1, q2]; rfl
   refine ⟨[(3, .ptr ⟨false, 9, 0, 0⟩), (11, sL 12 n), (12, iT (n : Int)), (13, iT (i : Int)), (33, .sbool (vfail zl E i))], [(9, .cells true 2 1 (.fn fun _ => [.mp 11, sL 10 m])), (10, .cells true 1 m (.fn fun k => [iT (((Ul (plc zl) (vl E (i + 1))) k : Nat) : Int)])), (11, .mSI true zl), (12, .cells true 8 n (.fn fun j => elR (E j)))], ⟨re rfl, re rfl, re rfl, re rfl, ⟨_, rfl, fun N μ c h => ?_⟩, trivial⟩, ⟨(Sx.hs rfl), ⟨_, rfl, rfl, rfl, rfl, fun k hk => ?_⟩, eHh rfl⟩, rfl, rfl, rfl⟩
   ·unfold vfail
    rw [hs, Bool.false_and]
    simpa only [Rep] using h
   ·show [iT (((Ul (plc zl) (vl E i)) k : Nat) : Int)] = [iT (((Ul (plc zl) (vl E (i + 1))) k : Nat) : Int)]
    conv => rhs; unfold vl
    rw [hs, cond_false]
theorem vo_blk (n m i : Nat) (E : tE) (zl : tM) (hi : i < n) (hn : n ≤ 1024) (hm : m ≤ 4096) (hz : ∀ x, 0 ≤ (lfind seq x zl).getD 0 ∧ (lfind seq x zl).getD 0 < (m : Int)) :
  GoesB Try.prog (.block 1 (.seq (nav [1,1,1,0,1,0,0,1,1,0,0,0] (bodyOf Try.f15)) (.seq (nav [1,1,1,0,1,0,0,1,1,0,0,1,0] (bodyOf Try.f15)) (nav [1,1,1,0,1,0,0,1,1,0,0,1,1] (bodyOf Try.f15))))) Try.f15.ntmps 9 13 13 (frL [(3, .ptr ⟨false, 9, 0, 0⟩), (11, sL 12 n), (12, iT (n : Int)), (13, iT (i : Int))]) (hpL [(9, .cells true 2 1 (.fn fun _ => [.mp 11, sL 10 m])), (10, .cells true 1 m (.fn fun k => [iT (((Ul (plc zl) (vl E i)) k : Nat) : Int)])), (11, .mSI true zl), (12, .cells true 8 n (.fn fun j => elR (E j)))]) (fun e fr' H' => (e = .normal ∧ vfail zl E i = false ∧ fr' = frL [(3, .ptr ⟨false, 9, 0, 0⟩), (11, sL 12 n), (12, iT (n : Int)), (13, iT (i : Int))] ∧ H' = hpL [(9, .cells true 2 1 (.fn fun _ => [.mp 11, sL 10 m])), (10, .cells true 1 m (.fn fun k => [iT (((Ul (plc zl) (vl E (i + 1))) k : Nat) : Int)])), (11, .mSI true zl), (12, .cells true 8 n (.fn fun j => elR (E j)))]) ∨ (e = .ret ∧ vfail zl E i = true ∧ fr' = frL [(2, .sbool true)] ∧ H' = hpL [])) := by
 have h1 : GoesB Try.prog (.block 1 (.seq (nav [1,1,1,0,1,0,0,1,1,0,0,0] (bodyOf Try.f15)) (.seq (nav [1,1,1,0,1,0,0,1,1,0,0,1,0] (bodyOf Try.f15)) (nav [1,1,1,0,1,0,0,1,1,0,0,1,1] (bodyOf Try.f15))))) Try.f15.ntmps 9 13 14 (frL [(3, .ptr ⟨false, 9, 0, 0⟩), (11, sL 12 n), (12, iT (n : Int)), (13, iT (i : Int))]) (hpL [(9, .cells true 2 1 (.fn fun _ => [.mp 11, sL 10 m])), (10, .cells true 1 m (.fn fun k => [iT (((Ul (plc zl) (vl E i)) k : Nat) : Int)])), (11, .mSI true zl), (12, .cells true 8 n (.fn fun j => elR (E j)))]) (fun e fr' H' => (e = .normal ∧ vfail zl E i = false ∧ fr' = frL [(3, .ptr ⟨false, 9, 0, 0⟩), (11, sL 12 n), (12, iT (n : Int)), (13, iT (i : Int))] ∧ H' = hpL [(9, .cells true 2 1 (.fn fun _ => [.mp 11, sL 10 m])), (10, .cells true 1 m (.fn fun k => [iT (((Ul (plc zl) (vl E (i + 1))) k : Nat) : Int)])), (11, .mSI true zl), (12, .cells true 8 n (.fn fun j => elR (E j)))]) ∨ (e = .ret ∧ vfail zl E i = true ∧ fr'.get 2 = some (.bool true))) := by
  refine GoesB.block ?_
  refine GoesB.seqN (K1 := 14) (F1 := [(3, .ptr ⟨false, 9, 0, 0⟩), (11, sL 12 n), (12, iT (n : Int)), (13, iT (i : Int)), (5, .ptr ⟨false, 13, 0, 0⟩)]) (H1 := [(9, .cells true 2 1 (.fn fun _ => [.mp 11, sL 10 m])), (10, .cells true 1 m (.fn fun k => [iT (((Ul (plc zl) (vl E i)) k : Nat) : Int)])), (11, .mSI true zl), (12, .cells true 8 n (.fn fun j => elR (E j))), (13, .cells true 8 1 (.fn fun _ => elR (E i)))]) (GoesB.toN (voE 9 (by omega) n m i (Ul (plc zl) (vl E i)) E zl (by omega) (by omega)) (eGg rfl) ⟨hs rfl, hs rfl, hs rfl, hs rfl, wk_hb rfl (by show elR (E (0 + i)) = elR (E i); rw [Nat.zero_add]), trivial⟩) (by omega) ?_
  refine GoesB.seqN (K1 := 13) (F1 := [(3, .ptr ⟨false, 9, 0, 0⟩), (11, sL 12 n), (12, iT (n : Int)), (13, iT (i : Int)), (33, .sbool (vfail zl E i))]) (H1 := [(9, .cells true 2 1 (.fn fun _ => [.mp 11, sL 10 m])), (10, .cells true 1 m (.fn fun k => [iT (((Ul (plc zl) (vl E (i + 1))) k : Nat) : Int)])), (11, .mSI true zl), (12, .cells true 8 n (.fn fun j => elR (E j)))]) ((vo_r7 n m i E zl hm hz).renG fun e fr' H' h => ?_) (by omega) ?_
  ·obtain ⟨rfl, rfl, rfl⟩ := h
   exact ⟨id, [(3, .ptr ⟨false, 9, 0, 0⟩), (11, sL 12 n), (12, iT (n : Int)), (13, iT (i : Int)), (33, .sbool (vfail zl E i))], [(9, .cells true 2 1 (.fn fun _ => [.mp 11, sL 10 m])), (10, .cells true 1 m (.fn fun k => [iT (((Ul (plc zl) (vl E (i + 1))) k : Nat) : Int)])), (11, .mSI true zl), (12, .cells true 8 n (.fn fun j => elR (E j)))], fun g hg => rfl, (eRr rfl), ⟨rgR rfl rfl (fun j _ => rfl) (fun j _ => rfl) (by omega), rgR rfl rfl (fun j _ => rfl) (fun j _ => rfl) (by omega), rgM rfl rfl (by omega), rgR rfl rfl (fun j _ => rfl) (fun j _ => rfl) (by omega), trivial⟩, fun i j _ _ h => h, rfl, rfl, rfl⟩
  refine ((voG 9 (by omega) n m i (Ul (plc zl) (vl E (i + 1))) E zl (vfail zl E i)).up (by omega)).mono fun e fr' H' h => ?_
  cases q : vfail zl E i with
  | true =>
   rw [q, cond_true] at h
   obtain ⟨rfl, rfl, rfl⟩ := h
   exact .inr ⟨rfl, rfl, rfl⟩
  | false =>
   rw [q, cond_false] at h
   obtain ⟨rfl, rfl, rfl⟩ := h
   exact .inl ⟨rfl, rfl, rfl, rfl⟩
 refine h1.renG fun e fr' H' h => ?_
 rcases h with ⟨rfl, h0, rfl, rfl⟩ | ⟨rfl, h0, h2⟩
 ·exact ⟨id, [(3, .ptr ⟨false, 9, 0, 0⟩), (11, sL 12 n), (12, iT (n : Int)), (13, iT (i : Int))], [(9, .cells true 2 1 (.fn fun _ => [.mp 11, sL 10 m])), (10, .cells true 1 m (.fn fun k => [iT (((Ul (plc zl) (vl E (i + 1))) k : Nat) : Int)])), (11, .mSI true zl), (12, .cells true 8 n (.fn fun j => elR (E j)))], fun g hg => rfl, (eRr rfl), ⟨rgR rfl rfl (fun j _ => rfl) (fun j _ => rfl) (by omega), rgR rfl rfl (fun j _ => rfl) (fun j _ => rfl) (by omega), rgM rfl rfl (by omega), rgR rfl rfl (fun j _ => rfl) (fun j _ => rfl) (by omega), trivial⟩, fun i j _ _ h => h, .inl ⟨rfl, h0, rfl, rfl⟩⟩
 ·exact ⟨id, [(2, .sbool true)], [], fun g hg => rfl, ⟨⟨_, h2, fun N μ c h => by simpa only [Rep, AV.ren] using h, rfl⟩, trivial⟩, trivial, fun i j _ _ h => h, .inr ⟨rfl, h0, rfl, rfl⟩⟩


theorem view1 {N : Nat} {μ : MM} {hp : Array Obj} {g sz : Nat} {own : Bool} {c : Cont} {row : List AV} (h : BkOk N μ hp g (.cells own sz 1 c)) (k : RowGe (c.row 0) row) : BkOk N μ hp g (.cells false sz 1 (.fn fun _ => row)) := by
 refine ⟨h.1, h.2.1, fun hr => ?_⟩
 obtain ⟨cur, ty, fz, p1, p2, p3, p4⟩ := h.2.2 (.inl (by omega))
 refine ⟨cur, ty, fz, p1, p2, fun h => (by cases h), fun i hi => ?_⟩
 obtain rfl : i = 0 := by omega
 exact RowOk.ge (p4 0 (by omega)) k
/-- a net's row, read: its slices and maps -/
structure NetA where
 n : Nat
 q : Nat
 r : Nat
 l : AA
 nd : AA
 bg : AA
 m1 : Nat
 m2 : Nat
 m3 : Nat
def flat0 (a : AA) : Bool := Nat.beq a.i 0 && Nat.beq a.o 0
def asNet : List AV → Option NetA
 | [.bool true, .slc _ true a1 n, .mp m1, .slc _ true a2 q, .mp m2, .slc _ true a3 r, .mp m3] => bif flat0 a1 && flat0 a2 && flat0 a3 then some ⟨n, q, r, a1, a2, a3, m1, m2, m3⟩ else none
 | _ => none
/-- the net at a name -/
noncomputable def netAt (N : Nat) : M NetA := (getC N).andThen fun b => (M.okIf (Nat.beq b.2.1 7 && Nat.beq b.2.2.1 1)).andThen fun _ => M.ofOpt (asNet (b.2.2.2.row 0))
theorem Tch_netAt (N : Nat) : Tch (netAt N) := (Tch.getC _).andThen fun _ => (Tch.okIf _).andThen fun _ => Tch.ofOpt _
theorem flat0_is {a : AA} (h : flat0 a = true) : a.i = 0 ∧ a.o = 0 := by
 unfold flat0 at h
 rw [Bool.and_eq_true] at h
 exact ⟨Nat.eq_of_beq_eq_true h.1, Nat.eq_of_beq_eq_true h.2⟩
theorem asNet_some {l : List AV} {w : NetA} (h : asNet l = some w) : ∃ s1 s2 s3, l = [.bool true, .slc s1 true w.l w.n, .mp w.m1, .slc s2 true w.nd w.q, .mp w.m2, .slc s3 true w.bg w.r, .mp w.m3] ∧ (w.l.i = 0 ∧ w.l.o = 0) ∧ (w.nd.i = 0 ∧ w.nd.o = 0) ∧ (w.bg.i = 0 ∧ w.bg.o = 0) := by
 unfold asNet at h
 split at h
 ·rename_i s1 a1 n m1 s2 a2 q m2 s3 a3 r m3
  cases c : flat0 a1 && flat0 a2 && flat0 a3 with
  | false => rw [c] at h; cases h
  | true =>
   rw [c] at h
   cases h
   simp only [Bool.and_eq_true] at c
   exact ⟨s1, s2, s3, rfl, flat0_is c.1.1, flat0_is c.1.2, flat0_is c.2⟩
 ·cases h
theorem netAt_done {N : Nat} {w : NetA} {g g' : G} (h : netAt N g = .done w g') : g = g' ∧ ∃ ob c s1 s2 s3, g.H.get N = some (.cells ob 7 1 c) ∧ c.row 0 = [.bool true, .slc s1 true w.l w.n, .mp w.m1, .slc s2 true w.nd w.q, .mp w.m2, .slc s3 true w.bg w.r, .mp w.m3] ∧ (w.l.i = 0 ∧ w.l.o = 0) ∧ (w.nd.i = 0 ∧ w.nd.o = 0) ∧ (w.bg.i = 0 ∧ w.bg.o = 0) := by
 unfold netAt at h
 obtain ⟨⟨ob, zb, mb, cb⟩, g1, a1, h1⟩ := done_of h
 obtain ⟨t1, rfl⟩ := getC_done a1
 obtain ⟨_, g2, a2, h2⟩ := done_of h1
 obtain ⟨hq, rfl⟩ := okIf_done a2
 obtain ⟨h3, rfl⟩ := ofOpt_done h2
 simp only [Bool.and_eq_true] at hq
 obtain rfl := Nat.eq_of_beq_eq_true hq.1
 obtain rfl := Nat.eq_of_beq_eq_true hq.2
 obtain ⟨s1, s2, s3, e, x⟩ := asNet_some h3
 exact ⟨rfl, ob, cb, s1, s2, s3, t1, e, x⟩
/-- the great names of a net's blocks -/
def netRho (N : Nat) (w : NetA) (i : Nat) : Nat := if i = 2 then N else if i = 3 then w.m1 else if i = 4 then w.m2 else if i = 5 then w.m3 else if i = 6 then w.l.g else if i = 7 then w.nd.g else w.bg.g
theorem net_row {c : Cont} {w : NetA} {s1 s2 s3 : Bool} (e : c.row 0 = [.bool true, .slc s1 true w.l w.n, .mp w.m1, .slc s2 true w.nd w.q, .mp w.m2, .slc s3 true w.bg w.r, .mp w.m3]) (h1 : w.l.i = 0 ∧ w.l.o = 0) (h2 : w.nd.i = 0 ∧ w.nd.o = 0) (h3 : w.bg.i = 0 ∧ w.bg.o = 0) {ρ : Nat → Nat} (p3 : ρ 3 = w.m1) (p4 : ρ 4 = w.m2) (p5 : ρ 5 = w.m3) (p6 : ρ 6 = w.l.g) (p7 : ρ 7 = w.nd.g) (p8 : ρ 8 = w.bg.g) : RowGe (c.row 0) (rens ρ (netR 6 7 8 w.n w.q w.r)) := by
 rw [e]
 refine ⟨AV.ge.refl _, rfl, AV.ge.hdr p6.symm h1.1 h1.2, rfl, ?_, rfl, AV.ge.hdr p7.symm h2.1 h2.2, rfl, ?_, rfl, AV.ge.hdr p8.symm h3.1 h3.2, rfl, ?_, rfl, trivial⟩
 ·show AV.ge (.mp w.m1) (.mp (ρ 3)); rw [p3]; exact AV.ge.refl _
 ·show AV.ge (.mp w.m2) (.mp (ρ 4)); rw [p4]; exact AV.ge.refl _
 ·show AV.ge (.mp w.m3) (.mp (ρ 5)); rw [p5]; exact AV.ge.refl _
/-- what a net's blocks hold -/
structure NetQ (n q r nl nn nb : Nat) (M1 M2 M3 : tM) (cl cn cb : Nat → List AV) : Prop where
 n256 : n ≤ 256
 ln : nl = n
 lq : nn = q
 lr : nb = r
 q_is : q = (ND (rowsE cl) n).length
 r_is : r = (BR (rowsE cl) n).length
 m1 : M1 = zipF 0 (NM (rowsE cl) n)
 m2 : M2 = zipF 0 (ND (rowsE cl) n)
 m3 : M3 = zipF 0 (BR (rowsE cl) n)
 rl : ∀ j, j < n → RowGe (cl j) (elR (rowsE cl j))
 rn : ∀ j, j < q → RowGe (cn j) (txR (lget (ND (rowsE cl) n)) j)
 rb : ∀ j, j < r → RowGe (cb j) (txR (lget (BR (rowsE cl) n)) j)
/-- the net at a name, its elements -/
noncomputable def netRd (N : Nat) : M (NetA × (Nat → El)) :=
 (netAt N).andThen fun w => (M.okIf (nodupB [N, w.m1, w.m2, w.m3, w.l.g, w.nd.g, w.bg.g])).andThen fun _ => (M.getB w.m1).andThen fun b1 => (M.ofOpt (asSI b1)).andThen fun M1 => (M.getB w.m2).andThen fun b2 => (M.ofOpt (asSI b2)).andThen fun M2 => (M.getB w.m3).andThen fun b3 => (M.ofOpt (asSI b3)).andThen fun M3 =>
  (getC w.l.g).andThen fun cl => (getC w.nd.g).andThen fun cn => (getC w.bg.g).andThen fun cb => (M.okIf (Nat.beq cl.2.1 8 && Nat.beq cn.2.1 1 && Nat.beq cb.2.1 1)).andThen fun _ =>
   (M.req (NetQ w.n w.q w.r cl.2.2.1 cn.2.2.1 cb.2.2.1 M1.2 M2.2 M3.2 cl.2.2.2.row cn.2.2.2.row cb.2.2.2.row)).andThen fun _ => M.ret (w, rowsE cl.2.2.2.row)
theorem Tch_netRd (N : Nat) : Tch (netRd N) := (Tch_netAt _).andThen fun _ => (Tch.okIf _).andThen fun _ => (Tch.getB _).andThen fun _ => (Tch.ofOpt _).andThen fun _ => (Tch.getB _).andThen fun _ => (Tch.ofOpt _).andThen fun _ => (Tch.getB _).andThen fun _ => (Tch.ofOpt _).andThen fun _ => (Tch.getC _).andThen fun _ => (Tch.getC _).andThen fun _ => (Tch.getC _).andThen fun _ => (Tch.okIf _).andThen fun _ => (Tch.req _).andThen fun _ => Tch.ret _
/-- what netRd found -/
structure NetF (g : G) (N : Nat) (w : NetA) (E : tE) : Prop where
 net : ∃ ob c s1 s2 s3, g.H.get N = some (.cells ob 7 1 c) ∧ c.row 0 = [.bool true, .slc s1 true w.l w.n, .mp w.m1, .slc s2 true w.nd w.q, .mp w.m2, .slc s3 true w.bg w.r, .mp w.m3]
 l0 : w.l.i = 0 ∧ w.l.o = 0
 nd0 : w.nd.i = 0 ∧ w.nd.o = 0
 bg0 : w.bg.i = 0 ∧ w.bg.o = 0
 dup : [N, w.m1, w.m2, w.m3, w.l.g, w.nd.g, w.bg.g].Nodup
 n256 : w.n ≤ 256
 q_is : w.q = (ND E w.n).length
 r_is : w.r = (BR E w.n).length
 m1 : ∃ s, g.H.get w.m1 = some (.mSI s (zipF 0 (NM E w.n)))
 m2 : ∃ s, g.H.get w.m2 = some (.mSI s (zipF 0 (ND E w.n)))
 m3 : ∃ s, g.H.get w.m3 = some (.mSI s (zipF 0 (BR E w.n)))
 l : ∃ o c, g.H.get w.l.g = some (.cells o 8 w.n c) ∧ ∀ j, j < w.n → RowGe (c.row j) (elR (E j))
 nd : ∃ o c, g.H.get w.nd.g = some (.cells o 1 w.q c) ∧ ∀ j, j < w.q → RowGe (c.row j) (txR (lget (ND E w.n)) j)
 bg : ∃ o c, g.H.get w.bg.g = some (.cells o 1 w.r c) ∧ ∀ j, j < w.r → RowGe (c.row j) (txR (lget (BR E w.n)) j)
theorem netRd_done {N : Nat} {y : NetA × (Nat → El)} {g g' : G} (h : netRd N g = .done y g') : ∃ q, Keep g g' q ∧ (q → NetF g N y.1 y.2) := by
 unfold netRd at h
 obtain ⟨w, g1, a1, h⟩ := done_of h
 obtain ⟨rfl, ob, c, s1, s2, s3, hN, eN, f1, f2, f3⟩ := netAt_done a1
 obtain ⟨_, g2, a2, h⟩ := done_of h
 obtain ⟨dd, rfl⟩ := okIf_done a2
 obtain ⟨b1, g3, a3, h⟩ := done_of h
 obtain ⟨hb1, rfl⟩ := getB_done a3
 obtain ⟨⟨t1, M1⟩, g4, a4, h⟩ := done_of h
 obtain ⟨e1, rfl⟩ := ofOpt_done a4
 obtain ⟨b2, g5, a5, h⟩ := done_of h
 obtain ⟨hb2, rfl⟩ := getB_done a5
 obtain ⟨⟨t2, M2⟩, g6, a6, h⟩ := done_of h
 obtain ⟨e2, rfl⟩ := ofOpt_done a6
 obtain ⟨b3, g7, a7, h⟩ := done_of h
 obtain ⟨hb3, rfl⟩ := getB_done a7
 obtain ⟨⟨t3, M3⟩, g8, a8, h⟩ := done_of h
 obtain ⟨e3, rfl⟩ := ofOpt_done a8
 obtain ⟨⟨o1, z1, k1, cl⟩, g9, a9, h⟩ := done_of h
 obtain ⟨hl, rfl⟩ := getC_done a9
 obtain ⟨⟨o2, z2, k2, cn⟩, g10, a10, h⟩ := done_of h
 obtain ⟨hn, rfl⟩ := getC_done a10
 obtain ⟨⟨o3, z3, k3, cb⟩, g11, a11, h⟩ := done_of h
 obtain ⟨hbb, rfl⟩ := getC_done a11
 obtain ⟨_, g12, a12, h⟩ := done_of h
 obtain ⟨zz, rfl⟩ := okIf_done a12
 obtain ⟨_, g13, a13, h⟩ := done_of h
 have kk := req_done a13
 obtain ⟨rfl, rfl⟩ := ret_done h
 have e1 := Sx.asSI_some e1
 have e2 := Sx.asSI_some e2
 have e3 := Sx.asSI_some e3
 subst e1 e2 e3
 simp only [Bool.and_eq_true] at zz
 obtain ⟨⟨y1, y2⟩, y3⟩ := zz
 obtain rfl := Nat.eq_of_beq_eq_true y1
 obtain rfl := Nat.eq_of_beq_eq_true y2
 obtain rfl := Nat.eq_of_beq_eq_true y3
 refine ⟨_, kk, fun Q => ?_⟩
 dsimp only at Q hl hn hbb hb1 hb2 hb3 ⊢
 have i1 := Q.ln
 have i2 := Q.lq
 have i3 := Q.lr
 subst i1 i2 i3
 refine ⟨⟨ob, c, s1, s2, s3, hN, eN⟩, f1, f2, f3, nodup_of dd, Q.n256, Q.q_is, Q.r_is, ⟨t1, by rw [hb1, Q.m1]⟩, ⟨t2, by rw [hb2, Q.m2]⟩, ⟨t3, by rw [hb3, Q.m3]⟩, ⟨_, _, hl, Q.rl⟩, ⟨_, _, hn, Q.rn⟩, ⟨_, _, hbb, Q.rb⟩⟩
theorem viewW {N : Nat} {μ : MM} {hp : Array Obj} {g sz m : Nat} {own : Bool} {c : Cont} {rows : Nat → List AV} (h : BkOk N μ hp g (.cells own sz m c)) (k : ∀ j, j < m → RowGe (c.row j) (rows j)) : BkOk N μ hp g (.cells false sz m (.fn rows)) := by
 refine ⟨h.1, h.2.1, fun hr => ?_⟩
 obtain ⟨cur, ty, fz, p1, p2, p3, p4⟩ := h.2.2 (hr.elim .inl fun c => by cases c.1)
 exact ⟨cur, ty, fz, p1, p2, fun h => (by cases h), fun i hi => RowOk.ge (p4 i hi) (k i hi)⟩

/-- the net's blocks, told in the small heap -/
theorem net_told {g : G} {N : Nat} {w : NetA} {E : tE} (F : NetF g N w E) : ∀ i b, (hpL [(2, .cells false 7 1 (.fn fun _ => netR 6 7 8 w.n w.q w.r)), (3, .mSI true (zipF 0 (NM E w.n))), (4, .mSI true (zipF 0 (ND E w.n))), (5, .mSI true (zipF 0 (BR E w.n))), (6, .cells false 8 w.n (.fn fun j => elR (E j))), (7, .cells false 1 w.q (.fn (txR (lget (ND E w.n))))), (8, .cells false 1 w.r (.fn (txR (lget (BR E w.n)))))]).get i = some b → Sx.Told g (netRho N w) 9 i b := by
 intro i b hbb
 have hm' := hpL_get hbb
 simp only [List.mem_cons, List.not_mem_nil, or_false] at hm'
 rcases hm' with h | h | h | h | h | h | h <;> cases h
 ·obtain ⟨ob, c, s1, s2, s3, hN, eN⟩ := F.net
  exact ⟨by omega, fun j hj v hv => List.all_eq_true.1 (show (netR 6 7 8 w.n w.q w.r).all (fun v => v.low 9) = true from rfl) v hv, _, hN, fun N μ hp k => view1 k (net_row eN F.l0 F.nd0 F.bg0 rfl rfl rfl rfl rfl rfl), fun h => (by cases h), fun μ m hr => .inl (by omega)⟩
 ·obtain ⟨s, h⟩ := F.m1
  exact ⟨by omega, trivial, _, h, fun N μ hp k => k, fun _ => rfl, fun μ m hr => hr⟩
 ·obtain ⟨s, h⟩ := F.m2
  exact ⟨by omega, trivial, _, h, fun N μ hp k => k, fun _ => rfl, fun μ m hr => hr⟩
 ·obtain ⟨s, h⟩ := F.m3
  exact ⟨by omega, trivial, _, h, fun N μ hp k => k, fun _ => rfl, fun μ m hr => hr⟩
 ·obtain ⟨o, c, h, hr⟩ := F.l
  exact ⟨by omega, fun j hj v hv => List.all_eq_true.1 (elR_low 9 _) v hv, _, h, fun N μ hp k => viewW k hr, fun h => (by cases h), fun μ m hr => hr.elim .inl fun c => by cases c.1⟩
 ·obtain ⟨o, c, h, hr⟩ := F.nd
  exact ⟨by omega, fun j hj v hv => by rw [List.mem_singleton.1 hv]; rfl, _, h, fun N μ hp k => viewW k hr, fun h => (by cases h), fun μ m hr => hr.elim .inl fun c => by cases c.1⟩
 ·obtain ⟨o, c, h, hr⟩ := F.bg
  exact ⟨by omega, fun j hj v hv => by rw [List.mem_singleton.1 hv]; rfl, _, h, fun N μ hp k => viewW k hr, fun h => (by cases h), fun μ m hr => hr.elim .inl fun c => by cases c.1⟩
theorem net_inj {g : G} {N : Nat} {w : NetA} {E : tE} (F : NetF g N w E) : ∀ i j b b', (hpL [(2, .cells false 7 1 (.fn fun _ => netR 6 7 8 w.n w.q w.r)), (3, .mSI true (zipF 0 (NM E w.n))), (4, .mSI true (zipF 0 (ND E w.n))), (5, .mSI true (zipF 0 (BR E w.n))), (6, .cells false 8 w.n (.fn fun j => elR (E j))), (7, .cells false 1 w.q (.fn (txR (lget (ND E w.n))))), (8, .cells false 1 w.r (.fn (txR (lget (BR E w.n)))))]).get i = some b → (hpL [(2, .cells false 7 1 (.fn fun _ => netR 6 7 8 w.n w.q w.r)), (3, .mSI true (zipF 0 (NM E w.n))), (4, .mSI true (zipF 0 (ND E w.n))), (5, .mSI true (zipF 0 (BR E w.n))), (6, .cells false 8 w.n (.fn fun j => elR (E j))), (7, .cells false 1 w.q (.fn (txR (lget (ND E w.n))))), (8, .cells false 1 w.r (.fn (txR (lget (BR E w.n)))))]).get j = some b' → netRho N w i = netRho N w j → i = j := by
 intro i j b b' hi hj e
 have d := F.dup
 simp only [List.nodup_cons, List.mem_cons, List.not_mem_nil, or_false, not_or, not_false_eq_true, List.nodup_nil, and_true] at d
 obtain ⟨⟨d1, d2, d3, d4, d5, d6⟩, ⟨d7, d8, d9, d10, d11⟩, ⟨d12, d13, d14, d15⟩, ⟨d16, d17, d18⟩, ⟨d19, d20⟩, d21⟩ := d
 have hm1 := hpL_get hi
 have hm2 := hpL_get hj
 simp only [List.mem_cons, List.not_mem_nil, or_false] at hm1 hm2
 rcases hm1 with h | h | h | h | h | h | h <;> cases h <;> rcases hm2 with h | h | h | h | h | h | h <;> cases h <;> first | rfl | exact absurd e (by assumption) | exact absurd e.symm (by assumption)



/-- a net's blocks in a small heap -/
noncomputable def netBL (w : NetA) (E : tE) : List (Nat × ABk) := [(2, .cells false 7 1 (.fn fun _ => netR 6 7 8 w.n w.q w.r)), (3, .mSI true (zipF 0 (NM E w.n))), (4, .mSI true (zipF 0 (ND E w.n))), (5, .mSI true (zipF 0 (BR E w.n))), (6, .cells false 8 w.n (.fn fun j => elR (E j))), (7, .cells false 1 w.q (.fn (txR (lget (ND E w.n))))), (8, .cells false 1 w.r (.fn (txR (lget (BR E w.n)))))]
def roG (N : Nat) (w : NetA) (rx : Nat → Nat) (i : Nat) : Nat := if i < 9 then netRho N w i else rx i
def kaG (w : NetA) (nx : Nat) (nms : List Nat) (i : Nat) : Nat := if i = w.m1 then 3 else if i = w.m2 then 4 else if i = w.m3 then 5 else nms.getD (i - nx) 0
noncomputable def upd3 (H : T ABk) (w : NetA) (E : tE) : T ABk := ((H.upd w.m1 (some (ABk.mSI true (zipF 0 (NM E w.n))))).upd w.m2 (some (ABk.mSI true (zipF 0 (ND E w.n))))).upd w.m3 (some (ABk.mSI true (zipF 0 (BR E w.n))))
def newL : List ABk → Nat → List (Nat × ABk)
 | [], _ => []
 | b :: l, i => (i, b) :: newL l (i + 1)
theorem newL_mem : ∀ {l : List ABk} {i : Nat} {q : Nat × ABk}, q ∈ newL l i → ∃ j b, l[j]? = some b ∧ q = (i + j, b)
 | [], i, q, h => by cases h
 | b :: l, i, q, h => by
  rcases List.mem_cons.1 h with rfl | h
  ·exact ⟨0, b, rfl, rfl⟩
  ·obtain ⟨j, u, h1, rfl⟩ := newL_mem h
   exact ⟨j + 1, u, by simpa using h1, by rw [show i + 1 + j = i + (j + 1) by omega]⟩
theorem newL_in : ∀ {l : List ABk} {i j : Nat} {b : ABk}, l[j]? = some b → (i + j, b) ∈ newL l i
 | b0 :: l, i, 0, b, h => by cases h; exact List.mem_cons_self
 | b0 :: l, i, j + 1, b, h => by
  have h' : l[j]? = some b := by simpa using h
  have := newL_in (i := i + 1) h'
  rw [show i + 1 + j = i + (j + 1) by omega] at this
  exact List.mem_cons_of_mem _ this
theorem net_renG {N : Nat} {w : NetA} {E : tE} {rx : Nat → Nat} : ∀ i b, (hpL (netBL w E)).get i = some b → b.ren (roG N w rx) = b.ren (netRho N w) ∧ b.lowR 9 := by
 intro i b hb
 have hm := hpL_get hb
 simp only [netBL, List.mem_cons, List.not_mem_nil, or_false] at hm
 rcases hm with h | h | h | h | h | h | h <;> cases h
 ·exact ⟨rfl, fun j hj v hv => List.all_eq_true.1 (show (netR 6 7 8 w.n w.q w.r).all (fun v => v.low 9) = true from rfl) v hv⟩
 ·exact ⟨rfl, trivial⟩
 ·exact ⟨rfl, trivial⟩
 ·exact ⟨rfl, trivial⟩
 ·exact ⟨rfl, fun j hj v hv => List.all_eq_true.1 (elR_low 9 _) v hv⟩
 ·exact ⟨rfl, fun j hj v hv => by rw [List.mem_singleton.1 hv]; rfl⟩
 ·exact ⟨rfl, fun j hj v hv => by rw [List.mem_singleton.1 hv]; rfl⟩
mutual
theorem av_up {K K' : Nat} (hK : K ≤ K') : ∀ {v : AV}, v.low K = true → v.low K' = true
 | .top, _ => rfl
 | .bool _, _ => rfl
 | .sbool _, _ => rfl
 | .int .., _ => rfl
 | .flt .., _ => rfl
 | .raw .., _ => rfl
 | .bits .., _ => rfl
 | .cpx .., _ => rfl
 | .str .., _ => rfl
 | .nilp, _ => rfl
 | .nils, _ => rfl
 | .nilm, _ => rfl
 | .nilf, _ => rfl
 | .nili, _ => rfl
 | .hdr .., _ => rfl
 | .any1, _ => rfl
 | .ptr a, h => by simp only [AV.low] at h ⊢; exact Nat.ble_eq_true_of_le (Nat.lt_of_lt_of_le (blt_lt h) hK)
 | .slc _ _ a _, h => by simp only [AV.low] at h ⊢; exact Nat.ble_eq_true_of_le (Nat.lt_of_lt_of_le (blt_lt h) hK)
 | .mp g, h => by simp only [AV.low] at h ⊢; exact Nat.ble_eq_true_of_le (Nat.lt_of_lt_of_le (blt_lt h) hK)
 | .fn _ x c, h => by
  simp only [AV.low, Bool.and_eq_true] at h ⊢
  exact ⟨avs_up hK h.1, avs_up hK h.2⟩
 | .agg l, h => by simp only [AV.low] at h ⊢; exact avs_up hK h
 | .tup l, h => by simp only [AV.low] at h ⊢; exact avs_up hK h
theorem avs_up {K K' : Nat} (hK : K ≤ K') : ∀ {l : List AV}, lows K l = true → lows K' l = true
 | [], _ => rfl
 | v :: l, h => by
  simp only [lows, Bool.and_eq_true] at h ⊢
  exact ⟨av_up hK h.1, avs_up hK h.2⟩
end
theorem low_up (v : AV) {K K' : Nat} (h : v.low K = true) (hK : K ≤ K') : v.low K' = true := av_up hK h
theorem lowR_up {b : ABk} {K K' : Nat} (h : b.lowR K) (hK : K ≤ K') : b.lowR K' := by
 cases b with
 | cells own sz m c => exact fun i hi v hv => low_up v (h i hi v hv) hK
 | _ => trivial
theorem netCall {P : Program} {f : FuncId} {fn : Func} {c : Code} (hf : P.funcs[f]? = some fn) (hb : fn.body = some c) (hname : (fn.name == "runtime.NumGoroutine") = false) {args argsC : List AV} {g g' : G} {p : Prop} (hcs : g'.cs → g.cs ∧ p)
  {N : Nat} {w : NetA} {E : tE} (ff : p → NetF g N w E) {xl : tH} {rx : Nat → Nat} {K0 K' : Nat} (hK0 : 9 ≤ K0)
  (hA : p → ∀ M μ (cs : List Value), Reps M μ args cs → Reps K0 (μ.via (roG N w rx)) argsC cs)
  (tx : p → ∀ i b, (hpL xl).get i = some b → 9 ≤ i ∧ Sx.Told g (roG N w rx) K0 i b ∧ b.owned = false)
  (ix : p → ∀ i j b b', (hpL xl).get i = some b → (hpL (netBL w E ++ xl)).get j = some b' → roG N w rx i = roG N w rx j → i = j)
  {bs : List ABk} {nms : List Nat} (hl : nms.length = bs.length) (hnew : ∀ nm ∈ nms, K0 ≤ nm) (hnd : nms.Nodup)
  (hH : g'.H = putNew (upd3 g.H w E) g.nx bs) (hnx : g'.nx = g.nx + bs.length)
  (hbs : ∀ b ∈ bs, b.owned = true ∧ b.lowR (g.nx + bs.length) ∧ b.inS fun i => g.nx ≤ i ∧ i < g.nx + bs.length)
  {v : AV} (hv : v.low (g.nx + bs.length) = true) (hvS : v.inS fun i => g.nx ≤ i ∧ i < g.nx + bs.length)
  (h : p → (∀ j, j < nms.length → kaG w g.nx nms (g.nx + j) = nms.getD j 0) → GoesB P c fn.ntmps K0 K0 K' (frameOf argsC 0 .e) (hpL (netBL w E ++ xl)) fun e fr' H' => (e = .ret ∨ e = .normal) ∧ ∃ vs gr, resultsA P fr' fn.results.toList ⟨H', K', [], [], True⟩ = .done vs gr ∧ gr.cs ∧ AV.ge (packA vs) (v.ren (kaG w g.nx nms)) ∧
   (H'.get 3 = some (.mSI true (zipF 0 (NM E w.n))) ∧ H'.get 4 = some (.mSI true (zipF 0 (ND E w.n))) ∧ H'.get 5 = some (.mSI true (zipF 0 (BR E w.n)))) ∧ ∀ j b, bs[j]? = some b → ∃ b0, H'.get (nms.getD j 0) = some b0 ∧ SameC b0 (b.ren (kaG w g.nx nms))) :
  CallIs P f args v g g' := by
 have nb : ∀ i b, (hpL (netBL w E)).get i = some b → 2 ≤ i ∧ i < 9 := fun i b hb => by
  have hm := hpL_get hb
  simp only [netBL, List.mem_cons, List.not_mem_nil, or_false] at hm
  rcases hm with h | h | h | h | h | h | h <;> cases h <;> omega
 have ro : ∀ i, i < 9 → roG N w rx i = netRho N w i := fun i hi => if_pos hi
 have split : p → ∀ i b, (hpL (netBL w E ++ xl)).get i = some b → ((hpL (netBL w E)).get i = some b ∧ i < 9) ∨ ((hpL xl).get i = some b ∧ 9 ≤ i) := fun hp i b hb => by
  rw [hpL_app] at hb
  cases h1 : (hpL (netBL w E)).get i with
  | some b1 => rw [h1] at hb; cases hb; exact .inl ⟨rfl, (nb _ _ h1).2⟩
  | none => rw [h1] at hb; exact .inr ⟨hb, (tx hp _ _ hb).1⟩
 refine smallCallN (c := c) hf hb hname (argsC := argsC) (bl := netBL w E ++ xl) (bl' := [(w.m1, .mSI true (zipF 0 (NM E w.n))), (w.m2, .mSI true (zipF 0 (ND E w.n))), (w.m3, .mSI true (zipF 0 (BR E w.n)))] ++ newL bs g.nx) (K0 := K0) (K' := K') (p := p) hcs (roG N w rx) (kaG w g.nx nms) (nms := nms) (by rw [hnx, hl]) (v := v) (fun i => i = w.m1 ∨ i = w.m2 ∨ i = w.m3 ∨ (g.nx ≤ i ∧ i < g.nx + bs.length)) (fun hp M μ cs hr => hA hp M μ cs hr) ?_ ?_ hnew hnd ?_ ?_ ?_ ?_ ?_ ?_ ?_
 ·intro hp i b hb
  rcases split hp i b hb with ⟨hb, hi⟩ | ⟨hb, hi⟩
  ·have t := net_told (ff hp) i b hb
   obtain ⟨b1, t1, t2, t3, t4⟩ := t.of
   refine ⟨by omega, ?_, b1, by rw [ro i hi]; exact t1, fun M μ hpp k => ?_, t3, t4⟩
   ·exact lowR_up t.low hK0
   ·rw [ro i hi] at k ⊢
    rw [(net_renG i b hb).1]
    exact t2 M μ hpp k
  ·exact (tx hp i b hb).2.1
 ·intro hp i j b b' hi hj e
  rcases split hp i b hi with ⟨hi', li⟩ | ⟨hi', li⟩
  ·rcases split hp j b' hj with ⟨hj', lj⟩ | ⟨hj', lj⟩
   ·rw [ro i li, ro j lj] at e
    exact net_inj (ff hp) i j b b' hi' hj' e
   ·exact (ix hp j i b' b hj' hi e.symm).symm
  ·exact ix hp i j b b' hi' hj e
 ·-- κ at the new names
  intro hp hL j hj
  obtain ⟨⟨_, h1⟩, ⟨_, h2⟩, ⟨_, h3⟩⟩ := (⟨(ff hp).m1, (ff hp).m2, (ff hp).m3⟩ : _ ∧ _ ∧ _)
  have l1 := hL _ _ h1; have l2 := hL _ _ h2; have l3 := hL _ _ h3
  show kaG w g.nx nms (g.nx + j) = _
  unfold kaG
  rw [if_neg (by omega), if_neg (by omega), if_neg (by omega), Nat.add_sub_cancel_left]
 ·intro hp hL i hi
  have d := (ff hp).dup
  simp only [List.nodup_cons, List.mem_cons, List.not_mem_nil, or_false, not_or, not_false_eq_true, List.nodup_nil, and_true] at d
  obtain ⟨⟨d1, d2, d3, d4, d5, d6⟩, ⟨d7, d8, d9, d10, d11⟩, ⟨d12, d13, d14, d15⟩, ⟨d16, d17, d18⟩, ⟨d19, d20⟩, d21⟩ := d
  obtain ⟨⟨_, h1⟩, ⟨_, h2⟩, ⟨_, h3⟩⟩ := (⟨(ff hp).m1, (ff hp).m2, (ff hp).m3⟩ : _ ∧ _ ∧ _)
  have l1 := hL _ _ h1; have l2 := hL _ _ h2; have l3 := hL _ _ h3
  have k1 : kaG w g.nx nms w.m1 = 3 := if_pos rfl
  have k2 : kaG w g.nx nms w.m2 = 4 := (if_neg (fun c => d7 c.symm)).trans (if_pos rfl)
  have k3 : kaG w g.nx nms w.m3 = 5 := (if_neg (fun c => d8 c.symm)).trans ((if_neg (fun c => d12 c.symm)).trans (if_pos rfl))
  rcases hi with rfl | rfl | rfl | ⟨h4, h5⟩
  ·exact ⟨by omega, fun _ => by rw [k1]; exact ⟨by omega, ro 3 (by omega)⟩⟩
  ·exact ⟨by omega, fun _ => by rw [k2]; exact ⟨by omega, ro 4 (by omega)⟩⟩
  ·exact ⟨by omega, fun _ => by rw [k3]; exact ⟨by omega, ro 5 (by omega)⟩⟩
  ·exact ⟨by omega, fun h => by omega⟩
 ·-- the walk
  intro hp hL
  have d := (ff hp).dup
  simp only [List.nodup_cons, List.mem_cons, List.not_mem_nil, or_false, not_or, not_false_eq_true, List.nodup_nil, and_true] at d
  obtain ⟨⟨d1, d2, d3, d4, d5, d6⟩, ⟨d7, d8, d9, d10, d11⟩, ⟨d12, d13, d14, d15⟩, ⟨d16, d17, d18⟩, ⟨d19, d20⟩, d21⟩ := d
  obtain ⟨⟨_, h1⟩, ⟨_, h2⟩, ⟨_, h3⟩⟩ := (⟨(ff hp).m1, (ff hp).m2, (ff hp).m3⟩ : _ ∧ _ ∧ _)
  have l1 := hL _ _ h1; have l2 := hL _ _ h2; have l3 := hL _ _ h3
  have k1 : kaG w g.nx nms w.m1 = 3 := if_pos rfl
  have k2 : kaG w g.nx nms w.m2 = 4 := (if_neg (fun c => d7 c.symm)).trans (if_pos rfl)
  have k3 : kaG w g.nx nms w.m3 = 5 := (if_neg (fun c => d8 c.symm)).trans ((if_neg (fun c => d12 c.symm)).trans (if_pos rfl))
  have kN : ∀ j, j < nms.length → kaG w g.nx nms (g.nx + j) = nms.getD j 0 := fun j hj => by
   unfold kaG
   rw [if_neg (by omega), if_neg (by omega), if_neg (by omega), Nat.add_sub_cancel_left]
  refine (h hp kN).mono fun e fr' H' ⟨e1, vs, gr, e2, e3, e4, ⟨e5, e6, e7⟩, e8⟩ => ⟨e1, vs, gr, e2, e3, e4, fun q hq => ?_⟩
  rcases List.mem_append.1 hq with hq | hq
  ·simp only [List.mem_cons, List.not_mem_nil, or_false] at hq
   rcases hq with rfl | rfl | rfl
   ·exact ⟨_, by rw [k1]; exact e5, SameC.refl _⟩
   ·exact ⟨_, by rw [k2]; exact e6, SameC.refl _⟩
   ·exact ⟨_, by rw [k3]; exact e7, SameC.refl _⟩
  ·obtain ⟨j, b, hj, rfl⟩ := newL_mem hq
   obtain ⟨b0, q1, q2⟩ := e8 j b hj
   exact ⟨b0, by rw [kN j (by rw [hl]; exact (List.getElem?_eq_some_iff.1 hj).1)]; exact q1, q2⟩
 ·intro hp hL; rw [hnx]; exact hv
 ·intro hp hL
  exact AV.inS.mono (fun i hi => .inr (.inr (.inr hi))) hvS
 ·intro hp hL q hq
  have d := (ff hp).dup
  simp only [List.nodup_cons, List.mem_cons, List.not_mem_nil, or_false, not_or, not_false_eq_true, List.nodup_nil, and_true] at d
  obtain ⟨⟨d1, d2, d3, d4, d5, d6⟩, ⟨d7, d8, d9, d10, d11⟩, ⟨d12, d13, d14, d15⟩, ⟨d16, d17, d18⟩, ⟨d19, d20⟩, d21⟩ := d
  obtain ⟨⟨_, h1⟩, ⟨_, h2⟩, ⟨_, h3⟩⟩ := (⟨(ff hp).m1, (ff hp).m2, (ff hp).m3⟩ : _ ∧ _ ∧ _)
  have l1 := hL _ _ h1; have l2 := hL _ _ h2; have l3 := hL _ _ h3
  have k1 : kaG w g.nx nms w.m1 = 3 := if_pos rfl
  have k2 : kaG w g.nx nms w.m2 = 4 := (if_neg (fun c => d7 c.symm)).trans (if_pos rfl)
  have k3 : kaG w g.nx nms w.m3 = 5 := (if_neg (fun c => d8 c.symm)).trans ((if_neg (fun c => d12 c.symm)).trans (if_pos rfl))
  have nbl : ∀ i b, (hpL (netBL w E)).get i = some b → (hpL (netBL w E ++ xl)).get i = some b := fun i b hb => by rw [hpL_app, hb]; rfl
  rcases List.mem_append.1 hq with hq | hq
  ·simp only [List.mem_cons, List.not_mem_nil, or_false] at hq
   rcases hq with rfl | rfl | rfl
   ·exact ⟨.inl rfl, trivial, trivial, fun _ => ⟨_, by rw [k1]; exact nbl 3 _ rfl, rfl, fun μ m h => h⟩, fun _ => rfl⟩
   ·exact ⟨.inr (.inl rfl), trivial, trivial, fun _ => ⟨_, by rw [k2]; exact nbl 4 _ rfl, rfl, fun μ m h => h⟩, fun _ => rfl⟩
   ·exact ⟨.inr (.inr (.inl rfl)), trivial, trivial, fun _ => ⟨_, by rw [k3]; exact nbl 5 _ rfl, rfl, fun μ m h => h⟩, fun _ => rfl⟩
  ·obtain ⟨j, b, hj, rfl⟩ := newL_mem hq
   have hlt := (List.getElem?_eq_some_iff.1 hj).1
   obtain ⟨b1, b2, b3⟩ := hbs b (List.mem_of_getElem? hj)
   exact ⟨.inr (.inr (.inr ⟨by omega, by omega⟩)), ABk.inS.mono (fun i hi => .inr (.inr (.inr hi))) b3, by rw [hnx]; exact b2, fun h => absurd h (by omega), fun _ => b1⟩
 ·intro hp hL i b hi
  rw [hH, putNew_get] at hi
  split at hi
  ·rename_i hb
   refine .inr (List.mem_append_right _ ?_)
   have := newL_in (i := g.nx) hi
   rwa [show g.nx + (i - g.nx) = i by omega] at this
  ·unfold upd3 at hi
   rw [T.get_upd] at hi
   split at hi
   ·rename_i e; cases hi; subst e; exact .inr (by simp)
   rename_i n3
   rw [T.get_upd] at hi
   split at hi
   ·rename_i e; cases hi; subst e; exact .inr (by simp)
   rename_i n2
   rw [T.get_upd] at hi
   split at hi
   ·rename_i e; cases hi; subst e; exact .inr (by simp)
   rename_i n1
   refine .inl ⟨hi, fun j bj hj ho e => ?_⟩
   rcases split hp j bj hj with ⟨hj, lj⟩ | ⟨hj, lj⟩
   ·rw [ro j lj] at e
    have hm' := hpL_get hj
    simp only [netBL, List.mem_cons, List.not_mem_nil, or_false] at hm'
    rcases hm' with h | h | h | h | h | h | h <;> cases h
    ·cases ho
    ·exact n1 e.symm
    ·exact n2 e.symm
    ·exact n3 e.symm
    ·cases ho
    ·cases ho
    ·cases ho
   ·rw [(tx hp j bj hj).2.2] at ho; cases ho


theorem addN_good {l : List Tx} {x : Tx} (h : ∀ i, i < l.length → pos (lget l i) (g0 :: l.take i) = none) : ∀ i, i < (addN l x).length → pos (lget (addN l x) i) (g0 :: (addN l x).take i) = none := by
 unfold addN
 cases q : (pos x l).isSome || x == [] || x == [48] with
 | true => rw [cond_true]; exact h
 | false =>
  rw [cond_false]
  intro i hi
  simp only [Bool.or_eq_false_iff] at q
  obtain ⟨⟨q1, q2⟩, q3⟩ := q
  have q4 : pos x l = none := by
   cases e : pos x l with
   | none => rfl
   | some j => rw [e] at q1; cases q1
  by_cases c : i < l.length
  ·have h1 := h i c
   have e1 : lget (l ++ [x]) i = lget l i := by
    unfold lget
    rw [List.getD_eq_getElem?_getD, List.getElem?_append_left c, ← List.getD_eq_getElem?_getD]
   rw [e1, List.take_append_of_le_length (by omega)]
   exact h1
  ·have hi' : i = l.length := by simp at hi; omega
   subst hi'
   have e1 : lget (l ++ [x]) l.length = x := by
    unfold lget
    rw [List.getD_eq_getElem?_getD, List.getElem?_append_right (Nat.le_refl _), Nat.sub_self]; rfl
   rw [e1, List.take_append_of_le_length (Nat.le_refl _), List.take_length]
   refine pos_none.2 fun hm => ?_
   rcases List.mem_cons.1 hm with hm | hm
   ·rw [hm] at q3; exact absurd q3 (by decide)
   ·exact pos_none.1 q4 hm
theorem ND_good (E : tE) : ∀ n i, i < (ND E n).length → pos (lget (ND E n) i) (g0 :: (ND E n).take i) = none
 | 0, i, h => absurd h (Nat.not_lt_zero _)
 | n + 1, i, h => by
  unfold ND at h ⊢
  exact addN_good (addN_good (addN_good (addN_good (ND_good E n)))) i h
/-- a place among the sets is one -/
theorem zip_in (l : List Tx) (x : Tx) : 0 ≤ (lfind seq x (zipF 0 (g0 :: l))).getD 0 ∧ (lfind seq x (zipF 0 (g0 :: l))).getD 0 < ((l.length + 1 : Nat) : Int) := by
 rw [find_zip]
 cases e : pos x (g0 :: l) with
 | none => exact ⟨Int.le_refl _, by show (0 : Int) < _; omega⟩
 | some i =>
  have := (pos_lt e).1
  simp only [List.length_cons] at this
  exact ⟨by show (0 : Int) ≤ ((0 + i : Nat) : Int); omega, by show ((0 + i : Nat) : Int) < _; omega⟩
noncomputable def ogNew (l : List Tx) : M Nat :=
 (M.newB (.cells true 1 (l.length + 1) (.fn fun k => [iT ((k : Nat) : Int)]))).andThen fun N => (M.newB (.mSI true (zipF 0 (g0 :: l)))).andThen fun _ => M.newB (.cells true 2 1 (.fn fun _ => [.mp (N + 1), .slc true true ⟨false, N, 0, 0⟩ (l.length + 1)]))
def ogB (N : Nat) (l : List Tx) : List ABk := [.cells true 1 (l.length + 1) (.fn fun k => [iT ((k : Nat) : Int)]), .mSI true (zipF 0 (g0 :: l)), .cells true 2 1 (.fn fun _ => [.mp (N + 1), .slc true true ⟨false, N, 0, 0⟩ (l.length + 1)])]
theorem Tch_ogNew (l : List Tx) : Tch (ogNew l) := (Tch.newB _).andThen fun _ => (Tch.newB _).andThen fun _ => Tch.newB _
theorem ogNew_done {l : List Tx} {N : Nat} {g g' : G} (h : ogNew l g = .done N g') : N = g.nx + 2 ∧ g'.H = putNew g.H g.nx (ogB g.nx l) ∧ g'.nx = g.nx + 3 ∧ g'.cs = g.cs := by
 cases h
 exact ⟨rfl, rfl, rfl, rfl⟩
noncomputable def noneS : List AV → M AV
 | [.ptr aN] => (M.okIf (flat0 aN)).andThen fun _ => (netRd aN.g).andThen fun y => (M.setB y.1.m1 (.mSI true (zipF 0 (NM y.2 y.1.n)))).andThen fun _ => (M.setB y.1.m2 (.mSI true (zipF 0 (ND y.2 y.1.n)))).andThen fun _ => (M.setB y.1.m3 (.mSI true (zipF 0 (BR y.2 y.1.n)))).andThen fun _ => M.ret (.bool false)
 | _ => M.no
theorem noneS_tch : ∀ args, Tch (noneS args) := by
 intro args
 unfold noneS
 split
 ·exact (Tch.okIf _).andThen fun _ => (Tch_netRd _).andThen fun _ => (Tch.setB _ _).andThen fun _ => (Tch.setB _ _).andThen fun _ => (Tch.setB _ _).andThen fun _ => Tch.ret _
 ·exact Tch.no
theorem noneS_ok : ∀ args v g g', noneS args g = .done v g' → CallIs Try.prog 39 args v g g' := by
 intro args v g g' h
 unfold noneS at h
 split at h
 case h_2 => exact (no_done h).elim
 rename_i aN
 obtain ⟨_, g1, a1, h⟩ := done_of h
 obtain ⟨q0, rfl⟩ := okIf_done a1
 have q0 := flat0_is q0
 obtain ⟨⟨w, E⟩, g3, a3, h⟩ := done_of h
 obtain ⟨qf, kk, ff⟩ := netRd_done a3
 dsimp only at h ff
 obtain ⟨_, g6, a6, h⟩ := done_of h
 obtain ⟨_, g7, a7, h⟩ := done_of h
 obtain ⟨_, g8, a8, h⟩ := done_of h
 obtain ⟨b1, b2, b3⟩ := setB_done a6
 obtain ⟨b4, b5, b6⟩ := setB_done a7
 obtain ⟨b7, b8, b9⟩ := setB_done a8
 have hx : g8.nx = g.nx := by rw [b8, b5, b2, kk.2.1]
 obtain ⟨rfl, rfl⟩ := ret_done h
 refine netCall (K' := 40) (c := (bodyOf Try.f39)) Try.func39 (by kernel_rfl) (by kernel_rfl) (argsC := [.ptr ⟨false, 2, 0, 0⟩]) (fun hc => kk.2.2 (by rw [← b3, ← b6, ← b9]; exact hc)) (N := aN.g) (w := w) (E := E) (fun hp => ff hp) (xl := []) (rx := fun _ => 0) (K0 := 9) (Nat.le_refl _) (fun hp M μ cs hr => ?_) (fun hp i b hb => by cases hb) (fun hp i j b b' hi => by cases hi) (bs := []) (nms := []) rfl (by decide) (by decide) (by rw [b7, b4, b1, kk.1]; rfl) (by rw [b8, b5, b2, kk.2.1]; rfl) (fun b hb => by cases hb) (by simp [AV.low, lows]) (by simp [AV.inS, insS]) (fun hp kN => ?_)
 ·simp only [Reps] at hr ⊢
  obtain ⟨c1, l1, rfl, h1, rfl⟩ := hr
  exact ⟨c1, _, rfl, rep_ptr0 h1 q0.1 q0.2 (by omega) rfl, rfl⟩
 have F := ff hp
 rw [List.append_nil]
 refine (none_goes w.n w.q w.r E (lget (ND E w.n)) (lget (BR E w.n)) _ _ _ (by have := F.n256; omega)).mono fun e fr' H' h => ?_
 obtain ⟨rfl, rfl, rfl⟩ := h
 exact ⟨.inl rfl, _, _, res1 (t := 2) (by kernel_rfl) rfl, trivial, AV.ge.refl _, ⟨rfl, rfl, rfl⟩, fun j b hb => by cases hb⟩

noncomputable def ogS : List AV → M AV
 | [.ptr aN] => (M.okIf (flat0 aN)).andThen fun _ => (netRd aN.g).andThen fun y => (M.setB y.1.m1 (.mSI true (zipF 0 (NM y.2 y.1.n)))).andThen fun _ => (M.setB y.1.m2 (.mSI true (zipF 0 (ND y.2 y.1.n)))).andThen fun _ => (M.setB y.1.m3 (.mSI true (zipF 0 (BR y.2 y.1.n)))).andThen fun _ => (ogNew (ND y.2 y.1.n)).andThen fun N => M.ret (.ptr ⟨false, N, 0, 0⟩)
 | _ => M.no
theorem ogS_tch : ∀ args, Tch (ogS args) := by
 intro args
 unfold ogS
 split
 ·exact (Tch.okIf _).andThen fun _ => (Tch_netRd _).andThen fun _ => (Tch.setB _ _).andThen fun _ => (Tch.setB _ _).andThen fun _ => (Tch.setB _ _).andThen fun _ => (Tch_ogNew _).andThen fun _ => Tch.ret _
 ·exact Tch.no
theorem ogS_ok : ∀ args v g g', ogS args g = .done v g' → CallIs Try.prog 40 args v g g' := by
 intro args v g g' h
 unfold ogS at h
 split at h
 case h_2 => exact (no_done h).elim
 rename_i aN
 obtain ⟨_, g1, a1, h⟩ := done_of h
 obtain ⟨q0, rfl⟩ := okIf_done a1
 have q0 := flat0_is q0
 obtain ⟨⟨w, E⟩, g3, a3, h⟩ := done_of h
 obtain ⟨qf, kk, ff⟩ := netRd_done a3
 dsimp only at h ff
 obtain ⟨_, g6, a6, h⟩ := done_of h
 obtain ⟨_, g7, a7, h⟩ := done_of h
 obtain ⟨_, g8, a8, h⟩ := done_of h
 obtain ⟨b1, b2, b3⟩ := setB_done a6
 obtain ⟨b4, b5, b6⟩ := setB_done a7
 obtain ⟨b7, b8, b9⟩ := setB_done a8
 have hx : g8.nx = g.nx := by rw [b8, b5, b2, kk.2.1]
 obtain ⟨N, g9, a9, h⟩ := done_of h
 obtain ⟨e1, e2, e3, e4⟩ := ogNew_done a9
 obtain ⟨rfl, rfl⟩ := ret_done h
 refine netCall (K' := 13) (c := (bodyOf Try.f40)) Try.func40 (by kernel_rfl) (by kernel_rfl) (argsC := [.ptr ⟨false, 2, 0, 0⟩]) (fun hc => kk.2.2 (by rw [← b3, ← b6, ← b9, ← e4]; exact hc)) (N := aN.g) (w := w) (E := E) (fun hp => ff hp) (xl := []) (rx := fun _ => 0) (K0 := 9) (Nat.le_refl _) (fun hp M μ cs hr => ?_) (fun hp i b hb => by cases hb) (fun hp i j b b' hi => by cases hi) (bs := ogB g.nx (ND E w.n)) (nms := [10, 11, 9]) rfl (by decide) (by decide) (by rw [e2, b7, b4, b1, kk.1, hx]; rfl) (by rw [e3, hx]; rfl) (fun b hb => by
   simp only [ogB, List.mem_cons, List.not_mem_nil, or_false] at hb
   rcases hb with rfl | rfl | rfl
   ·exact ⟨rfl, fun i hi v hv => by rw [List.mem_singleton.1 hv]; rfl, fun i hi o v hv => by
     match o, hv with
     | 0, hv => cases hv; trivial⟩
   ·exact ⟨rfl, trivial, trivial⟩
   ·refine ⟨rfl, fun i hi v hv => ?_, fun i hi o v hv => ?_⟩
    ·rcases List.mem_cons.1 hv with rfl | hv
     ·exact Nat.ble_eq_true_of_le (show Nat.succ (g.nx + 1) ≤ g.nx + 3 by omega)
     ·rw [List.mem_singleton.1 hv]; exact Nat.ble_eq_true_of_le (show Nat.succ g.nx ≤ g.nx + 3 by omega)
    ·match o, hv with
     | 0, hv => cases hv; exact ⟨by omega, by show _ < g.nx + 3; omega⟩
     | 1, hv => cases hv; exact ⟨by show g.nx ≤ g.nx; omega, by show g.nx < g.nx + 3; omega⟩) (by rw [e1, hx]; exact Nat.ble_eq_true_of_le (show Nat.succ (g.nx + 2) ≤ g.nx + 3 by omega)) (by rw [e1, hx]; exact ⟨by show g.nx ≤ g.nx + 2; omega, by show g.nx + 2 < g.nx + 3; omega⟩) (fun hp kN => ?_)
 ·simp only [Reps] at hr ⊢
  obtain ⟨c1, l1, rfl, h1, rfl⟩ := hr
  exact ⟨c1, _, rfl, rep_ptr0 h1 q0.1 q0.2 (by omega) rfl, rfl⟩
 have F := ff hp
 rw [List.append_nil]
 have eB : netBL w E = [(2, .cells false 7 1 (.fn fun _ => netR 6 7 8 w.n (ND E w.n).length w.r)), (3, .mSI true (zipF 0 (NM E w.n))), (4, .mSI true (zipF 0 (ND E w.n))), (5, .mSI true (zipF 0 (BR E w.n))), (6, .cells false 8 w.n (.fn fun j => elR (E j))), (7, .cells false 1 (ND E w.n).length (.fn (txR (lget (ND E w.n))))), (8, .cells false 1 w.r (.fn (txR (lget (BR E w.n)))))] := by unfold netBL; rw [F.q_is]
 have k0 : kaG w g.nx [10, 11, 9] g.nx = 10 := kN 0 (by simp)
 have k1 : kaG w g.nx [10, 11, 9] (g.nx + 1) = 11 := kN 1 (by simp)
 have k2 : kaG w g.nx [10, 11, 9] (g.nx + 2) = 9 := kN 2 (by simp)
 rw [eB]
 refine (og_goes (ND E w.n) w.n w.r E (lget (BR E w.n)) (zipF 0 (NM E w.n)) (zipF 0 (ND E w.n)) (zipF 0 (BR E w.n)) (by have := ND_len E w.n; have := F.n256; omega) (ND_good E w.n)).mono fun e fr' H' h => ?_
 obtain ⟨rfl, rfl, rfl⟩ := h
 refine ⟨.inl rfl, _, _, res1 (t := 2) (by kernel_rfl) rfl, trivial, ?_, ⟨rfl, rfl, rfl⟩, fun j b hb => ?_⟩
 ·simp only [AV.ren, AA.ren, e1, hx, k2]
  exact AV.ge.refl _
 ·match j, hb with
  | 0, hb => cases hb; exact ⟨_, rfl, rfl, rfl, rfl, fun j hj => rfl⟩
  | 1, hb => cases hb; exact (hs rfl)
  | 2, hb =>
   cases hb
   refine ⟨_, rfl, rfl, rfl, rfl, fun j hj => ?_⟩
   show _ = rens (kaG w g.nx [10, 11, 9]) [.mp (g.nx + 1), .slc true true ⟨false, g.nx, 0, 0⟩ ((ND E w.n).length + 1)]
   simp only [rens, AV.ren, AA.ren, k0, k1]
   rfl

noncomputable def gamX : Known := kc 71 ofBits (kc 74 toBits (kc 72 smallS (kc 61 kindS (kc 58 rowOfS (kc 73 ofS (kc 59 nameS (kc 60 nodeS (kc 35 chkS (kc 12 netofS (kc 29 elsS (kc 46 alongS (kc 44 rootS (kc 41 joinS (kc 39 noneS (kc 40 ogS (kn))))))))))))))))
theorem gamX_ok : KnownOk Try.prog gamX := kc_ok ((ofBits_is Try.prog).callIs Try.func71 (by kernel_rfl) (by kernel_rfl) (by kernel_rfl) (by kernel_rfl)) (kc_ok ((toBits_is Try.prog).callIs Try.func74 (by kernel_rfl) (by kernel_rfl) (by kernel_rfl) (by kernel_rfl)) (kc_ok smallS_ok (kc_ok kindS_ok (kc_ok rowOfS_ok (kc_ok ofS_ok (kc_ok nameS_ok (kc_ok nodeS_ok (kc_ok chkS_ok (kc_ok netofS_ok (kc_ok elsS_ok (kc_ok alongS_ok (kc_ok rootS_ok (kc_ok joinS_ok (kc_ok noneS_ok (kc_ok ogS_ok (kn_ok))))))))))))))))
theorem gamX_tch : KnownT gamX := kc_tch Tch.ofBits (kc_tch Tch.toBits (kc_tch smallS_tch (kc_tch kindS_tch (kc_tch rowOfS_tch (kc_tch ofS_tch (kc_tch nameS_tch (kc_tch nodeS_tch (kc_tch chkS_tch (kc_tch netofS_tch (kc_tch elsS_tch (kc_tch alongS_tch (kc_tch rootS_tch (kc_tch joinS_tch (kc_tch noneS_tch (kc_tch ogS_tch (kn_tch))))))))))))))))
noncomputable def callX : Calls' := Sx.runN Try.prog gamX (regionC Try.prog) 1000 50
theorem callX_ok : CallOk Try.prog callX := engineC gamX_ok gamX_tch (by kernel_rfl) (by kernel_rfl) 1000 50
theorem callX_reg (n : Nat) : RegionOk Try.prog (regionC Try.prog callX n) n := runN_regionC gamX_ok gamX_tch (by kernel_rfl) (by kernel_rfl) 1000 50 n
noncomputable abbrev piececallX (f : Func) (c : Code) (fr : Fr) (H : T ABk) (K : Nat) (path : List Bool) : Res (Ex × Fr) :=
 codeA Try.prog callX (regionC Try.prog callX f.ntmps) noLoops f.ntmps 1000 c fr ⟨H, K, [], path, True⟩


theorem rcX {fn : Func} {K K' B : Nat} {e : Ex} {F : tF} {Hl : tH} {c : Code} {fr : Fr} {H : T ABk} {path : List Bool} (h : PieceN K' e F Hl (piececallX fn c fr H K path)) (hB : B ≤ K) : GoesB Try.prog c fn.ntmps B K K' fr H fun e' fr' H' => e' = e ∧ fr' = frL F ∧ H' = hpL Hl := GoesB.runN callX_ok (callX_reg _) (LoopsIn.none _ _ _) h hB
theorem rdX {fn : Func} {K K' B : Nat} {e : Ex} {F : tF} {Hl : tH} {c : Code} {fr : Fr} {H : T ABk} (path : List Bool) {q : Prop} (hq : q) (hB : B ≤ K) (h : pieceN K' e F Hl (piececallX fn c fr H K path) = (e = e ∧ selfW F ∧ selfH Hl ∧ true = true ∧ q) := by kernel_rfl) : GoesB Try.prog c fn.ntmps B K K' fr H fun e' fr' H' => e' = e ∧ fr' = frL F ∧ H' = hpL Hl := rcX (eqn h hq) hB
theorem voA (B : Nat) (hB : B ≤ 9) (n q r : Nat) (E : tE) (nd br : Nat → List UInt8) (M1 M2 M3 : List (List UInt8 × Int)) : GoesB Try.prog ((nav [0] (bodyOf Try.f15))) Try.f15.ntmps B 9 9 (frameOf [.ptr ⟨false, 2, 0, 0⟩] 0 .e) (hpL [(2, .cells false 7 1 (.fn fun _ => netR 6 7 8 n q r)), (3, .mSI true M1), (4, .mSI true M2), (5, .mSI true M3), (6, .cells false 8 n (.fn fun j => elR (E j))), (7, .cells false 1 q (.fn (txR nd))), (8, .cells false 1 r (.fn (txR br)))]) (pP .normal [(0, .ptr ⟨false, 2, 0, 0⟩)] [(2, .cells false 7 1 (.fn fun x => (netR 6 7 8 n q r))), (3, ABk.mSI true M1), (4, ABk.mSI true M2), (5, ABk.mSI true M3), (6, .cells false 8 n (.fn fun j => (elR (E j)))), (7, .cells false 1 q (.fn (txR nd))), (8, .cells false 1 r (.fn (txR br)))]) := rdX [] trivial hB
theorem voB (B : Nat) (hB : B ≤ 9) (n q r : Nat) (E : tE) (nd br : Nat → List UInt8) (M1 M2 M3 : List (List UInt8 × Int)) (x0 : (NetQ n q r n q r M1 M2 M3 (Cont.row (.fn fun j => elR (E j))) (Cont.row (.fn (txR nd))) (Cont.row (.fn (txR br))))) : GoesB Try.prog ((nav [1,0] (bodyOf Try.f15))) Try.f15.ntmps B 9 9 (frL [(0, .ptr ⟨false, 2, 0, 0⟩)]) (hpL [(2, .cells false 7 1 (.fn fun _ => netR 6 7 8 n q r)), (3, .mSI true M1), (4, .mSI true M2), (5, .mSI true M3), (6, .cells false 8 n (.fn fun j => elR (E j))), (7, .cells false 1 q (.fn (txR nd))), (8, .cells false 1 r (.fn (txR br)))]) (pP .normal [(0, .ptr ⟨false, 2, 0, 0⟩)] [(2, .cells false 7 1 (.fn fun x => (netR 6 7 8 n q r))), (3, ABk.mSI true (zipF 0 (NM (rowsE (Cont.row (.fn fun j => elR (E j)))) n))), (4, ABk.mSI true (zipF 0 (ND (rowsE (Cont.row (.fn fun j => elR (E j)))) n))), (5, ABk.mSI true (zipF 0 (BR (rowsE (Cont.row (.fn fun j => elR (E j)))) n))), (6, .cells false 8 n (.fn fun j => (elR (E j)))), (7, .cells false 1 q (.fn (txR nd))), (8, .cells false 1 r (.fn (txR br)))]) := rdX [] (I1 x0) hB
theorem voC (B : Nat) (hB : B ≤ 9) (n q r : Nat) (E : tE) (nd br : Nat → List UInt8) (M1 M2 M3 : List (List UInt8 × Int)) (x0 : (NetQ n q r n q r M1 M2 M3 (Cont.row (.fn fun j => elR (E j))) (Cont.row (.fn (txR nd))) (Cont.row (.fn (txR br))))) : GoesB Try.prog ((nav [1,1,0] (bodyOf Try.f15))) Try.f15.ntmps B 9 12 (frL [(0, .ptr ⟨false, 2, 0, 0⟩)]) (hpL [(2, .cells false 7 1 (.fn fun _ => netR 6 7 8 n q r)), (3, .mSI true M1), (4, .mSI true M2), (5, .mSI true M3), (6, .cells false 8 n (.fn fun j => elR (E j))), (7, .cells false 1 q (.fn (txR nd))), (8, .cells false 1 r (.fn (txR br)))]) (pP .normal [(0, .ptr ⟨false, 2, 0, 0⟩), (3, .ptr ⟨false, 11, 0, 0⟩)] [(2, .cells false 7 1 (.fn fun x => (netR 6 7 8 n q r))), (3, ABk.mSI true (zipF 0 (NM (rowsE (Cont.row (.fn fun j => elR (E j)))) n))), (4, ABk.mSI true (zipF 0 (ND (rowsE (Cont.row (.fn fun j => elR (E j)))) n))), (5, ABk.mSI true (zipF 0 (BR (rowsE (Cont.row (.fn fun j => elR (E j)))) n))), (6, .cells false 8 n (.fn fun j => (elR (E j)))), (7, .cells false 1 q (.fn (txR nd))), (8, .cells false 1 r (.fn (txR br))), (9, .cells true 1 (List.length (ND (rowsE (Cont.row (.fn fun j => elR (E j)))) n) + 1) (.fn fun k => [iT (↑k : Int)])), (10, ABk.mSI true (zipF 0 (g0 :: ND (rowsE (Cont.row (.fn fun j => elR (E j)))) n))), (11, .cells true 2 1 (.fn fun x => [.mp 10, sL 9 (List.length (ND (rowsE (Cont.row (.fn fun j => elR (E j)))) n) + 1)]))]) := rdX [] (I1 x0) hB
theorem voJ (B : Nat) (hB : B ≤ 12) (n q r : Nat) (E : tE) (nd br : Nat → List UInt8) (M1 M2 M3 : List (List UInt8 × Int)) (l : List Tx) (x0 : (n * 104 ≤ 140737488355328)) (x1 : (n ≤ 9223372036854775807)) : GoesB Try.prog ((nav [1,1,1,0,0] (bodyOf Try.f15))) Try.f15.ntmps B 12 13 (frL [(0, .ptr ⟨false, 2, 0, 0⟩), (3, .ptr ⟨false, 9, 0, 0⟩)]) (hpL [(2, .cells false 7 1 (.fn fun _ => netR 6 7 8 n q r)), (3, .mSI true M1), (4, .mSI true M2), (5, .mSI true M3), (6, .cells false 8 n (.fn fun j => elR (E j))), (7, .cells false 1 q (.fn (txR nd))), (8, .cells false 1 r (.fn (txR br))), (9, .cells true 2 1 (.fn fun _ => [.mp 11, sL 10 (l.length + 1)])), (10, .cells true 1 (l.length + 1) (.fn fun k => [iT ((k : Nat) : Int)])), (11, .mSI true (zipF 0 (g0 :: l)))]) (pP .normal [(0, .ptr ⟨false, 2, 0, 0⟩), (3, .ptr ⟨false, 9, 0, 0⟩), (11, sL 12 n), (12, iT (↑n : Int)), (13, .int false .i64 0)] [(2, .cells false 7 1 (.fn fun x => (netR 6 7 8 n q r))), (3, ABk.mSI true M1), (4, ABk.mSI true M2), (5, ABk.mSI true M3), (6, .cells false 8 n (.fn fun j => (elR (E j)))), (7, .cells false 1 q (.fn (txR nd))), (8, .cells false 1 r (.fn (txR br))), (9, .cells true 2 1 (.fn fun x => [.mp 11, sL 10 (List.length l + 1)])), (10, .cells true 1 (List.length l + 1) (.fn fun k => [iT (↑k : Int)])), (11, ABk.mSI true (zipF 0 (g0 :: l))), (12, .cells true 8 n (.fn fun j => (elR (E (0 + j)))))]) := rdX [] (I2 (show 0 + n ≤ n by omega) (ai x0 x1)) hB
/-- one of them closes a loop -/
def shV (zl : tM) (E : tE) (n : Nat) : Bool := (List.range n).any fun i => vfail zl E i
theorem shV_true {zl : tM} {E : tE} {n : Nat} (h : ∃ j, j < n ∧ vfail zl E j = true) : shV zl E n = true := by
 obtain ⟨j, h1, h2⟩ := h
 exact List.any_eq_true.2 ⟨j, List.mem_range.2 h1, h2⟩
theorem shV_false {zl : tM} {E : tE} {n : Nat} (h : ∀ j, j < n → vfail zl E j = false) : shV zl E n = false := by
 cases q : shV zl E n with
 | false => rfl
 | true =>
  obtain ⟨j, h1, h2⟩ := List.any_eq_true.1 q
  rw [h j (List.mem_range.1 h1)] at h2
  cases h2
theorem vo_body : (nav [1,1,1,0,1,0,0] (bodyOf Try.f15)) = .seq (nav [1,1,1,0,1,0,0,0] (bodyOf Try.f15)) (.seq (nav [1,1,1,0,1,0,0,1,0] (bodyOf Try.f15)) (.seq (.block 1 (.seq (nav [1,1,1,0,1,0,0,1,1,0,0,0] (bodyOf Try.f15)) (.seq (nav [1,1,1,0,1,0,0,1,1,0,0,1,0] (bodyOf Try.f15)) (nav [1,1,1,0,1,0,0,1,1,0,0,1,1] (bodyOf Try.f15))))) (nav [1,1,1,0,1,0,0,1,1,1] (bodyOf Try.f15)))) := by kernel_rfl
theorem vo_is : (bodyOf Try.f15) = .seq (nav [0] (bodyOf Try.f15)) (.seq (nav [1,0] (bodyOf Try.f15)) (.seq (nav [1,1,0] (bodyOf Try.f15)) (.seq (.seq (nav [1,1,1,0,0] (bodyOf Try.f15)) (.block 0 (.loop (nav [1,1,1,0,1,0,0] (bodyOf Try.f15))))) (nav [1,1,1,1] (bodyOf Try.f15))))) := by kernel_rfl
theorem vo_loop (n m : Nat) (E : tE) (zl : tM) (hn : n ≤ 1024) (hm : m ≤ 4096) (hz : ∀ x, 0 ≤ (lfind seq x zl).getD 0 ∧ (lfind seq x zl).getD 0 < (m : Int)) :
  GoesB Try.prog (.block 0 (.loop (nav [1,1,1,0,1,0,0] (bodyOf Try.f15)))) Try.f15.ntmps 9 13 13 (frL [(3, .ptr ⟨false, 9, 0, 0⟩), (11, sL 12 n), (12, iT (n : Int)), (13, iT ((0 : Nat) : Int))]) (hpL [(9, .cells true 2 1 (.fn fun _ => [.mp 11, sL 10 m])), (10, .cells true 1 m (.fn fun k => [iT (((Ul (plc zl) (vl E 0)) k : Nat) : Int)])), (11, .mSI true zl), (12, .cells true 8 n (.fn fun j => elR (E j)))]) (fun e fr H => (e = .normal ∧ (∀ j, j < n → vfail zl E j = false) ∧ fr = frL [(3, .ptr ⟨false, 9, 0, 0⟩), (11, sL 12 n), (12, iT (n : Int)), (13, iT (n : Int))] ∧ H = hpL [(9, .cells true 2 1 (.fn fun _ => [.mp 11, sL 10 m])), (10, .cells true 1 m (.fn fun k => [iT (((Ul (plc zl) (vl E n)) k : Nat) : Int)])), (11, .mSI true zl), (12, .cells true 8 n (.fn fun j => elR (E j)))]) ∨ (e = .ret ∧ (∃ j, j < n ∧ vfail zl E j = true) ∧ fr = frL [(2, .sbool true)] ∧ H = hpL [])) := by
 refine GoesB.count n (fun i => [(3, .ptr ⟨false, 9, 0, 0⟩), (11, sL 12 n), (12, iT (n : Int)), (13, iT (i : Int))]) (fun i => [(9, .cells true 2 1 (.fn fun _ => [.mp 11, sL 10 m])), (10, .cells true 1 m (.fn fun k => [iT (((Ul (plc zl) (vl E i)) k : Nat) : Int)])), (11, .mSI true zl), (12, .cells true 8 n (.fn fun j => elR (E j)))]) [(3, .ptr ⟨false, 9, 0, 0⟩), (11, sL 12 n), (12, iT (n : Int)), (13, iT (n : Int))] [(9, .cells true 2 1 (.fn fun _ => [.mp 11, sL 10 m])), (10, .cells true 1 m (.fn fun k => [iT (((Ul (plc zl) (vl E n)) k : Nat) : Int)])), (11, .mSI true zl), (12, .cells true 8 n (.fn fun j => elR (E j)))] (fun i => ∀ j, j < i → vfail zl E j = false) (fun fr H => (∃ j, j < n ∧ vfail zl E j = true) ∧ fr = frL [(2, .sbool true)] ∧ H = hpL []) (fun j hj => absurd hj (Nat.not_lt_zero _)) fun i hi hg => ?_
 rw [vo_body]
 refine GoesB.seqN (K1 := 13) (voD 9 (by omega) n m i (Ul (plc zl) (vl E i)) E zl) (by omega) ?_
 by_cases c : i < n
 ·refine GoesB.seqN (K1 := 13) (F1 := [(3, .ptr ⟨false, 9, 0, 0⟩), (11, sL 12 n), (12, iT (n : Int)), (13, iT (i : Int))]) (H1 := [(9, .cells true 2 1 (.fn fun _ => [.mp 11, sL 10 m])), (10, .cells true 1 m (.fn fun k => [iT (((Ul (plc zl) (vl E i)) k : Nat) : Int)])), (11, .mSI true zl), (12, .cells true 8 n (.fn fun j => elR (E j)))]) ((voX 9 (by omega) n m i (Ul (plc zl) (vl E i)) E zl (decide ((i : Int) < (n : Int)))).mono fun e fr' H' h => ?_) (by omega) ?_
  ·rw [decide_eq_true (by omega), cond_true] at h
   exact h
  refine GoesB.seq (K1 := 13) (by omega) ((vo_blk n m i E zl c hn hm hz).mono fun e fr' H' h => ?_)
  rcases h with ⟨rfl, h0, rfl, rfl⟩ | ⟨rfl, h0, rfl, rfl⟩
  ·refine (GoesB.toN (voH 9 (by omega) n m i (Ul (plc zl) (vl E (i + 1))) E zl (by omega)) (F' := [(3, .ptr ⟨false, 9, 0, 0⟩), (11, sL 12 n), (12, iT (n : Int)), (13, iT ((i + 1 : Nat) : Int))]) (H1' := [(9, .cells true 2 1 (.fn fun _ => [.mp 11, sL 10 m])), (10, .cells true 1 m (.fn fun k => [iT (((Ul (plc zl) (vl E (i + 1))) k : Nat) : Int)])), (11, .mSI true zl), (12, .cells true 8 n (.fn fun j => elR (E j)))]) ⟨re rfl, re rfl, re rfl, ⟨_, rfl, AV.ge.int' _ _ _ (by omega)⟩, trivial⟩ (eHh rfl)).mono fun e fr' H' h => ?_
   obtain ⟨rfl, rfl, rfl⟩ := h
   refine .inl ⟨rfl, c, fun j hj => ?_, rfl, rfl⟩
   by_cases d : j < i
   ·exact hg j d
   ·obtain rfl : j = i := by omega
    exact h0
  ·exact .inr (.inr ⟨rfl, ⟨i, c, h0⟩, rfl, rfl⟩)
 ·have hin : n = i := by omega
  subst hin
  refine GoesB.seq (K1 := 13) (by omega) ((voX 9 (by omega) n m n (Ul (plc zl) (vl E n)) E zl (decide ((n : Int) < (n : Int)))).mono fun e fr' H' h => ?_)
  rw [decide_eq_false (by omega), cond_false] at h
  obtain ⟨rfl, rfl, rfl⟩ := h
  exact .inr (.inl ⟨rfl, hg, rfl, rfl⟩)
theorem net_q (n : Nat) (E : tE) (hn : n ≤ 256) : NetQ n (ND E n).length (BR E n).length n (ND E n).length (BR E n).length (zipF 0 (NM E n)) (zipF 0 (ND E n)) (zipF 0 (BR E n)) (Cont.row (.fn fun j => elR (E j))) (Cont.row (.fn (txR (lget (ND E n))))) (Cont.row (.fn (txR (lget (BR E n))))) :=
 ⟨hn, rfl, rfl, rfl, rfl, rfl, rfl, rfl, rfl, fun j hj => RowGe_refl _ rfl, fun j hj => RowGe_refl _ rfl, fun j hj => RowGe_refl _ rfl⟩
def sw3 (i : Nat) : Nat := if i = 9 then 11 else if i = 10 then 9 else if i = 11 then 10 else i
theorem sw3_inj : ∀ i j, i < 12 → j < 12 → sw3 i = sw3 j → i = j := by
 intro i j _ _ e
 unfold sw3 at e
 split at e <;> split at e <;> (try split at e) <;> (try split at e) <;> (try split at e) <;> (try split at e) <;> omega
theorem vo_goes (n : Nat) (E : tE) (hn : n ≤ 256) :
  GoesB Try.prog (bodyOf Try.f15) Try.f15.ntmps 9 9 13 (frameOf [.ptr ⟨false, 2, 0, 0⟩] 0 .e) (hpL [(2, .cells false 7 1 (.fn fun _ => netR 6 7 8 n (ND E n).length (BR E n).length)), (3, .mSI true (zipF 0 (NM E n))), (4, .mSI true (zipF 0 (ND E n))), (5, .mSI true (zipF 0 (BR E n))), (6, .cells false 8 n (.fn fun j => elR (E j))), (7, .cells false 1 (ND E n).length (.fn (txR (lget (ND E n))))), (8, .cells false 1 (BR E n).length (.fn (txR (lget (BR E n)))))]) (fun e fr' H' => e = .ret ∧ fr' = frL [(2, .sbool (shV (zipF 0 (g0 :: ND E n)) E n))] ∧ H' = hpL [(2, .cells false 7 1 (.fn fun _ => netR 6 7 8 n (ND E n).length (BR E n).length)), (3, .mSI true (zipF 0 (NM E n))), (4, .mSI true (zipF 0 (ND E n))), (5, .mSI true (zipF 0 (BR E n))), (6, .cells false 8 n (.fn fun j => elR (E j))), (7, .cells false 1 (ND E n).length (.fn (txR (lget (ND E n))))), (8, .cells false 1 (BR E n).length (.fn (txR (lget (BR E n)))))]) := by
 have hq := net_q n E hn
 have ln := ND_len E n
 rw [vo_is]
 refine GoesB.seqN (K1 := 9) (voA 9 (by omega) n (ND E n).length (BR E n).length E (lget (ND E n)) (lget (BR E n)) (zipF 0 (NM E n)) (zipF 0 (ND E n)) (zipF 0 (BR E n))) (by omega) ?_
 refine GoesB.seqN (K1 := 9) (voB 9 (by omega) n (ND E n).length (BR E n).length E (lget (ND E n)) (lget (BR E n)) (zipF 0 (NM E n)) (zipF 0 (ND E n)) (zipF 0 (BR E n)) hq) (by omega) ?_
 refine GoesB.seqN (K1 := 12) (F1 := [(0, .ptr ⟨false, 2, 0, 0⟩), (3, .ptr ⟨false, 9, 0, 0⟩)]) (H1 := [(2, .cells false 7 1 (.fn fun _ => netR 6 7 8 n (ND E n).length (BR E n).length)), (3, .mSI true (zipF 0 (NM E n))), (4, .mSI true (zipF 0 (ND E n))), (5, .mSI true (zipF 0 (BR E n))), (6, .cells false 8 n (.fn fun j => elR (E j))), (7, .cells false 1 (ND E n).length (.fn (txR (lget (ND E n))))), (8, .cells false 1 (BR E n).length (.fn (txR (lget (BR E n))))), (9, .cells true 2 1 (.fn fun _ => [.mp 11, sL 10 ((ND E n).length + 1)])), (10, .cells true 1 ((ND E n).length + 1) (.fn fun k => [iT ((k : Nat) : Int)])), (11, .mSI true (zipF 0 (g0 :: (ND E n))))]) ((voC 9 (by omega) n (ND E n).length (BR E n).length E (lget (ND E n)) (lget (BR E n)) (zipF 0 (NM E n)) (zipF 0 (ND E n)) (zipF 0 (BR E n)) hq).renG fun e fr' H' h => ?_) (by omega) ?_
 ·obtain ⟨rfl, rfl, rfl⟩ := h
  exact ⟨sw3, [(0, .ptr ⟨false, 2, 0, 0⟩), (3, .ptr ⟨false, 9, 0, 0⟩)], [(2, .cells false 7 1 (.fn fun _ => netR 6 7 8 n (ND E n).length (BR E n).length)), (3, .mSI true (zipF 0 (NM E n))), (4, .mSI true (zipF 0 (ND E n))), (5, .mSI true (zipF 0 (BR E n))), (6, .cells false 8 n (.fn fun j => elR (E j))), (7, .cells false 1 (ND E n).length (.fn (txR (lget (ND E n))))), (8, .cells false 1 (BR E n).length (.fn (txR (lget (BR E n))))), (9, .cells true 2 1 (.fn fun _ => [.mp 11, sL 10 ((ND E n).length + 1)])), (10, .cells true 1 ((ND E n).length + 1) (.fn fun k => [iT ((k : Nat) : Int)])), (11, .mSI true (zipF 0 (g0 :: (ND E n))))], fun g hg => by unfold sw3; rw [if_neg (by omega), if_neg (by omega), if_neg (by omega)], (eRr rfl), ⟨rgR rfl rfl (fun j _ => rfl) (fun j _ => rfl) (by omega), rgM rfl rfl (by omega), rgM rfl rfl (by omega), rgM rfl rfl (by omega), rgR rfl rfl (fun j _ => rfl) (fun j _ => rfl) (by omega), rgR rfl rfl (fun j _ => rfl) (fun j _ => rfl) (by omega), rgR rfl rfl (fun j _ => rfl) (fun j _ => rfl) (by omega), rgR rfl rfl (fun j _ => rfl) (fun j _ => rfl) (by omega), rgR rfl rfl (fun j _ => rfl) (fun j _ => rfl) (by omega), rgM rfl rfl (by omega), trivial⟩, sw3_inj, rfl, rfl, rfl⟩
 have hf := (vo_loop n ((ND E n).length + 1) E (zipF 0 (g0 :: ND E n)) (by omega) (by omega) (zip_in _)).frameL (xl := [(2, .cells false 7 1 (.fn fun _ => netR 6 7 8 n (ND E n).length (BR E n).length)), (3, .mSI true (zipF 0 (NM E n))), (4, .mSI true (zipF 0 (ND E n))), (5, .mSI true (zipF 0 (BR E n))), (6, .cells false 8 n (.fn fun j => elR (E j))), (7, .cells false 1 (ND E n).length (.fn (txR (lget (ND E n))))), (8, .cells false 1 (BR E n).length (.fn (txR (lget (BR E n)))))]) (Post' := fun e fr H => (e = .normal ∧ (∀ j, j < n → vfail (zipF 0 (g0 :: ND E n)) E j = false) ∧ fr = frL [(3, .ptr ⟨false, 9, 0, 0⟩), (11, sL 12 n), (12, iT (n : Int)), (13, iT (n : Int))] ∧ H = hpL [(9, .cells true 2 1 (.fn fun _ => [.mp 11, sL 10 ((ND E n).length + 1)])), (10, .cells true 1 ((ND E n).length + 1) (.fn fun k => [iT (((Ul (plc (zipF 0 (g0 :: ND E n))) (vl E n)) k : Nat) : Int)])), (11, .mSI true (zipF 0 (g0 :: ND E n))), (12, .cells true 8 n (.fn fun j => elR (E j))), (2, .cells false 7 1 (.fn fun _ => netR 6 7 8 n (ND E n).length (BR E n).length)), (3, .mSI true (zipF 0 (NM E n))), (4, .mSI true (zipF 0 (ND E n))), (5, .mSI true (zipF 0 (BR E n))), (6, .cells false 8 n (.fn fun j => elR (E j))), (7, .cells false 1 (ND E n).length (.fn (txR (lget (ND E n))))), (8, .cells false 1 (BR E n).length (.fn (txR (lget (BR E n)))))]) ∨ (e = .ret ∧ (∃ j, j < n ∧ vfail (zipF 0 (g0 :: ND E n)) E j = true) ∧ fr = frL [(2, .sbool true)] ∧ H = hpL [(2, .cells false 7 1 (.fn fun _ => netR 6 7 8 n (ND E n).length (BR E n).length)), (3, .mSI true (zipF 0 (NM E n))), (4, .mSI true (zipF 0 (ND E n))), (5, .mSI true (zipF 0 (BR E n))), (6, .cells false 8 n (.fn fun j => elR (E j))), (7, .cells false 1 (ND E n).length (.fn (txR (lget (ND E n))))), (8, .cells false 1 (BR E n).length (.fn (txR (lget (BR E n)))))])) (by omega) ⟨⟨by omega, fun j hj v hv => List.all_eq_true.1 (show (netR 6 7 8 n (ND E n).length (BR E n).length).all (fun v => v.low 9) = true from rfl) v hv⟩, ⟨by omega, trivial⟩, ⟨by omega, trivial⟩, ⟨by omega, trivial⟩, ⟨by omega, fun j hj v hv => List.all_eq_true.1 (show (elR (E j)).all (fun v => v.low 9) = true from rfl) v hv⟩, ⟨by omega, fun j hj v hv => List.all_eq_true.1 (show (txR (lget (ND E n)) j).all (fun v => v.low 9) = true from rfl) v hv⟩, ⟨by omega, fun j hj v hv => List.all_eq_true.1 (show (txR (lget (BR E n)) j).all (fun v => v.low 9) = true from rfl) v hv⟩, trivial⟩ rfl (fun e fr' H0' h => by
  rcases h with ⟨rfl, h0, rfl, rfl⟩ | ⟨rfl, h0, rfl, rfl⟩
  ·exact ⟨_, rfl, rfl, ⟨.inl rfl, .inl rfl, .inl rfl, .inl rfl, trivial⟩, .inl ⟨rfl, h0, rfl, rfl⟩⟩
  ·exact ⟨[], rfl, rfl, trivial, .inr ⟨rfl, h0, rfl, rfl⟩⟩)
 refine GoesB.seq (K1 := 13) (by omega) (GoesB.seqN (K1 := 13) (F1 := [(3, .ptr ⟨false, 9, 0, 0⟩), (11, sL 12 n), (12, iT (n : Int)), (13, iT ((0 : Nat) : Int))]) (H1 := [(9, .cells true 2 1 (.fn fun _ => [.mp 11, sL 10 ((ND E n).length + 1)])), (10, .cells true 1 ((ND E n).length + 1) (.fn fun k => [iT (((Ul (plc (zipF 0 (g0 :: ND E n))) (vl E 0)) k : Nat) : Int)])), (11, .mSI true (zipF 0 (g0 :: ND E n))), (12, .cells true 8 n (.fn fun j => elR (E j))), (2, .cells false 7 1 (.fn fun _ => netR 6 7 8 n (ND E n).length (BR E n).length)), (3, .mSI true (zipF 0 (NM E n))), (4, .mSI true (zipF 0 (ND E n))), (5, .mSI true (zipF 0 (BR E n))), (6, .cells false 8 n (.fn fun j => elR (E j))), (7, .cells false 1 (ND E n).length (.fn (txR (lget (ND E n))))), (8, .cells false 1 (BR E n).length (.fn (txR (lget (BR E n)))))]) (GoesB.toN (voJ 9 (by omega) n (ND E n).length (BR E n).length E (lget (ND E n)) (lget (BR E n)) (zipF 0 (NM E n)) (zipF 0 (ND E n)) (zipF 0 (BR E n)) (ND E n) (by omega) (by omega)) ⟨re rfl, re rfl, re rfl, ⟨_, rfl, AV.ge.int _ _ _ _⟩, trivial⟩ ⟨hs rfl, hs rfl, hs rfl, ⟨_, rfl, rfl, rfl, rfl, fun j hj => by
   show elR (E (0 + j)) = elR (E j)
   rw [Nat.zero_add]⟩, eHh rfl⟩) (by omega) (hf.mono fun e fr' H' h => ?_))
 rcases h with ⟨rfl, h0, rfl, rfl⟩ | ⟨rfl, h0, rfl, rfl⟩
 ·have hi := (voI 9 (by omega) n ((ND E n).length + 1) n (Ul (plc (zipF 0 (g0 :: ND E n))) (vl E n)) E (zipF 0 (g0 :: ND E n))).frameL (xl := [(2, .cells false 7 1 (.fn fun _ => netR 6 7 8 n (ND E n).length (BR E n).length)), (3, .mSI true (zipF 0 (NM E n))), (4, .mSI true (zipF 0 (ND E n))), (5, .mSI true (zipF 0 (BR E n))), (6, .cells false 8 n (.fn fun j => elR (E j))), (7, .cells false 1 (ND E n).length (.fn (txR (lget (ND E n))))), (8, .cells false 1 (BR E n).length (.fn (txR (lget (BR E n)))))]) (Post' := fun e fr H => e = .ret ∧ fr = frL [(2, .bool false)] ∧ H = hpL [(9, .cells true 2 1 (.fn fun _ => [.mp 11, sL 10 ((ND E n).length + 1)])), (2, .cells false 7 1 (.fn fun _ => netR 6 7 8 n (ND E n).length (BR E n).length)), (3, .mSI true (zipF 0 (NM E n))), (4, .mSI true (zipF 0 (ND E n))), (5, .mSI true (zipF 0 (BR E n))), (6, .cells false 8 n (.fn fun j => elR (E j))), (7, .cells false 1 (ND E n).length (.fn (txR (lget (ND E n))))), (8, .cells false 1 (BR E n).length (.fn (txR (lget (BR E n)))))]) (by omega) ⟨⟨by omega, fun j hj v hv => List.all_eq_true.1 (show (netR 6 7 8 n (ND E n).length (BR E n).length).all (fun v => v.low 9) = true from rfl) v hv⟩, ⟨by omega, trivial⟩, ⟨by omega, trivial⟩, ⟨by omega, trivial⟩, ⟨by omega, fun j hj v hv => List.all_eq_true.1 (show (elR (E j)).all (fun v => v.low 9) = true from rfl) v hv⟩, ⟨by omega, fun j hj v hv => List.all_eq_true.1 (show (txR (lget (ND E n)) j).all (fun v => v.low 9) = true from rfl) v hv⟩, ⟨by omega, fun j hj v hv => List.all_eq_true.1 (show (txR (lget (BR E n)) j).all (fun v => v.low 9) = true from rfl) v hv⟩, trivial⟩ rfl (fun e fr' H0' h => by
   obtain ⟨rfl, rfl, rfl⟩ := h
   exact ⟨_, rfl, rfl, ⟨.inl rfl, trivial⟩, rfl, rfl, rfl⟩)
  refine hi.post fun e fr' H' h => ?_
  obtain ⟨rfl, rfl, rfl⟩ := h
  refine ⟨[(2, .sbool (shV (zipF 0 (g0 :: ND E n)) E n))], [(2, .cells false 7 1 (.fn fun _ => netR 6 7 8 n (ND E n).length (BR E n).length)), (3, .mSI true (zipF 0 (NM E n))), (4, .mSI true (zipF 0 (ND E n))), (5, .mSI true (zipF 0 (BR E n))), (6, .cells false 8 n (.fn fun j => elR (E j))), (7, .cells false 1 (ND E n).length (.fn (txR (lget (ND E n))))), (8, .cells false 1 (BR E n).length (.fn (txR (lget (BR E n)))))], ⟨⟨_, rfl, fun N μ c h => ?_⟩, trivial⟩, (eHh rfl), rfl, rfl, rfl⟩
  simp only [Rep] at h ⊢
  rw [h, shV_false h0]
 ·refine ⟨rfl, ?_, rfl⟩
  rw [shV_true h0]


/-- is there a loop of volts -/
noncomputable def voltB : (Nat → El) → Nat → Bool := Classical.choose (⟨fun E n => shV (zipF 0 (g0 :: ND E n)) E n, rfl⟩ : ∃ f, f = fun (E : tE) (n : Nat) => shV (zipF 0 (g0 :: ND E n)) E n)
theorem voltB_is : voltB = fun E n => shV (zipF 0 (g0 :: ND E n)) E n := Classical.choose_spec (⟨fun E n => shV (zipF 0 (g0 :: ND E n)) E n, rfl⟩ : ∃ f, f = fun (E : tE) (n : Nat) => shV (zipF 0 (g0 :: ND E n)) E n)
theorem netBL_is {g : G} {N : Nat} {w : NetA} {E : tE} (F : NetF g N w E) : netBL w E = [(2, .cells false 7 1 (.fn fun _ => netR 6 7 8 w.n (ND E w.n).length (BR E w.n).length)), (3, .mSI true (zipF 0 (NM E w.n))), (4, .mSI true (zipF 0 (ND E w.n))), (5, .mSI true (zipF 0 (BR E w.n))), (6, .cells false 8 w.n (.fn fun j => elR (E j))), (7, .cells false 1 (ND E w.n).length (.fn (txR (lget (ND E w.n))))), (8, .cells false 1 (BR E w.n).length (.fn (txR (lget (BR E w.n)))))] := by
 unfold netBL
 rw [F.q_is, F.r_is]
noncomputable def voltS : List AV → M AV
 | [.ptr aN] => (M.okIf (flat0 aN)).andThen fun _ => (netRd aN.g).andThen fun y => (M.setB y.1.m1 (.mSI true (zipF 0 (NM y.2 y.1.n)))).andThen fun _ => (M.setB y.1.m2 (.mSI true (zipF 0 (ND y.2 y.1.n)))).andThen fun _ => (M.setB y.1.m3 (.mSI true (zipF 0 (BR y.2 y.1.n)))).andThen fun _ => M.ret (.sbool (voltB y.2 y.1.n))
 | _ => M.no
theorem voltS_tch : ∀ args, Tch (voltS args) := by
 intro args
 unfold voltS
 split
 ·exact (Tch.okIf _).andThen fun _ => (Tch_netRd _).andThen fun _ => (Tch.setB _ _).andThen fun _ => (Tch.setB _ _).andThen fun _ => (Tch.setB _ _).andThen fun _ => Tch.ret _
 ·exact Tch.no
theorem voltS_ok : ∀ args v g g', voltS args g = .done v g' → CallIs Try.prog 15 args v g g' := by
 intro args v g g' h
 unfold voltS at h
 split at h
 case h_2 => exact (no_done h).elim
 rename_i aN
 obtain ⟨_, g1, a1, h⟩ := done_of h
 obtain ⟨q0, rfl⟩ := okIf_done a1
 have q0 := flat0_is q0
 obtain ⟨⟨w, E⟩, g3, a3, h⟩ := done_of h
 obtain ⟨qf, kk, ff⟩ := netRd_done a3
 dsimp only at h ff
 obtain ⟨_, g6, a6, h⟩ := done_of h
 obtain ⟨_, g7, a7, h⟩ := done_of h
 obtain ⟨_, g8, a8, h⟩ := done_of h
 obtain ⟨b1, b2, b3⟩ := setB_done a6
 obtain ⟨b4, b5, b6⟩ := setB_done a7
 obtain ⟨b7, b8, b9⟩ := setB_done a8
 have hx : g8.nx = g.nx := by rw [b8, b5, b2, kk.2.1]
 obtain ⟨rfl, rfl⟩ := ret_done h
 refine netCall (K' := 13) (c := (bodyOf Try.f15)) Try.func15 (by kernel_rfl) (by kernel_rfl) (argsC := [.ptr ⟨false, 2, 0, 0⟩]) (fun hc => kk.2.2 (by rw [← b3, ← b6, ← b9]; exact hc)) (N := aN.g) (w := w) (E := E) (fun hp => ff hp) (xl := []) (rx := fun _ => 0) (K0 := 9) (Nat.le_refl _) (fun hp M μ cs hr => ?_) (fun hp i b hb => by cases hb) (fun hp i j b b' hi => by cases hi) (bs := []) (nms := []) rfl (by decide) (by decide) (by rw [b7, b4, b1, kk.1]; rfl) (by rw [b8, b5, b2, kk.2.1]; rfl) (fun b hb => by cases hb) (by simp [AV.low, lows]) (by simp [AV.inS, insS]) (fun hp kN => ?_)
 ·simp only [Reps] at hr ⊢
  obtain ⟨c1, l1, rfl, h1, rfl⟩ := hr
  exact ⟨c1, _, rfl, rep_ptr0 h1 q0.1 q0.2 (by omega) rfl, rfl⟩
 have F := ff hp
 rw [List.append_nil, netBL_is F]
 refine (vo_goes w.n E F.n256).mono fun e fr' H' h => ?_
 obtain ⟨rfl, rfl, rfl⟩ := h
 refine ⟨.inl rfl, _, _, res1 (t := 2) (by kernel_rfl) rfl, trivial, ?_, ⟨rfl, rfl, rfl⟩, fun j b hb => by cases hb⟩
 rw [voltB_is]
 exact AV.ge.refl _



theorem spA (B : Nat) (hB : B ≤ 9) (n q r : Nat) (E : tE) (nd br : Nat → List UInt8) (M1 M2 M3 zl : List (List UInt8 × Int)) : GoesB Try.prog ((nav [0] (bodyOf Try.f45))) Try.f45.ntmps B 9 9 (frameOf [.ptr ⟨false, 2, 0, 0⟩] 0 .e) (hpL [(2, .cells false 7 1 (.fn fun _ => netR 6 7 8 n q r)), (3, .mSI true M1), (4, .mSI true M2), (5, .mSI true M3), (6, .cells false 8 n (.fn fun j => elR (E j))), (7, .cells false 1 q (.fn (txR nd))), (8, .cells false 1 r (.fn (txR br)))]) (pP .normal [(0, .ptr ⟨false, 2, 0, 0⟩), (2, .nils), (3, .nils)] [(2, .cells false 7 1 (.fn fun x => (netR 6 7 8 n q r))), (3, ABk.mSI true M1), (4, ABk.mSI true M2), (5, ABk.mSI true M3), (6, .cells false 8 n (.fn fun j => (elR (E j)))), (7, .cells false 1 q (.fn (txR nd))), (8, .cells false 1 r (.fn (txR br)))]) := rdX [] trivial hB
theorem spB (B : Nat) (hB : B ≤ 11) (n k q r : Nat) (E T R : tE) (nd br : Nat → List UInt8) (M1 M2 M3 zl : List (List UInt8 × Int)) (x0 : (NetQ n q r n q r M1 M2 M3 (Cont.row (.fn fun j => elR (E j))) (Cont.row (.fn (txR nd))) (Cont.row (.fn (txR br))))) : GoesB Try.prog ((nav [1,0] (bodyOf Try.f45))) Try.f45.ntmps B 11 14 (frL [(0, .ptr ⟨false, 2, 0, 0⟩), (2, sL 9 0), (3, sL 10 0)]) (hpL [(2, .cells false 7 1 (.fn fun _ => netR 6 7 8 n q r)), (3, .mSI true M1), (4, .mSI true M2), (5, .mSI true M3), (6, .cells false 8 n (.fn fun j => elR (E j))), (7, .cells false 1 q (.fn (txR nd))), (8, .cells false 1 r (.fn (txR br))), (9, .cells true 8 0 (.fn fun j => elR (T j))), (10, .cells true 8 0 (.fn fun j => elR (R j)))]) (pP .normal [(0, .ptr ⟨false, 2, 0, 0⟩), (2, sL 9 0), (3, sL 10 0), (4, .ptr ⟨false, 13, 0, 0⟩)] [(2, .cells false 7 1 (.fn fun x => (netR 6 7 8 n q r))), (3, ABk.mSI true (zipF 0 (NM (rowsE (Cont.row (.fn fun j => elR (E j)))) n))), (4, ABk.mSI true (zipF 0 (ND (rowsE (Cont.row (.fn fun j => elR (E j)))) n))), (5, ABk.mSI true (zipF 0 (BR (rowsE (Cont.row (.fn fun j => elR (E j)))) n))), (6, .cells false 8 n (.fn fun j => (elR (E j)))), (7, .cells false 1 q (.fn (txR nd))), (8, .cells false 1 r (.fn (txR br))), (9, .cells true 8 0 (.fn fun j => (elR (T j)))), (10, .cells true 8 0 (.fn fun j => (elR (R j)))), (11, .cells true 1 (List.length (ND (rowsE (Cont.row (.fn fun j => elR (E j)))) n) + 1) (.fn fun k => [iT (↑k : Int)])), (12, ABk.mSI true (zipF 0 (g0 :: ND (rowsE (Cont.row (.fn fun j => elR (E j)))) n))), (13, .cells true 2 1 (.fn fun x => [.mp 12, sL 11 (List.length (ND (rowsE (Cont.row (.fn fun j => elR (E j)))) n) + 1)]))]) := rdX [] (I1 x0) hB
theorem spC (B : Nat) (hB : B ≤ 14) (n k q r : Nat) (E T R : tE) (nd br : Nat → List UInt8) (M1 M2 M3 zl : List (List UInt8 × Int)) (l : List Tx) (x0 : (n * 104 ≤ 140737488355328)) (x1 : (n ≤ 9223372036854775807)) : GoesB Try.prog ((nav [1,1,0,0] (bodyOf Try.f45))) Try.f45.ntmps B 14 15 (frL [(0, .ptr ⟨false, 2, 0, 0⟩), (2, sL 9 0), (3, sL 10 0), (4, .ptr ⟨false, 13, 0, 0⟩)]) (hpL [(2, .cells false 7 1 (.fn fun _ => netR 6 7 8 n q r)), (3, .mSI true M1), (4, .mSI true M2), (5, .mSI true M3), (6, .cells false 8 n (.fn fun j => elR (E j))), (7, .cells false 1 q (.fn (txR nd))), (8, .cells false 1 r (.fn (txR br))), (9, .cells true 8 0 (.fn fun j => elR (T j))), (10, .cells true 8 0 (.fn fun j => elR (R j))), (11, .cells true 1 (l.length + 1) (.fn fun k => [iT ((k : Nat) : Int)])), (12, .mSI true (zipF 0 (g0 :: l))), (13, .cells true 2 1 (.fn fun _ => [.mp 12, sL 11 (l.length + 1)]))]) (pP .normal [(2, sL 9 0), (3, sL 10 0), (4, .ptr ⟨false, 13, 0, 0⟩), (10, sL 14 n), (11, iT (↑n : Int)), (12, .int false .i64 0)] [(2, .cells false 7 1 (.fn fun x => (netR 6 7 8 n q r))), (3, ABk.mSI true M1), (4, ABk.mSI true M2), (5, ABk.mSI true M3), (6, .cells false 8 n (.fn fun j => (elR (E j)))), (7, .cells false 1 q (.fn (txR nd))), (8, .cells false 1 r (.fn (txR br))), (9, .cells true 8 0 (.fn fun j => (elR (T j)))), (10, .cells true 8 0 (.fn fun j => (elR (R j)))), (11, .cells true 1 (List.length l + 1) (.fn fun k => [iT (↑k : Int)])), (12, ABk.mSI true (zipF 0 (g0 :: l))), (13, .cells true 2 1 (.fn fun x => [.mp 12, sL 11 (List.length l + 1)])), (14, .cells true 8 n (.fn fun j => (elR (E (0 + j)))))]) := rdX [] (I2 (show 0 + n ≤ n by omega) (ai x0 x1)) hB
theorem spD (B : Nat) (hB : B ≤ 15) (n m i t k : Nat) (u : Nat → Nat) (E T R : tE) (nd br : Nat → List UInt8) (M1 M2 M3 zl : List (List UInt8 × Int)) : GoesB Try.prog ((nav [1,1,0,1,0,0,0] (bodyOf Try.f45))) Try.f45.ntmps B 15 15 (frL [(2, sL 9 t), (3, sL 10 k), (4, .ptr ⟨false, 13, 0, 0⟩), (10, sL 14 n), (11, iT (n : Int)), (12, iT (i : Int))]) (hpL [(9, .cells true 8 t (.fn fun j => elR (T j))), (10, .cells true 8 k (.fn fun j => elR (R j))), (11, .cells true 1 m (.fn fun k => [iT ((u k : Nat) : Int)])), (12, .mSI true zl), (13, .cells true 2 1 (.fn fun _ => [.mp 12, sL 11 m])), (14, .cells true 8 n (.fn fun j => elR (E j)))]) (pP .normal [(2, sL 9 t), (3, sL 10 k), (4, .ptr ⟨false, 13, 0, 0⟩), (10, sL 14 n), (11, iT (↑n : Int)), (12, iT (↑i : Int)), (13, .sbool (decide ((↑i : Int) < (↑n : Int))))] [(9, .cells true 8 t (.fn fun j => (elR (T j)))), (10, .cells true 8 k (.fn fun j => (elR (R j)))), (11, .cells true 1 m (.fn fun k => [iT (↑(u k) : Int)])), (12, ABk.mSI true zl), (13, .cells true 2 1 (.fn fun x => [.mp 12, sL 11 m])), (14, .cells true 8 n (.fn fun j => (elR (E j))))]) := rdX [] trivial hB
theorem spX (B : Nat) (hB : B ≤ 15) (n m i t k : Nat) (u : Nat → Nat) (E T R : tE) (nd br : Nat → List UInt8) (M1 M2 M3 zl : List (List UInt8 × Int)) (b : Bool) : GoesB Try.prog ((nav [1,1,0,1,0,0,1,0] (bodyOf Try.f45))) Try.f45.ntmps B 15 15 (frL [(2, sL 9 t), (3, sL 10 k), (4, .ptr ⟨false, 13, 0, 0⟩), (10, sL 14 n), (11, iT (n : Int)), (12, iT (i : Int)), (13, .sbool b)]) (hpL [(9, .cells true 8 t (.fn fun j => elR (T j))), (10, .cells true 8 k (.fn fun j => elR (R j))), (11, .cells true 1 m (.fn fun k => [iT ((u k : Nat) : Int)])), (12, .mSI true zl), (13, .cells true 2 1 (.fn fun _ => [.mp 12, sL 11 m])), (14, .cells true 8 n (.fn fun j => elR (E j)))]) fun e fr' H' => (cond (b) (pP .normal [(2, sL 9 t), (3, sL 10 k), (4, .ptr ⟨false, 13, 0, 0⟩), (10, sL 14 n), (11, iT (↑n : Int)), (12, iT (↑i : Int))] [(9, .cells true 8 t (.fn fun j => (elR (T j)))), (10, .cells true 8 k (.fn fun j => (elR (R j)))), (11, .cells true 1 m (.fn fun k => [iT (↑(u k) : Int)])), (12, ABk.mSI true zl), (13, .cells true 2 1 (.fn fun x => [.mp 12, sL 11 m])), (14, .cells true 8 n (.fn fun j => (elR (E j))))] e fr' H') (pP (.exit 0) [(2, sL 9 t), (3, sL 10 k), (4, .ptr ⟨false, 13, 0, 0⟩), (10, sL 14 n), (11, iT (↑n : Int)), (12, iT (↑i : Int))] [(9, .cells true 8 t (.fn fun j => (elR (T j)))), (10, .cells true 8 k (.fn fun j => (elR (R j)))), (11, .cells true 1 m (.fn fun k => [iT (↑(u k) : Int)])), (12, ABk.mSI true zl), (13, .cells true 2 1 (.fn fun x => [.mp 12, sL 11 m])), (14, .cells true 8 n (.fn fun j => (elR (E j))))] e fr' H')) := cI (fun t0 => rdX [tT] (I1 t0) hB) (fun t0 => rdX [fF] (I1 t0) hB)
theorem spE (B : Nat) (hB : B ≤ 15) (n m i t k : Nat) (u : Nat → Nat) (E T R : tE) (nd br : Nat → List UInt8) (M1 M2 M3 zl : List (List UInt8 × Int)) (x0 : ((↑i : Int) < (↑n : Int))) (x1 : (0 + i < n)) : GoesB Try.prog ((nav [1,1,0,1,0,0,1,1,0,0,0] (bodyOf Try.f45))) Try.f45.ntmps B 15 16 (frL [(2, sL 9 t), (3, sL 10 k), (4, .ptr ⟨false, 13, 0, 0⟩), (10, sL 14 n), (11, iT (n : Int)), (12, iT (i : Int))]) (hpL [(9, .cells true 8 t (.fn fun j => elR (T j))), (10, .cells true 8 k (.fn fun j => elR (R j))), (11, .cells true 1 m (.fn fun k => [iT ((u k : Nat) : Int)])), (12, .mSI true zl), (13, .cells true 2 1 (.fn fun _ => [.mp 12, sL 11 m])), (14, .cells true 8 n (.fn fun j => elR (E j)))]) (pP .normal [(2, sL 9 t), (3, sL 10 k), (4, .ptr ⟨false, 13, 0, 0⟩), (10, sL 14 n), (11, iT (↑n : Int)), (12, iT (↑i : Int)), (6, .ptr ⟨false, 15, 0, 0⟩)] [(9, .cells true 8 t (.fn fun j => (elR (T j)))), (10, .cells true 8 k (.fn fun j => (elR (R j)))), (11, .cells true 1 m (.fn fun k => [iT (↑(u k) : Int)])), (12, ABk.mSI true zl), (13, .cells true 2 1 (.fn fun x => [.mp 12, sL 11 m])), (14, .cells true 8 n (.fn fun j => (elR (E j)))), (15, .cells true 8 1 (.lit [] (Sx.T.n Sx.T.e (Option.some (elR (E (0 + i)))) Sx.T.e)))]) := rdX [] (I3 (ai (show 0 ≤ (↑i : Int) by omega) x0) x1 (show 8 ≤ 8 by omega)) hB
theorem spF (B : Nat) (hB : B ≤ 16) (n m i t k : Nat) (u : Nat → Nat) (E T R : tE) (nd br : Nat → List UInt8) (M1 M2 M3 zl : List (List UInt8 × Int)) : GoesB Try.prog ((nav [1,1,0,1,0,0,1,1,0,0,1,0,0] (bodyOf Try.f45))) Try.f45.ntmps B 16 16 (frL [(2, sL 9 t), (3, sL 10 k), (4, .ptr ⟨false, 13, 0, 0⟩), (10, sL 14 n), (11, iT (n : Int)), (12, iT (i : Int)), (6, .ptr ⟨false, 15, 0, 0⟩)]) (hpL [(9, .cells true 8 t (.fn fun j => elR (T j))), (10, .cells true 8 k (.fn fun j => elR (R j))), (11, .cells true 1 m (.fn fun k => [iT ((u k : Nat) : Int)])), (12, .mSI true zl), (13, .cells true 2 1 (.fn fun _ => [.mp 12, sL 11 m])), (14, .cells true 8 n (.fn fun j => elR (E j))), (15, .cells true 8 1 (.fn fun _ => elR (E i)))]) fun e fr' H' => (cond (decide (El.k (E i) = (4 : Int))) (pP .normal [(2, sL 9 t), (3, sL 10 k), (4, .ptr ⟨false, 13, 0, 0⟩), (10, sL 14 n), (11, iT (↑n : Int)), (12, iT (↑i : Int)), (6, .ptr ⟨false, 15, 0, 0⟩), (20, .bool true)] [(9, .cells true 8 t (.fn fun j => (elR (T j)))), (10, .cells true 8 k (.fn fun j => (elR (R j)))), (11, .cells true 1 m (.fn fun k => [iT (↑(u k) : Int)])), (12, ABk.mSI true zl), (13, .cells true 2 1 (.fn fun x => [.mp 12, sL 11 m])), (14, .cells true 8 n (.fn fun j => (elR (E j)))), (15, .cells true 8 1 (.fn fun x => (elR (E i))))] e fr' H') (pP .normal [(2, sL 9 t), (3, sL 10 k), (4, .ptr ⟨false, 13, 0, 0⟩), (10, sL 14 n), (11, iT (↑n : Int)), (12, iT (↑i : Int)), (6, .ptr ⟨false, 15, 0, 0⟩), (20, .sbool !!decide (El.k (E i) = (6 : Int)))] [(9, .cells true 8 t (.fn fun j => (elR (T j)))), (10, .cells true 8 k (.fn fun j => (elR (R j)))), (11, .cells true 1 m (.fn fun k => [iT (↑(u k) : Int)])), (12, ABk.mSI true zl), (13, .cells true 2 1 (.fn fun x => [.mp 12, sL 11 m])), (14, .cells true 8 n (.fn fun j => (elR (E j)))), (15, .cells true 8 1 (.fn fun x => (elR (E i))))] e fr' H')) := cD (fun q0 t0 => rdX [fF] (I1 (nt t0)) hB) (fun q0 t0 => rdX [tT] (I1 (nf t0)) hB)
theorem spY (B : Nat) (hB : B ≤ 16) (n m i t k : Nat) (u : Nat → Nat) (E T R : tE) (nd br : Nat → List UInt8) (M1 M2 M3 zl : List (List UInt8 × Int)) (b : Bool) (x0 : ((b) = false → (m = m))) (x1 : ((b) = false → (m ≤ 4096))) (x2 : ((b) = false → (∀ (j : Nat), j < m → RowGe [iT (↑(u j) : Int)] [iT (↑(uO m (Cont.row (.fn fun k => [.int true .i64 (↑(u k) : Int)])) j) : Int)] ∧ uO m (Cont.row (.fn fun k => [iT (↑(u k) : Int)])) j ≤ j))) (x3 : ((b) = false → (∀ (z : List UInt8), (0 : Int) ≤ Option.getD (lfind seq z zl) (0 : Int) ∧ Option.getD (lfind seq z zl) 0 < (↑m : Int)))) (x4 : ((b) = false → ((decide ((↑(root (uO m (Cont.row (.fn fun k => [iT (↑(u k) : Int)]))) (plc zl (El.a (E i)))) : Int) = (↑(root (uO m (Cont.row (.fn fun k => [iT (↑(u k) : Int)]))) (plc zl (El.b (E i)))) : Int))) = true → ((k + 1) * 104 ≤ 140737488355328)))) (x5 : ((b) = false → ((decide ((↑(root (uO m (Cont.row (.fn fun k => [iT (↑(u k) : Int)]))) (plc zl (El.a (E i)))) : Int) = (↑(root (uO m (Cont.row (.fn fun k => [iT (↑(u k) : Int)]))) (plc zl (El.b (E i)))) : Int))) = true → (k + 1 ≤ 9223372036854775807)))) (x6 : ((b) = false → ((decide ((↑(root (uO m (Cont.row (.fn fun k => [iT (↑(u k) : Int)]))) (plc zl (El.a (E i)))) : Int) = (↑(root (uO m (Cont.row (.fn fun k => [iT (↑(u k) : Int)]))) (plc zl (El.b (E i)))) : Int))) = false → ((t + 1) * 104 ≤ 140737488355328)))) (x7 : ((b) = false → ((decide ((↑(root (uO m (Cont.row (.fn fun k => [iT (↑(u k) : Int)]))) (plc zl (El.a (E i)))) : Int) = (↑(root (uO m (Cont.row (.fn fun k => [iT (↑(u k) : Int)]))) (plc zl (El.b (E i)))) : Int))) = false → (t + 1 ≤ 9223372036854775807)))) : GoesB Try.prog ((nav [1,1,0,1,0,0,1,1,0,0,1,0,1] (bodyOf Try.f45))) Try.f45.ntmps B 16 18 (frL [(2, sL 9 t), (3, sL 10 k), (4, .ptr ⟨false, 13, 0, 0⟩), (10, sL 14 n), (11, iT (n : Int)), (12, iT (i : Int)), (6, .ptr ⟨false, 15, 0, 0⟩), (20, .sbool b)]) (hpL [(9, .cells true 8 t (.fn fun j => elR (T j))), (10, .cells true 8 k (.fn fun j => elR (R j))), (11, .cells true 1 m (.fn fun k => [iT ((u k : Nat) : Int)])), (12, .mSI true zl), (13, .cells true 2 1 (.fn fun _ => [.mp 12, sL 11 m])), (14, .cells true 8 n (.fn fun j => elR (E j))), (15, .cells true 8 1 (.fn fun _ => elR (E i)))]) fun e fr' H' => (cond (b) (pP .normal [(2, sL 9 t), (3, sL 10 k), (4, .ptr ⟨false, 13, 0, 0⟩), (10, sL 14 n), (11, iT (↑n : Int)), (12, iT (↑i : Int))] [(9, .cells true 8 t (.fn fun j => (elR (T j)))), (10, .cells true 8 k (.fn fun j => (elR (R j)))), (11, .cells true 1 m (.fn fun k => [iT (↑(u k) : Int)])), (12, ABk.mSI true zl), (13, .cells true 2 1 (.fn fun x => [.mp 12, sL 11 m])), (14, .cells true 8 n (.fn fun j => (elR (E j))))] e fr' H') (cond (decide ((↑(root (uO m (Cont.row (.fn fun k => [iT (↑(u k) : Int)]))) (plc zl (El.a (E i)))) : Int) = (↑(root (uO m (Cont.row (.fn fun k => [iT (↑(u k) : Int)]))) (plc zl (El.b (E i)))) : Int))) (pP .normal [(2, sL 9 t), (3, sL 17 (k + 1)), (4, .ptr ⟨false, 13, 0, 0⟩), (10, sL 14 n), (11, iT (↑n : Int)), (12, iT (↑i : Int))] [(9, .cells true 8 t (.fn fun j => (elR (T j)))), (11, .cells true 1 m (.fn fun k => [iT (↑(jn (uO m (Cont.row (.fn fun k => [.int true .i64 (↑(u k) : Int)]))) (plc zl (El.a (E i))) (plc zl (El.b (E i))) k) : Int)])), (12, ABk.mSI true zl), (13, .cells true 2 1 (.fn fun x => [.mp 12, sL 11 m])), (14, .cells true 8 n (.fn fun j => (elR (E j)))), (17, .cells true 8 (k + 1) (.fn fun j => bif decide (j < k) then (elR (R j)) else (elR (E i))))] e fr' H') (pP .normal [(2, sL 17 (t + 1)), (3, sL 10 k), (4, .ptr ⟨false, 13, 0, 0⟩), (10, sL 14 n), (11, iT (↑n : Int)), (12, iT (↑i : Int))] [(10, .cells true 8 k (.fn fun j => (elR (R j)))), (11, .cells true 1 m (.fn fun k => [iT (↑(jn (uO m (Cont.row (.fn fun k => [.int true .i64 (↑(u k) : Int)]))) (plc zl (El.a (E i))) (plc zl (El.b (E i))) k) : Int)])), (12, ABk.mSI true zl), (13, .cells true 2 1 (.fn fun x => [.mp 12, sL 11 m])), (14, .cells true 8 n (.fn fun j => (elR (E j)))), (17, .cells true 8 (t + 1) (.fn fun j => bif decide (j < t) then (elR (T j)) else (elR (E i))))] e fr' H'))) := cI (fun t0 => rdX [tT] (I1 t0) hB) (fun t0 => cD (fun q1 t1 => rdX [fF, fF] (I4 t0 (ai (x0 t0) (ai (x1 t0) (ai (x2 t0) (x3 t0)))) (nt t1) (ai (show k ≤ k by omega) (ai (x4 t0 t1) (x5 t0 t1)))) hB) (fun q1 t1 => rdX [fF, tT] (I4 t0 (ai (x0 t0) (ai (x1 t0) (ai (x2 t0) (x3 t0)))) (nf t1) (ai (show t ≤ t by omega) (ai (x6 t0 t1) (x7 t0 t1)))) hB))
theorem spH (B : Nat) (hB : B ≤ 15) (n m i t k : Nat) (u : Nat → Nat) (E T R : tE) (nd br : Nat → List UInt8) (M1 M2 M3 zl : List (List UInt8 × Int)) (x0 : ((↑i : Int) + 1 ≤ (9223372036854775807 : Int))) : GoesB Try.prog ((nav [1,1,0,1,0,0,1,1,1] (bodyOf Try.f45))) Try.f45.ntmps B 15 15 (frL [(2, sL 9 t), (3, sL 10 k), (4, .ptr ⟨false, 13, 0, 0⟩), (10, sL 14 n), (11, iT (n : Int)), (12, iT (i : Int))]) (hpL [(9, .cells true 8 t (.fn fun j => elR (T j))), (10, .cells true 8 k (.fn fun j => elR (R j))), (11, .cells true 1 m (.fn fun k => [iT ((u k : Nat) : Int)])), (12, .mSI true zl), (13, .cells true 2 1 (.fn fun _ => [.mp 12, sL 11 m])), (14, .cells true 8 n (.fn fun j => elR (E j)))]) (pP .normal [(2, sL 9 t), (3, sL 10 k), (4, .ptr ⟨false, 13, 0, 0⟩), (10, sL 14 n), (11, iT (↑n : Int)), (12, iT ((↑i : Int) + 1))] [(9, .cells true 8 t (.fn fun j => (elR (T j)))), (10, .cells true 8 k (.fn fun j => (elR (R j)))), (11, .cells true 1 m (.fn fun k => [iT (↑(u k) : Int)])), (12, ABk.mSI true zl), (13, .cells true 2 1 (.fn fun x => [.mp 12, sL 11 m])), (14, .cells true 8 n (.fn fun j => (elR (E j))))]) := rdX [] (I1 (ai (show -9223372036854775808 ≤ (↑i : Int) + 1 by omega) x0)) hB
theorem spI (B : Nat) (hB : B ≤ 15) (t k : Nat) (T R : tE) (nd br : Nat → List UInt8) (M1 M2 M3 zl : List (List UInt8 × Int)) : GoesB Try.prog ((nav [1,1,1] (bodyOf Try.f45))) Try.f45.ntmps B 15 15 (frL [(2, sL 9 t), (3, sL 10 k)]) (hpL [(9, .cells true 8 t (.fn fun j => elR (T j))), (10, .cells true 8 k (.fn fun j => elR (R j)))]) (pP .ret [(2, sL 9 t), (3, sL 10 k)] [(9, .cells true 8 t (.fn fun j => (elR (T j)))), (10, .cells true 8 k (.fn fun j => (elR (R j))))]) := rdX [] trivial hB
/-- may it be an edge of the forest? -/
def jsel (z : El) : Bool := !(decide (z.k = 4) || decide (z.k = 6))
/-- their ends, of the first so many elements -/
def jl (E : tE) : Nat → List (Tx × Tx)
 | 0 => []
 | i + 1 => bif jsel (E i) then jl E i ++ [((E i).a, (E i).b)] else jl E i
/-- element i would close a loop -/
def jsame (zl : tM) (E : tE) (i : Nat) : Bool := decide (cls (plc zl) (jl E i) (E i).a = cls (plc zl) (jl E i) (E i).b)
def spT (zl : tM) (E : tE) : Nat → List El
 | 0 => []
 | i + 1 => bif jsel (E i) && !jsame zl E i then spT zl E i ++ [E i] else spT zl E i
def spR (zl : tM) (E : tE) : Nat → List El
 | 0 => []
 | i + 1 => bif jsel (E i) && jsame zl E i then spR zl E i ++ [E i] else spR zl E i
def eget (l : List El) (j : Nat) : El := l.getD j default
theorem eget_snoc (l : List El) (z : El) (j : Nat) (hj : j < l.length + 1) : elR (eget (l ++ [z]) j) = bif decide (j < l.length) then elR (eget l j) else elR z := by
 unfold eget
 by_cases c : j < l.length
 ·rw [decide_eq_true c, cond_true, List.getD_eq_getElem?_getD, List.getElem?_append_left c, ← List.getD_eq_getElem?_getD]
 ·obtain rfl : j = l.length := by omega
  rw [decide_eq_false (Nat.lt_irrefl _), cond_false, List.getD_eq_getElem?_getD, List.getElem?_append_right (Nat.le_refl _), Nat.sub_self]
  rfl
theorem spT_len (zl : tM) (E : tE) : ∀ i, (spT zl E i).length ≤ i
 | 0 => Nat.le_refl _
 | i + 1 => by
  have := spT_len zl E i
  unfold spT
  cases jsel (E i) && !jsame zl E i with
  | true => rw [cond_true, List.length_append]; exact Nat.succ_le_succ this
  | false => rw [cond_false]; omega
theorem spR_len (zl : tM) (E : tE) : ∀ i, (spR zl E i).length ≤ i
 | 0 => Nat.le_refl _
 | i + 1 => by
  have := spR_len zl E i
  unfold spR
  cases jsel (E i) && jsame zl E i with
  | true => rw [cond_true, List.length_append]; exact Nat.succ_le_succ this
  | false => rw [cond_false]; omega
theorem sp_y (n m i : Nat) (E : tE) (zl : tM) (hi : i < n) (hn : n ≤ 1024) (hm : m ≤ 4096) (hz : ∀ x, 0 ≤ (lfind seq x zl).getD 0 ∧ (lfind seq x zl).getD 0 < (m : Int)) :
    GoesB Try.prog (nav [1,1,0,1,0,0,1,1,0,0,1,0,1] (bodyOf Try.f45)) Try.f45.ntmps 9 16 15 (frL [(2, sL 9 (spT zl E i).length), (3, sL 10 (spR zl E i).length), (4, .ptr ⟨false, 13, 0, 0⟩), (10, sL 14 n), (11, iT (n : Int)), (12, iT (i : Int)), (6, .ptr ⟨false, 15, 0, 0⟩), (20, .sbool (!jsel (E i)))]) (hpL [(9, .cells true 8 (spT zl E i).length (.fn fun j => elR (eget (spT zl E i) j))), (10, .cells true 8 (spR zl E i).length (.fn fun j => elR (eget (spR zl E i) j))), (11, .cells true 1 m (.fn fun k => [iT (((Ul (plc zl) (jl E i)) k : Nat) : Int)])), (12, .mSI true zl), (13, .cells true 2 1 (.fn fun _ => [.mp 12, sL 11 m])), (14, .cells true 8 n (.fn fun j => elR (E j))), (15, .cells true 8 1 (.fn fun _ => elR (E i)))]) (Nm [(2, sL 9 (spT zl E (i + 1)).length), (3, sL 10 (spR zl E (i + 1)).length), (4, .ptr ⟨false, 13, 0, 0⟩), (10, sL 14 n), (11, iT (n : Int)), (12, iT (i : Int))] [(9, .cells true 8 (spT zl E (i + 1)).length (.fn fun j => elR (eget (spT zl E (i + 1)) j))), (10, .cells true 8 (spR zl E (i + 1)).length (.fn fun j => elR (eget (spR zl E (i + 1)) j))), (11, .cells true 1 m (.fn fun k => [iT (((Ul (plc zl) (jl E (i + 1))) k : Nat) : Int)])), (12, .mSI true zl), (13, .cells true 2 1 (.fn fun _ => [.mp 12, sL 11 m])), (14, .cells true 8 n (.fn fun j => elR (E j)))]) := by
  have hu := Ul_le (plc zl) (jl E i)
  have la : plc zl (E i).a < m := by have := hz (E i).a; unfold plc; omega
  have lb : plc zl (E i).b < m := by have := hz (E i).b; unfold plc; omega
  have l1 := spT_len zl E i
  have l2 := spR_len zl E i
  have hr : decide (((root (uO m (Cont.row (.fn fun k => [iT (((Ul (plc zl) (jl E i)) k : Nat) : Int)]))) (plc zl (E i).a) : Nat) : Int) = ((root (uO m (Cont.row (.fn fun k => [iT (((Ul (plc zl) (jl E i)) k : Nat) : Int)]))) (plc zl (E i).b) : Nat) : Int)) = jsame zl E i := by
    rw [root_uO hu la, root_uO hu lb]
    unfold jsame
    exact decide_eq_decide.2 (by unfold cls; omega)
  refine (spY 9 (by omega) n m i (spT zl E i).length (spR zl E i).length (Ul (plc zl) (jl E i)) E (eget (spT zl E i)) (eget (spR zl E i)) (fun _ => []) (fun _ => []) [] [] [] zl (!jsel (E i)) (fun _ => rfl) (fun _ => hm) (fun _ j hj => ⟨⟨by rw [uO_row hj]; exact AV.ge.refl _, rfl, trivial⟩, by rw [uO_row hj]; exact hu j⟩) (fun _ => hz) (fun _ _ => by omega) (fun _ _ => by omega) (fun _ _ => by omega) (fun _ _ => by omega)).renG fun e fr' H' h => ?_
  cases hs : jsel (E i) with
  | false =>
    rw [hs, Bool.not_false, cond_true] at h
    obtain ⟨rfl, rfl, rfl⟩ := h
    have e1 : spT zl E (i + 1) = spT zl E i := by conv => lhs; unfold spT
                                                  rw [hs, Bool.false_and, cond_false]
    have e2 : spR zl E (i + 1) = spR zl E i := by conv => lhs; unfold spR
                                                  rw [hs, Bool.false_and, cond_false]
    have e3 : jl E (i + 1) = jl E i := by conv => lhs; unfold jl
                                          rw [hs, cond_false]
    rw [e1, e2, e3]
    exact ⟨id, [(2, sL 9 (spT zl E i).length), (3, sL 10 (spR zl E i).length), (4, .ptr ⟨false, 13, 0, 0⟩), (10, sL 14 n), (11, iT (n : Int)), (12, iT (i : Int))], [(9, .cells true 8 (spT zl E i).length (.fn fun j => elR (eget (spT zl E i) j))), (10, .cells true 8 (spR zl E i).length (.fn fun j => elR (eget (spR zl E i) j))), (11, .cells true 1 m (.fn fun k => [iT (((Ul (plc zl) (jl E i)) k : Nat) : Int)])), (12, .mSI true zl), (13, .cells true 2 1 (.fn fun _ => [.mp 12, sL 11 m])), (14, .cells true 8 n (.fn fun j => elR (E j)))], fun g hg => rfl, (eRr rfl), ⟨rgR rfl rfl (fun j _ => rfl) (fun j _ => rfl) (by omega), rgR rfl rfl (fun j _ => rfl) (fun j _ => rfl) (by omega), rgR rfl rfl (fun j _ => rfl) (fun j _ => rfl) (by omega), rgM rfl rfl (by omega), rgR rfl rfl (fun j _ => rfl) (fun j _ => rfl) (by omega), rgR rfl rfl (fun j _ => rfl) (fun j _ => rfl) (by omega), trivial⟩, fun i j _ _ h => h, rfl, rfl, rfl⟩
  | true =>
    rw [hs, Bool.not_true, cond_false, hr] at h
    cases hj : jsame zl E i with
    | true =>
      rw [hj, cond_true] at h
      obtain ⟨rfl, rfl, rfl⟩ := h
      have e0 : spT zl E (i + 1) = spT zl E i := by conv => lhs; unfold spT
                                                    rw [hs, hj, Bool.not_true, Bool.and_false, cond_false]
      have e1 : spR zl E (i + 1) = spR zl E i ++ [E i] := by conv => lhs; unfold spR
                                                             rw [hs, hj, Bool.and_true, cond_true]
      rw [e0]
      exact ⟨sg 10 17, [(2, sL 9 (spT zl E i).length), (3, sL 10 (spR zl E (i + 1)).length), (4, .ptr ⟨false, 13, 0, 0⟩), (10, sL 14 n), (11, iT (n : Int)), (12, iT (i : Int))], [(9, .cells true 8 (spT zl E i).length (.fn fun j => elR (eget (spT zl E i) j))), (10, .cells true 8 (spR zl E (i + 1)).length (.fn fun j => elR (eget (spR zl E (i + 1)) j))), (11, .cells true 1 m (.fn fun k => [iT (((Ul (plc zl) (jl E (i + 1))) k : Nat) : Int)])), (12, .mSI true zl), (13, .cells true 2 1 (.fn fun _ => [.mp 12, sL 11 m])), (14, .cells true 8 n (.fn fun j => elR (E j)))], sg_low (by omega), ⟨⟨_, rfl, AV.ge.refl _, rfl⟩, ⟨_, rfl, AV.ge.slc _ _ _ (by rw [e1, List.length_append]; rfl), rfl⟩, eRr rfl⟩, ⟨rgR rfl rfl (fun j _ => rfl) (fun j _ => rfl) (by omega), rgR rfl (by rw [e1, List.length_append]; rfl) (fun j hj => by
      show (bif decide (j < (spR zl E i).length) then elR (eget (spR zl E i) j) else elR (E i)) = elR (eget (spR zl E (i + 1)) j)
      rw [e1]
      exact (eget_snoc (spR zl E i) (E i) j hj).symm) (fun j _ => rfl) (by omega), rgR rfl rfl (fun j hj => by
      show [iT ((jn (uO m (Cont.row (.fn fun k => [AV.int true .i64 (((Ul (plc zl) (jl E i)) k : Nat) : Int)]))) (plc zl (E i).a) (plc zl (E i).b) j : Nat) : Int)] = [iT (((Ul (plc zl) (jl E (i + 1))) j : Nat) : Int)]
      rw [jn_uO hu la lb hj]
      conv => rhs; unfold jl
      rw [hs, cond_true, Ul_snoc]) (fun j _ => rfl) (by omega), rgM rfl rfl (by omega), rgR rfl rfl (fun j _ => rfl) (fun j _ => rfl) (by omega), rgR rfl rfl (fun j _ => rfl) (fun j _ => rfl) (by omega), trivial⟩, sg_inj (by omega), rfl, rfl, rfl⟩
    | false =>
      rw [hj, cond_false] at h
      obtain ⟨rfl, rfl, rfl⟩ := h
      have e0 : spR zl E (i + 1) = spR zl E i := by conv => lhs; unfold spR
                                                    rw [hs, hj, Bool.and_false, cond_false]
      have e1 : spT zl E (i + 1) = spT zl E i ++ [E i] := by conv => lhs; unfold spT
                                                             rw [hs, hj, Bool.not_false, Bool.and_true, cond_true]
      rw [e0]
      exact ⟨sg 9 17, [(2, sL 9 (spT zl E (i + 1)).length), (3, sL 10 (spR zl E i).length), (4, .ptr ⟨false, 13, 0, 0⟩), (10, sL 14 n), (11, iT (n : Int)), (12, iT (i : Int))], [(9, .cells true 8 (spT zl E (i + 1)).length (.fn fun j => elR (eget (spT zl E (i + 1)) j))), (10, .cells true 8 (spR zl E i).length (.fn fun j => elR (eget (spR zl E i) j))), (11, .cells true 1 m (.fn fun k => [iT (((Ul (plc zl) (jl E (i + 1))) k : Nat) : Int)])), (12, .mSI true zl), (13, .cells true 2 1 (.fn fun _ => [.mp 12, sL 11 m])), (14, .cells true 8 n (.fn fun j => elR (E j)))], sg_low (by omega), ⟨⟨_, rfl, AV.ge.slc _ _ _ (by rw [e1, List.length_append]; rfl), rfl⟩, eRr rfl⟩, ⟨rgR rfl (by rw [e1, List.length_append]; rfl) (fun j hj => by
      show (bif decide (j < (spT zl E i).length) then elR (eget (spT zl E i) j) else elR (E i)) = elR (eget (spT zl E (i + 1)) j)
      rw [e1]
      exact (eget_snoc (spT zl E i) (E i) j hj).symm) (fun j _ => rfl) (by omega), rgR rfl rfl (fun j _ => rfl) (fun j _ => rfl) (by omega), rgR rfl rfl (fun j hj => by
      show [iT ((jn (uO m (Cont.row (.fn fun k => [AV.int true .i64 (((Ul (plc zl) (jl E i)) k : Nat) : Int)]))) (plc zl (E i).a) (plc zl (E i).b) j : Nat) : Int)] = [iT (((Ul (plc zl) (jl E (i + 1))) j : Nat) : Int)]
      rw [jn_uO hu la lb hj]
      conv => rhs; unfold jl
      rw [hs, cond_true, Ul_snoc]) (fun j _ => rfl) (by omega), rgM rfl rfl (by omega), rgR rfl rfl (fun j _ => rfl) (fun j _ => rfl) (by omega), rgR rfl rfl (fun j _ => rfl) (fun j _ => rfl) (by omega), trivial⟩, sg_inj (by omega), rfl, rfl, rfl⟩
theorem sp_blk (n m i : Nat) (E : tE) (zl : tM) (hi : i < n) (hn : n ≤ 1024) (hm : m ≤ 4096) (hz : ∀ x, 0 ≤ (lfind seq x zl).getD 0 ∧ (lfind seq x zl).getD 0 < (m : Int)) :
  GoesB Try.prog (.block 1 (.seq (nav [1,1,0,1,0,0,1,1,0,0,0] (bodyOf Try.f45)) (.block 2 (.seq (nav [1,1,0,1,0,0,1,1,0,0,1,0,0] (bodyOf Try.f45)) (nav [1,1,0,1,0,0,1,1,0,0,1,0,1] (bodyOf Try.f45)))))) Try.f45.ntmps 9 15 15 (frL [(2, sL 9 (spT zl E i).length), (3, sL 10 (spR zl E i).length), (4, .ptr ⟨false, 13, 0, 0⟩), (10, sL 14 n), (11, iT (n : Int)), (12, iT (i : Int))]) (hpL [(9, .cells true 8 (spT zl E i).length (.fn fun j => elR (eget (spT zl E i) j))), (10, .cells true 8 (spR zl E i).length (.fn fun j => elR (eget (spR zl E i) j))), (11, .cells true 1 m (.fn fun k => [iT (((Ul (plc zl) (jl E i)) k : Nat) : Int)])), (12, .mSI true zl), (13, .cells true 2 1 (.fn fun _ => [.mp 12, sL 11 m])), (14, .cells true 8 n (.fn fun j => elR (E j)))]) (Nm [(2, sL 9 (spT zl E (i + 1)).length), (3, sL 10 (spR zl E (i + 1)).length), (4, .ptr ⟨false, 13, 0, 0⟩), (10, sL 14 n), (11, iT (n : Int)), (12, iT (i : Int))] [(9, .cells true 8 (spT zl E (i + 1)).length (.fn fun j => elR (eget (spT zl E (i + 1)) j))), (10, .cells true 8 (spR zl E (i + 1)).length (.fn fun j => elR (eget (spR zl E (i + 1)) j))), (11, .cells true 1 m (.fn fun k => [iT (((Ul (plc zl) (jl E (i + 1))) k : Nat) : Int)])), (12, .mSI true zl), (13, .cells true 2 1 (.fn fun _ => [.mp 12, sL 11 m])), (14, .cells true 8 n (.fn fun j => elR (E j)))]) := by
 have h1 : GoesB Try.prog (.block 1 (.seq (nav [1,1,0,1,0,0,1,1,0,0,0] (bodyOf Try.f45)) (.block 2 (.seq (nav [1,1,0,1,0,0,1,1,0,0,1,0,0] (bodyOf Try.f45)) (nav [1,1,0,1,0,0,1,1,0,0,1,0,1] (bodyOf Try.f45)))))) Try.f45.ntmps 9 15 16 (frL [(2, sL 9 (spT zl E i).length), (3, sL 10 (spR zl E i).length), (4, .ptr ⟨false, 13, 0, 0⟩), (10, sL 14 n), (11, iT (n : Int)), (12, iT (i : Int))]) (hpL [(9, .cells true 8 (spT zl E i).length (.fn fun j => elR (eget (spT zl E i) j))), (10, .cells true 8 (spR zl E i).length (.fn fun j => elR (eget (spR zl E i) j))), (11, .cells true 1 m (.fn fun k => [iT (((Ul (plc zl) (jl E i)) k : Nat) : Int)])), (12, .mSI true zl), (13, .cells true 2 1 (.fn fun _ => [.mp 12, sL 11 m])), (14, .cells true 8 n (.fn fun j => elR (E j)))]) (Nm [(2, sL 9 (spT zl E (i + 1)).length), (3, sL 10 (spR zl E (i + 1)).length), (4, .ptr ⟨false, 13, 0, 0⟩), (10, sL 14 n), (11, iT (n : Int)), (12, iT (i : Int))] [(9, .cells true 8 (spT zl E (i + 1)).length (.fn fun j => elR (eget (spT zl E (i + 1)) j))), (10, .cells true 8 (spR zl E (i + 1)).length (.fn fun j => elR (eget (spR zl E (i + 1)) j))), (11, .cells true 1 m (.fn fun k => [iT (((Ul (plc zl) (jl E (i + 1))) k : Nat) : Int)])), (12, .mSI true zl), (13, .cells true 2 1 (.fn fun _ => [.mp 12, sL 11 m])), (14, .cells true 8 n (.fn fun j => elR (E j)))]) := by
  refine GoesB.blockN ?_
  refine GoesB.seqN (K1 := 16) (F1 := [(2, sL 9 (spT zl E i).length), (3, sL 10 (spR zl E i).length), (4, .ptr ⟨false, 13, 0, 0⟩), (10, sL 14 n), (11, iT (n : Int)), (12, iT (i : Int)), (6, .ptr ⟨false, 15, 0, 0⟩)]) (H1 := [(9, .cells true 8 (spT zl E i).length (.fn fun j => elR (eget (spT zl E i) j))), (10, .cells true 8 (spR zl E i).length (.fn fun j => elR (eget (spR zl E i) j))), (11, .cells true 1 m (.fn fun k => [iT (((Ul (plc zl) (jl E i)) k : Nat) : Int)])), (12, .mSI true zl), (13, .cells true 2 1 (.fn fun _ => [.mp 12, sL 11 m])), (14, .cells true 8 n (.fn fun j => elR (E j))), (15, .cells true 8 1 (.fn fun _ => elR (E i)))]) (GoesB.toN (spE 9 (by omega) n m i (spT zl E i).length (spR zl E i).length (Ul (plc zl) (jl E i)) E (eget (spT zl E i)) (eget (spR zl E i)) (fun _ => []) (fun _ => []) [] [] [] zl (by omega) (by omega)) (eGg rfl) ⟨(Sx.hs rfl), (Sx.hs rfl), (Sx.hs rfl), (Sx.hs rfl), (Sx.hs rfl), (Sx.hs rfl), wk_hb rfl (by show elR (E (0 + i)) = elR (E i); rw [Nat.zero_add]), trivial⟩) (by omega) ?_
  refine GoesB.blockN ?_
  refine GoesB.seqN (K1 := 16) (F1 := [(2, sL 9 (spT zl E i).length), (3, sL 10 (spR zl E i).length), (4, .ptr ⟨false, 13, 0, 0⟩), (10, sL 14 n), (11, iT (n : Int)), (12, iT (i : Int)), (6, .ptr ⟨false, 15, 0, 0⟩), (20, .sbool (!jsel (E i)))]) (H1 := [(9, .cells true 8 (spT zl E i).length (.fn fun j => elR (eget (spT zl E i) j))), (10, .cells true 8 (spR zl E i).length (.fn fun j => elR (eget (spR zl E i) j))), (11, .cells true 1 m (.fn fun k => [iT (((Ul (plc zl) (jl E i)) k : Nat) : Int)])), (12, .mSI true zl), (13, .cells true 2 1 (.fn fun _ => [.mp 12, sL 11 m])), (14, .cells true 8 n (.fn fun j => elR (E j))), (15, .cells true 8 1 (.fn fun _ => elR (E i)))]) ((spF 9 (by omega) n m i (spT zl E i).length (spR zl E i).length (Ul (plc zl) (jl E i)) E (eget (spT zl E i)) (eget (spR zl E i)) (fun _ => []) (fun _ => []) [] [] [] zl).post fun e fr' H' h => ?_) (by omega) ((sp_y n m i E zl hi hn hm hz).up (by omega))
  cases q1 : decide ((E i).k = 4) with
  | true =>
   rw [q1, cond_true] at h
   obtain ⟨rfl, rfl, rfl⟩ := h
   have hs : jsel (E i) = false := by unfold jsel; rw [q1]; rfl
   refine ⟨[(2, sL 9 (spT zl E i).length), (3, sL 10 (spR zl E i).length), (4, .ptr ⟨false, 13, 0, 0⟩), (10, sL 14 n), (11, iT (n : Int)), (12, iT (i : Int)), (6, .ptr ⟨false, 15, 0, 0⟩), (20, .sbool (!jsel (E i)))], [(9, .cells true 8 (spT zl E i).length (.fn fun j => elR (eget (spT zl E i) j))), (10, .cells true 8 (spR zl E i).length (.fn fun j => elR (eget (spR zl E i) j))), (11, .cells true 1 m (.fn fun k => [iT (((Ul (plc zl) (jl E i)) k : Nat) : Int)])), (12, .mSI true zl), (13, .cells true 2 1 (.fn fun _ => [.mp 12, sL 11 m])), (14, .cells true 8 n (.fn fun j => elR (E j))), (15, .cells true 8 1 (.fn fun _ => elR (E i)))], ⟨re rfl, re rfl, re rfl, re rfl, re rfl, re rfl, re rfl, ⟨_, rfl, fun N μ c h => ?_⟩, trivial⟩, (eHh rfl), rfl, rfl, rfl⟩
   rw [hs]
   simpa only [Rep, Bool.not_false] using h
  | false =>
   rw [q1, cond_false] at h
   obtain ⟨rfl, rfl, rfl⟩ := h
   have hs : jsel (E i) = !decide ((E i).k = 6) := by unfold jsel; rw [q1]; rfl
   refine ⟨[(2, sL 9 (spT zl E i).length), (3, sL 10 (spR zl E i).length), (4, .ptr ⟨false, 13, 0, 0⟩), (10, sL 14 n), (11, iT (n : Int)), (12, iT (i : Int)), (6, .ptr ⟨false, 15, 0, 0⟩), (20, .sbool (!jsel (E i)))], [(9, .cells true 8 (spT zl E i).length (.fn fun j => elR (eget (spT zl E i) j))), (10, .cells true 8 (spR zl E i).length (.fn fun j => elR (eget (spR zl E i) j))), (11, .cells true 1 m (.fn fun k => [iT (((Ul (plc zl) (jl E i)) k : Nat) : Int)])), (12, .mSI true zl), (13, .cells true 2 1 (.fn fun _ => [.mp 12, sL 11 m])), (14, .cells true 8 n (.fn fun j => elR (E j))), (15, .cells true 8 1 (.fn fun _ => elR (E i)))], ⟨re rfl, re rfl, re rfl, re rfl, re rfl, re rfl, re rfl, ⟨_, rfl, ?_⟩, trivial⟩, (eHh rfl), rfl, rfl, rfl⟩
   rw [hs]
   exact AV.ge.refl _
 exact h1.renG fun e fr' H' h => by
  obtain ⟨rfl, rfl, rfl⟩ := h
  exact ⟨id, [(2, sL 9 (spT zl E (i + 1)).length), (3, sL 10 (spR zl E (i + 1)).length), (4, .ptr ⟨false, 13, 0, 0⟩), (10, sL 14 n), (11, iT (n : Int)), (12, iT (i : Int))], [(9, .cells true 8 (spT zl E (i + 1)).length (.fn fun j => elR (eget (spT zl E (i + 1)) j))), (10, .cells true 8 (spR zl E (i + 1)).length (.fn fun j => elR (eget (spR zl E (i + 1)) j))), (11, .cells true 1 m (.fn fun k => [iT (((Ul (plc zl) (jl E (i + 1))) k : Nat) : Int)])), (12, .mSI true zl), (13, .cells true 2 1 (.fn fun _ => [.mp 12, sL 11 m])), (14, .cells true 8 n (.fn fun j => elR (E j)))], fun g hg => rfl, (eRr rfl), ⟨rgR rfl rfl (fun j _ => rfl) (fun j _ => rfl) (by omega), rgR rfl rfl (fun j _ => rfl) (fun j _ => rfl) (by omega), rgR rfl rfl (fun j _ => rfl) (fun j _ => rfl) (by omega), rgM rfl rfl (by omega), rgR rfl rfl (fun j _ => rfl) (fun j _ => rfl) (by omega), rgR rfl rfl (fun j _ => rfl) (fun j _ => rfl) (by omega), trivial⟩, fun i j _ _ h => h, rfl, rfl, rfl⟩
theorem sp_body : (nav [1,1,0,1,0,0] (bodyOf Try.f45)) = .seq (nav [1,1,0,1,0,0,0] (bodyOf Try.f45)) (.seq (nav [1,1,0,1,0,0,1,0] (bodyOf Try.f45)) (.seq (.block 1 (.seq (nav [1,1,0,1,0,0,1,1,0,0,0] (bodyOf Try.f45)) (.block 2 (.seq (nav [1,1,0,1,0,0,1,1,0,0,1,0,0] (bodyOf Try.f45)) (nav [1,1,0,1,0,0,1,1,0,0,1,0,1] (bodyOf Try.f45)))))) (nav [1,1,0,1,0,0,1,1,1] (bodyOf Try.f45)))) := by kernel_rfl
theorem sp_is : (bodyOf Try.f45) = .seq (nav [0] (bodyOf Try.f45)) (.seq (nav [1,0] (bodyOf Try.f45)) (.seq (.seq (nav [1,1,0,0] (bodyOf Try.f45)) (.block 0 (.loop (nav [1,1,0,1,0,0] (bodyOf Try.f45))))) (nav [1,1,1] (bodyOf Try.f45)))) := by kernel_rfl
theorem sp_step (n m i : Nat) (E : tE) (zl : tM) (hi : i < n) (hn : n ≤ 1024) (hm : m ≤ 4096) (hz : ∀ x, 0 ≤ (lfind seq x zl).getD 0 ∧ (lfind seq x zl).getD 0 < (m : Int)) :
  GoesB Try.prog (nav [1,1,0,1,0,0] (bodyOf Try.f45)) Try.f45.ntmps 9 15 15 (frL [(2, sL 9 (spT zl E i).length), (3, sL 10 (spR zl E i).length), (4, .ptr ⟨false, 13, 0, 0⟩), (10, sL 14 n), (11, iT (n : Int)), (12, iT (i : Int))]) (hpL [(9, .cells true 8 (spT zl E i).length (.fn fun j => elR (eget (spT zl E i) j))), (10, .cells true 8 (spR zl E i).length (.fn fun j => elR (eget (spR zl E i) j))), (11, .cells true 1 m (.fn fun k => [iT (((Ul (plc zl) (jl E i)) k : Nat) : Int)])), (12, .mSI true zl), (13, .cells true 2 1 (.fn fun _ => [.mp 12, sL 11 m])), (14, .cells true 8 n (.fn fun j => elR (E j)))]) (Nm [(2, sL 9 (spT zl E (i + 1)).length), (3, sL 10 (spR zl E (i + 1)).length), (4, .ptr ⟨false, 13, 0, 0⟩), (10, sL 14 n), (11, iT (n : Int)), (12, iT ((i + 1 : Nat) : Int))] [(9, .cells true 8 (spT zl E (i + 1)).length (.fn fun j => elR (eget (spT zl E (i + 1)) j))), (10, .cells true 8 (spR zl E (i + 1)).length (.fn fun j => elR (eget (spR zl E (i + 1)) j))), (11, .cells true 1 m (.fn fun k => [iT (((Ul (plc zl) (jl E (i + 1))) k : Nat) : Int)])), (12, .mSI true zl), (13, .cells true 2 1 (.fn fun _ => [.mp 12, sL 11 m])), (14, .cells true 8 n (.fn fun j => elR (E j)))]) := by
 rw [sp_body]
 refine GoesB.seqN (K1 := 15) (spD 9 (by omega) n m i (spT zl E i).length (spR zl E i).length (Ul (plc zl) (jl E i)) E (eget (spT zl E i)) (eget (spR zl E i)) (fun _ => []) (fun _ => []) [] [] [] zl) (by omega) ?_
 refine GoesB.seqN (K1 := 15) (F1 := [(2, sL 9 (spT zl E i).length), (3, sL 10 (spR zl E i).length), (4, .ptr ⟨false, 13, 0, 0⟩), (10, sL 14 n), (11, iT (n : Int)), (12, iT (i : Int))]) (H1 := [(9, .cells true 8 (spT zl E i).length (.fn fun j => elR (eget (spT zl E i) j))), (10, .cells true 8 (spR zl E i).length (.fn fun j => elR (eget (spR zl E i) j))), (11, .cells true 1 m (.fn fun k => [iT (((Ul (plc zl) (jl E i)) k : Nat) : Int)])), (12, .mSI true zl), (13, .cells true 2 1 (.fn fun _ => [.mp 12, sL 11 m])), (14, .cells true 8 n (.fn fun j => elR (E j)))]) ((spX 9 (by omega) n m i (spT zl E i).length (spR zl E i).length (Ul (plc zl) (jl E i)) E (eget (spT zl E i)) (eget (spR zl E i)) (fun _ => []) (fun _ => []) [] [] [] zl (decide ((i : Int) < (n : Int)))).mono fun e fr' H' h => ?_) (by omega) ?_
 ·rw [decide_eq_true (by omega), cond_true] at h
  exact h
 refine GoesB.seqN (K1 := 15) (sp_blk n m i E zl hi hn hm hz) (by omega) ?_
 exact GoesB.toN (spH 9 (by omega) n m i (spT zl E (i + 1)).length (spR zl E (i + 1)).length (Ul (plc zl) (jl E (i + 1))) E (eget (spT zl E (i + 1))) (eget (spR zl E (i + 1))) (fun _ => []) (fun _ => []) [] [] [] zl (by omega)) ⟨re rfl, re rfl, re rfl, re rfl, re rfl, ⟨_, rfl, AV.ge.int' _ _ _ (by omega)⟩, trivial⟩ (eHh rfl)
theorem sp_end (n m : Nat) (E : tE) (zl : tM) :
  GoesB Try.prog (nav [1,1,0,1,0,0] (bodyOf Try.f45)) Try.f45.ntmps 9 15 15 (frL [(2, sL 9 (spT zl E n).length), (3, sL 10 (spR zl E n).length), (4, .ptr ⟨false, 13, 0, 0⟩), (10, sL 14 n), (11, iT (n : Int)), (12, iT (n : Int))]) (hpL [(9, .cells true 8 (spT zl E n).length (.fn fun j => elR (eget (spT zl E n) j))), (10, .cells true 8 (spR zl E n).length (.fn fun j => elR (eget (spR zl E n) j))), (11, .cells true 1 m (.fn fun k => [iT (((Ul (plc zl) (jl E n)) k : Nat) : Int)])), (12, .mSI true zl), (13, .cells true 2 1 (.fn fun _ => [.mp 12, sL 11 m])), (14, .cells true 8 n (.fn fun j => elR (E j)))]) (Xm 0 [(2, sL 9 (spT zl E n).length), (3, sL 10 (spR zl E n).length), (4, .ptr ⟨false, 13, 0, 0⟩), (10, sL 14 n), (11, iT (n : Int)), (12, iT (n : Int))] [(9, .cells true 8 (spT zl E n).length (.fn fun j => elR (eget (spT zl E n) j))), (10, .cells true 8 (spR zl E n).length (.fn fun j => elR (eget (spR zl E n) j))), (11, .cells true 1 m (.fn fun k => [iT (((Ul (plc zl) (jl E n)) k : Nat) : Int)])), (12, .mSI true zl), (13, .cells true 2 1 (.fn fun _ => [.mp 12, sL 11 m])), (14, .cells true 8 n (.fn fun j => elR (E j)))]) := by
 rw [sp_body]
 refine GoesB.seqN (K1 := 15) (spD 9 (by omega) n m n (spT zl E n).length (spR zl E n).length (Ul (plc zl) (jl E n)) E (eget (spT zl E n)) (eget (spR zl E n)) (fun _ => []) (fun _ => []) [] [] [] zl) (by omega) ?_
 refine GoesB.seqX (K1 := 15) ((spX 9 (by omega) n m n (spT zl E n).length (spR zl E n).length (Ul (plc zl) (jl E n)) E (eget (spT zl E n)) (eget (spR zl E n)) (fun _ => []) (fun _ => []) [] [] [] zl (decide ((n : Int) < (n : Int)))).mono fun e fr' H' h => ?_) (by omega)
 rw [decide_eq_false (by omega), cond_false] at h
 exact h
theorem sp_goes (n : Nat) (E : tE) (hn : n ≤ 256) :
  GoesB Try.prog (bodyOf Try.f45) Try.f45.ntmps 9 9 15 (frameOf [.ptr ⟨false, 2, 0, 0⟩] 0 .e) (hpL [(2, .cells false 7 1 (.fn fun _ => netR 6 7 8 n (ND E n).length (BR E n).length)), (3, .mSI true (zipF 0 (NM E n))), (4, .mSI true (zipF 0 (ND E n))), (5, .mSI true (zipF 0 (BR E n))), (6, .cells false 8 n (.fn fun j => elR (E j))), (7, .cells false 1 (ND E n).length (.fn (txR (lget (ND E n))))), (8, .cells false 1 (BR E n).length (.fn (txR (lget (BR E n)))))]) (fun e fr' H' => e = .ret ∧ fr' = frL [(2, sL 9 (spT (zipF 0 (g0 :: ND E n)) E n).length), (3, sL 10 (spR (zipF 0 (g0 :: ND E n)) E n).length)] ∧ H' = hpL [(9, .cells true 8 (spT (zipF 0 (g0 :: ND E n)) E n).length (.fn fun j => elR (eget (spT (zipF 0 (g0 :: ND E n)) E n) j))), (10, .cells true 8 (spR (zipF 0 (g0 :: ND E n)) E n).length (.fn fun j => elR (eget (spR (zipF 0 (g0 :: ND E n)) E n) j))), (2, .cells false 7 1 (.fn fun _ => netR 6 7 8 n (ND E n).length (BR E n).length)), (3, .mSI true (zipF 0 (NM E n))), (4, .mSI true (zipF 0 (ND E n))), (5, .mSI true (zipF 0 (BR E n))), (6, .cells false 8 n (.fn fun j => elR (E j))), (7, .cells false 1 (ND E n).length (.fn (txR (lget (ND E n))))), (8, .cells false 1 (BR E n).length (.fn (txR (lget (BR E n)))))]) := by
 have hq := net_q n E hn
 have ln := ND_len E n
 rw [sp_is]
 refine GoesB.seqN (K1 := 9) (spA 9 (by omega) n (ND E n).length (BR E n).length E (lget (ND E n)) (lget (BR E n)) (zipF 0 (NM E n)) (zipF 0 (ND E n)) (zipF 0 (BR E n)) []) (by omega) ?_
 refine GoesB.phantom 2 8 (fun j => elR (eget [] j)) rfl (by omega) (by omega) ?_
 refine GoesB.phantom 3 8 (fun j => elR (eget [] j)) rfl (by omega) (by omega) ?_
 refine GoesB.weakL (fl := [(0, .ptr ⟨false, 2, 0, 0⟩), (2, sL 9 0), (3, sL 10 0)]) (bl := [(2, .cells false 7 1 (.fn fun _ => netR 6 7 8 n (ND E n).length (BR E n).length)), (3, .mSI true (zipF 0 (NM E n))), (4, .mSI true (zipF 0 (ND E n))), (5, .mSI true (zipF 0 (BR E n))), (6, .cells false 8 n (.fn fun j => elR (E j))), (7, .cells false 1 (ND E n).length (.fn (txR (lget (ND E n))))), (8, .cells false 1 (BR E n).length (.fn (txR (lget (BR E n))))), (9, .cells true 8 0 (.fn fun j => elR (eget [] j))), (10, .cells true 8 0 (.fn fun j => elR (eget [] j)))]) (eGg rfl) (eHh rfl) ?_
 refine GoesB.seqN (K1 := 14) (F1 := [(0, .ptr ⟨false, 2, 0, 0⟩), (2, sL 9 0), (3, sL 10 0), (4, .ptr ⟨false, 13, 0, 0⟩)]) (H1 := [(2, .cells false 7 1 (.fn fun _ => netR 6 7 8 n (ND E n).length (BR E n).length)), (3, .mSI true (zipF 0 (NM E n))), (4, .mSI true (zipF 0 (ND E n))), (5, .mSI true (zipF 0 (BR E n))), (6, .cells false 8 n (.fn fun j => elR (E j))), (7, .cells false 1 (ND E n).length (.fn (txR (lget (ND E n))))), (8, .cells false 1 (BR E n).length (.fn (txR (lget (BR E n))))), (9, .cells true 8 0 (.fn fun j => elR (eget [] j))), (10, .cells true 8 0 (.fn fun j => elR (eget [] j))), (11, .cells true 1 ((ND E n).length + 1) (.fn fun k => [iT ((k : Nat) : Int)])), (12, .mSI true (zipF 0 (g0 :: ND E n))), (13, .cells true 2 1 (.fn fun _ => [.mp 12, sL 11 ((ND E n).length + 1)]))]) (GoesB.toN (spB 9 (by omega) n 0 (ND E n).length (BR E n).length E (eget []) (eget []) (lget (ND E n)) (lget (BR E n)) (zipF 0 (NM E n)) (zipF 0 (ND E n)) (zipF 0 (BR E n)) [] hq) (eGg rfl) (eHh rfl)) (by omega) ?_
 refine GoesB.seqN (K1 := 15) (F1 := [(2, sL 9 (spT (zipF 0 (g0 :: ND E n)) E n).length), (3, sL 10 (spR (zipF 0 (g0 :: ND E n)) E n).length), (4, .ptr ⟨false, 13, 0, 0⟩), (10, sL 14 n), (11, iT (n : Int)), (12, iT (n : Int))]) (H1 := [(9, .cells true 8 (spT (zipF 0 (g0 :: ND E n)) E n).length (.fn fun j => elR (eget (spT (zipF 0 (g0 :: ND E n)) E n) j))), (10, .cells true 8 (spR (zipF 0 (g0 :: ND E n)) E n).length (.fn fun j => elR (eget (spR (zipF 0 (g0 :: ND E n)) E n) j))), (11, .cells true 1 ((ND E n).length + 1) (.fn fun k => [iT (((Ul (plc (zipF 0 (g0 :: ND E n))) (jl E n)) k : Nat) : Int)])), (12, .mSI true (zipF 0 (g0 :: ND E n))), (13, .cells true 2 1 (.fn fun _ => [.mp 12, sL 11 ((ND E n).length + 1)])), (14, .cells true 8 n (.fn fun j => elR (E j))), (2, .cells false 7 1 (.fn fun _ => netR 6 7 8 n (ND E n).length (BR E n).length)), (3, .mSI true (zipF 0 (NM E n))), (4, .mSI true (zipF 0 (ND E n))), (5, .mSI true (zipF 0 (BR E n))), (6, .cells false 8 n (.fn fun j => elR (E j))), (7, .cells false 1 (ND E n).length (.fn (txR (lget (ND E n))))), (8, .cells false 1 (BR E n).length (.fn (txR (lget (BR E n)))))]) (GoesB.seqN (K1 := 15) (F1 := [(2, sL 9 (spT (zipF 0 (g0 :: ND E n)) E 0).length), (3, sL 10 (spR (zipF 0 (g0 :: ND E n)) E 0).length), (4, .ptr ⟨false, 13, 0, 0⟩), (10, sL 14 n), (11, iT (n : Int)), (12, iT ((0 : Nat) : Int))]) (H1 := [(9, .cells true 8 (spT (zipF 0 (g0 :: ND E n)) E 0).length (.fn fun j => elR (eget (spT (zipF 0 (g0 :: ND E n)) E 0) j))), (10, .cells true 8 (spR (zipF 0 (g0 :: ND E n)) E 0).length (.fn fun j => elR (eget (spR (zipF 0 (g0 :: ND E n)) E 0) j))), (11, .cells true 1 ((ND E n).length + 1) (.fn fun k => [iT (((Ul (plc (zipF 0 (g0 :: ND E n))) (jl E 0)) k : Nat) : Int)])), (12, .mSI true (zipF 0 (g0 :: ND E n))), (13, .cells true 2 1 (.fn fun _ => [.mp 12, sL 11 ((ND E n).length + 1)])), (14, .cells true 8 n (.fn fun j => elR (E j))), (2, .cells false 7 1 (.fn fun _ => netR 6 7 8 n (ND E n).length (BR E n).length)), (3, .mSI true (zipF 0 (NM E n))), (4, .mSI true (zipF 0 (ND E n))), (5, .mSI true (zipF 0 (BR E n))), (6, .cells false 8 n (.fn fun j => elR (E j))), (7, .cells false 1 (ND E n).length (.fn (txR (lget (ND E n))))), (8, .cells false 1 (BR E n).length (.fn (txR (lget (BR E n)))))]) (GoesB.toN (spC 9 (by omega) n 0 (ND E n).length (BR E n).length E (eget []) (eget []) (lget (ND E n)) (lget (BR E n)) (zipF 0 (NM E n)) (zipF 0 (ND E n)) (zipF 0 (BR E n)) [] (ND E n) (by omega) (by omega)) ⟨re rfl, re rfl, re rfl, re rfl, re rfl, ⟨_, rfl, AV.ge.int _ _ _ _⟩, trivial⟩ ⟨hs rfl, hs rfl, hs rfl, hs rfl, hs rfl, ⟨_, rfl, rfl, rfl, rfl, fun j hj => by
   show elR (E (0 + j)) = elR (E j)
   rw [Nat.zero_add]⟩, eHh rfl⟩) (by omega) ?_) (by omega) ?_
 ·have hr := GoesB.rounds (P := Try.prog) (n := Try.f45.ntmps) (B := 9) (K := 15) (id := 0) n (fun i => [(2, sL 9 (spT (zipF 0 (g0 :: ND E n)) E i).length), (3, sL 10 (spR (zipF 0 (g0 :: ND E n)) E i).length), (4, .ptr ⟨false, 13, 0, 0⟩), (10, sL 14 n), (11, iT (n : Int)), (12, iT ((i : Nat) : Int))]) (fun i => [(9, .cells true 8 (spT (zipF 0 (g0 :: ND E n)) E i).length (.fn fun j => elR (eget (spT (zipF 0 (g0 :: ND E n)) E i) j))), (10, .cells true 8 (spR (zipF 0 (g0 :: ND E n)) E i).length (.fn fun j => elR (eget (spR (zipF 0 (g0 :: ND E n)) E i) j))), (11, .cells true 1 ((ND E n).length + 1) (.fn fun k => [iT (((Ul (plc (zipF 0 (g0 :: ND E n))) (jl E i)) k : Nat) : Int)])), (12, .mSI true (zipF 0 (g0 :: ND E n))), (13, .cells true 2 1 (.fn fun _ => [.mp 12, sL 11 ((ND E n).length + 1)])), (14, .cells true 8 n (.fn fun j => elR (E j)))]) (fun i hi => sp_step n ((ND E n).length + 1) i E (zipF 0 (g0 :: ND E n)) hi (by omega) (by omega) (zip_in _)) (sp_end n ((ND E n).length + 1) E (zipF 0 (g0 :: ND E n)))
  exact hr.frameN (xl := [(2, .cells false 7 1 (.fn fun _ => netR 6 7 8 n (ND E n).length (BR E n).length)), (3, .mSI true (zipF 0 (NM E n))), (4, .mSI true (zipF 0 (ND E n))), (5, .mSI true (zipF 0 (BR E n))), (6, .cells false 8 n (.fn fun j => elR (E j))), (7, .cells false 1 (ND E n).length (.fn (txR (lget (ND E n))))), (8, .cells false 1 (BR E n).length (.fn (txR (lget (BR E n)))))]) (by omega) ⟨⟨by omega, fun j hj v hv => List.all_eq_true.1 (show (netR 6 7 8 n (ND E n).length (BR E n).length).all (fun v => v.low 9) = true from rfl) v hv⟩, ⟨by omega, trivial⟩, ⟨by omega, trivial⟩, ⟨by omega, trivial⟩, ⟨by omega, fun j hj v hv => List.all_eq_true.1 (show (elR (E j)).all (fun v => v.low 9) = true from rfl) v hv⟩, ⟨by omega, fun j hj v hv => List.all_eq_true.1 (show (txR (lget (ND E n)) j).all (fun v => v.low 9) = true from rfl) v hv⟩, ⟨by omega, fun j hj v hv => List.all_eq_true.1 (show (txR (lget (BR E n)) j).all (fun v => v.low 9) = true from rfl) v hv⟩, trivial⟩ rfl rfl ⟨.inl rfl, .inl rfl, .inl rfl, .inl rfl, .inl rfl, .inl rfl, trivial⟩
 ·refine GoesB.weakL (fl := [(2, sL 9 (spT (zipF 0 (g0 :: ND E n)) E n).length), (3, sL 10 (spR (zipF 0 (g0 :: ND E n)) E n).length)]) (bl := [(9, .cells true 8 (spT (zipF 0 (g0 :: ND E n)) E n).length (.fn fun j => elR (eget (spT (zipF 0 (g0 :: ND E n)) E n) j))), (10, .cells true 8 (spR (zipF 0 (g0 :: ND E n)) E n).length (.fn fun j => elR (eget (spR (zipF 0 (g0 :: ND E n)) E n) j))), (2, .cells false 7 1 (.fn fun _ => netR 6 7 8 n (ND E n).length (BR E n).length)), (3, .mSI true (zipF 0 (NM E n))), (4, .mSI true (zipF 0 (ND E n))), (5, .mSI true (zipF 0 (BR E n))), (6, .cells false 8 n (.fn fun j => elR (E j))), (7, .cells false 1 (ND E n).length (.fn (txR (lget (ND E n))))), (8, .cells false 1 (BR E n).length (.fn (txR (lget (BR E n)))))]) (eGg rfl) (eHh rfl) ?_
  exact (spI 9 (by omega) (spT (zipF 0 (g0 :: ND E n)) E n).length (spR (zipF 0 (g0 :: ND E n)) E n).length (eget (spT (zipF 0 (g0 :: ND E n)) E n)) (eget (spR (zipF 0 (g0 :: ND E n)) E n)) (fun _ => []) (fun _ => []) [] [] [] []).frameL (xl := [(2, .cells false 7 1 (.fn fun _ => netR 6 7 8 n (ND E n).length (BR E n).length)), (3, .mSI true (zipF 0 (NM E n))), (4, .mSI true (zipF 0 (ND E n))), (5, .mSI true (zipF 0 (BR E n))), (6, .cells false 8 n (.fn fun j => elR (E j))), (7, .cells false 1 (ND E n).length (.fn (txR (lget (ND E n))))), (8, .cells false 1 (BR E n).length (.fn (txR (lget (BR E n)))))]) (by omega) ⟨⟨by omega, fun j hj v hv => List.all_eq_true.1 (show (netR 6 7 8 n (ND E n).length (BR E n).length).all (fun v => v.low 9) = true from rfl) v hv⟩, ⟨by omega, trivial⟩, ⟨by omega, trivial⟩, ⟨by omega, trivial⟩, ⟨by omega, fun j hj v hv => List.all_eq_true.1 (show (elR (E j)).all (fun v => v.low 9) = true from rfl) v hv⟩, ⟨by omega, fun j hj v hv => List.all_eq_true.1 (show (txR (lget (ND E n)) j).all (fun v => v.low 9) = true from rfl) v hv⟩, ⟨by omega, fun j hj v hv => List.all_eq_true.1 (show (txR (lget (BR E n)) j).all (fun v => v.low 9) = true from rfl) v hv⟩, trivial⟩ rfl (fun e fr' H0' h => by
   obtain ⟨rfl, rfl, rfl⟩ := h
   exact ⟨_, rfl, rfl, ⟨.inl rfl, .inl rfl, trivial⟩, rfl, rfl, rfl⟩)


noncomputable def treeL : (Nat → El) → Nat → List El := Classical.choose (⟨fun E n => spT (zipF 0 (g0 :: ND E n)) E n, rfl⟩ : ∃ f, f = fun (E : tE) (n : Nat) => spT (zipF 0 (g0 :: ND E n)) E n)
theorem treeL_is : treeL = fun E n => spT (zipF 0 (g0 :: ND E n)) E n := Classical.choose_spec (⟨fun E n => spT (zipF 0 (g0 :: ND E n)) E n, rfl⟩ : ∃ f, f = fun (E : tE) (n : Nat) => spT (zipF 0 (g0 :: ND E n)) E n)
noncomputable def restL : (Nat → El) → Nat → List El := Classical.choose (⟨fun E n => spR (zipF 0 (g0 :: ND E n)) E n, rfl⟩ : ∃ f, f = fun (E : tE) (n : Nat) => spR (zipF 0 (g0 :: ND E n)) E n)
theorem restL_is : restL = fun E n => spR (zipF 0 (g0 :: ND E n)) E n := Classical.choose_spec (⟨fun E n => spR (zipF 0 (g0 :: ND E n)) E n, rfl⟩ : ∃ f, f = fun (E : tE) (n : Nat) => spR (zipF 0 (g0 :: ND E n)) E n)
noncomputable def spNew (a b : List El) : M Nat :=
 (M.newB (.cells true 8 a.length (.fn fun j => elR (eget a j)))).andThen fun N => (M.newB (.cells true 8 b.length (.fn fun j => elR (eget b j)))).andThen fun _ => M.ret N
def spB2 (a b : List El) : List ABk := [.cells true 8 a.length (.fn fun j => elR (eget a j)), .cells true 8 b.length (.fn fun j => elR (eget b j))]
theorem Tch_spNew (a b : List El) : Tch (spNew a b) := (Tch.newB _).andThen fun _ => (Tch.newB _).andThen fun _ => Tch.ret _
theorem spNew_done {a b : List El} {N : Nat} {g g' : G} (h : spNew a b g = .done N g') : N = g.nx ∧ g'.H = putNew g.H g.nx (spB2 a b) ∧ g'.nx = g.nx + 2 ∧ g'.cs = g.cs := by
 cases h
 exact ⟨rfl, rfl, rfl, rfl⟩
theorem el_lowR {n K : Nat} {l : List El} : (ABk.cells true 8 n (.fn fun j => elR (eget l j))).lowR K := fun i hi v hv => List.all_eq_true.1 (show (elR (eget l i)).all (fun v => v.low K) = true from rfl) v hv
theorem el_inS {n : Nat} {l : List El} {S : Nat → Prop} : (ABk.cells true 8 n (.fn fun j => elR (eget l j))).inS S := fun i hi o v hv => by
 match o, hv with
 | 0, hv | 1, hv | 2, hv | 3, hv | 4, hv | 5, hv | 6, hv | 7, hv => cases hv; trivial
noncomputable def splitS : List AV → M AV
 | [.ptr aN] => (M.okIf (flat0 aN)).andThen fun _ => (netRd aN.g).andThen fun y => (M.setB y.1.m1 (.mSI true (zipF 0 (NM y.2 y.1.n)))).andThen fun _ => (M.setB y.1.m2 (.mSI true (zipF 0 (ND y.2 y.1.n)))).andThen fun _ => (M.setB y.1.m3 (.mSI true (zipF 0 (BR y.2 y.1.n)))).andThen fun _ => (spNew (treeL y.2 y.1.n) (restL y.2 y.1.n)).andThen fun N => M.ret (.tup [.slc true true ⟨false, N, 0, 0⟩ (treeL y.2 y.1.n).length, .slc true true ⟨false, N + 1, 0, 0⟩ (restL y.2 y.1.n).length])
 | _ => M.no
theorem splitS_tch : ∀ args, Tch (splitS args) := by
 intro args
 unfold splitS
 split
 ·exact (Tch.okIf _).andThen fun _ => (Tch_netRd _).andThen fun _ => (Tch.setB _ _).andThen fun _ => (Tch.setB _ _).andThen fun _ => (Tch.setB _ _).andThen fun _ => (Tch_spNew _ _).andThen fun _ => Tch.ret _
 ·exact Tch.no
theorem splitS_ok : ∀ args v g g', splitS args g = .done v g' → CallIs Try.prog 45 args v g g' := by
 intro args v g g' h
 unfold splitS at h
 split at h
 case h_2 => exact (no_done h).elim
 rename_i aN
 obtain ⟨_, g1, a1, h⟩ := done_of h
 obtain ⟨q0, rfl⟩ := okIf_done a1
 have q0 := flat0_is q0
 obtain ⟨⟨w, E⟩, g3, a3, h⟩ := done_of h
 obtain ⟨qf, kk, ff⟩ := netRd_done a3
 dsimp only at h ff
 obtain ⟨_, g6, a6, h⟩ := done_of h
 obtain ⟨_, g7, a7, h⟩ := done_of h
 obtain ⟨_, g8, a8, h⟩ := done_of h
 obtain ⟨b1, b2, b3⟩ := setB_done a6
 obtain ⟨b4, b5, b6⟩ := setB_done a7
 obtain ⟨b7, b8, b9⟩ := setB_done a8
 have hx : g8.nx = g.nx := by rw [b8, b5, b2, kk.2.1]
 obtain ⟨N, g9, a9, h⟩ := done_of h
 obtain ⟨e1, e2, e3, e4⟩ := spNew_done a9
 obtain ⟨rfl, rfl⟩ := ret_done h
 refine netCall (K' := 15) (c := (bodyOf Try.f45)) Try.func45 (by kernel_rfl) (by kernel_rfl) (argsC := [.ptr ⟨false, 2, 0, 0⟩]) (fun hc => kk.2.2 (by rw [← b3, ← b6, ← b9, ← e4]; exact hc)) (N := aN.g) (w := w) (E := E) (fun hp => ff hp) (xl := []) (rx := fun _ => 0) (K0 := 9) (Nat.le_refl _) (fun hp M μ cs hr => ?_) (fun hp i b hb => by cases hb) (fun hp i j b b' hi => by cases hi) (bs := spB2 (treeL E w.n) (restL E w.n)) (nms := [9, 10]) rfl (by decide) (by decide) (by rw [e2, b7, b4, b1, kk.1, hx]; rfl) (by rw [e3, hx]; rfl) (fun b hb => by
   simp only [spB2, List.mem_cons, List.not_mem_nil, or_false] at hb
   rcases hb with rfl | rfl
   ·exact ⟨rfl, el_lowR, el_inS⟩
   ·exact ⟨rfl, el_lowR, el_inS⟩) (by
   rw [e1, hx]
   simp only [AV.low, lows, Bool.and_eq_true]
   exact ⟨Nat.ble_eq_true_of_le (show Nat.succ g.nx ≤ g.nx + 2 by omega), Nat.ble_eq_true_of_le (show Nat.succ (g.nx + 1) ≤ g.nx + 2 by omega), trivial⟩) (by
   rw [e1, hx]
   simp only [AV.inS, insS]
   exact ⟨⟨by show g.nx ≤ g.nx; omega, by show g.nx < g.nx + 2; omega⟩, ⟨by show g.nx ≤ g.nx + 1; omega, by show g.nx + 1 < g.nx + 2; omega⟩, trivial⟩) (fun hp kN => ?_)
 ·simp only [Reps] at hr ⊢
  obtain ⟨c1, l1, rfl, h1, rfl⟩ := hr
  exact ⟨c1, _, rfl, rep_ptr0 h1 q0.1 q0.2 (by omega) rfl, rfl⟩
 have F := ff hp
 rw [List.append_nil, netBL_is F]
 have k0 : kaG w g.nx [9, 10] g.nx = 9 := kN 0 (by simp)
 have k1 : kaG w g.nx [9, 10] (g.nx + 1) = 10 := kN 1 (by simp)
 refine (sp_goes w.n E F.n256).mono fun e fr' H' h => ?_
 obtain ⟨rfl, rfl, rfl⟩ := h
 refine ⟨.inl rfl, _, _, res2 (t := 2) (t' := 3) (by kernel_rfl) rfl rfl, trivial, ?_, ⟨rfl, rfl, rfl⟩, fun j b hb => ?_⟩
 ·simp only [AV.ren, rens, AA.ren, e1, hx, k0, k1, treeL_is, restL_is]
  exact AV.ge.refl _
 ·rw [treeL_is, restL_is] at hb
  match j, hb with
  | 0, hb => cases hb; exact ⟨_, rfl, rfl, rfl, rfl, fun j hj => rfl⟩
  | 1, hb => cases hb; exact ⟨_, rfl, rfl, rfl, rfl, fun j hj => rfl⟩

noncomputable def gamY : Known := kc 71 ofBits (kc 74 toBits (kc 72 smallS (kc 61 kindS (kc 58 rowOfS (kc 73 ofS (kc 59 nameS (kc 60 nodeS (kc 35 chkS (kc 12 netofS (kc 29 elsS (kc 46 alongS (kc 44 rootS (kc 41 joinS (kc 39 noneS (kc 40 ogS (kc 15 voltS (kc 45 splitS (kn))))))))))))))))))
theorem gamY_ok : KnownOk Try.prog gamY := kc_ok ((ofBits_is Try.prog).callIs Try.func71 (by kernel_rfl) (by kernel_rfl) (by kernel_rfl) (by kernel_rfl)) (kc_ok ((toBits_is Try.prog).callIs Try.func74 (by kernel_rfl) (by kernel_rfl) (by kernel_rfl) (by kernel_rfl)) (kc_ok smallS_ok (kc_ok kindS_ok (kc_ok rowOfS_ok (kc_ok ofS_ok (kc_ok nameS_ok (kc_ok nodeS_ok (kc_ok chkS_ok (kc_ok netofS_ok (kc_ok elsS_ok (kc_ok alongS_ok (kc_ok rootS_ok (kc_ok joinS_ok (kc_ok noneS_ok (kc_ok ogS_ok (kc_ok voltS_ok (kc_ok splitS_ok (kn_ok))))))))))))))))))
theorem gamY_tch : KnownT gamY := kc_tch Tch.ofBits (kc_tch Tch.toBits (kc_tch smallS_tch (kc_tch kindS_tch (kc_tch rowOfS_tch (kc_tch ofS_tch (kc_tch nameS_tch (kc_tch nodeS_tch (kc_tch chkS_tch (kc_tch netofS_tch (kc_tch elsS_tch (kc_tch alongS_tch (kc_tch rootS_tch (kc_tch joinS_tch (kc_tch noneS_tch (kc_tch ogS_tch (kc_tch voltS_tch (kc_tch splitS_tch (kn_tch))))))))))))))))))
noncomputable def callY : Calls' := Sx.runN Try.prog gamY (regionC Try.prog) 1000 50
theorem callY_ok : CallOk Try.prog callY := engineC gamY_ok gamY_tch (by kernel_rfl) (by kernel_rfl) 1000 50
theorem callY_reg (n : Nat) : RegionOk Try.prog (regionC Try.prog callY n) n := runN_regionC gamY_ok gamY_tch (by kernel_rfl) (by kernel_rfl) 1000 50 n
noncomputable abbrev piececallY (f : Func) (c : Code) (fr : Fr) (H : T ABk) (K : Nat) (path : List Bool) : Res (Ex × Fr) :=
 codeA Try.prog callY (regionC Try.prog callY f.ntmps) noLoops f.ntmps 1000 c fr ⟨H, K, [], path, True⟩


theorem rcY {fn : Func} {K K' B : Nat} {e : Ex} {F : tF} {Hl : tH} {c : Code} {fr : Fr} {H : T ABk} {path : List Bool} (h : PieceN K' e F Hl (piececallY fn c fr H K path)) (hB : B ≤ K) : GoesB Try.prog c fn.ntmps B K K' fr H fun e' fr' H' => e' = e ∧ fr' = frL F ∧ H' = hpL Hl := GoesB.runN callY_ok (callY_reg _) (LoopsIn.none _ _ _) h hB
theorem rdY {fn : Func} {K K' B : Nat} {e : Ex} {F : tF} {Hl : tH} {c : Code} {fr : Fr} {H : T ABk} (path : List Bool) {q : Prop} (hq : q) (hB : B ≤ K) (h : pieceN K' e F Hl (piececallY fn c fr H K path) = (e = e ∧ selfW F ∧ selfH Hl ∧ true = true ∧ q) := by kernel_rfl) : GoesB Try.prog c fn.ntmps B K K' fr H fun e' fr' H' => e' = e ∧ fr' = frL F ∧ H' = hpL Hl := rcY (eqn h hq) hB
def ends (l : List El) : List (Tx × Tx) := l.map fun z => (z.a, z.b)
theorem ends_snoc (l : List El) (z : El) : ends (l ++ [z]) = ends l ++ [(z.a, z.b)] := by simp [ends]
theorem ends_len (l : List El) : (ends l).length = l.length := by simp [ends]
theorem eget_is {l : List El} {i : Nat} (h : i < l.length) : eget l i = l[i] := by
 unfold eget
 rw [List.getD_eq_getElem?_getD, List.getElem?_eq_getElem h]; rfl
theorem edT_eget (l : List El) : edT (eget l) l.length = ends l := by
 apply List.ext_getElem?
 intro i
 by_cases h : i < l.length
 ·rw [edT_get _ h, eget_is h]
  simp [ends, h]
 ·rw [List.getElem?_eq_none (by rw [edT_len]; omega), List.getElem?_eq_none (by rw [ends_len]; omega)]
section
variable (zl : tM) (E : tE)
theorem jl_t {i : Nat} (h : jsel (E i) = true) : jl E (i + 1) = jl E i ++ [((E i).a, (E i).b)] := by
 conv => lhs; unfold jl
 rw [h, cond_true]
theorem jl_f {i : Nat} (h : jsel (E i) = false) : jl E (i + 1) = jl E i := by
 conv => lhs; unfold jl
 rw [h, cond_false]
theorem spT_t {i : Nat} (h : (jsel (E i) && !jsame zl E i) = true) : spT zl E (i + 1) = spT zl E i ++ [E i] := by
 conv => lhs; unfold spT
 rw [h, cond_true]
theorem spT_f {i : Nat} (h : (jsel (E i) && !jsame zl E i) = false) : spT zl E (i + 1) = spT zl E i := by
 conv => lhs; unfold spT
 rw [h, cond_false]
theorem spR_t {i : Nat} (h : (jsel (E i) && jsame zl E i) = true) : spR zl E (i + 1) = spR zl E i ++ [E i] := by
 conv => lhs; unfold spR
 rw [h, cond_true]
theorem spR_f {i : Nat} (h : (jsel (E i) && jsame zl E i) = false) : spR zl E (i + 1) = spR zl E i := by
 conv => lhs; unfold spR
 rw [h, cond_false]
/-- the tree's classes are those of all that join, and it is a forest -/
theorem sp_inv : ∀ i, (∀ a b, cls (plc zl) (jl E i) a = cls (plc zl) (jl E i) b ↔ cls (plc zl) (ends (spT zl E i)) a = cls (plc zl) (ends (spT zl E i)) b) ∧ ∀ k p, (ends (spT zl E i))[k]? = some p → cls (plc zl) ((ends (spT zl E i)).take k) p.1 ≠ cls (plc zl) ((ends (spT zl E i)).take k) p.2
 | 0 => ⟨fun a b => Iff.rfl, fun k p h => by simp [spT, ends] at h⟩
 | i + 1 => by
  obtain ⟨h1, h2⟩ := sp_inv i
  cases hs : jsel (E i) with
  | false =>
   rw [spT_f zl E (by rw [hs]; rfl), jl_f E hs]
   exact ⟨h1, h2⟩
  | true =>
   rw [jl_t E hs]
   cases hj : jsame zl E i with
   | true =>
    have hc : cls (plc zl) (jl E i) (E i).a = cls (plc zl) (jl E i) (E i).b := of_decide_eq_true hj
    rw [spT_f zl E (by rw [hs, hj]; rfl)]
    refine ⟨fun a b => ?_, h2⟩
    rw [cls_join, ← h1]
    constructor
    ·rintro (h | ⟨ha | ha, hb | hb⟩)
     ·exact h
     ·exact ha.trans hb.symm
     ·exact ha.trans (hc.trans hb.symm)
     ·exact ha.trans (hc.symm.trans hb.symm)
     ·exact ha.trans hb.symm
    ·exact .inl
   | false =>
    have hc : ¬ cls (plc zl) (jl E i) (E i).a = cls (plc zl) (jl E i) (E i).b := of_decide_eq_false hj
    rw [spT_t zl E (by rw [hs, hj]; rfl), ends_snoc]
    refine ⟨fun a b => ?_, fun k p hk => ?_⟩
    ·rw [cls_join, cls_join, h1, h1, h1, h1, h1]
    ·by_cases c : k < (ends (spT zl E i)).length
     ·rw [List.getElem?_append_left c] at hk
      rw [List.take_append_of_le_length (by omega)]
      exact h2 k p hk
     ·rw [List.getElem?_append_right (by omega)] at hk
      by_cases d : k = (ends (spT zl E i)).length
      ·subst d
       rw [Nat.sub_self] at hk
       cases hk
       rw [List.take_append_of_le_length (Nat.le_refl _), List.take_length]
       exact fun e => hc ((h1 _ _).2 e)
      ·rw [List.getElem?_eq_none (by simp; omega)] at hk
       cases hk
theorem tree_forest (n : Nat) : ∃ cl : Nat → Tx → Nat, Forest (edT (eget (spT zl E n)) (spT zl E n).length) cl := by
 rw [edT_eget]
 exact ⟨_, forest_of (plc zl) _ (sp_inv zl E n).2⟩
end
theorem shut_nil {α : Type} (A : α → Nat) : ¬ shut A [] := fun ⟨i, p, h, _⟩ => by simp at h
theorem shut_snoc {α : Type} (A : α → Nat) (l : List (α × α)) (p : α × α) : shut A (l ++ [p]) ↔ shut A l ∨ cls A l p.1 = cls A l p.2 := by
 constructor
 ·rintro ⟨i, q, h1, h2⟩
  by_cases c : i < l.length
  ·rw [List.getElem?_append_left c] at h1
   rw [List.take_append_of_le_length (by omega)] at h2
   exact .inl ⟨i, q, h1, h2⟩
  ·by_cases d : i = l.length
   ·subst d
    rw [List.getElem?_append_right (Nat.le_refl _), Nat.sub_self] at h1
    cases h1
    rw [List.take_append_of_le_length (Nat.le_refl _), List.take_length] at h2
    exact .inr h2
   ·rw [List.getElem?_eq_none (by simp; omega)] at h1
    cases h1
 ·rintro (⟨i, q, h1, h2⟩ | h)
  ·have c : i < l.length := (List.getElem?_eq_some_iff.1 h1).1
   exact ⟨i, q, by rw [List.getElem?_append_left c]; exact h1, by rw [List.take_append_of_le_length (by omega)]; exact h2⟩
  ·exact ⟨l.length, p, by rw [List.getElem?_append_right (Nat.le_refl _), Nat.sub_self]; rfl, by rw [List.take_append_of_le_length (Nat.le_refl _), List.take_length]; exact h⟩
theorem shV_succ (zl : tM) (E : tE) (n : Nat) : shV zl E (n + 1) = (shV zl E n || vfail zl E n) := by
 unfold shV
 rw [List.range_succ, List.any_append]
 simp
theorem shV_shut (zl : tM) (E : tE) : ∀ n, shV zl E n = true ↔ shut (plc zl) (vl E n)
 | 0 => ⟨fun h => by simp [shV] at h, fun h => absurd h (shut_nil _)⟩
 | n + 1 => by
  rw [shV_succ, Bool.or_eq_true, shV_shut zl E n]
  unfold vfail
  conv => rhs; unfold vl
  cases hs : vsel (E n) with
  | true => rw [cond_true, shut_snoc, Bool.true_and, decide_eq_true_eq]
  | false => rw [cond_false, Bool.false_and]; exact ⟨fun h => h.elim id fun h => absurd h (by decide), .inl⟩
theorem spR_shut (zl : tM) (E : tE) : ∀ n, 0 < (spR zl E n).length ↔ shut (plc zl) (jl E n)
 | 0 => ⟨fun h => absurd h (by simp [spR]), fun h => absurd h (shut_nil _)⟩
 | n + 1 => by
  have ih := spR_shut zl E n
  cases hs : jsel (E n) with
  | false => rw [spR_f zl E (by rw [hs]; rfl), jl_f E hs]; exact ih
  | true =>
   rw [jl_t E hs, shut_snoc, ← ih]
   cases hj : jsame zl E n with
   | true =>
    rw [spR_t zl E (by rw [hs, hj]; rfl)]
    exact ⟨fun _ => .inr (of_decide_eq_true hj), fun _ => by simp⟩
   | false =>
    rw [spR_f zl E (by rw [hs, hj]; rfl)]
    exact ⟨.inl, fun h => h.elim id fun h => absurd h (of_decide_eq_false hj)⟩
/-- the net of the Voltages and Amplifiers alone -/
def mkO (z : El) : El := ⟨bif decide (z.k = 7) then 2 else 1, (bif decide (z.k = 7) then 76 else 82) :: z.n.drop 1, z.a, z.b, [], [], 4607182418800017408, 0⟩
def onl (E : tE) : Nat → List El
 | 0 => []
 | i + 1 => bif vsel (E i) then onl E i ++ [mkO (E i)] else onl E i
theorem onl_len (E : tE) : ∀ n, (onl E n).length ≤ n
 | 0 => Nat.le_refl _
 | n + 1 => by
  have := onl_len E n
  unfold onl
  cases vsel (E n) <;> simp <;> omega
theorem onl_ends (E : tE) : ∀ n, ends (onl E n) = vl E n
 | 0 => rfl
 | n + 1 => by
  have := onl_ends E n
  unfold onl vl
  cases vsel (E n) with
  | true => rw [cond_true, cond_true, ends_snoc, this]; rfl
  | false => exact this
theorem mem_onl {E : tE} {z : El} : ∀ {n : Nat}, z ∈ onl E n → ∃ i, i < n ∧ vsel (E i) = true ∧ z = mkO (E i)
 | n + 1, h => by
  unfold onl at h
  cases hs : vsel (E n) with
  | true =>
   rw [hs, cond_true] at h
   rcases List.mem_append.1 h with h | h
   ·obtain ⟨i, h1, h2⟩ := mem_onl h
    exact ⟨i, by omega, h2⟩
   ·exact ⟨n, by omega, hs, List.mem_singleton.1 h⟩
  | false =>
   rw [hs, cond_false] at h
   obtain ⟨i, h1, h2⟩ := mem_onl h
   exact ⟨i, by omega, h2⟩
theorem onl_mem {E : tE} {i : Nat} : ∀ {n : Nat}, i < n → vsel (E i) = true → mkO (E i) ∈ onl E n
 | n + 1, h, hs => by
  unfold onl
  by_cases c : i < n
  ·have := onl_mem c hs
   cases vsel (E n) with
   | true => exact List.mem_append.2 (.inl this)
   | false => exact this
  ·obtain rfl : i = n := by omega
   rw [hs, cond_true]
   exact List.mem_append.2 (.inr (List.mem_singleton.2 rfl))
theorem jl_all (L : List El) (h : ∀ z ∈ L, jsel z = true) : ∀ i, i ≤ L.length → jl (eget L) i = (ends L).take i
 | 0, _ => by rw [List.take_zero]; rfl
 | i + 1, hi => by
  have hm : eget L i ∈ L := by rw [eget_is (by omega)]; exact List.getElem_mem _
  rw [jl_t _ (h _ hm), jl_all L h i (by omega), List.take_add_one, eget_is (by omega)]
  simp [ends, show i < L.length by omega]
theorem mkO_sel (z : El) : jsel (mkO z) = true := by
 unfold jsel mkO
 cases decide (z.k = 7) <;> rfl
theorem jl_onl (E : tE) (n : Nat) : jl (eget (onl E n)) (onl E n).length = vl E n := by
 rw [jl_all _ (fun z hz => by obtain ⟨i, _, _, rfl⟩ := mem_onl hz; exact mkO_sel _) _ (Nat.le_refl _), ← ends_len, List.take_length, onl_ends]
/-! ### the net of them alone may be -/
theorem pos_getD {x : Tx} : ∀ {l : List Tx} {i : Nat}, pos x l = some i → l.getD i [] = x
 | y :: l, i, h => by
  unfold pos at h
  cases e : x == y with
  | true =>
   rw [e, cond_true] at h
   cases h
   exact (eq_of_beq e).symm
  | false =>
   rw [e, cond_false] at h
   cases q : pos x l with
   | none => rw [q] at h; cases h
   | some j => rw [q] at h; cases h; exact pos_getD (l := l) q
theorem plc_is (l : List Tx) (x : Tx) : plc (zipF 0 l) x = (pos x l).getD 0 := by
 unfold plc
 rw [find_zip]
 cases pos x l with
 | none => rfl
 | some i => show ((0 + i : Nat) : Int).toNat = i; omega
theorem plc_inj {l : List Tx} {x y : Tx} (hx : x ∈ l) (hy : y ∈ l) : plc (zipF 0 l) x = plc (zipF 0 l) y ↔ x = y := by
 constructor
 ·intro h
  rw [plc_is, plc_is] at h
  cases ex : pos x l with
  | none => exact absurd hx (pos_none.1 ex)
  | some i =>
   cases ey : pos y l with
   | none => exact absurd hy (pos_none.1 ey)
   | some j =>
    rw [ex, ey] at h
    obtain rfl : i = j := h
    rw [← pos_getD ex, ← pos_getD ey]
 ·intro h; rw [h]
theorem mem_addN {l : List Tx} {x y : Tx} : x ∈ addN l y ↔ x ∈ l ∨ (x = y ∧ y ≠ [] ∧ y ≠ [48]) := by
 unfold addN
 cases e1 : y == [] with
 | true =>
  have : y = [] := eq_of_beq e1
  simp [this]
 | false =>
  have h1 : y ≠ [] := fun h => by rw [h] at e1; exact absurd e1 (by decide)
  cases e2 : y == [48] with
  | true =>
   have : y = [48] := eq_of_beq e2
   simp [this]
  | false =>
   have h2 : y ≠ [48] := fun h => by rw [h] at e2; exact absurd e2 (by decide)
   cases e3 : pos y l with
   | none => simp [h1, h2]
   | some i =>
    have hm : y ∈ l := by
     by_cases c : y ∈ l
     ·exact c
     ·rw [pos_none.2 c] at e3; cases e3
    simp only [Option.isSome, Bool.true_or, cond_true]
    exact ⟨.inl, fun h => h.elim id fun h => by rw [h.1]; exact hm⟩
theorem mem_ND {E : tE} {x : Tx} : ∀ {n : Nat}, x ∈ ND E n ↔ (∃ i, i < n ∧ (x = (E i).a ∨ x = (E i).b ∨ x = (E i).c ∨ x = (E i).d)) ∧ x ≠ [] ∧ x ≠ [48]
 | 0 => by
  constructor
  ·intro h; simp [ND] at h
  ·rintro ⟨⟨i, h, _⟩, _⟩; exact absurd h (Nat.not_lt_zero _)
 | n + 1 => by
  unfold ND
  rw [mem_addN, mem_addN, mem_addN, mem_addN, mem_ND]
  constructor
  ·rintro ((((⟨⟨i, h1, h2⟩, h3⟩ | ⟨rfl, h⟩) | ⟨rfl, h⟩) | ⟨rfl, h⟩) | ⟨rfl, h⟩)
   ·exact ⟨⟨i, by omega, h2⟩, h3⟩
   ·exact ⟨⟨n, by omega, .inl rfl⟩, h⟩
   ·exact ⟨⟨n, by omega, .inr (.inl rfl)⟩, h⟩
   ·exact ⟨⟨n, by omega, .inr (.inr (.inl rfl))⟩, h⟩
   ·exact ⟨⟨n, by omega, .inr (.inr (.inr rfl))⟩, h⟩
  ·rintro ⟨⟨i, h1, h2⟩, h3⟩
   by_cases c : i < n
   ·exact .inl (.inl (.inl (.inl ⟨⟨i, c, h2⟩, h3⟩)))
   ·obtain rfl : i = n := by omega
    rcases h2 with rfl | rfl | rfl | rfl
    ·exact .inl (.inl (.inl (.inr ⟨rfl, h3⟩)))
    ·exact .inl (.inl (.inr ⟨rfl, h3⟩))
    ·exact .inl (.inr ⟨rfl, h3⟩)
    ·exact .inr ⟨rfl, h3⟩
theorem addN_nodup {l : List Tx} {x : Tx} (h : l.Nodup) : (addN l x).Nodup := by
 unfold addN
 cases e : (pos x l).isSome || x == [] || x == [48] with
 | true => exact h
 | false =>
  rw [cond_false]
  simp only [Bool.or_eq_false_iff] at e
  have hp : pos x l = none := by
   cases q : pos x l with
   | none => rfl
   | some i => rw [q] at e; exact absurd (show true = false from e.1.1) (by decide)
  rw [List.nodup_append]
  exact ⟨h, by simp, fun a ha b hb e => by rw [List.mem_singleton.1 hb] at e; rw [e] at ha; exact pos_none.1 hp ha⟩
theorem ND_nodup (E : tE) : ∀ n, (ND E n).Nodup
 | 0 => List.nodup_nil
 | n + 1 => by unfold ND; exact addN_nodup (addN_nodup (addN_nodup (addN_nodup (ND_nodup E n))))
theorem nodup_sub : ∀ {l l' : List Tx}, l.Nodup → (∀ x ∈ l, x ∈ l') → l.length ≤ l'.length
 | [], l', _, _ => Nat.zero_le _
 | x :: l, l', h, hs => by
  obtain ⟨h1, h2⟩ := List.nodup_cons.1 h
  have hx := hs x (by simp)
  have h3 := nodup_sub (l := l) (l' := l'.erase x) h2 fun y hy => by
   have hne : y ≠ x := fun e => h1 (e ▸ hy)
   exact (List.mem_erase_of_ne hne).2 (hs y (by simp [hy]))
  rw [List.length_erase_of_mem hx] at h3
  have := List.length_pos_of_mem hx
  simp only [List.length_cons]
  omega
theorem ofE_all {chk : El → Int} {E : tE} {n : Nat} : ∀ m, m ≤ n → (ofE chk E n m).1 = 0 → (∀ j, n - m ≤ j → j < n → badE chk E j = 0) ∧ (ofE chk E n 0).1 = 0
 | 0, _, h => ⟨fun j h1 h2 => absurd h1 (by omega), h⟩
 | m + 1, hm, h => by
  unfold ofE at h
  by_cases b : badE chk E (n - (m + 1)) = 0
  ·rw [decide_eq_true b, cond_true] at h
   obtain ⟨h1, h2⟩ := ofE_all m (by omega) h
   refine ⟨fun j k1 k2 => ?_, h2⟩
   by_cases c : j = n - (m + 1)
   ·rw [c]; exact b
   ·exact h1 j (by omega) k2
  ·rw [decide_eq_false b, cond_false] at h
   exact absurd h b
theorem ofE_of {chk : El → Int} {E : tE} {n : Nat} (hb : ∀ j, j < n → badE chk E j = 0) : ∀ m, m ≤ n → ofE chk E n m = ofE chk E n 0
 | 0, _ => rfl
 | m + 1, hm => by
  conv => lhs; unfold ofE
  rw [decide_eq_true (hb _ (by omega)), cond_true]
  exact ofE_of hb m (by omega)
/-- what Of asks of a net -/
structure GdN (n : Nat) (E : tE) : Prop where
 n256 : n ≤ 256
 bad : ∀ j, j < n → badE chkE E j = 0
 nd : (ND E n).length ≤ 32
theorem of_gdn {n : Nat} {E : tE} (h : (ofX E n).1 = 0) : GdN n E := by
 rw [ofX_is] at h
 unfold ofR at h
 by_cases c : 256 < n
 ·rw [decide_eq_true c, cond_true] at h
  exact absurd h (by decide)
 ·rw [decide_eq_false c, cond_false] at h
  obtain ⟨h1, h2⟩ := ofE_all n (Nat.le_refl _) h
  refine ⟨by omega, fun j hj => h1 j (by omega) hj, ?_⟩
  by_cases d : 32 < (ND E n).length
  ·unfold ofE at h2
   rw [decide_eq_true d, Bool.true_or, cond_true] at h2
   exact absurd h2 (by decide)
  ·omega
theorem gdn_of {n : Nat} {E : tE} (h : GdN n E) (hb : BR E n = []) : (ofX E n).1 = 0 := by
 rw [ofX_is]
 unfold ofR
 rw [decide_eq_false (by have := h.n256; omega), cond_false, ofE_of h.bad n (Nat.le_refl _)]
 unfold ofE
 have := h.nd
 rw [hb, decide_eq_false (by omega), decide_eq_false (by simp; omega)]
 rfl
theorem bad_of {E : tE} {i : Nat} (h : badE chkE E i = 0) : chkE (E i) = 0 ∧ pos (E i).n (NM E i) = none := by
 unfold badE at h
 by_cases c : chkE (E i) = 0
 ·rw [decide_eq_true c, cond_true] at h
  refine ⟨c, ?_⟩
  cases e : pos (E i).n (NM E i) with
  | none => rfl
  | some j => rw [e] at h; exact absurd (show (9 : Int) = 0 from h) (by decide)
 ·rw [decide_eq_false c, cond_false] at h
  exact absurd h c
theorem of_bad {E : tE} {i : Nat} (h : chkE (E i) = 0) (hp : pos (E i).n (NM E i) = none) : badE chkE E i = 0 := by
 unfold badE
 rw [decide_eq_true h, cond_true, hp]
 rfl
theorem NM_eget (L : List El) : ∀ i, i ≤ L.length → NM (eget L) i = (L.take i).map (·.n)
 | 0, _ => by rw [List.take_zero]; rfl
 | i + 1, h => by
  unfold NM
  rw [NM_eget L i (by omega), List.take_add_one, List.map_append, eget_is (by omega), List.getElem?_eq_getElem (by omega)]
  rfl
theorem mem_NM {E : tE} {x : Tx} : ∀ {n : Nat}, x ∈ NM E n ↔ ∃ i, i < n ∧ x = (E i).n
 | 0 => ⟨fun h => by simp [NM] at h, fun ⟨i, h, _⟩ => absurd h (Nat.not_lt_zero _)⟩
 | n + 1 => by
  unfold NM
  rw [List.mem_append, mem_NM, List.mem_singleton]
  constructor
  ·rintro (⟨i, h, e⟩ | e)
   ·exact ⟨i, by omega, e⟩
   ·exact ⟨n, by omega, e⟩
  ·rintro ⟨i, h, e⟩
   by_cases c : i < n
   ·exact .inl ⟨i, c, e⟩
   ·obtain rfl : i = n := by omega
    exact .inr e
/-! ### what value.Check asks -/
theorem chk_facts {z : El} (h : chkE z = 0) : name_1 z.n = true ∧ name_0 z.n = z.k ∧ node_0 z.a = true ∧ node_0 z.b = true ∧ (z.a == z.b) = false := by
 unfold chkE chk_0 at h
 cases e1 : rowOf_5 z.k
 ·rw [e1] at h; exact absurd (show (2 : Int) = 0 from h) (by decide)
 rw [e1, cond_true] at h
 cases e2 : name_1 z.n
 ·rw [e2] at h; exact absurd (show (8 : Int) = 0 from h) (by decide)
 rw [e2, cond_true] at h
 by_cases e3 : name_0 z.n = z.k
 case neg => rw [decide_eq_false e3] at h; exact absurd (show (8 : Int) = 0 from h) (by decide)
 rw [decide_eq_true e3, cond_true] at h
 cases e4 : node_0 z.a
 ·rw [e4] at h; exact absurd (show (8 : Int) = 0 from h) (by decide)
 rw [e4, cond_true] at h
 cases e5 : node_0 z.b
 ·rw [e5] at h; exact absurd (show (8 : Int) = 0 from h) (by decide)
 rw [e5, cond_true] at h
 refine ⟨rfl, e3, rfl, rfl, ?_⟩
 cases e6 : z.a == z.b
 ·rfl
 rw [e6] at h
 cases e7 : rowOf_3 z.k
 ·rw [e7] at h; exact absurd (show (2 : Int) = 0 from h) (by decide)
 rw [e7, cond_true] at h
 cases e8 : node_0 z.c
 ·rw [e8] at h; exact absurd (show (8 : Int) = 0 from h) (by decide)
 rw [e8, cond_true] at h
 cases e9 : node_0 z.d
 ·rw [e9] at h; exact absurd (show (8 : Int) = 0 from h) (by decide)
 rw [e9] at h; exact absurd (show (2 : Int) = 0 from h) (by decide)
theorem node_ne {l : Tx} (h : node_0 l = true) : l ≠ [] := fun e => by
 rw [e] at h
 exact absurd h (by decide)
theorem take_tail (c : UInt8) (t : Tx) : List.take (List.length (c :: t) - 1) (List.drop 1 (c :: t)) = t := by simp
theorem name_cons {c : UInt8} {t : Tx} (h1 : 1 ≤ t.length) (h2 : t.length ≤ 15) (h3 : t.all okB = true) : name_1 (c :: t) = of_1 ((c.toNat : Nat) : Int) ∧ name_0 (c :: t) = of_0 ((c.toNat : Nat) : Int) := by
 unfold name_1 name_0
 rw [take_tail, h3, decide_eq_false (by simp; omega), decide_eq_false (by simp; omega)]
 exact ⟨rfl, rfl⟩
theorem name_parts {l : Tx} (h : name_1 l = true) : ∃ c t, l = c :: t ∧ 1 ≤ t.length ∧ t.length ≤ 15 ∧ t.all okB = true := by
 cases l with
 | nil => exact absurd h (by decide)
 | cons c t =>
  refine ⟨c, t, rfl, ?_⟩
  unfold name_1 at h
  rw [take_tail] at h
  by_cases c1 : ((List.length (c :: t) : Nat) : Int) < 2
  ·rw [decide_eq_true c1] at h; cases h
  rw [decide_eq_false c1, cond_false] at h
  by_cases c2 : (16 : Int) < ((List.length (c :: t) : Nat) : Int)
  ·rw [decide_eq_true c2] at h; cases h
  rw [decide_eq_false c2, cond_false] at h
  simp only [List.length_cons] at c1 c2
  refine ⟨by omega, by omega, ?_⟩
  cases e : t.all okB with
  | true => rfl
  | false => rw [e] at h; cases h
theorem of0_5 {x : Int} (h : of_0 x = 5) : x = 86 := by
 unfold of_0 at h
 by_cases c : (86 : Int) = x
 ·exact c.symm
 ·by_cases c1 : (82 : Int) = x
  ·rw [decide_eq_true c1] at h; exact absurd (show (1 : Int) = 5 from h) (by decide)
  by_cases c2 : (76 : Int) = x
  ·rw [decide_eq_false c1, decide_eq_true c2] at h; exact absurd (show (2 : Int) = 5 from h) (by decide)
  by_cases c3 : (67 : Int) = x
  ·rw [decide_eq_false c1, decide_eq_false c2, decide_eq_true c3] at h; exact absurd (show (3 : Int) = 5 from h) (by decide)
  by_cases c4 : (73 : Int) = x
  ·rw [decide_eq_false c1, decide_eq_false c2, decide_eq_false c3, decide_eq_true c4] at h; exact absurd (show (4 : Int) = 5 from h) (by decide)
  by_cases c5 : (71 : Int) = x
  ·rw [decide_eq_false c1, decide_eq_false c2, decide_eq_false c3, decide_eq_false c4, decide_eq_false c, decide_eq_true c5] at h; exact absurd (show (6 : Int) = 5 from h) (by decide)
  by_cases c6 : (69 : Int) = x
  ·rw [decide_eq_false c1, decide_eq_false c2, decide_eq_false c3, decide_eq_false c4, decide_eq_false c, decide_eq_false c5, decide_eq_true c6] at h; exact absurd (show (7 : Int) = 5 from h) (by decide)
  by_cases c7 : (80 : Int) = x
  ·rw [decide_eq_false c1, decide_eq_false c2, decide_eq_false c3, decide_eq_false c4, decide_eq_false c, decide_eq_false c5, decide_eq_false c6, decide_eq_true c7] at h; exact absurd (show (8 : Int) = 5 from h) (by decide)
  rw [decide_eq_false c1, decide_eq_false c2, decide_eq_false c3, decide_eq_false c4, decide_eq_false c, decide_eq_false c5, decide_eq_false c6, decide_eq_false c7] at h
  exact absurd (show (0 : Int) = 5 from h) (by decide)
theorem of0_7 {x : Int} (h : of_0 x = 7) : x = 69 := by
 unfold of_0 at h
 by_cases c6 : (69 : Int) = x
 ·exact c6.symm
 ·by_cases c1 : (82 : Int) = x
  ·rw [decide_eq_true c1] at h; exact absurd (show (1 : Int) = 7 from h) (by decide)
  by_cases c2 : (76 : Int) = x
  ·rw [decide_eq_false c1, decide_eq_true c2] at h; exact absurd (show (2 : Int) = 7 from h) (by decide)
  by_cases c3 : (67 : Int) = x
  ·rw [decide_eq_false c1, decide_eq_false c2, decide_eq_true c3] at h; exact absurd (show (3 : Int) = 7 from h) (by decide)
  by_cases c4 : (73 : Int) = x
  ·rw [decide_eq_false c1, decide_eq_false c2, decide_eq_false c3, decide_eq_true c4] at h; exact absurd (show (4 : Int) = 7 from h) (by decide)
  by_cases c : (86 : Int) = x
  ·rw [decide_eq_false c1, decide_eq_false c2, decide_eq_false c3, decide_eq_false c4, decide_eq_true c] at h; exact absurd (show (5 : Int) = 7 from h) (by decide)
  by_cases c5 : (71 : Int) = x
  ·rw [decide_eq_false c1, decide_eq_false c2, decide_eq_false c3, decide_eq_false c4, decide_eq_false c, decide_eq_true c5] at h; exact absurd (show (6 : Int) = 7 from h) (by decide)
  by_cases c7 : (80 : Int) = x
  ·rw [decide_eq_false c1, decide_eq_false c2, decide_eq_false c3, decide_eq_false c4, decide_eq_false c, decide_eq_false c5, decide_eq_false c6, decide_eq_true c7] at h; exact absurd (show (8 : Int) = 7 from h) (by decide)
  rw [decide_eq_false c1, decide_eq_false c2, decide_eq_false c3, decide_eq_false c4, decide_eq_false c, decide_eq_false c5, decide_eq_false c6, decide_eq_false c7] at h
  exact absurd (show (0 : Int) = 7 from h) (by decide)
theorem u8_of {c : UInt8} {k : Nat} (h : ((c.toNat : Nat) : Int) = (k : Nat)) (hk : k < 256) : c = UInt8.ofNat k := by
 apply UInt8.toNat_inj.1
 rw [UInt8.toNat_ofNat']
 omega
/-- the name of a Voltage or an Amplifier -/
theorem sel_name {z : El} (h : chkE z = 0) (hs : vsel z = true) : ∃ t, z.n = (bif decide (z.k = 7) then 69 else 86) :: t ∧ 1 ≤ t.length ∧ t.length ≤ 15 ∧ t.all okB = true ∧ (z.k = 5 ∨ z.k = 7) := by
 obtain ⟨h1, h2, _⟩ := chk_facts h
 obtain ⟨c, t, e, k1, k2, k3⟩ := name_parts h1
 obtain ⟨m1, m2⟩ := name_cons (c := c) k1 k2 k3
 rw [e, m2] at h2
 unfold vsel at hs
 rcases Bool.or_eq_true _ _ ▸ hs with hk | hk
 ·have hk := of_decide_eq_true hk
  rw [hk] at h2
  have := u8_of (k := 86) (of0_5 h2) (by omega)
  refine ⟨t, ?_, k1, k2, k3, .inl hk⟩
  rw [e, this, hk]; rfl
 ·have hk := of_decide_eq_true hk
  rw [hk] at h2
  have := u8_of (k := 69) (of0_7 h2) (by omega)
  refine ⟨t, ?_, k1, k2, k3, .inr hk⟩
  rw [e, this, hk]; rfl
theorem chk_mkO {z : El} (h : chkE z = 0) (hs : vsel z = true) : chkE (mkO z) = 0 := by
 obtain ⟨h1, h2, h3, h4, h5⟩ := chk_facts h
 obtain ⟨t, e, k1, k2, k3, hk⟩ := sel_name h hs
 have hd : z.n.drop 1 = t := by rw [e]; rfl
 unfold chkE chk_0 mkO
 simp only [hd]
 rcases hk with hk | hk
 ·rw [hk]
  obtain ⟨m1, m2⟩ := name_cons (c := 82) k1 k2 k3
  show (bif rowOf_5 1 then bif name_1 (82 :: t) then bif decide (name_0 (82 :: t) = 1) then _ else _ else _ else _) = (0 : Int)
  rw [m1, m2, show rowOf_5 1 = true from rfl, show of_1 (((82 : UInt8).toNat : Nat) : Int) = true from rfl, show of_0 (((82 : UInt8).toNat : Nat) : Int) = 1 from rfl, h3, h4, h5]
  kernel_rfl
 ·rw [hk]
  obtain ⟨m1, m2⟩ := name_cons (c := 76) k1 k2 k3
  show (bif rowOf_5 2 then bif name_1 (76 :: t) then bif decide (name_0 (76 :: t) = 2) then _ else _ else _ else _) = (0 : Int)
  rw [m1, m2, show rowOf_5 2 = true from rfl, show of_1 (((76 : UInt8).toNat : Nat) : Int) = true from rfl, show of_0 (((76 : UInt8).toNat : Nat) : Int) = 2 from rfl, h3, h4, h5]
  kernel_rfl
theorem mkO_name {x y : El} (hx : chkE x = 0) (sx : vsel x = true) (hy : chkE y = 0) (sy : vsel y = true) (h : (mkO x).n = (mkO y).n) : x.n = y.n := by
 obtain ⟨t, e, _, _, _, hk⟩ := sel_name hx sx
 obtain ⟨t', e', _, _, _, hk'⟩ := sel_name hy sy
 have h' : (bif decide (x.k = 7) then (76 : UInt8) else 82) :: t = (bif decide (y.k = 7) then (76 : UInt8) else 82) :: t' := by
  have : (mkO x).n = (bif decide (x.k = 7) then (76 : UInt8) else 82) :: t := by unfold mkO; rw [e]; rfl
  have q : (mkO y).n = (bif decide (y.k = 7) then (76 : UInt8) else 82) :: t' := by unfold mkO; rw [e']; rfl
  rw [← this, ← q, h]
 rw [e, e']
 cases hx : decide (x.k = 7) <;> cases hy : decide (y.k = 7) <;> rw [hx, hy] at h' <;> simp only [cond_true, cond_false, List.cons.injEq] at h' ⊢
 ·exact ⟨trivial, h'.2⟩
 ·exact absurd h'.1 (by decide)
 ·exact absurd h'.1 (by decide)
 ·exact ⟨trivial, h'.2⟩
theorem onl_nm {E : tE} : ∀ n, (∀ j, j < n → badE chkE E j = 0) → ∀ j, j < (onl E n).length → pos (eget (onl E n) j).n (((onl E n).take j).map (·.n)) = none
 | 0, _, j, h => absurd h (by simp [onl])
 | n + 1, hb, j, h => by
  have ih := onl_nm n fun j hj => hb j (by omega)
  unfold onl at h ⊢
  cases hs : vsel (E n) with
  | false =>
   rw [hs, cond_false] at h
   exact ih j h
  | true =>
   rw [hs, cond_true] at h
   rw [cond_true]
   by_cases c : j < (onl E n).length
   ·rw [List.take_append_of_le_length (by omega), show eget (onl E n ++ [mkO (E n)]) j = eget (onl E n) j by
     unfold eget
     rw [List.getD_eq_getElem?_getD, List.getElem?_append_left c, ← List.getD_eq_getElem?_getD]]
    exact ih j c
   ·obtain rfl : j = (onl E n).length := by simp at h; omega
    rw [List.take_append_of_le_length (Nat.le_refl _), List.take_length, show eget (onl E n ++ [mkO (E n)]) (onl E n).length = mkO (E n) by
     unfold eget
     rw [List.getD_eq_getElem?_getD, List.getElem?_append_right (Nat.le_refl _), Nat.sub_self]; rfl]
    refine pos_none.2 fun hm => ?_
    obtain ⟨z, hz, e⟩ := List.mem_map.1 hm
    obtain ⟨i, hi, si, rfl⟩ := mem_onl hz
    have bi := bad_of (hb i (by omega))
    have bn := bad_of (hb n (by omega))
    have := mkO_name bi.1 si bn.1 hs e
    exact pos_none.1 bn.2 (mem_NM.2 ⟨i, hi, this.symm⟩)
theorem onl_BR (E : tE) (n : Nat) : ∀ i, i ≤ (onl E n).length → BR (eget (onl E n)) i = []
 | 0, _ => rfl
 | i + 1, h => by
  have hm : eget (onl E n) i ∈ onl E n := by rw [eget_is (by omega)]; exact List.getElem_mem _
  obtain ⟨j, _, _, e⟩ := mem_onl hm
  unfold BR
  rw [onl_BR E n i (by omega), e]
  unfold isBr mkO
  cases decide ((E j).k = 7) <;> rfl
theorem onl_gd {n : Nat} {E : tE} (g : GdN n E) : GdN (onl E n).length (eget (onl E n)) := by
 have hmem : ∀ j, j < (onl E n).length → ∃ i, i < n ∧ vsel (E i) = true ∧ eget (onl E n) j = mkO (E i) := fun j hj => by
  apply mem_onl
  rw [eget_is hj]
  exact List.getElem_mem _
 refine ⟨by have := onl_len E n; have := g.n256; omega, fun j hj => ?_, ?_⟩
 ·obtain ⟨i, hi, si, e⟩ := hmem j hj
  refine of_bad (by rw [e]; exact chk_mkO (bad_of (g.bad i hi)).1 si) ?_
  rw [NM_eget _ _ (by omega)]
  exact onl_nm n g.bad j hj
 ·refine Nat.le_trans (nodup_sub (ND_nodup _ _) fun x hx => ?_) g.nd
  obtain ⟨⟨j, hj, hx⟩, hn⟩ := mem_ND.1 hx
  obtain ⟨i, hi, si, e⟩ := hmem j hj
  rw [e] at hx
  refine mem_ND.2 ⟨⟨i, hi, ?_⟩, hn⟩
  rcases hx with rfl | rfl | rfl | rfl
  ·exact .inl rfl
  ·exact .inr (.inl rfl)
  ·exact absurd rfl hn.1
  ·exact absurd rfl hn.1
/-- what the statement says, in plain words -/
theorem volts_law {n : Nat} {E : tE} (h : (ofX E n).1 = 0) : (ofX (eget (onl E n)) (onl E n).length).1 = 0 ∧ (voltB E n = decide ((0 : Int) < (((restL (eget (onl E n)) (onl E n).length).length : Nat) : Int))) ∧ (onl E n = [] → voltB E n = false) := by
 have g := of_gdn h
 refine ⟨gdn_of (onl_gd g) (onl_BR E n _ (Nat.le_refl _)), ?_, fun e => ?_⟩
 ·rw [voltB_is, restL_is]
  have h1 := shV_shut (zipF 0 (g0 :: ND E n)) E n
  have h2 := spR_shut (zipF 0 (g0 :: ND (eget (onl E n)) (onl E n).length)) (eget (onl E n)) (onl E n).length
  rw [jl_onl] at h2
  have hmem : ∀ i, i < n → vsel (E i) = true → ∀ x, (x = (E i).a ∨ x = (E i).b) → x ∈ g0 :: ND (eget (onl E n)) (onl E n).length := fun i hi si x hx => by
   have f := chk_facts (bad_of (g.bad i hi)).1
   by_cases c : x = [48]
   ·rw [c]; exact List.mem_cons.2 (.inl rfl)
   ·refine List.mem_cons.2 (.inr (mem_ND.2 ⟨?_, ?_, c⟩))
    ·obtain ⟨j, hj, e⟩ := List.mem_iff_getElem.1 (onl_mem hi si)
     refine ⟨j, hj, ?_⟩
     rw [eget_is hj, e]
     exact hx.elim .inl fun h => .inr (.inl h)
    ·rcases hx with rfl | rfl
     ·exact node_ne f.2.2.1
     ·exact node_ne f.2.2.2.1
  have hsub : ∀ x, x ∈ g0 :: ND (eget (onl E n)) (onl E n).length → x ∈ g0 :: ND E n := fun x hx => by
   rcases List.mem_cons.1 hx with rfl | hx
   ·exact List.mem_cons.2 (.inl rfl)
   ·obtain ⟨⟨j, hj, hx⟩, hn⟩ := mem_ND.1 hx
    have hm : eget (onl E n) j ∈ onl E n := by rw [eget_is hj]; exact List.getElem_mem _
    obtain ⟨i, hi, si, e⟩ := mem_onl hm
    rw [e] at hx
    refine List.mem_cons.2 (.inr (mem_ND.2 ⟨⟨i, hi, ?_⟩, hn⟩))
    rcases hx with rfl | rfl | rfl | rfl
    ·exact .inl rfl
    ·exact .inr (.inl rfl)
    ·exact absurd rfl hn.1
    ·exact absurd rfl hn.1
  have h3 := shut_sim (A := plc (zipF 0 (g0 :: ND E n))) (A' := plc (zipF 0 (g0 :: ND (eget (onl E n)) (onl E n).length))) (V := fun x => x ∈ g0 :: ND (eget (onl E n)) (onl E n).length) (fun a b ha hb => (plc_inj (hsub a ha) (hsub b hb)).trans (plc_inj ha hb).symm) (vl E n) (fun p hp => by
   rw [← onl_ends] at hp
   obtain ⟨z, hz, rfl⟩ := List.mem_map.1 hp
   obtain ⟨i, hi, si, rfl⟩ := mem_onl hz
   exact ⟨hmem i hi si _ (.inl rfl), hmem i hi si _ (.inr rfl)⟩)
  have key : shV (zipF 0 (g0 :: ND E n)) E n = true ↔ (0 : Int) < (((spR (zipF 0 (g0 :: ND (eget (onl E n)) (onl E n).length)) (eget (onl E n)) (onl E n).length).length : Nat) : Int) := by
   rw [h1, h3, ← h2]
   omega
  show shV (zipF 0 (g0 :: ND E n)) E n = _
  cases q : shV (zipF 0 (g0 :: ND E n)) E n with
  | true => rw [decide_eq_true (key.1 q)]
  | false => rw [decide_eq_false fun c => by rw [key.2 c] at q; cases q]
 ·rw [voltB_is]
  have h1 := shV_shut (zipF 0 (g0 :: ND E n)) E n
  show shV (zipF 0 (g0 :: ND E n)) E n = false
  cases q : shV (zipF 0 (g0 :: ND E n)) E n with
  | false => rfl
  | true =>
   have := h1.1 q
   rw [← onl_ends, e] at this
   exact absurd this (shut_nil _)


theorem loA (B : Nat) (hB : B ≤ 9) (n q r : Nat) (E : tE) (nd br : Nat → List UInt8) (M1 M2 M3 : List (List UInt8 × Int)) : GoesB Try.prog ((nav [0] (bodyOf Try.f19))) Try.f19.ntmps B 9 9 (frameOf [.ptr ⟨false, 2, 0, 0⟩] 0 .e) (hpL [(2, .cells false 7 1 (.fn fun _ => netR 6 7 8 n q r)), (3, .mSI true M1), (4, .mSI true M2), (5, .mSI true M3), (6, .cells false 8 n (.fn fun j => elR (E j))), (7, .cells false 1 q (.fn (txR nd))), (8, .cells false 1 r (.fn (txR br)))]) (pP .normal [(0, .ptr ⟨false, 2, 0, 0⟩)] [(2, .cells false 7 1 (.fn fun x => (netR 6 7 8 n q r))), (3, ABk.mSI true M1), (4, ABk.mSI true M2), (5, ABk.mSI true M3), (6, .cells false 8 n (.fn fun j => (elR (E j)))), (7, .cells false 1 q (.fn (txR nd))), (8, .cells false 1 r (.fn (txR br)))]) := rdY [] trivial hB
theorem loB (B : Nat) (hB : B ≤ 9) (n q r : Nat) (E : tE) (nd br : Nat → List UInt8) (M1 M2 M3 : List (List UInt8 × Int)) (x0 : (NetQ n q r n q r M1 M2 M3 (Cont.row (.fn fun j => elR (E j))) (Cont.row (.fn (txR nd))) (Cont.row (.fn (txR br))))) : GoesB Try.prog ((nav [1,0] (bodyOf Try.f19))) Try.f19.ntmps B 9 9 (frL [(0, .ptr ⟨false, 2, 0, 0⟩)]) (hpL [(2, .cells false 7 1 (.fn fun _ => netR 6 7 8 n q r)), (3, .mSI true M1), (4, .mSI true M2), (5, .mSI true M3), (6, .cells false 8 n (.fn fun j => elR (E j))), (7, .cells false 1 q (.fn (txR nd))), (8, .cells false 1 r (.fn (txR br)))]) (pP .normal [(0, .ptr ⟨false, 2, 0, 0⟩)] [(2, .cells false 7 1 (.fn fun x => (netR 6 7 8 n q r))), (3, ABk.mSI true (zipF 0 (NM (rowsE (Cont.row (.fn fun j => elR (E j)))) n))), (4, ABk.mSI true (zipF 0 (ND (rowsE (Cont.row (.fn fun j => elR (E j)))) n))), (5, ABk.mSI true (zipF 0 (BR (rowsE (Cont.row (.fn fun j => elR (E j)))) n))), (6, .cells false 8 n (.fn fun j => (elR (E j)))), (7, .cells false 1 q (.fn (txR nd))), (8, .cells false 1 r (.fn (txR br)))]) := rdY [] (I1 x0) hB
theorem loC (B : Nat) (hB : B ≤ 9) (n q r : Nat) (E : tE) (nd br : Nat → List UInt8) (M1 M2 M3 : List (List UInt8 × Int)) : GoesB Try.prog ((nav [1,1,0] (bodyOf Try.f19))) Try.f19.ntmps B 9 9 (frL [(0, .ptr ⟨false, 2, 0, 0⟩)]) (hpL [(2, .cells false 7 1 (.fn fun _ => netR 6 7 8 n q r)), (3, .mSI true M1), (4, .mSI true M2), (5, .mSI true M3), (6, .cells false 8 n (.fn fun j => elR (E j))), (7, .cells false 1 q (.fn (txR nd))), (8, .cells false 1 r (.fn (txR br)))]) (pP .normal [(0, .ptr ⟨false, 2, 0, 0⟩), (3, .nils)] [(2, .cells false 7 1 (.fn fun x => (netR 6 7 8 n q r))), (3, ABk.mSI true M1), (4, ABk.mSI true M2), (5, ABk.mSI true M3), (6, .cells false 8 n (.fn fun j => (elR (E j)))), (7, .cells false 1 q (.fn (txR nd))), (8, .cells false 1 r (.fn (txR br)))]) := rdY [] trivial hB
theorem loD (B : Nat) (hB : B ≤ 10) (n q r : Nat) (E : tE) (nd br : Nat → List UInt8) (M1 M2 M3 : List (List UInt8 × Int)) (x0 : (NetQ n q r n q r M1 M2 M3 (Cont.row (.fn fun j => elR (E j))) (Cont.row (.fn (txR nd))) (Cont.row (.fn (txR br))))) : GoesB Try.prog ((nav [1,1,1,0] (bodyOf Try.f19))) Try.f19.ntmps B 10 12 (frL [(0, .ptr ⟨false, 2, 0, 0⟩), (3, sL 9 0)]) (hpL [(2, .cells false 7 1 (.fn fun _ => netR 6 7 8 n q r)), (3, .mSI true M1), (4, .mSI true M2), (5, .mSI true M3), (6, .cells false 8 n (.fn fun j => elR (E j))), (7, .cells false 1 q (.fn (txR nd))), (8, .cells false 1 r (.fn (txR br))), (9, .cells true 1 0 (.fn fun _ => [.any1]))]) (pP .normal [(3, sL 9 0), (4, sL 10 (List.length (treeL (rowsE (Cont.row (.fn fun j => elR (E j)))) n))), (5, sL 11 (List.length (restL (rowsE (Cont.row (.fn fun j => elR (E j)))) n)))] [(2, .cells false 7 1 (.fn fun x => (netR 6 7 8 n q r))), (3, ABk.mSI true (zipF 0 (NM (rowsE (Cont.row (.fn fun j => elR (E j)))) n))), (4, ABk.mSI true (zipF 0 (ND (rowsE (Cont.row (.fn fun j => elR (E j)))) n))), (5, ABk.mSI true (zipF 0 (BR (rowsE (Cont.row (.fn fun j => elR (E j)))) n))), (6, .cells false 8 n (.fn fun j => (elR (E j)))), (7, .cells false 1 q (.fn (txR nd))), (8, .cells false 1 r (.fn (txR br))), (9, .cells true 1 0 (.fn fun x => [.any1])), (10, .cells true 8 (List.length (treeL (rowsE (Cont.row (.fn fun j => elR (E j)))) n)) (.fn fun j => (elR (eget (treeL (rowsE (Cont.row (.fn fun j => elR (E j)))) n) j)))), (11, .cells true 8 (List.length (restL (rowsE (Cont.row (.fn fun j => elR (E j)))) n)) (.fn fun j => (elR (eget (restL (rowsE (Cont.row (.fn fun j => elR (E j)))) n) j))))]) := rdY [] (I1 x0) hB
theorem loE (B : Nat) (hB : B ≤ 12) (t s k : Nat) (T R : tE) (nd br : Nat → List UInt8) (M1 M2 M3 : List (List UInt8 × Int)) : GoesB Try.prog ((nav [1,1,1,1,0,0] (bodyOf Try.f19))) Try.f19.ntmps B 12 12 (frL [(3, sL 9 k), (4, sL 10 t), (5, sL 11 s)]) (hpL [(9, .cells true 1 k (.fn fun _ => [.any1])), (10, .cells true 8 t (.fn fun j => elR (T j))), (11, .cells true 8 s (.fn fun j => elR (R j)))]) (pP .normal [(3, sL 9 k), (4, sL 10 t), (15, sL 11 s), (16, iT (↑s : Int)), (17, .int false .i64 0)] [(9, .cells true 1 k (.fn fun x => [.any1])), (10, .cells true 8 t (.fn fun j => (elR (T j)))), (11, .cells true 8 s (.fn fun j => (elR (R j))))]) := rdY [] trivial hB
theorem loF (B : Nat) (hB : B ≤ 12) (t s i k : Nat) (T R : tE) (nd br : Nat → List UInt8) (M1 M2 M3 : List (List UInt8 × Int)) : GoesB Try.prog ((nav [1,1,1,1,0,1,0,0,0] (bodyOf Try.f19))) Try.f19.ntmps B 12 12 (frL [(3, sL 9 k), (4, sL 10 t), (15, sL 11 s), (16, iT (s : Int)), (17, iT (i : Int))]) (hpL [(9, .cells true 1 k (.fn fun _ => [.any1])), (10, .cells true 8 t (.fn fun j => elR (T j))), (11, .cells true 8 s (.fn fun j => elR (R j)))]) (pP .normal [(3, sL 9 k), (4, sL 10 t), (15, sL 11 s), (16, iT (↑s : Int)), (17, iT (↑i : Int)), (18, .sbool (decide ((↑i : Int) < (↑s : Int))))] [(9, .cells true 1 k (.fn fun x => [.any1])), (10, .cells true 8 t (.fn fun j => (elR (T j)))), (11, .cells true 8 s (.fn fun j => (elR (R j))))]) := rdY [] trivial hB
theorem loX (B : Nat) (hB : B ≤ 12) (t s i k : Nat) (T R : tE) (nd br : Nat → List UInt8) (M1 M2 M3 : List (List UInt8 × Int)) (b : Bool) : GoesB Try.prog ((nav [1,1,1,1,0,1,0,0,1,0] (bodyOf Try.f19))) Try.f19.ntmps B 12 12 (frL [(3, sL 9 k), (4, sL 10 t), (15, sL 11 s), (16, iT (s : Int)), (17, iT (i : Int)), (18, .sbool b)]) (hpL [(9, .cells true 1 k (.fn fun _ => [.any1])), (10, .cells true 8 t (.fn fun j => elR (T j))), (11, .cells true 8 s (.fn fun j => elR (R j)))]) fun e fr' H' => (cond (b) (pP .normal [(3, sL 9 k), (4, sL 10 t), (15, sL 11 s), (16, iT (↑s : Int)), (17, iT (↑i : Int))] [(9, .cells true 1 k (.fn fun x => [.any1])), (10, .cells true 8 t (.fn fun j => (elR (T j)))), (11, .cells true 8 s (.fn fun j => (elR (R j))))] e fr' H') (pP (.exit 0) [(3, sL 9 k), (4, sL 10 t), (15, sL 11 s), (16, iT (↑s : Int)), (17, iT (↑i : Int))] [(9, .cells true 1 k (.fn fun x => [.any1])), (10, .cells true 8 t (.fn fun j => (elR (T j)))), (11, .cells true 8 s (.fn fun j => (elR (R j))))] e fr' H')) := cI (fun t0 => rdY [tT] (I1 t0) hB) (fun t0 => rdY [fF] (I1 t0) hB)
theorem loG (B : Nat) (hB : B ≤ 12) (t s i k : Nat) (T R : tE) (nd br : Nat → List UInt8) (M1 M2 M3 : List (List UInt8 × Int)) (x0 : ((↑i : Int) < (↑s : Int))) (x1 : (0 + i < s)) : GoesB Try.prog ((nav [1,1,1,1,0,1,0,0,1,1,0,0,0] (bodyOf Try.f19))) Try.f19.ntmps B 12 13 (frL [(3, sL 9 k), (4, sL 10 t), (15, sL 11 s), (16, iT (s : Int)), (17, iT (i : Int))]) (hpL [(9, .cells true 1 k (.fn fun _ => [.any1])), (10, .cells true 8 t (.fn fun j => elR (T j))), (11, .cells true 8 s (.fn fun j => elR (R j)))]) (pP .normal [(3, sL 9 k), (4, sL 10 t), (15, sL 11 s), (16, iT (↑s : Int)), (17, iT (↑i : Int)), (7, .ptr ⟨false, 12, 0, 0⟩)] [(9, .cells true 1 k (.fn fun x => [.any1])), (10, .cells true 8 t (.fn fun j => (elR (T j)))), (11, .cells true 8 s (.fn fun j => (elR (R j)))), (12, .cells true 8 1 (.lit [] (Sx.T.n Sx.T.e (Option.some (elR (R (0 + i)))) Sx.T.e)))]) := rdY [] (I3 (ai (show 0 ≤ (↑i : Int) by omega) x0) x1 (show 8 ≤ 8 by omega)) hB
theorem loH (B : Nat) (hB : B ≤ 13) (t s i k : Nat) (T R : tE) (nd br : Nat → List UInt8) (M1 M2 M3 : List (List UInt8 × Int)) (x0 : (t ≤ 256)) (x1 : (∀ (j : Nat), j < t → RowGe (elR (T (0 + j))) (elR (rowsE (rowsOf ⟨false, 10, 0, 0⟩ 8 8 (.fn fun j => elR (T j))) j)))) (x2 : (∃ cl, Forest (edT (rowsE (rowsOf ⟨false, 10, 0, 0⟩ 8 8 (.fn fun j => elR (T j)))) t) cl)) (x3 : (∀ (j : Nat), j < t → ∀ (u : AV), u ∈ elR (T (0 + j)) → AV.low 0 u = true)) (x4 : (∀ (i_1 : Nat), i_1 < alN (rowsE fun j => (elR (T (0 + j)))) t (El.b (R i)) (El.a (R i)) → ∀ (o : Nat) (v : AV), [.str true (alG (rowsE fun j => (elR (T (0 + j)))) t (El.b (R i)) (El.a (R i)) i_1)][o]? = Option.some v → AV.inS (fun g => inR [(0, 13), (14, 15), (14, 14), (14, 14), (14, 14), (14, 14), (14, 14)] g = true) v)) (x5 : (0 + alN (rowsE fun j => (elR (T (0 + j)))) t (El.b (R i)) (El.a (R i)) ≤ alN (rowsE (rowsOf ⟨false, 10, 0, 0⟩ 8 8 (.fn fun j => elR (T j)))) t (El.b (R i)) (El.a (R i)))) (x6 : ((1 + alN (rowsE (rowsOf ⟨false, 10, 0, 0⟩ 8 8 (.fn fun j => elR (T j)))) t (El.b (R i)) (El.a (R i))) * 16 ≤ 140737488355328)) (x7 : (1 + alN (rowsE (rowsOf ⟨false, 10, 0, 0⟩ 8 8 (.fn fun j => elR (T j)))) t (El.b (R i)) (El.a (R i)) ≤ 9223372036854775807)) (x8 : (∀ (i_1 : Nat), i_1 < 1 + alN (rowsE (rowsOf ⟨false, 10, 0, 0⟩ 8 8 (.fn fun j => elR (T j)))) t (El.b (R i)) (El.a (R i)) → ∀ (o : Nat) (v : AV), (bif decide (i_1 < 1) then [.str true (El.n (R i))] else bif Nat.beq (alN (rowsE (rowsOf ⟨false, 10, 0, 0⟩ 8 8 (.fn fun j => elR (T j)))) t (El.b (R i)) (El.a (R i))) 1 then [.str true (alG (rowsE fun j => (elR (T (0 + j)))) t (El.b (R i)) (El.a (R i)) 0)] else [.str true (alG (rowsE fun j => (elR (T (0 + j)))) t (El.b (R i)) (El.a (R i)) (0 + (i_1 - 1)))])[o]? = Option.some v → AV.inS (fun g => inR [(0, 13), (15, 16), (14, 15), (14, 14), (14, 14), (14, 14), (14, 14), (14, 14), (13, 14), (13, 13), (13, 13)] g = true) v)) (x9 : ((k + 1) * 24 ≤ 140737488355328)) (x10 : (k + 1 ≤ 9223372036854775807)) (x11 : (∀ (i_1 : Nat), i_1 < k + 1 → ∀ (o : Nat) (v : AV), (bif decide (i_1 < k) then [.any1] else [sL 15 (1 + alN (rowsE (rowsOf ⟨false, 10, 0, 0⟩ 8 8 (.fn fun j => elR (T j)))) t (El.b (R i)) (El.a (R i)))])[o]? = Option.some v → AV.inS (fun g => inR [(0, 13), (17, 18), (16, 17), (15, 16), (14, 15), (14, 14), (14, 14), (14, 14), (14, 14), (14, 14), (13, 14), (13, 13), (13, 13), (13, 13)] g = true) v)) : GoesB Try.prog ((nav [1,1,1,1,0,1,0,0,1,1,0,0,1] (bodyOf Try.f19))) Try.f19.ntmps B 13 18 (frL [(3, sL 9 k), (4, sL 10 t), (15, sL 11 s), (16, iT (s : Int)), (17, iT (i : Int)), (7, .ptr ⟨false, 12, 0, 0⟩)]) (hpL [(9, .cells true 1 k (.fn fun _ => [.any1])), (10, .cells true 8 t (.fn fun j => elR (T j))), (11, .cells true 8 s (.fn fun j => elR (R j))), (12, .cells true 8 1 (.fn fun _ => elR (R i)))]) (pP .normal [(3, sL 17 (k + 1)), (4, sL 10 t), (15, sL 11 s), (16, iT (↑s : Int)), (17, iT (↑i : Int))] [(10, .cells true 8 t (.fn fun j => (elR (T j)))), (11, .cells true 8 s (.fn fun j => (elR (R j)))), (17, .cells true 1 (k + 1) (.fn fun j => bif decide (j < k) then [.any1] else [sL 15 (1 + alN (rowsE (rowsOf ⟨false, 10, 0, 0⟩ 8 8 (.fn fun j => elR (T j)))) t (El.b (R i)) (El.a (R i)))]))]) := rdY [] (I8 (show 0 + t ≤ t by omega) (ai (ai x0 (ai x1 x2)) x3) x4 x5 (ai (show 1 ≤ 1 by omega) (ai x6 x7)) x8 (ai (show k ≤ k by omega) (ai x9 x10)) x11) hB
theorem loJ (B : Nat) (hB : B ≤ 12) (t s i k : Nat) (T R : tE) (nd br : Nat → List UInt8) (M1 M2 M3 : List (List UInt8 × Int)) (x0 : ((↑i : Int) + 1 ≤ (9223372036854775807 : Int))) : GoesB Try.prog ((nav [1,1,1,1,0,1,0,0,1,1,1] (bodyOf Try.f19))) Try.f19.ntmps B 12 12 (frL [(3, sL 9 k), (4, sL 10 t), (15, sL 11 s), (16, iT (s : Int)), (17, iT (i : Int))]) (hpL [(9, .cells true 1 k (.fn fun _ => [.any1])), (10, .cells true 8 t (.fn fun j => elR (T j))), (11, .cells true 8 s (.fn fun j => elR (R j)))]) (pP .normal [(3, sL 9 k), (4, sL 10 t), (15, sL 11 s), (16, iT (↑s : Int)), (17, iT ((↑i : Int) + 1))] [(9, .cells true 1 k (.fn fun x => [.any1])), (10, .cells true 8 t (.fn fun j => (elR (T j)))), (11, .cells true 8 s (.fn fun j => (elR (R j))))]) := rdY [] (I1 (ai (show -9223372036854775808 ≤ (↑i : Int) + 1 by omega) x0)) hB
theorem loI (B : Nat) (hB : B ≤ 12) (k : Nat) (nd br : Nat → List UInt8) (M1 M2 M3 : List (List UInt8 × Int)) : GoesB Try.prog ((nav [1,1,1,1,1] (bodyOf Try.f19))) Try.f19.ntmps B 12 12 (frL [(3, sL 9 k)]) (hpL [(9, .cells true 1 k (.fn fun _ => [.any1]))]) (pP .ret [(2, sL 9 k)] [(9, .cells true 1 k (.fn fun x => [.any1]))]) := rdY [] trivial hB
theorem atB_weakG {n B K : Nat} {H : T ABk} {μ : MM} {w w' : World} {H' : T ABk} {fr' : Fr} {a a' : Act} {fl : tF} {bl : tH} (hf : Ge fr' fl) (hH : GeG H' bl) (h : AtB n B K H μ w H' fr' a a' w') : AtB n B K H μ w (hpL bl) (frL fl) a a' w' := by
 obtain ⟨μ', k1, k2, k3, k4⟩ := h.of
 have G := fun i b (hb : (hpL bl).get i = some b) => hH.get _ (hpL_get hb)
 refine ⟨μ', ⟨fun i b hb => ?_, fun i b hb => ?_, fun i b j b' hi hj ho hr hr' he => ?_⟩, ⟨k2.names, k2.os, k2.tape, k2.output, k2.size, k2.block, fun b hb hm => k2.may b hb ?_⟩, ⟨k3.size, fun t v ht => ?_⟩, k4⟩
 ·obtain ⟨b0, h1, h2⟩ := G i b hb; exact k1.lt i b0 h1
 ·obtain ⟨b0, h1, h2⟩ := G i b hb; exact h2.ok (k1.ok i b0 h1)
 ·obtain ⟨b0, h1, h2⟩ := G i b hi
  obtain ⟨b1, l1, l2⟩ := G j b' hj
  exact k1.sep i b0 j b1 h1 l1 (by rw [h2.owned]; exact ho) ((h2.real _ _).2 hr) ((l2.real _ _).2 hr') he
 ·obtain ⟨i, x, m1, m2, m3, m4⟩ := hm
  obtain ⟨b0, h1, h2⟩ := G i x m1
  exact ⟨i, b0, h1, by rw [h2.owned]; exact m2, (h2.real _ _).2 m3, m4⟩
 ·obtain ⟨u, h1, h2⟩ := hf.get _ (frL_get ht)
  exact h2 _ _ _ (k3.val t u h1)
theorem goes_postG {P : Program} {n B K K' : Nat} {c : Code} {fr : Fr} {H : T ABk} {Post Post' : Po} (h : GoesB P c n B K K' fr H Post) (k : ∀ e fr' H', Post e fr' H' → ∃ fl bl, Ge fr' fl ∧ GeG H' bl ∧ Post' e (frL fl) (hpL bl)) : GoesB P c n B K K' fr H Post' :=
 fun μ w a hg hf Q hQ => h μ w a hg hf Q fun e fr' H' a' w' hp ha => by
  obtain ⟨fl, bl, h1, h2, h3⟩ := k _ _ _ hp
  exact hQ e _ _ a' w' h3 (atB_weakG h1 h2 ha)
theorem rowsE_el (G : tE) : (rowsE fun j => elR (G j)) = G := rfl
theorem rowsO_el (a : Nat) (G : tE) : rowsE (rowsOf ⟨false, a, 0, 0⟩ 8 8 (.fn fun j => elR (G j))) = G := funext fun j => by
 show unE (elR (G (0 + j))) = G j
 rw [Nat.zero_add]
 rfl
theorem ge_any1 {v : AV} (h : v.one = true) : AV.ge v .any1 := fun N μ c k => by
 simp only [Rep]
 exact Rep.oneCell k h
theorem alN_le (E : tE) (k : Nat) (z y : Tx) : alN E k z y ≤ k + 1 := by rw [alN_is]; exact alX_len E k z y
theorem str_inS {x : Tx} {o : Nat} {v : AV} {S : Nat → Prop} (h : [AV.str true x][o]? = some v) : v.inS S := by
 rw [List.mem_singleton.1 (List.mem_of_getElem? h)]; trivial
theorem lo_blk (t s i : Nat) (T R : tE) (ht : t ≤ 256) (hs : s ≤ 256) (hF : ∃ cl : Nat → Tx → Nat, Forest (edT T t) cl) (hi : i < s) :
  GoesB Try.prog (.block 1 (.seq (nav [1,1,1,1,0,1,0,0,1,1,0,0,0] (bodyOf Try.f19)) (nav [1,1,1,1,0,1,0,0,1,1,0,0,1] (bodyOf Try.f19)))) Try.f19.ntmps 9 12 12 (frL [(3, sL 9 i), (4, sL 10 t), (15, sL 11 s), (16, iT (s : Int)), (17, iT (i : Int))]) (hpL [(9, .cells true 1 i (.fn fun _ => [.any1])), (10, .cells true 8 t (.fn fun j => elR (T j))), (11, .cells true 8 s (.fn fun j => elR (R j)))]) (Nm [(3, sL 9 (i + 1)), (4, sL 10 t), (15, sL 11 s), (16, iT (s : Int)), (17, iT (i : Int))] [(9, .cells true 1 (i + 1) (.fn fun _ => [.any1])), (10, .cells true 8 t (.fn fun j => elR (T j))), (11, .cells true 8 s (.fn fun j => elR (R j)))]) := by
 have h1 : GoesB Try.prog (.block 1 (.seq (nav [1,1,1,1,0,1,0,0,1,1,0,0,0] (bodyOf Try.f19)) (nav [1,1,1,1,0,1,0,0,1,1,0,0,1] (bodyOf Try.f19)))) Try.f19.ntmps 9 12 18 (frL [(3, sL 9 i), (4, sL 10 t), (15, sL 11 s), (16, iT (s : Int)), (17, iT (i : Int))]) (hpL [(9, .cells true 1 i (.fn fun _ => [.any1])), (10, .cells true 8 t (.fn fun j => elR (T j))), (11, .cells true 8 s (.fn fun j => elR (R j)))]) (Nm [(3, sL 17 (i + 1)), (4, sL 10 t), (15, sL 11 s), (16, iT (s : Int)), (17, iT (i : Int))] [(17, .cells true 1 (i + 1) (.fn fun _ => [.any1])), (10, .cells true 8 t (.fn fun j => elR (T j))), (11, .cells true 8 s (.fn fun j => elR (R j)))]) := by
  refine GoesB.blockN ?_
  refine GoesB.seqN (K1 := 13) (F1 := [(3, sL 9 i), (4, sL 10 t), (15, sL 11 s), (16, iT (s : Int)), (17, iT (i : Int)), (7, .ptr ⟨false, 12, 0, 0⟩)]) (H1 := [(9, .cells true 1 i (.fn fun _ => [.any1])), (10, .cells true 8 t (.fn fun j => elR (T j))), (11, .cells true 8 s (.fn fun j => elR (R j))), (12, .cells true 8 1 (.fn fun _ => elR (R i)))]) (GoesB.toN (loG 9 (by omega) t s i i T R (fun _ => []) (fun _ => []) [] [] [] (by omega) (by omega)) (eGg rfl) ⟨(Sx.hs rfl), (Sx.hs rfl), (Sx.hs rfl), wk_hb rfl (by show elR (R (0 + i)) = elR (R i); rw [Nat.zero_add]), trivial⟩) (by omega) ?_
  have hN := alN_le T t (R i).b (R i).a
  have hH := loH 9 (by omega) t s i i T R (fun _ => []) (fun _ => []) [] [] []
  simp only [rowsO_el, Nat.zero_add, rowsE_el] at hH
  refine goes_postG (hH ht (fun j hj => RowGe_refl _ rfl) hF (fun j hj u hu => List.all_eq_true.1 (elR_low 0 _) u hu) (fun j hj o v hv => str_inS hv) (Nat.le_refl _) (by omega) (by omega) (fun j hj o v hv => ?_) (by omega) (by omega) (fun j hj o v hv => ?_)) fun e fr' H' h => ?_
  ·by_cases c : j < 1
   ·rw [decide_eq_true c, cond_true] at hv; exact str_inS hv
   ·rw [decide_eq_false c, cond_false] at hv
    cases q : Nat.beq (alN T t (R i).b (R i).a) 1 with
    | true => rw [q, cond_true] at hv; exact str_inS hv
    | false => rw [q, cond_false] at hv; exact str_inS hv
  ·by_cases c : j < i
   ·rw [decide_eq_true c, cond_true] at hv
    rw [List.mem_singleton.1 (List.mem_of_getElem? hv)]; trivial
   ·rw [decide_eq_false c, cond_false] at hv
    rw [List.mem_singleton.1 (List.mem_of_getElem? hv)]
    show inR _ 15 = true
    rfl
  ·obtain ⟨rfl, rfl, rfl⟩ := h
   refine ⟨[(3, sL 17 (i + 1)), (4, sL 10 t), (15, sL 11 s), (16, iT (s : Int)), (17, iT (i : Int))], [(17, .cells true 1 (i + 1) (.fn fun _ => [.any1])), (10, .cells true 8 t (.fn fun j => elR (T j))), (11, .cells true 8 s (.fn fun j => elR (R j)))], (eGg rfl), ⟨⟨_, rfl, rfl, rfl, rfl, fun j hj => ?_⟩, ⟨_, rfl, rfl, rfl, rfl, fun j _ => RowGe_refl _ rfl⟩, ⟨_, rfl, rfl, rfl, rfl, fun j _ => RowGe_refl _ rfl⟩, trivial⟩, rfl, rfl, rfl⟩
   show RowGe (bif decide (j < i) then [AV.any1] else [sL 15 (1 + alN T t (R i).b (R i).a)]) [AV.any1]
   by_cases c : j < i
   ·rw [decide_eq_true c, cond_true]; exact RowGe_refl _ rfl
   ·rw [decide_eq_false c, cond_false]; exact ⟨ge_any1 rfl, rfl, trivial⟩
 exact h1.renG fun e fr' H' h => by
  obtain ⟨rfl, rfl, rfl⟩ := h
  exact ⟨sg 9 17, [(3, sL 9 (i + 1)), (4, sL 10 t), (15, sL 11 s), (16, iT (s : Int)), (17, iT (i : Int))], [(9, .cells true 1 (i + 1) (.fn fun _ => [.any1])), (10, .cells true 8 t (.fn fun j => elR (T j))), (11, .cells true 8 s (.fn fun j => elR (R j)))], sg_low (by omega), (eRr rfl), ⟨rgR rfl rfl (fun j _ => rfl) (fun j _ => rfl) (by omega), rgR rfl rfl (fun j _ => rfl) (fun j _ => rfl) (by omega), rgR rfl rfl (fun j _ => rfl) (fun j _ => rfl) (by omega), trivial⟩, sg_inj (by omega), rfl, rfl, rfl⟩
theorem lo_body : (nav [1,1,1,1,0,1,0,0] (bodyOf Try.f19)) = .seq (nav [1,1,1,1,0,1,0,0,0] (bodyOf Try.f19)) (.seq (nav [1,1,1,1,0,1,0,0,1,0] (bodyOf Try.f19)) (.seq (.block 1 (.seq (nav [1,1,1,1,0,1,0,0,1,1,0,0,0] (bodyOf Try.f19)) (nav [1,1,1,1,0,1,0,0,1,1,0,0,1] (bodyOf Try.f19)))) (nav [1,1,1,1,0,1,0,0,1,1,1] (bodyOf Try.f19)))) := by kernel_rfl
theorem lo_is : (bodyOf Try.f19) = .seq (nav [0] (bodyOf Try.f19)) (.seq (nav [1,0] (bodyOf Try.f19)) (.seq (nav [1,1,0] (bodyOf Try.f19)) (.seq (nav [1,1,1,0] (bodyOf Try.f19)) (.seq (.seq (nav [1,1,1,1,0,0] (bodyOf Try.f19)) (.block 0 (.loop (nav [1,1,1,1,0,1,0,0] (bodyOf Try.f19))))) (nav [1,1,1,1,1] (bodyOf Try.f19)))))) := by kernel_rfl
theorem lo_step (t s i : Nat) (T R : tE) (ht : t ≤ 256) (hs : s ≤ 256) (hF : ∃ cl : Nat → Tx → Nat, Forest (edT T t) cl) (hi : i < s) :
  GoesB Try.prog (nav [1,1,1,1,0,1,0,0] (bodyOf Try.f19)) Try.f19.ntmps 9 12 12 (frL [(3, sL 9 i), (4, sL 10 t), (15, sL 11 s), (16, iT (s : Int)), (17, iT (i : Int))]) (hpL [(9, .cells true 1 i (.fn fun _ => [.any1])), (10, .cells true 8 t (.fn fun j => elR (T j))), (11, .cells true 8 s (.fn fun j => elR (R j)))]) (Nm [(3, sL 9 (i + 1)), (4, sL 10 t), (15, sL 11 s), (16, iT (s : Int)), (17, iT ((i + 1 : Nat) : Int))] [(9, .cells true 1 (i + 1) (.fn fun _ => [.any1])), (10, .cells true 8 t (.fn fun j => elR (T j))), (11, .cells true 8 s (.fn fun j => elR (R j)))]) := by
 rw [lo_body]
 refine GoesB.seqN (K1 := 12) (loF 9 (by omega) t s i i T R (fun _ => []) (fun _ => []) [] [] []) (by omega) ?_
 refine GoesB.seqN (K1 := 12) (F1 := [(3, sL 9 i), (4, sL 10 t), (15, sL 11 s), (16, iT (s : Int)), (17, iT (i : Int))]) (H1 := [(9, .cells true 1 i (.fn fun _ => [.any1])), (10, .cells true 8 t (.fn fun j => elR (T j))), (11, .cells true 8 s (.fn fun j => elR (R j)))]) ((loX 9 (by omega) t s i i T R (fun _ => []) (fun _ => []) [] [] [] (decide ((i : Int) < (s : Int)))).mono fun e fr' H' h => ?_) (by omega) ?_
 ·rw [decide_eq_true (by omega), cond_true] at h
  exact h
 refine GoesB.seqN (K1 := 12) (lo_blk t s i T R ht hs hF hi) (by omega) ?_
 exact GoesB.toN (loJ 9 (by omega) t s i (i + 1) T R (fun _ => []) (fun _ => []) [] [] [] (by omega)) ⟨re rfl, re rfl, re rfl, re rfl, ⟨_, rfl, AV.ge.int' _ _ _ (by omega)⟩, trivial⟩ (eHh rfl)
theorem lo_end (t s : Nat) (T R : tE) :
  GoesB Try.prog (nav [1,1,1,1,0,1,0,0] (bodyOf Try.f19)) Try.f19.ntmps 9 12 12 (frL [(3, sL 9 s), (4, sL 10 t), (15, sL 11 s), (16, iT (s : Int)), (17, iT (s : Int))]) (hpL [(9, .cells true 1 s (.fn fun _ => [.any1])), (10, .cells true 8 t (.fn fun j => elR (T j))), (11, .cells true 8 s (.fn fun j => elR (R j)))]) (Xm 0 [(3, sL 9 s), (4, sL 10 t), (15, sL 11 s), (16, iT (s : Int)), (17, iT (s : Int))] [(9, .cells true 1 s (.fn fun _ => [.any1])), (10, .cells true 8 t (.fn fun j => elR (T j))), (11, .cells true 8 s (.fn fun j => elR (R j)))]) := by
 rw [lo_body]
 refine GoesB.seqN (K1 := 12) (loF 9 (by omega) t s s s T R (fun _ => []) (fun _ => []) [] [] []) (by omega) ?_
 refine GoesB.seqX (K1 := 12) ((loX 9 (by omega) t s s s T R (fun _ => []) (fun _ => []) [] [] [] (decide ((s : Int) < (s : Int)))).mono fun e fr' H' h => ?_) (by omega)
 rw [decide_eq_false (by omega), cond_false] at h
 exact h
theorem lo_goes (n : Nat) (E : tE) (hn : n ≤ 256) :
  GoesB Try.prog (bodyOf Try.f19) Try.f19.ntmps 9 9 12 (frameOf [.ptr ⟨false, 2, 0, 0⟩] 0 .e) (hpL [(2, .cells false 7 1 (.fn fun _ => netR 6 7 8 n (ND E n).length (BR E n).length)), (3, .mSI true (zipF 0 (NM E n))), (4, .mSI true (zipF 0 (ND E n))), (5, .mSI true (zipF 0 (BR E n))), (6, .cells false 8 n (.fn fun j => elR (E j))), (7, .cells false 1 (ND E n).length (.fn (txR (lget (ND E n))))), (8, .cells false 1 (BR E n).length (.fn (txR (lget (BR E n)))))]) (fun e fr' H' => e = .ret ∧ fr' = frL [(2, sL 9 (restL E n).length)] ∧ H' = hpL [(9, .cells true 1 (restL E n).length (.fn fun _ => [.any1])), (2, .cells false 7 1 (.fn fun _ => netR 6 7 8 n (ND E n).length (BR E n).length)), (3, .mSI true (zipF 0 (NM E n))), (4, .mSI true (zipF 0 (ND E n))), (5, .mSI true (zipF 0 (BR E n))), (6, .cells false 8 n (.fn fun j => elR (E j))), (7, .cells false 1 (ND E n).length (.fn (txR (lget (ND E n))))), (8, .cells false 1 (BR E n).length (.fn (txR (lget (BR E n)))))]) := by
 have hq := net_q n E hn
 have lT : (treeL E n).length ≤ n := by rw [treeL_is]; exact spT_len _ E n
 have lR : (restL E n).length ≤ n := by rw [restL_is]; exact spR_len _ E n
 have hF : ∃ cl : Nat → Tx → Nat, Forest (edT (eget (treeL E n)) (treeL E n).length) cl := by rw [treeL_is]; exact tree_forest _ E n
 rw [lo_is]
 refine GoesB.seqN (K1 := 9) (loA 9 (by omega) n (ND E n).length (BR E n).length E (lget (ND E n)) (lget (BR E n)) (zipF 0 (NM E n)) (zipF 0 (ND E n)) (zipF 0 (BR E n))) (by omega) ?_
 refine GoesB.seqN (K1 := 9) (F1 := [(0, .ptr ⟨false, 2, 0, 0⟩)]) (H1 := [(2, .cells false 7 1 (.fn fun _ => netR 6 7 8 n (ND E n).length (BR E n).length)), (3, .mSI true (zipF 0 (NM E n))), (4, .mSI true (zipF 0 (ND E n))), (5, .mSI true (zipF 0 (BR E n))), (6, .cells false 8 n (.fn fun j => elR (E j))), (7, .cells false 1 (ND E n).length (.fn (txR (lget (ND E n))))), (8, .cells false 1 (BR E n).length (.fn (txR (lget (BR E n)))))]) (GoesB.toN (loB 9 (by omega) n (ND E n).length (BR E n).length E (lget (ND E n)) (lget (BR E n)) (zipF 0 (NM E n)) (zipF 0 (ND E n)) (zipF 0 (BR E n)) hq) ⟨re rfl, trivial⟩ (eHh rfl)) (by omega) ?_
 refine GoesB.seqN (K1 := 9) (loC 9 (by omega) n (ND E n).length (BR E n).length E (lget (ND E n)) (lget (BR E n)) (zipF 0 (NM E n)) (zipF 0 (ND E n)) (zipF 0 (BR E n))) (by omega) ?_
 refine GoesB.phantom 3 1 (fun _ => [.any1]) rfl (by omega) (by omega) ?_
 refine GoesB.weakL (fl := [(0, .ptr ⟨false, 2, 0, 0⟩), (3, sL 9 0)]) (bl := [(2, .cells false 7 1 (.fn fun _ => netR 6 7 8 n (ND E n).length (BR E n).length)), (3, .mSI true (zipF 0 (NM E n))), (4, .mSI true (zipF 0 (ND E n))), (5, .mSI true (zipF 0 (BR E n))), (6, .cells false 8 n (.fn fun j => elR (E j))), (7, .cells false 1 (ND E n).length (.fn (txR (lget (ND E n))))), (8, .cells false 1 (BR E n).length (.fn (txR (lget (BR E n))))), (9, .cells true 1 0 (.fn fun _ => [.any1]))]) (eGg rfl) (eHh rfl) ?_
 refine GoesB.seqN (K1 := 12) (F1 := [(3, sL 9 0), (4, sL 10 (treeL E n).length), (5, sL 11 (restL E n).length)]) (H1 := [(9, .cells true 1 0 (.fn fun _ => [.any1])), (10, .cells true 8 (treeL E n).length (.fn fun j => elR (eget (treeL E n) j))), (11, .cells true 8 (restL E n).length (.fn fun j => elR (eget (restL E n) j))), (2, .cells false 7 1 (.fn fun _ => netR 6 7 8 n (ND E n).length (BR E n).length)), (3, .mSI true (zipF 0 (NM E n))), (4, .mSI true (zipF 0 (ND E n))), (5, .mSI true (zipF 0 (BR E n))), (6, .cells false 8 n (.fn fun j => elR (E j))), (7, .cells false 1 (ND E n).length (.fn (txR (lget (ND E n))))), (8, .cells false 1 (BR E n).length (.fn (txR (lget (BR E n)))))]) (GoesB.toN (loD 9 (by omega) n (ND E n).length (BR E n).length E (lget (ND E n)) (lget (BR E n)) (zipF 0 (NM E n)) (zipF 0 (ND E n)) (zipF 0 (BR E n)) hq) (eGg rfl) (eHh rfl)) (by omega) ?_
 refine GoesB.seqN (K1 := 12) (F1 := [(3, sL 9 (restL E n).length), (4, sL 10 (treeL E n).length), (15, sL 11 (restL E n).length), (16, iT ((restL E n).length : Int)), (17, iT ((restL E n).length : Int))]) (H1 := [(9, .cells true 1 (restL E n).length (.fn fun _ => [.any1])), (10, .cells true 8 (treeL E n).length (.fn fun j => elR (eget (treeL E n) j))), (11, .cells true 8 (restL E n).length (.fn fun j => elR (eget (restL E n) j))), (2, .cells false 7 1 (.fn fun _ => netR 6 7 8 n (ND E n).length (BR E n).length)), (3, .mSI true (zipF 0 (NM E n))), (4, .mSI true (zipF 0 (ND E n))), (5, .mSI true (zipF 0 (BR E n))), (6, .cells false 8 n (.fn fun j => elR (E j))), (7, .cells false 1 (ND E n).length (.fn (txR (lget (ND E n))))), (8, .cells false 1 (BR E n).length (.fn (txR (lget (BR E n)))))]) ?_ (by omega) ?_
 ·have hr := GoesB.rounds (P := Try.prog) (n := Try.f19.ntmps) (B := 9) (K := 12) (id := 0) (restL E n).length (fun i => [(3, sL 9 i), (4, sL 10 (treeL E n).length), (15, sL 11 (restL E n).length), (16, iT ((restL E n).length : Int)), (17, iT ((i : Nat) : Int))]) (fun i => [(9, .cells true 1 i (.fn fun _ => [.any1])), (10, .cells true 8 (treeL E n).length (.fn fun j => elR (eget (treeL E n) j))), (11, .cells true 8 (restL E n).length (.fn fun j => elR (eget (restL E n) j)))]) (fun i hi => lo_step (treeL E n).length (restL E n).length i (eget (treeL E n)) (eget (restL E n)) (by omega) (by omega) hF hi) (lo_end (treeL E n).length (restL E n).length (eget (treeL E n)) (eget (restL E n)))
  exact (GoesB.seqN (K1 := 12) (F1 := [(3, sL 9 0), (4, sL 10 (treeL E n).length), (15, sL 11 (restL E n).length), (16, iT ((restL E n).length : Int)), (17, iT ((0 : Nat) : Int))]) (H1 := [(9, .cells true 1 0 (.fn fun _ => [.any1])), (10, .cells true 8 (treeL E n).length (.fn fun j => elR (eget (treeL E n) j))), (11, .cells true 8 (restL E n).length (.fn fun j => elR (eget (restL E n) j)))]) (GoesB.toN (loE 9 (by omega) (treeL E n).length (restL E n).length 0 (eget (treeL E n)) (eget (restL E n)) (fun _ => []) (fun _ => []) [] [] []) ⟨re rfl, re rfl, re rfl, re rfl, ⟨_, rfl, AV.ge.int _ _ _ _⟩, trivial⟩ (eHh rfl)) (by omega) hr).frameN (xl := [(2, .cells false 7 1 (.fn fun _ => netR 6 7 8 n (ND E n).length (BR E n).length)), (3, .mSI true (zipF 0 (NM E n))), (4, .mSI true (zipF 0 (ND E n))), (5, .mSI true (zipF 0 (BR E n))), (6, .cells false 8 n (.fn fun j => elR (E j))), (7, .cells false 1 (ND E n).length (.fn (txR (lget (ND E n))))), (8, .cells false 1 (BR E n).length (.fn (txR (lget (BR E n)))))]) (by omega) ⟨⟨by omega, fun j hj v hv => List.all_eq_true.1 (show (netR 6 7 8 n (ND E n).length (BR E n).length).all (fun v => v.low 9) = true from rfl) v hv⟩, ⟨by omega, trivial⟩, ⟨by omega, trivial⟩, ⟨by omega, trivial⟩, ⟨by omega, fun j hj v hv => List.all_eq_true.1 (show (elR (E j)).all (fun v => v.low 9) = true from rfl) v hv⟩, ⟨by omega, fun j hj v hv => List.all_eq_true.1 (show (txR (lget (ND E n)) j).all (fun v => v.low 9) = true from rfl) v hv⟩, ⟨by omega, fun j hj v hv => List.all_eq_true.1 (show (txR (lget (BR E n)) j).all (fun v => v.low 9) = true from rfl) v hv⟩, trivial⟩ rfl rfl ⟨.inl rfl, .inl rfl, .inl rfl, trivial⟩
 ·refine GoesB.weakL (fl := [(3, sL 9 (restL E n).length)]) (bl := [(9, .cells true 1 (restL E n).length (.fn fun _ => [.any1])), (2, .cells false 7 1 (.fn fun _ => netR 6 7 8 n (ND E n).length (BR E n).length)), (3, .mSI true (zipF 0 (NM E n))), (4, .mSI true (zipF 0 (ND E n))), (5, .mSI true (zipF 0 (BR E n))), (6, .cells false 8 n (.fn fun j => elR (E j))), (7, .cells false 1 (ND E n).length (.fn (txR (lget (ND E n))))), (8, .cells false 1 (BR E n).length (.fn (txR (lget (BR E n)))))]) ⟨re rfl, trivial⟩ (eHh rfl) ?_
  exact (loI 9 (by omega) (restL E n).length (fun _ => []) (fun _ => []) [] [] []).frameL (xl := [(2, .cells false 7 1 (.fn fun _ => netR 6 7 8 n (ND E n).length (BR E n).length)), (3, .mSI true (zipF 0 (NM E n))), (4, .mSI true (zipF 0 (ND E n))), (5, .mSI true (zipF 0 (BR E n))), (6, .cells false 8 n (.fn fun j => elR (E j))), (7, .cells false 1 (ND E n).length (.fn (txR (lget (ND E n))))), (8, .cells false 1 (BR E n).length (.fn (txR (lget (BR E n)))))]) (by omega) ⟨⟨by omega, fun j hj v hv => List.all_eq_true.1 (show (netR 6 7 8 n (ND E n).length (BR E n).length).all (fun v => v.low 9) = true from rfl) v hv⟩, ⟨by omega, trivial⟩, ⟨by omega, trivial⟩, ⟨by omega, trivial⟩, ⟨by omega, fun j hj v hv => List.all_eq_true.1 (show (elR (E j)).all (fun v => v.low 9) = true from rfl) v hv⟩, ⟨by omega, fun j hj v hv => List.all_eq_true.1 (show (txR (lget (ND E n)) j).all (fun v => v.low 9) = true from rfl) v hv⟩, ⟨by omega, fun j hj v hv => List.all_eq_true.1 (show (txR (lget (BR E n)) j).all (fun v => v.low 9) = true from rfl) v hv⟩, trivial⟩ rfl (fun e fr' H0' h => by
   obtain ⟨rfl, rfl, rfl⟩ := h
   exact ⟨_, rfl, rfl, ⟨.inl rfl, trivial⟩, rfl, rfl, rfl⟩)


noncomputable def loNew (b : List El) : M Nat := M.newB (.cells true 1 b.length (.fn fun _ => [.any1]))
theorem loNew_done {b : List El} {N : Nat} {g g' : G} (h : loNew b g = .done N g') : N = g.nx ∧ g'.H = putNew g.H g.nx [.cells true 1 b.length (.fn fun _ => [.any1])] ∧ g'.nx = g.nx + 1 ∧ g'.cs = g.cs := by
 cases h
 exact ⟨rfl, rfl, rfl, rfl⟩
noncomputable def loopsS : List AV → M AV
 | [.ptr aN] => (M.okIf (flat0 aN)).andThen fun _ => (netRd aN.g).andThen fun y => (M.setB y.1.m1 (.mSI true (zipF 0 (NM y.2 y.1.n)))).andThen fun _ => (M.setB y.1.m2 (.mSI true (zipF 0 (ND y.2 y.1.n)))).andThen fun _ => (M.setB y.1.m3 (.mSI true (zipF 0 (BR y.2 y.1.n)))).andThen fun _ => (loNew (restL y.2 y.1.n)).andThen fun N => M.ret (.slc true true ⟨false, N, 0, 0⟩ (restL y.2 y.1.n).length)
 | _ => M.no
theorem loopsS_tch : ∀ args, Tch (loopsS args) := by
 intro args
 unfold loopsS
 split
 ·exact (Tch.okIf _).andThen fun _ => (Tch_netRd _).andThen fun _ => (Tch.setB _ _).andThen fun _ => (Tch.setB _ _).andThen fun _ => (Tch.setB _ _).andThen fun _ => (Tch.newB _).andThen fun _ => Tch.ret _
 ·exact Tch.no
end Go.Proofs.Ytgjdeclenlgaeaa
