/- GraphCounts: a part: summaries of functions that the statement reaches, printed by program, checked by the kernel. -/
import Derived.ProofKit
import Derived.OpenShut
import Derived.KernelRfl
import Derived.SizedLaws
import Derived.Test.YtgjdeclenlgaeaaProg
import Derived.Test.YtgjdeclenlgaeaaGraphCountsPB
namespace Go.Proofs.Ytgjdeclenlgaeaa
open Go.ChangeShapes Go.WideShapes Go.ChangeAt Go.RowKit Go.Sx
set_option linter.unusedVariables false
set_option linter.unusedSimpArgs false
set_option maxRecDepth 100000

theorem agQ (n m i : Nat) (E : tE) (zl : tM) (hi : i < n) (hn : n ≤ 1024) (hm : m ≤ 4096) (hz : ∀ x, 0 ≤ (cZ seq x zl).getD 0 ∧ (cZ seq x zl).getD 0 < (m : Int)) :
  aj Try.prog ZB1 Try.f45.ntmps 9 16 15 (aV [(2, sL 9 (gQ zl E i).length), (3, sL 10 (jf zl E i).length), (4, .ptr ⟨false, 13, 0, 0⟩), (10, sL 14 n), (11, iT (n : Int)), (12, iT (i : Int)), (6, .ptr ⟨false, 15, 0, 0⟩), (20, .bD (!jd (E i)))]) (hpL [(9, .cells true 8 (gQ zl E i).length (.fn fun j => aP (bG (gQ zl E i) j))), (10, .cells true 8 (jf zl E i).length (.fn fun j => aP (bG (jf zl E i) j))), (11, .cells true 1 m (.fn fun k => [iT (((Ul (bU zl) (jl E i)) k : Nat) : Int)])), (12, .aJ true zl), (13, .cells true 2 1 (.fn fun _ => [.mp 12, sL 11 m])), (14, .cells true 8 n (.fn fun j => aP (E j))), (15, .cells true 8 1 (.fn fun _ => aP (E i)))]) (Nm [(2, sL 9 (gQ zl E (i + 1)).length), (3, sL 10 (jf zl E (i + 1)).length), (4, .ptr ⟨false, 13, 0, 0⟩), (10, sL 14 n), (11, iT (n : Int)), (12, iT (i : Int))] [(9, .cells true 8 (gQ zl E (i + 1)).length (.fn fun j => aP (bG (gQ zl E (i + 1)) j))), (10, .cells true 8 (jf zl E (i + 1)).length (.fn fun j => aP (bG (jf zl E (i + 1)) j))), (11, .cells true 1 m (.fn fun k => [iT (((Ul (bU zl) (jl E (i + 1))) k : Nat) : Int)])), (12, .aJ true zl), (13, .cells true 2 1 (.fn fun _ => [.mp 12, sL 11 m])), (14, .cells true 8 n (.fn fun j => aP (E j)))]) := by
 have hu := AX (bU zl) (jl E i)
 have la : bU zl (E i).a < m := by have := hz (E i).a; unfold bU; omega
 have lb : bU zl (E i).b < m := by have := hz (E i).b; unfold bU; omega
 have l1 := Bz zl E i
 have l2 := H6 zl E i
 have hr : decide (((root (uO m (Cont.row (.fn fun k => [iT (((Ul (bU zl) (jl E i)) k : Nat) : Int)]))) (bU zl (E i).a) : Nat) : Int) = ((root (uO m (Cont.row (.fn fun k => [iT (((Ul (bU zl) (jl E i)) k : Nat) : Int)]))) (bU zl (E i).b) : Nat) : Int)) = sU zl E i := by
  rw [qw hu la, qw hu lb]
  unfold sU
  exact decide_eq_decide.2 (by unfold cls; omega)
 refine (spY 9 (by omega) n m i (gQ zl E i).length (jf zl E i).length (Ul (bU zl) (jl E i)) E (bG (gQ zl E i)) (bG (jf zl E i)) (fun _ => []) (fun _ => []) [] [] [] zl (!jd (E i)) (fun _ => rfl) (fun _ => hm) (fun _ j hj => ⟨⟨by rw [nY hj]; exact AV.ge.refl _, rfl, trivial⟩, by rw [nY hj]; exact hu j⟩) (fun _ => hz) (fun _ _ => by omega) (fun _ _ => by omega) (fun _ _ => by omega) (fun _ _ => by omega)).renG fun e fr' H' h => ?_
 cases hs : jd (E i) with
 | false =>
  rw [hs, Bool.not_false, cond_true] at h
  obtain ⟨rfl, rfl, rfl⟩ := h
  have e1 : gQ zl E (i + 1) = gQ zl E i := by
   conv => lhs; unfold gQ
   rw [hs, Bool.false_and, cond_false]
  have e2 : jf zl E (i + 1) = jf zl E i := by
   conv => lhs; unfold jf
   rw [hs, Bool.false_and, cond_false]
  have e3 : jl E (i + 1) = jl E i := by
   conv => lhs; unfold jl
   rw [hs, cond_false]
  rw [e1, e2, e3]
  exact ⟨id, [(2, sL 9 (gQ zl E i).length), (3, sL 10 (jf zl E i).length), (4, .ptr ⟨false, 13, 0, 0⟩), (10, sL 14 n), (11, iT (n : Int)), (12, iT (i : Int))], [(9, .cells true 8 (gQ zl E i).length (.fn fun j => aP (bG (gQ zl E i) j))), (10, .cells true 8 (jf zl E i).length (.fn fun j => aP (bG (jf zl E i) j))), (11, .cells true 1 m (.fn fun k => [iT (((Ul (bU zl) (jl E i)) k : Nat) : Int)])), (12, .aJ true zl), (13, .cells true 2 1 (.fn fun _ => [.mp 12, sL 11 m])), (14, .cells true 8 n (.fn fun j => aP (E j)))], fun g hg => rfl, (yX rfl), ⟨dX rfl rfl (fun j _ => rfl) (fun j _ => rfl) (by omega), dX rfl rfl (fun j _ => rfl) (fun j _ => rfl) (by omega), dX rfl rfl (fun j _ => rfl) (fun j _ => rfl) (by omega), lW rfl rfl (by omega), dX rfl rfl (fun j _ => rfl) (fun j _ => rfl) (by omega), dX rfl rfl (fun j _ => rfl) (fun j _ => rfl) (by omega), trivial⟩, fun i j _ _ h => h, rfl, rfl, rfl⟩
 | true =>
  rw [hs, Bool.not_true, cond_false, hr] at h
  cases hj : sU zl E i with
  | true =>
   rw [hj, cond_true] at h
   obtain ⟨rfl, rfl, rfl⟩ := h
   have e0 : gQ zl E (i + 1) = gQ zl E i := by
    conv => lhs; unfold gQ
    rw [hs, hj, Bool.not_true, Bool.and_false, cond_false]
   have e1 : jf zl E (i + 1) = jf zl E i ++ [E i] := by
    conv => lhs; unfold jf
    rw [hs, hj, Bool.and_true, cond_true]
   rw [e0]
   exact ⟨sg 10 17, [(2, sL 9 (gQ zl E i).length), (3, sL 10 (jf zl E (i + 1)).length), (4, .ptr ⟨false, 13, 0, 0⟩), (10, sL 14 n), (11, iT (n : Int)), (12, iT (i : Int))], [(9, .cells true 8 (gQ zl E i).length (.fn fun j => aP (bG (gQ zl E i) j))), (10, .cells true 8 (jf zl E (i + 1)).length (.fn fun j => aP (bG (jf zl E (i + 1)) j))), (11, .cells true 1 m (.fn fun k => [iT (((Ul (bU zl) (jl E (i + 1))) k : Nat) : Int)])), (12, .aJ true zl), (13, .cells true 2 1 (.fn fun _ => [.mp 12, sL 11 m])), (14, .cells true 8 n (.fn fun j => aP (E j)))], mX (by omega), ⟨⟨_, rfl, AV.ge.refl _, rfl⟩, ⟨_, rfl, AV.ge.slc _ _ _ (by rw [e1, List.length_append]; rfl), rfl⟩, yX rfl⟩, ⟨dX rfl rfl (fun j _ => rfl) (fun j _ => rfl) (by omega), dX rfl (by rw [e1, List.length_append]; rfl) (fun j hj => by
   show (bif decide (j < (jf zl E i).length) then aP (bG (jf zl E i) j) else aP (E i)) = aP (bG (jf zl E (i + 1)) j)
   rw [e1]
   exact (FU (jf zl E i) (E i) j hj).symm) (fun j _ => rfl) (by omega), dX rfl rfl (fun j hj => by
   show [iT ((jn (uO m (Cont.row (.fn fun k => [AV.int true .i64 (((Ul (bU zl) (jl E i)) k : Nat) : Int)]))) (bU zl (E i).a) (bU zl (E i).b) j : Nat) : Int)] = [iT (((Ul (bU zl) (jl E (i + 1))) j : Nat) : Int)]
   rw [OT hu la lb hj]
   conv => rhs; unfold jl
   rw [hs, cond_true, vM]) (fun j _ => rfl) (by omega), lW rfl rfl (by omega), dX rfl rfl (fun j _ => rfl) (fun j _ => rfl) (by omega), dX rfl rfl (fun j _ => rfl) (fun j _ => rfl) (by omega), trivial⟩, mY (by omega), rfl, rfl, rfl⟩
  | false =>
   rw [hj, cond_false] at h
   obtain ⟨rfl, rfl, rfl⟩ := h
   have e0 : jf zl E (i + 1) = jf zl E i := by
    conv => lhs; unfold jf
    rw [hs, hj, Bool.and_false, cond_false]
   have e1 : gQ zl E (i + 1) = gQ zl E i ++ [E i] := by
    conv => lhs; unfold gQ
    rw [hs, hj, Bool.not_false, Bool.and_true, cond_true]
   rw [e0]
   exact ⟨sg 9 17, [(2, sL 9 (gQ zl E (i + 1)).length), (3, sL 10 (jf zl E i).length), (4, .ptr ⟨false, 13, 0, 0⟩), (10, sL 14 n), (11, iT (n : Int)), (12, iT (i : Int))], [(9, .cells true 8 (gQ zl E (i + 1)).length (.fn fun j => aP (bG (gQ zl E (i + 1)) j))), (10, .cells true 8 (jf zl E i).length (.fn fun j => aP (bG (jf zl E i) j))), (11, .cells true 1 m (.fn fun k => [iT (((Ul (bU zl) (jl E (i + 1))) k : Nat) : Int)])), (12, .aJ true zl), (13, .cells true 2 1 (.fn fun _ => [.mp 12, sL 11 m])), (14, .cells true 8 n (.fn fun j => aP (E j)))], mX (by omega), ⟨⟨_, rfl, AV.ge.slc _ _ _ (by rw [e1, List.length_append]; rfl), rfl⟩, yX rfl⟩, ⟨dX rfl (by rw [e1, List.length_append]; rfl) (fun j hj => by
   show (bif decide (j < (gQ zl E i).length) then aP (bG (gQ zl E i) j) else aP (E i)) = aP (bG (gQ zl E (i + 1)) j)
   rw [e1]
   exact (FU (gQ zl E i) (E i) j hj).symm) (fun j _ => rfl) (by omega), dX rfl rfl (fun j _ => rfl) (fun j _ => rfl) (by omega), dX rfl rfl (fun j hj => by
   show [iT ((jn (uO m (Cont.row (.fn fun k => [AV.int true .i64 (((Ul (bU zl) (jl E i)) k : Nat) : Int)]))) (bU zl (E i).a) (bU zl (E i).b) j : Nat) : Int)] = [iT (((Ul (bU zl) (jl E (i + 1))) j : Nat) : Int)]
   rw [OT hu la lb hj]
   conv => rhs; unfold jl
   rw [hs, cond_true, vM]) (fun j _ => rfl) (by omega), lW rfl rfl (by omega), dX rfl rfl (fun j _ => rfl) (fun j _ => rfl) (by omega), dX rfl rfl (fun j _ => rfl) (fun j _ => rfl) (by omega), trivial⟩, mY (by omega), rfl, rfl, rfl⟩
theorem abD (n m i : Nat) (E : tE) (zl : tM) (hi : i < n) (hn : n ≤ 1024) (hm : m ≤ 4096) (hz : ∀ x, 0 ≤ (cZ seq x zl).getD 0 ∧ (cZ seq x zl).getD 0 < (m : Int)) :
  aj Try.prog (.block 1 (.seq ZCc (.block 2 (.seq ZCO ZB1)))) Try.f45.ntmps 9 15 15 (aV (ZDw zl E i n)) (hpL (ZD0 zl E i m n)) (ZDj zl E i n m) := by
 have h1 : aj Try.prog (.block 1 (.seq ZCc (.block 2 (.seq ZCO ZB1)))) Try.f45.ntmps 9 15 16 (aV (ZDw zl E i n)) (hpL (ZD0 zl E i m n)) (ZDj zl E i n m) := by
  refine aj.nV ?_
  refine aj.bn (K1 := 16) (F1 := [(2, ZDC zl E i), (3, ZCr zl E i), (4, ZA 13), (10, sL 14 n), (11, iT (n : Int)), (12, iT (i : Int)), (6, ZA 15)]) (H1 := (ZDq zl E i m n)) (aj.toN (spE 9 (by omega) n m i (gQ zl E i).length (jf zl E i).length (Ul (bU zl) (jl E i)) E (bG (gQ zl E i)) (bG (jf zl E i)) (fun _ => []) (fun _ => []) [] [] [] zl (by omega) (by omega)) (iD rfl) ⟨(Sx.hs rfl), (Sx.hs rfl), (Sx.hs rfl), (Sx.hs rfl), (Sx.hs rfl), (Sx.hs rfl), wG rfl (by show aP (E (0 + i)) = aP (E i); rw [Nat.zero_add]), trivial⟩) (by omega) ?_
  refine aj.nV ?_
  refine aj.bn (K1 := 16) (F1 := [(2, ZDC zl E i), (3, ZCr zl E i), (4, ZA 13), (10, sL 14 n), (11, iT (n : Int)), (12, iT (i : Int)), (6, ZA 15), (20, .bD (!jd (E i)))]) (H1 := (ZDq zl E i m n)) ((spF 9 (by omega) n m i (gQ zl E i).length (jf zl E i).length (Ul (bU zl) (jl E i)) E (bG (gQ zl E i)) (bG (jf zl E i)) (fun _ => []) (fun _ => []) [] [] [] zl).post fun e fr' H' h => ?_) (by omega) ((agQ n m i E zl hi hn hm hz).up (by omega))
  cases q1 : decide ((E i).k = 4) with
  | true =>
   rw [q1, cond_true] at h
   obtain ⟨rfl, rfl, rfl⟩ := h
   have hs : jd (E i) = false := by unfold jd; rw [q1]; rfl
   refine ⟨[(2, ZDC zl E i), (3, ZCr zl E i), (4, ZA 13), (10, sL 14 n), (11, iT (n : Int)), (12, iT (i : Int)), (6, ZA 15), (20, .bD (!jd (E i)))], (ZDq zl E i m n), ⟨re rfl, re rfl, re rfl, re rfl, re rfl, re rfl, re rfl, ⟨_, rfl, fun N μ c h => ?_⟩, trivial⟩, (gq rfl), rfl, rfl, rfl⟩
   rw [hs]
   simpa only [Rep, Bool.not_false] using h
  | false =>
   rw [q1, cond_false] at h
   obtain ⟨rfl, rfl, rfl⟩ := h
   have hs : jd (E i) = !decide ((E i).k = 6) := by unfold jd; rw [q1]; rfl
   refine ⟨[(2, ZDC zl E i), (3, ZCr zl E i), (4, ZA 13), (10, sL 14 n), (11, iT (n : Int)), (12, iT (i : Int)), (6, ZA 15), (20, .bD (!jd (E i)))], (ZDq zl E i m n), ⟨re rfl, re rfl, re rfl, re rfl, re rfl, re rfl, re rfl, ⟨_, rfl, ?_⟩, trivial⟩, (gq rfl), rfl, rfl, rfl⟩
   rw [hs]
   exact AV.ge.refl _
 exact h1.renG fun e fr' H' h => by
  obtain ⟨rfl, rfl, rfl⟩ := h
  exact ⟨id, [(2, sL 9 (gQ zl E (i + 1)).length), (3, sL 10 (jf zl E (i + 1)).length), (4, ZA 13), (10, sL 14 n), (11, iT (n : Int)), (12, iT (i : Int))], (ZE8 zl E i m n), fun g hg => rfl, (yX rfl), ⟨dX rfl rfl (fun j _ => rfl) (fun j _ => rfl) (by omega), dX rfl rfl (fun j _ => rfl) (fun j _ => rfl) (by omega), dX rfl rfl (fun j _ => rfl) (fun j _ => rfl) (by omega), lW rfl rfl (by omega), dX rfl rfl (fun j _ => rfl) (fun j _ => rfl) (by omega), dX rfl rfl (fun j _ => rfl) (fun j _ => rfl) (by omega), trivial⟩, fun i j _ _ h => h, rfl, rfl, rfl⟩
noncomputable abbrev ZC7 := aT [1,1,0,1,0,0] (ak Try.f45)
theorem OZ : ZC7 = .seq (aT [1,1,0,1,0,0,0] (ak Try.f45)) (.seq (aT [1,1,0,1,0,0,1,0] (ak Try.f45)) (.seq (.block 1 (.seq ZCc (.block 2 (.seq ZCO ZB1)))) (aT [1,1,0,1,0,0,1,1,1] (ak Try.f45)))) := by kernel_rfl
theorem ad2 : (ak Try.f45) = .seq (aT [0] (ak Try.f45)) (.seq (aT [1,0] (ak Try.f45)) (.seq (.seq (aT [1,1,0,0] (ak Try.f45)) (.block 0 (.loop ZC7))) (aT [1,1,1] (ak Try.f45)))) := by kernel_rfl
theorem XQ (n m i : Nat) (E : tE) (zl : tM) (hi : i < n) (hn : n ≤ 1024) (hm : m ≤ 4096) (hz : ∀ x, 0 ≤ (cZ seq x zl).getD 0 ∧ (cZ seq x zl).getD 0 < (m : Int)) :
  aj Try.prog ZC7 Try.f45.ntmps 9 15 15 (aV (ZDw zl E i n)) (hpL (ZD0 zl E i m n)) (Nm [(2, sL 9 (gQ zl E (i + 1)).length), (3, sL 10 (jf zl E (i + 1)).length), (4, ZA 13), (10, sL 14 n), (11, iT (n : Int)), (12, Vl i)] (ZE8 zl E i m n)) := by
 rw [OZ]
 refine aj.bn (K1 := 15) (spD 9 (by omega) n m i (gQ zl E i).length (jf zl E i).length (Ul (bU zl) (jl E i)) E (bG (gQ zl E i)) (bG (jf zl E i)) (fun _ => []) (fun _ => []) [] [] [] zl) (by omega) ?_
 refine aj.bn (K1 := 15) (F1 := (ZDw zl E i n)) (H1 := (ZD0 zl E i m n)) ((spX 9 (by omega) n m i (gQ zl E i).length (jf zl E i).length (Ul (bU zl) (jl E i)) E (bG (gQ zl E i)) (bG (jf zl E i)) (fun _ => []) (fun _ => []) [] [] [] zl (decide ((i : Int) < (n : Int)))).mono fun e fr' H' h => ?_) (by omega) ?_
 ·rw [decide_eq_true (by omega), cond_true] at h
  exact h
 refine aj.bn (K1 := 15) (abD n m i E zl hi hn hm hz) (by omega) ?_
 exact aj.toN (spH 9 (by omega) n m i (gQ zl E (i + 1)).length (jf zl E (i + 1)).length (Ul (bU zl) (jl E (i + 1))) E (bG (gQ zl E (i + 1))) (bG (jf zl E (i + 1))) (fun _ => []) (fun _ => []) [] [] [] zl (by omega)) ⟨re rfl, re rfl, re rfl, re rfl, re rfl, ⟨_, rfl, AV.ge.int' _ _ _ (by omega)⟩, trivial⟩ (gq rfl)
theorem abE (n m : Nat) (E : tE) (zl : tM) :
  aj Try.prog ZC7 Try.f45.ntmps 9 15 15 (aV [(2, ZDC zl E n), (3, ZCr zl E n), (4, ZA 13), (10, sL 14 n), (11, iT (n : Int)), (12, iT (n : Int))]) (hpL [(9, Z0 zl E n), (10, Z1 zl E n), (11, Zh m zl E n), (12, .aJ true zl), (13, ZI m 12 11), (14, ZF n E)]) (Xm 0 [(2, ZDC zl E n), (3, ZCr zl E n), (4, ZA 13), (10, sL 14 n), (11, iT (n : Int)), (12, iT (n : Int))] [(9, Z0 zl E n), (10, Z1 zl E n), (11, Zh m zl E n), (12, .aJ true zl), (13, ZI m 12 11), (14, ZF n E)]) := by
 rw [OZ]
 refine aj.bn (K1 := 15) (spD 9 (by omega) n m n (gQ zl E n).length (jf zl E n).length (Ul (bU zl) (jl E n)) E (bG (gQ zl E n)) (bG (jf zl E n)) (fun _ => []) (fun _ => []) [] [] [] zl) (by omega) ?_
 refine aj.DY (K1 := 15) ((spX 9 (by omega) n m n (gQ zl E n).length (jf zl E n).length (Ul (bU zl) (jl E n)) E (bG (gQ zl E n)) (bG (jf zl E n)) (fun _ => []) (fun _ => []) [] [] [] zl (decide ((n : Int) < (n : Int)))).mono fun e fr' H' h => ?_) (by omega)
 rw [decide_eq_false (by omega), cond_false] at h
 exact h
noncomputable abbrev ZBg (v0 : tE) (v1 : Nat) := (.cells true 1 ((ND v0 v1).length + 1) (.fn fun k => [iT (((Ul (bU (ay 0 (g0 :: ND v0 v1))) (jl v0 v1)) k : Nat) : Int)]) : aF)
noncomputable abbrev ZB6 (v0 : tE) (v1 : Nat) := (.cells true 8 (gQ (ay 0 (g0 :: ND v0 v1)) v0 v1).length (.fn fun j => aP (bG (gQ (ay 0 (g0 :: ND v0 v1)) v0 v1) j)) : aF)
noncomputable abbrev ZB7 (v0 : tE) (v1 : Nat) := (.cells true 8 (jf (ay 0 (g0 :: ND v0 v1)) v0 v1).length (.fn fun j => aP (bG (jf (ay 0 (g0 :: ND v0 v1)) v0 v1) j)) : aF)
noncomputable abbrev ZCs := (.cells true 8 0 (.fn fun j => aP (bG [] j)) : aF)
theorem XR (n : Nat) (E : tE) (hn : n ≤ 256) :
  aj Try.prog (ak Try.f45) Try.f45.ntmps 9 9 15 JI (hpL (ZB n E)) (fun e fr' H' => e = .ret ∧ fr' = aV [(2, sL 9 (gQ (ay 0 (g0 :: ND E n)) E n).length), (3, sL 10 (jf (ay 0 (g0 :: ND E n)) E n).length)] ∧ H' = hpL [(9, ZB6 E n), (10, ZB7 E n), (2, ZD n E), (3, ZM E n), (4, ZN E n), (5, ZO E n), (6, ZC n E), (7, ZG E n), (8, ZH E n)]) := by
 have hq := AU n E hn
 have ln := uK E n
 rw [ad2]
 refine aj.bn (K1 := 9) (spA 9 (by omega) n (ND E n).length (BR E n).length E (aA (ND E n)) (aA (BR E n)) (ay 0 (NM E n)) (ay 0 (ND E n)) (ay 0 (BR E n)) []) (by omega) ?_
 refine aj.phantom 2 8 (fun j => aP (bG [] j)) rfl (by omega) (by omega) ?_
 refine aj.phantom 3 8 (fun j => aP (bG [] j)) rfl (by omega) (by omega) ?_
 refine aj.gK (fl := [(0, ZA 2), (2, sL 9 0), (3, sL 10 0)]) (bl := [(2, ZD n E), (3, ZM E n), (4, ZN E n), (5, ZO E n), (6, ZC n E), (7, ZG E n), (8, ZH E n), (9, ZCs), (10, ZCs)]) (iD rfl) (gq rfl) ?_
 refine aj.bn (K1 := 14) (F1 := [(0, ZA 2), (2, sL 9 0), (3, sL 10 0), (4, ZA 13)]) (H1 := [(2, ZD n E), (3, ZM E n), (4, ZN E n), (5, ZO E n), (6, ZC n E), (7, ZG E n), (8, ZH E n), (9, ZCs), (10, ZCs), (11, ZCI E n), (12, G7 E n), (13, Ze E n 12 11)]) (aj.toN (spB 9 (by omega) n 0 (ND E n).length (BR E n).length E (bG []) (bG []) (aA (ND E n)) (aA (BR E n)) (ay 0 (NM E n)) (ay 0 (ND E n)) (ay 0 (BR E n)) [] hq) (iD rfl) (gq rfl)) (by omega) ?_
 refine aj.bn (K1 := 15) (F1 := [(2, sL 9 (gQ (ay 0 (g0 :: ND E n)) E n).length), (3, sL 10 (jf (ay 0 (g0 :: ND E n)) E n).length), (4, ZA 13), (10, sL 14 n), (11, iT (n : Int)), (12, iT (n : Int))]) (H1 := [(9, ZB6 E n), (10, ZB7 E n), (11, ZBg E n), (12, G7 E n), (13, Ze E n 12 11), (14, ZF n E), (2, ZD n E), (3, ZM E n), (4, ZN E n), (5, ZO E n), (6, ZC n E), (7, ZG E n), (8, ZH E n)]) (aj.bn (K1 := 15) (F1 := [(2, sL 9 (gQ (ay 0 (g0 :: ND E n)) E 0).length), (3, sL 10 (jf (ay 0 (g0 :: ND E n)) E 0).length), (4, ZA 13), (10, sL 14 n), (11, iT (n : Int)), (12, FC)]) (H1 := [(9, .cells true 8 (gQ (ay 0 (g0 :: ND E n)) E 0).length (.fn fun j => aP (bG (gQ (ay 0 (g0 :: ND E n)) E 0) j))), (10, .cells true 8 (jf (ay 0 (g0 :: ND E n)) E 0).length (.fn fun j => aP (bG (jf (ay 0 (g0 :: ND E n)) E 0) j))), (11, .cells true 1 ((ND E n).length + 1) (.fn fun k => [iT (((Ul (bU (ay 0 (g0 :: ND E n))) (jl E 0)) k : Nat) : Int)])), (12, G7 E n), (13, Ze E n 12 11), (14, ZF n E), (2, ZD n E), (3, ZM E n), (4, ZN E n), (5, ZO E n), (6, ZC n E), (7, ZG E n), (8, ZH E n)]) (aj.toN (spC 9 (by omega) n 0 (ND E n).length (BR E n).length E (bG []) (bG []) (aA (ND E n)) (aA (BR E n)) (ay 0 (NM E n)) (ay 0 (ND E n)) (ay 0 (BR E n)) [] (ND E n) (by omega) (by omega)) ⟨re rfl, re rfl, re rfl, re rfl, re rfl, ⟨_, rfl, AV.ge.int _ _ _ _⟩, trivial⟩ ⟨hs rfl, hs rfl, hs rfl, hs rfl, hs rfl, ⟨_, rfl, rfl, rfl, rfl, fun j hj => by
   show aP (E (0 + j)) = aP (E j)
   rw [Nat.zero_add]⟩, gq rfl⟩) (by omega) ?_) (by omega) ?_
 ·have hr := aj.rounds (P := Try.prog) (n := Try.f45.ntmps) (B := 9) (K := 15) (id := 0) n (fun i => [(2, sL 9 (gQ (ay 0 (g0 :: ND E n)) E i).length), (3, sL 10 (jf (ay 0 (g0 :: ND E n)) E i).length), (4, ZA 13), (10, sL 14 n), (11, iT (n : Int)), (12, iT ((i : Nat) : Int))]) (fun i => [(9, .cells true 8 (gQ (ay 0 (g0 :: ND E n)) E i).length (.fn fun j => aP (bG (gQ (ay 0 (g0 :: ND E n)) E i) j))), (10, .cells true 8 (jf (ay 0 (g0 :: ND E n)) E i).length (.fn fun j => aP (bG (jf (ay 0 (g0 :: ND E n)) E i) j))), (11, .cells true 1 ((ND E n).length + 1) (.fn fun k => [iT (((Ul (bU (ay 0 (g0 :: ND E n))) (jl E i)) k : Nat) : Int)])), (12, G7 E n), (13, Ze E n 12 11), (14, ZF n E)]) (fun i hi => XQ n ((ND E n).length + 1) i E (ay 0 (g0 :: ND E n)) hi (by omega) (by omega) (He _)) (abE n ((ND E n).length + 1) E (ay 0 (g0 :: ND E n)))
  exact hr.jR (xl := (ZB n E)) (by omega) ⟨⟨by omega, fun j hj v hv => List.all_eq_true.1 (show (bQ 6 7 8 n (ND E n).length (BR E n).length).all (fun v => v.low 9) = true from rfl) v hv⟩, ⟨by omega, trivial⟩, ⟨by omega, trivial⟩, ⟨by omega, trivial⟩, ⟨by omega, fun j hj v hv => List.all_eq_true.1 (show (aP (E j)).all (fun v => v.low 9) = true from rfl) v hv⟩, ⟨by omega, fun j hj v hv => List.all_eq_true.1 (show (aU (aA (ND E n)) j).all (fun v => v.low 9) = true from rfl) v hv⟩, ⟨by omega, fun j hj v hv => List.all_eq_true.1 (show (aU (aA (BR E n)) j).all (fun v => v.low 9) = true from rfl) v hv⟩, trivial⟩ rfl rfl ⟨.inl rfl, .inl rfl, .inl rfl, .inl rfl, .inl rfl, .inl rfl, trivial⟩
 ·refine aj.gK (fl := [(2, sL 9 (gQ (ay 0 (g0 :: ND E n)) E n).length), (3, sL 10 (jf (ay 0 (g0 :: ND E n)) E n).length)]) (bl := [(9, ZB6 E n), (10, ZB7 E n), (2, ZD n E), (3, ZM E n), (4, ZN E n), (5, ZO E n), (6, ZC n E), (7, ZG E n), (8, ZH E n)]) (iD rfl) (gq rfl) ?_
  exact (spI 9 (by omega) (gQ (ay 0 (g0 :: ND E n)) E n).length (jf (ay 0 (g0 :: ND E n)) E n).length (bG (gQ (ay 0 (g0 :: ND E n)) E n)) (bG (jf (ay 0 (g0 :: ND E n)) E n)) (fun _ => []) (fun _ => []) [] [] [] []).lM (xl := (ZB n E)) (by omega) ⟨⟨by omega, fun j hj v hv => List.all_eq_true.1 (show (bQ 6 7 8 n (ND E n).length (BR E n).length).all (fun v => v.low 9) = true from rfl) v hv⟩, ⟨by omega, trivial⟩, ⟨by omega, trivial⟩, ⟨by omega, trivial⟩, ⟨by omega, fun j hj v hv => List.all_eq_true.1 (show (aP (E j)).all (fun v => v.low 9) = true from rfl) v hv⟩, ⟨by omega, fun j hj v hv => List.all_eq_true.1 (show (aU (aA (ND E n)) j).all (fun v => v.low 9) = true from rfl) v hv⟩, ⟨by omega, fun j hj v hv => List.all_eq_true.1 (show (aU (aA (BR E n)) j).all (fun v => v.low 9) = true from rfl) v hv⟩, trivial⟩ rfl (fun e fr' H0' h => by
   obtain ⟨rfl, rfl, rfl⟩ := h
   exact ⟨_, rfl, rfl, ⟨.inl rfl, .inl rfl, trivial⟩, rfl, rfl, rfl⟩)


noncomputable def aW : (Nat → El) → Nat → List El := Classical.choose (⟨fun E n => gQ (ay 0 (g0 :: ND E n)) E n, rfl⟩ : ∃ f, f = fun (E : tE) (n : Nat) => gQ (ay 0 (g0 :: ND E n)) E n)
theorem pJ : aW = fun E n => gQ (ay 0 (g0 :: ND E n)) E n := Classical.choose_spec (⟨fun E n => gQ (ay 0 (g0 :: ND E n)) E n, rfl⟩ : ∃ f, f = fun (E : tE) (n : Nat) => gQ (ay 0 (g0 :: ND E n)) E n)
noncomputable def fB : (Nat → El) → Nat → List El := Classical.choose (⟨fun E n => jf (ay 0 (g0 :: ND E n)) E n, rfl⟩ : ∃ f, f = fun (E : tE) (n : Nat) => jf (ay 0 (g0 :: ND E n)) E n)
theorem yV : fB = fun E n => jf (ay 0 (g0 :: ND E n)) E n := Classical.choose_spec (⟨fun E n => jf (ay 0 (g0 :: ND E n)) E n, rfl⟩ : ∃ f, f = fun (E : tE) (n : Nat) => jf (ay 0 (g0 :: ND E n)) E n)
noncomputable abbrev ZC8 (v0 : List El) := (.cells true 8 v0.length (.fn fun j => aP (bG v0 j)) : aF)
noncomputable def UO (a b : List El) : M Nat :=
 (M.fD (ZC8 a)).andThen fun N => (M.fD (ZC8 b)).andThen fun _ => M.ret N
noncomputable def abG (a b : List El) : List aF := [ZC8 a, ZC8 b]
theorem QI (a b : List El) : aC (UO a b) := (aC.fD _).andThen fun _ => (aC.fD _).andThen fun _ => aC.ret _
theorem Np {a b : List El} {N : Nat} {g g' : G} (h : UO a b g = .done N g') : N = g.nx ∧ g'.H = kS g.H g.nx (abG a b) ∧ g'.nx = g.nx + 2 ∧ g'.cs = g.cs := by
 cases h
 exact ⟨rfl, rfl, rfl, rfl⟩
theorem O1 {n K : Nat} {l : List El} : (aF.cells true 8 n (.fn fun j => aP (bG l j))).mJ K := fun i hi v hv => List.all_eq_true.1 (show (aP (bG l i)).all (fun v => v.low K) = true from rfl) v hv
theorem UQ {n : Nat} {l : List El} {S : Nat → Prop} : (aF.cells true 8 n (.fn fun j => aP (bG l j))).iy S := fun i hi o v hv => by
 match o, hv with
 | 0, hv | 1, hv | 2, hv | 3, hv | 4, hv | 5, hv | 6, hv | 7, hv => cases hv; trivial
noncomputable def qH : List AV → M AV
 | [.ptr aN] => (M.dh (og aN)).andThen fun _ => (netRd aN.g).andThen fun y => (M.setB y.1.m1 (.aJ true (ay 0 (NM y.2 y.1.n)))).andThen fun _ => (M.setB y.1.m2 (.aJ true (ay 0 (ND y.2 y.1.n)))).andThen fun _ => (M.setB y.1.m3 (.aJ true (ay 0 (BR y.2 y.1.n)))).andThen fun _ => (UO (aW y.2 y.1.n) (fB y.2 y.1.n)).andThen fun N => M.ret (.lZ [.slc true true ⟨false, N, 0, 0⟩ (aW y.2 y.1.n).length, .slc true true ⟨false, N + 1, 0, 0⟩ (fB y.2 y.1.n).length])
 | _ => M.no
theorem mW : ∀ args, aC (qH args) := by
 intro args
 unfold qH
 split
 ·exact (aC.dh _).andThen fun _ => (lu _).andThen fun _ => (aC.setB _ _).andThen fun _ => (aC.setB _ _).andThen fun _ => (aC.setB _ _).andThen fun _ => (QI _ _).andThen fun _ => aC.ret _
 ·exact aC.no
theorem oI : ∀ args v g g', qH args g = .done v g' → bZ Try.prog 45 args v g g' := by
 intro args v g g' h
 unfold qH at h
 split at h
 case h_2 => exact (bC h).elim
 rename_i aN
 obtain ⟨_, g1, a1, h⟩ := au h
 obtain ⟨q0, rfl⟩ := aS a1
 have q0 := jD q0
 obtain ⟨⟨w, E⟩, g3, a3, h⟩ := au h
 obtain ⟨qf, kk, ff⟩ := jE a3
 dsimp only at h ff
 obtain ⟨_, g6, a6, h⟩ := au h
 obtain ⟨_, g7, a7, h⟩ := au h
 obtain ⟨_, g8, a8, h⟩ := au h
 obtain ⟨b1, b2, b3⟩ := bM a6
 obtain ⟨b4, b5, b6⟩ := bM a7
 obtain ⟨b7, b8, b9⟩ := bM a8
 have hx : g8.nx = g.nx := by rw [b8, b5, b2, kk.2.1]
 obtain ⟨N, g9, a9, h⟩ := au h
 obtain ⟨e1, e2, e3, e4⟩ := Np a9
 obtain ⟨rfl, rfl⟩ := aB h
 refine qx (K' := 15) (c := (ak Try.f45)) Try.func45 (by kernel_rfl) (by kernel_rfl) (gG := [ZA 2]) (fun hc => kk.2.2 (by rw [← b3, ← b6, ← b9, ← e4]; exact hc)) (N := aN.g) (w := w) (E := E) (fun hp => ff hp) (xl := []) (rx := fun _ => 0) (K0 := 9) (Nat.le_refl _) (fun hp M μ cs hr => ?_) (fun hp i b hb => by cases hb) (fun hp i j b b' hi => by cases hi) (bs := abG (aW E w.n) (fB E w.n)) (nms := [9, 10]) rfl (by decide) (by decide) (by rw [e2, b7, b4, b1, kk.1, hx]; rfl) (by rw [e3, hx]; rfl) (fun b hb => by
   simp only [abG, List.mem_cons, List.not_mem_nil, or_false] at hb
   rcases hb with rfl | rfl
   ·exact ⟨rfl, O1, UQ⟩
   ·exact ⟨rfl, O1, UQ⟩) (by
   rw [e1, hx]
   simp only [AV.low, mD, Bool.and_eq_true]
   exact ⟨Nat.ble_eq_true_of_le (show Nat.succ g.nx ≤ g.nx + 2 by omega), Nat.ble_eq_true_of_le (show Nat.succ (g.nx + 1) ≤ g.nx + 2 by omega), trivial⟩) (by
   rw [e1, hx]
   simp only [AV.iy, lC]
   exact ⟨⟨by show g.nx ≤ g.nx; omega, by show g.nx < g.nx + 2; omega⟩, ⟨by show g.nx ≤ g.nx + 1; omega, by show g.nx + 1 < g.nx + 2; omega⟩, trivial⟩) (fun hp kN => ?_)
 ·simp only [aO] at hr ⊢
  obtain ⟨c1, l1, rfl, h1, rfl⟩ := hr
  exact ⟨c1, _, rfl, kD h1 q0.1 q0.2 (by omega) rfl, rfl⟩
 have F := ff hp
 rw [List.append_nil, qU F]
 have k0 : zn w g.nx [9, 10] g.nx = 9 := kN 0 (by simp)
 have k1 : zn w g.nx [9, 10] (g.nx + 1) = 10 := kN 1 (by simp)
 refine (XR w.n E F.n256).mono fun e fr' H' h => ?_
 obtain ⟨rfl, rfl, rfl⟩ := h
 refine ⟨.inl rfl, _, _, res2 (t := 2) (t' := 3) (by kernel_rfl) rfl rfl, trivial, ?_, ⟨rfl, rfl, rfl⟩, fun j b hb => ?_⟩
 ·simp only [AV.ren, kQ, AA.ren, e1, hx, k0, k1, pJ, yV]
  exact AV.ge.refl _
 ·rw [pJ, yV] at hb
  match j, hb with
  | 0, hb => cases hb; exact ⟨_, rfl, rfl, rfl, rfl, fun j hj => rfl⟩
  | 1, hb => cases hb; exact ⟨_, rfl, rfl, rfl, rfl, fun j hj => rfl⟩

noncomputable def abH : Known := kc 71 ofBits (kc 74 toBits (kc 72 jw (kc 61 nM (kc 58 jT (kc 73 KP (kc 59 pq (kc 60 pz (kc 35 yS (kc 12 mP (kc 29 zT (kc 46 mQ (kc 44 qO (kc 41 sS (kc 39 uM (kc 40 Tz (kc 15 wE (kc 45 qH (kn))))))))))))))))))
theorem O4 : fK Try.prog abH := aH ((fQ Try.prog).fE Try.func71 (by kernel_rfl) (by kernel_rfl) (by kernel_rfl) (by kernel_rfl)) (aH ((fP Try.prog).fE Try.func74 (by kernel_rfl) (by kernel_rfl) (by kernel_rfl) (by kernel_rfl)) (aH gI (aH iK (aH gU (aH nX (aH jy (aH jA (aH nC (aH jL (aH oG (aH jM (aH lQ (aH nN (aH pF (aH xk (aH qP (aH oI (qj))))))))))))))))))
theorem KC : gY abH := aG aC.ofBits (aG aC.toBits (aG fJ (aG gJ (aG fZ (aG kH (aG iL (aG iM (aG ku (aG iR (aG lS (aG iU (aG jO (aG kY (aG mV (aG sD (aG oJ (aG mW (lJ))))))))))))))))))
noncomputable def O5 : Calls' := Sx.runN Try.prog abH (bK Try.prog) 1000 50
theorem UR : dw Try.prog O5 := iQ O4 KC (by kernel_rfl) (by kernel_rfl) 1000 50
theorem QJ (n : Nat) : eF Try.prog (bK Try.prog O5 n) n := eX O4 KC (by kernel_rfl) (by kernel_rfl) 1000 50 n
noncomputable abbrev Em (f : Func) (c : Code) (fr : Fr) (H : T aF) (K : Nat) (path : List Bool) : Aa (Ex × Fr) :=
 bV Try.prog O5 (bK Try.prog O5 f.ntmps) jH f.ntmps 1000 c fr ⟨H, K, [], path, True⟩


theorem rcY {fn : Func} {K K' B : Nat} {e : Ex} {F : jU} {Hl : tH} {c : Code} {fr : Fr} {H : T aF} {path : List Bool} (h : cO K' e F Hl (Em fn c fr H K path)) (hB : B ≤ K) : aj Try.prog c fn.ntmps B K K' fr H fun e' fr' H' => e' = e ∧ fr' = aV F ∧ H' = hpL Hl := aj.runN UR (QJ _) (gu.none _ _ _) h hB
theorem Q7 {fn : Func} {K K' B : Nat} {e : Ex} {F : jU} {Hl : tH} {c : Code} {fr : Fr} {H : T aF} (path : List Bool) {q : Prop} (hq : q) (hB : B ≤ K) (h : jg K' e F Hl (Em fn c fr H K path) = (e = e ∧ ql F ∧ qm Hl ∧ true = true ∧ q) := by kernel_rfl) : aj Try.prog c fn.ntmps B K K' fr H fun e' fr' H' => e' = e ∧ fr' = aV F ∧ H' = hpL Hl := rcY (eqn h hq) hB
def ends (l : List El) : List (Tx × Tx) := l.map fun z => (z.a, z.b)
theorem QK (l : List El) (z : El) : ends (l ++ [z]) = ends l ++ [(z.a, z.b)] := by simp [ends]
theorem UU (l : List El) : (ends l).length = l.length := by simp [ends]
theorem XT {l : List El} {i : Nat} (h : i < l.length) : bG l i = l[i] := by
 unfold bG
 rw [List.getD_eq_getElem?_getD, List.getElem?_eq_getElem h]; rfl
theorem UW (l : List El) : Ku (bG l) l.length = ends l := by
 apply List.ext_getElem?
 intro i
 by_cases h : i < l.length
 ·rw [OH _ h, XT h]
  simp [ends, h]
 ·rw [List.getElem?_eq_none (by rw [Hz]; omega), List.getElem?_eq_none (by rw [UU]; omega)]
section
variable (zl : tM) (E : tE)
theorem Wv {i : Nat} (h : jd (E i) = true) : jl E (i + 1) = jl E i ++ [((E i).a, (E i).b)] := by
 conv => lhs; unfold jl
 rw [h, cond_true]
theorem aay {i : Nat} (h : jd (E i) = false) : jl E (i + 1) = jl E i := by
 conv => lhs; unfold jl
 rw [h, cond_false]
theorem Yu {i : Nat} (h : (jd (E i) && !sU zl E i) = true) : gQ zl E (i + 1) = gQ zl E i ++ [E i] := by
 conv => lhs; unfold gQ
 rw [h, cond_true]
theorem Oj {i : Nat} (h : (jd (E i) && !sU zl E i) = false) : gQ zl E (i + 1) = gQ zl E i := by
 conv => lhs; unfold gQ
 rw [h, cond_false]
/-- the tree's classes are those of all that join, and it is a forest -/
theorem UY : ∀ i, (∀ a b, cls (bU zl) (jl E i) a = cls (bU zl) (jl E i) b ↔ cls (bU zl) (ends (gQ zl E i)) a = cls (bU zl) (ends (gQ zl E i)) b) ∧ ∀ k p, (ends (gQ zl E i))[k]? = some p → cls (bU zl) ((ends (gQ zl E i)).take k) p.1 ≠ cls (bU zl) ((ends (gQ zl E i)).take k) p.2
 | 0 => ⟨fun a b => Iff.rfl, fun k p h => by simp [gQ, ends] at h⟩
 | i + 1 => by
  obtain ⟨h1, h2⟩ := UY i
  cases hs : jd (E i) with
  | false =>
   rw [Oj zl E (by rw [hs]; rfl), aay E hs]
   exact ⟨h1, h2⟩
  | true =>
   rw [Wv E hs]
   cases hj : sU zl E i with
   | true =>
    have hc : cls (bU zl) (jl E i) (E i).a = cls (bU zl) (jl E i) (E i).b := of_decide_eq_true hj
    rw [Oj zl E (by rw [hs, hj]; rfl)]
    refine ⟨fun a b => ?_, h2⟩
    rw [uP, ← h1]
    constructor
    ·rintro (h | ⟨ha | ha, hb | hb⟩)
     ·exact h
     ·exact ha.trans hb.symm
     ·exact ha.trans (hc.trans hb.symm)
     ·exact ha.trans (hc.symm.trans hb.symm)
     ·exact ha.trans hb.symm
    ·exact .inl
   | false =>
    have hc : ¬ cls (bU zl) (jl E i) (E i).a = cls (bU zl) (jl E i) (E i).b := of_decide_eq_false hj
    rw [Yu zl E (by rw [hs, hj]; rfl), QK]
    refine ⟨fun a b => ?_, fun k p hk => ?_⟩
    ·rw [uP, uP, h1, h1, h1, h1, h1]
    ·by_cases c : k < (ends (gQ zl E i)).length
     ·rw [List.getElem?_append_left c] at hk
      rw [List.take_append_of_le_length (by omega)]
      exact h2 k p hk
     ·rw [List.getElem?_append_right (by omega)] at hk
      by_cases d : k = (ends (gQ zl E i)).length
      ·subst d
       rw [Nat.sub_self] at hk
       cases hk
       rw [List.take_append_of_le_length (Nat.le_refl _), List.take_length]
       exact fun e => hc ((h1 _ _).2 e)
      ·rw [List.getElem?_eq_none (by simp; omega)] at hk
       cases hk
theorem KD (n : Nat) : ∃ cl : Nat → Tx → Nat, iq (Ku (bG (gQ zl E n)) (gQ zl E n).length) cl := by
 rw [UW]
 exact ⟨_, Qr (bU zl) _ (UY zl E n).2⟩
end
theorem aaz (l : List Tx) (x : Tx) : bU (ay 0 l) x = (pos x l).getD 0 := by
 unfold bU
 rw [y8]
 cases pos x l with
 | none => rfl
 | some i => show ((0 + i : Nat) : Int).toNat = i; omega
theorem zo {l : List Tx} {x y : Tx} : x ∈ addN l y ↔ x ∈ l ∨ (x = y ∧ y ≠ [] ∧ y ≠ [48]) := by
 unfold addN
 cases e1 : y == [] with
 | true =>
  have : y = [] := eq_of_beq e1
  simp [this]
 | false =>
  have h1 : y ≠ [] := fun h => by rw [h] at e1; exact absurd e1 (by decide)
  cases e2 : y == [48] with
  | true =>
   have : y = [48] := eq_of_beq e2
   simp [this]
  | false =>
   have h2 : y ≠ [48] := fun h => by rw [h] at e2; exact absurd e2 (by decide)
   cases e3 : pos y l with
   | none => simp [h1, h2]
   | some i =>
    have hm : y ∈ l := by
     by_cases c : y ∈ l
     ·exact c
     ·rw [nO.2 c] at e3; cases e3
    simp only [Option.isSome, Bool.true_or, cond_true]
    exact ⟨.inl, fun h => h.elim id fun h => by rw [h.1]; exact hm⟩
theorem MN {E : tE} {x : Tx} : ∀ {n : Nat}, x ∈ ND E n ↔ (∃ i, i < n ∧ (x = (E i).a ∨ x = (E i).b ∨ x = (E i).c ∨ x = (E i).d)) ∧ x ≠ [] ∧ x ≠ [48]
 | 0 => by
  constructor
  ·intro h; simp [ND] at h
  ·rintro ⟨⟨i, h, _⟩, _⟩; exact absurd h (Nat.not_lt_zero _)
 | n + 1 => by
  unfold ND
  rw [zo, zo, zo, zo, MN]
  constructor
  ·rintro ((((⟨⟨i, h1, h2⟩, h3⟩ | ⟨rfl, h⟩) | ⟨rfl, h⟩) | ⟨rfl, h⟩) | ⟨rfl, h⟩)
   ·exact ⟨⟨i, by omega, h2⟩, h3⟩
   ·exact ⟨⟨n, by omega, .inl rfl⟩, h⟩
   ·exact ⟨⟨n, by omega, .inr (.inl rfl)⟩, h⟩
   ·exact ⟨⟨n, by omega, .inr (.inr (.inl rfl))⟩, h⟩
   ·exact ⟨⟨n, by omega, .inr (.inr (.inr rfl))⟩, h⟩
  ·rintro ⟨⟨i, h1, h2⟩, h3⟩
   by_cases c : i < n
   ·exact .inl (.inl (.inl (.inl ⟨⟨i, c, h2⟩, h3⟩)))
   ·obtain rfl : i = n := by omega
    rcases h2 with rfl | rfl | rfl | rfl
    ·exact .inl (.inl (.inl (.inr ⟨rfl, h3⟩)))
    ·exact .inl (.inl (.inr ⟨rfl, h3⟩))
    ·exact .inl (.inr ⟨rfl, h3⟩)
    ·exact .inr ⟨rfl, h3⟩
theorem sO {l : List Tx} {x : Tx} (h : l.Nodup) : (addN l x).Nodup := by
 unfold addN
 cases e : (pos x l).isSome || x == [] || x == [48] with
 | true => exact h
 | false =>
  rw [cond_false]
  simp only [Bool.or_eq_false_iff] at e
  have hp : pos x l = none := by
   cases q : pos x l with
   | none => rfl
   | some i => rw [q] at e; exact absurd (show true = false from e.1.1) (by decide)
  rw [List.nodup_append]
  exact ⟨h, by simp, fun a ha b hb e => by rw [List.mem_singleton.1 hb] at e; rw [e] at ha; exact nO.1 hp ha⟩
theorem JW (E : tE) : ∀ n, (ND E n).Nodup
 | 0 => List.nodup_nil
 | n + 1 => by unfold ND; exact sO (sO (sO (sO (JW E n))))
theorem O6 {chk : El → Int} {E : tE} {n : Nat} : ∀ m, m ≤ n → (Hq chk E n m).1 = 0 → (∀ j, n - m ≤ j → j < n → jh chk E j = 0) ∧ (Hq chk E n 0).1 = 0
 | 0, _, h => ⟨fun j h1 h2 => absurd h1 (by omega), h⟩
 | m + 1, hm, h => by
  unfold Hq at h
  by_cases b : jh chk E (n - (m + 1)) = 0
  ·rw [decide_eq_true b, cond_true] at h
   obtain ⟨h1, h2⟩ := O6 m (by omega) h
   refine ⟨fun j k1 k2 => ?_, h2⟩
   by_cases c : j = n - (m + 1)
   ·rw [c]; exact b
   ·exact h1 j (by omega) k2
  ·rw [decide_eq_false b, cond_false] at h
   exact absurd h b
/-- what Of asks of a net -/
structure GdN (n : Nat) (E : tE) : Prop where
 n256 : n ≤ 256
 bad : ∀ j, j < n → jh fG E j = 0
 nd : (ND E n).length ≤ 32
theorem TI {n : Nat} {E : tE} (h : (yU E n).1 = 0) : GdN n E := by
 rw [Na] at h
 unfold ofR at h
 by_cases c : 256 < n
 ·rw [decide_eq_true c, cond_true] at h
  exact absurd h (by decide)
 ·rw [decide_eq_false c, cond_false] at h
  obtain ⟨h1, h2⟩ := O6 n (Nat.le_refl _) h
  refine ⟨by omega, fun j hj => h1 j (by omega) hj, ?_⟩
  by_cases d : 32 < (ND E n).length
  ·unfold Hq at h2
   rw [decide_eq_true d, Bool.true_or, cond_true] at h2
   exact absurd h2 (by decide)
  ·omega
theorem aaA {E : tE} {i : Nat} (h : jh fG E i = 0) : fG (E i) = 0 ∧ pos (E i).n (NM E i) = none := by
 unfold jh at h
 by_cases c : fG (E i) = 0
 ·rw [decide_eq_true c, cond_true] at h
  refine ⟨c, ?_⟩
  cases e : pos (E i).n (NM E i) with
  | none => rfl
  | some j => rw [e] at h; exact absurd (show (9 : Int) = 0 from h) (by decide)
 ·rw [decide_eq_false c, cond_false] at h
  exact absurd h c
theorem Qi {z : El} (h : fG z = 0) : xA z.n = true ∧ xu z.n = z.k ∧ iV z.a = true ∧ iV z.b = true ∧ (z.a == z.b) = false := by
 unfold fG sV at h
 cases e1 : vO z.k
 ·rw [e1] at h; exact absurd (show (2 : Int) = 0 from h) (by decide)
 rw [e1, cond_true] at h
 cases e2 : xA z.n
 ·rw [e2] at h; exact absurd (show (8 : Int) = 0 from h) (by decide)
 rw [e2, cond_true] at h
 by_cases e3 : xu z.n = z.k
 case neg => rw [decide_eq_false e3] at h; exact absurd (show (8 : Int) = 0 from h) (by decide)
 rw [decide_eq_true e3, cond_true] at h
 cases e4 : iV z.a
 ·rw [e4] at h; exact absurd (show (8 : Int) = 0 from h) (by decide)
 rw [e4, cond_true] at h
 cases e5 : iV z.b
 ·rw [e5] at h; exact absurd (show (8 : Int) = 0 from h) (by decide)
 rw [e5, cond_true] at h
 refine ⟨rfl, e3, rfl, rfl, ?_⟩
 cases e6 : z.a == z.b
 ·rfl
 rw [e6] at h
 cases e7 : vN z.k
 ·rw [e7] at h; exact absurd (show (2 : Int) = 0 from h) (by decide)
 rw [e7, cond_true] at h
 cases e8 : iV z.c
 ·rw [e8] at h; exact absurd (show (8 : Int) = 0 from h) (by decide)
 rw [e8, cond_true] at h
 cases e9 : iV z.d
 ·rw [e9] at h; exact absurd (show (8 : Int) = 0 from h) (by decide)
 rw [e9] at h; exact absurd (show (2 : Int) = 0 from h) (by decide)
theorem Wx {l : Tx} (h : iV l = true) : l ≠ [] := fun e => by
 rw [e] at h
 exact absurd h (by decide)
theorem loA (B : Nat) (hB : B ≤ 9) (n q r : Nat) (E : tE) (nd br : Nat → List UInt8) (M1 M2 M3 : List (List UInt8 × Int)) : aj Try.prog ((aT [0] (ak Try.f19))) Try.f19.ntmps B 9 9 JI (D9 n q r M1 M2 M3 E nd br) (YF n q r M1 M2 M3 E nd br) := Q7 [] trivial hB
theorem loB (B : Nat) (hB : B ≤ 9) (n q r : Nat) (E : tE) (nd br : Nat → List UInt8) (M1 M2 M3 : List (List UInt8 × Int)) (x0 : (qI n q r n q r M1 M2 M3 (Cont.row (.fn fun j => aP (E j))) (Cont.row (.fn (aU nd))) (Cont.row (.fn (aU br))))) : aj Try.prog ((aT [1,0] (ak Try.f19))) Try.f19.ntmps B 9 9 (zq 0 2) (D9 n q r M1 M2 M3 E nd br) (ZEF n q r E nd br) := Q7 [] (I1 x0) hB
theorem loC (B : Nat) (hB : B ≤ 9) (n q r : Nat) (E : tE) (nd br : Nat → List UInt8) (M1 M2 M3 : List (List UInt8 × Int)) : aj Try.prog ((aT [1,1,0] (ak Try.f19))) Try.f19.ntmps B 9 9 (zq 0 2) (D9 n q r M1 M2 M3 E nd br) (pP .normal [(0, ZA 2), (3, .dL)] [(2, Za n q r), (3, Zb M1), (4, Zb M2), (5, Zb M3), (6, ZS n E), (7, ZK q nd), (8, ZK r br)]) := Q7 [] trivial hB
noncomputable abbrev ZCh (v0 : tE) (v1 : Nat) := (.cells true 8 (List.length (aW (aK (Cont.row (.fn fun j => aP (v0 j)))) v1)) (.fn fun j => (aP (bG (aW (aK (Cont.row (.fn fun j => aP (v0 j)))) v1) j))) : aF)
theorem loD (B : Nat) (hB : B ≤ 10) (n q r : Nat) (E : tE) (nd br : Nat → List UInt8) (M1 M2 M3 : List (List UInt8 × Int)) (x0 : (qI n q r n q r M1 M2 M3 (Cont.row (.fn fun j => aP (E j))) (Cont.row (.fn (aU nd))) (Cont.row (.fn (aU br))))) : aj Try.prog ((aT [1,1,1,0] (ak Try.f19))) Try.f19.ntmps B 10 12 (aV [(0, ZA 2), (3, sL 9 0)]) (hpL [(2, ZV n q r), (3, .aJ true M1), (4, .aJ true M2), (5, .aJ true M3), (6, ZC n E), (7, ZK q nd), (8, ZK r br), (9, .cells true 1 0 (.fn fun _ => [.iP]))]) (pP .normal [(3, sL 9 0), (4, sL 10 (List.length (aW (aK (Cont.row (.fn fun j => aP (E j)))) n))), (5, sL 11 (List.length (fB (aK (Cont.row (.fn fun j => aP (E j)))) n)))] [(2, Za n q r), (3, Zt E n), (4, Zu E n), (5, Zv E n), (6, ZS n E), (7, ZK q nd), (8, ZK r br), (9, .cells true 1 0 (.fn fun x => [.iP])), (10, ZCh E n), (11, .cells true 8 (List.length (fB (aK (Cont.row (.fn fun j => aP (E j)))) n)) (.fn fun j => (aP (bG (fB (aK (Cont.row (.fn fun j => aP (E j)))) n) j))))]) := Q7 [] (I1 x0) hB
noncomputable abbrev ZBQ (v0 : Nat) := (.cells true 1 v0 (.fn fun _ => [.iP]) : aF)
noncomputable abbrev ZCD (v0 : Nat) := (.cells true 1 v0 (.fn fun x => [.iP]) : aF)
noncomputable abbrev ZEO (v0 v1 : Nat) (v2 : tE) (v3 : Nat) (v4 : tE) := hpL [(9, ZBQ v0), (10, ZF v1 v2), (11, ZF v3 v4)]
theorem loE (B : Nat) (hB : B ≤ 12) (t s k : Nat) (T R : tE) (nd br : Nat → List UInt8) (M1 M2 M3 : List (List UInt8 × Int)) : aj Try.prog ((aT [1,1,1,1,0,0] (ak Try.f19))) Try.f19.ntmps B 12 12 (aV [(3, sL 9 k), (4, sL 10 t), (5, sL 11 s)]) (ZEO k t T s R) (pP .normal [(3, sL 9 k), (4, sL 10 t), (15, sL 11 s), (16, iT (↑s : Int)), (17, Zg)] [(9, ZCD k), (10, ZQ t T), (11, ZQ s R)]) := Q7 [] trivial hB
noncomputable abbrev ZCx (v0 v1 v2 v3 : Nat) := aV [(3, sL 9 v0), (4, sL 10 v1), (15, sL 11 v2), (16, iT (v2 : Int)), (17, iT (v3 : Int))]
theorem loF (B : Nat) (hB : B ≤ 12) (t s i k : Nat) (T R : tE) (nd br : Nat → List UInt8) (M1 M2 M3 : List (List UInt8 × Int)) : aj Try.prog ((aT [1,1,1,1,0,1,0,0,0] (ak Try.f19))) Try.f19.ntmps B 12 12 (ZCx k t s i) (ZEO k t T s R) (pP .normal [(3, sL 9 k), (4, sL 10 t), (15, sL 11 s), (16, iT (↑s : Int)), (17, iT (↑i : Int)), (18, .bD (decide ((↑i : Int) < (↑s : Int))))] [(9, ZCD k), (10, ZQ t T), (11, ZQ s R)]) := Q7 [] trivial hB
theorem loX (B : Nat) (hB : B ≤ 12) (t s i k : Nat) (T R : tE) (nd br : Nat → List UInt8) (M1 M2 M3 : List (List UInt8 × Int)) (b : Bool) : aj Try.prog ((aT [1,1,1,1,0,1,0,0,1,0] (ak Try.f19))) Try.f19.ntmps B 12 12 (aV [(3, sL 9 k), (4, sL 10 t), (15, sL 11 s), (16, iT (s : Int)), (17, iT (i : Int)), (18, .bD b)]) (ZEO k t T s R) fun e fr' H' => (cond (b) (pP .normal [(3, sL 9 k), (4, sL 10 t), (15, sL 11 s), (16, iT (↑s : Int)), (17, iT (↑i : Int))] [(9, ZCD k), (10, ZQ t T), (11, ZQ s R)] e fr' H') (pP (.exit 0) [(3, sL 9 k), (4, sL 10 t), (15, sL 11 s), (16, iT (↑s : Int)), (17, iT (↑i : Int))] [(9, ZCD k), (10, ZQ t T), (11, ZQ s R)] e fr' H')) := cI (fun t0 => Q7 [tT] (I1 t0) hB) (fun t0 => Q7 [fF] (I1 t0) hB)
noncomputable abbrev ZCP := aT [1,1,1,1,0,1,0,0,1,1,0,0,0] (ak Try.f19)
theorem loG (B : Nat) (hB : B ≤ 12) (t s i k : Nat) (T R : tE) (nd br : Nat → List UInt8) (M1 M2 M3 : List (List UInt8 × Int)) (x0 : ((↑i : Int) < (↑s : Int))) (x1 : (0 + i < s)) : aj Try.prog (ZCP) Try.f19.ntmps B 12 13 (ZCx k t s i) (ZEO k t T s R) (pP .normal [(3, sL 9 k), (4, sL 10 t), (15, sL 11 s), (16, iT (↑s : Int)), (17, iT (↑i : Int)), (7, ZA 12)] [(9, ZCD k), (10, ZQ t T), (11, ZQ s R), (12, ZBP R i)]) := Q7 [] (I3 (ai (show 0 ≤ (↑i : Int) by omega) x0) x1 (show 8 ≤ 8 by omega)) hB
noncomputable abbrev ZCQ := aT [1,1,1,1,0,1,0,0,1,1,0,0,1] (ak Try.f19)
theorem loH (B : Nat) (hB : B ≤ 13) (t s i k : Nat) (T R : tE) (nd br : Nat → List UInt8) (M1 M2 M3 : List (List UInt8 × Int)) (x0 : (t ≤ 256)) (x1 : (∀ (j : Nat), j < t → dQ (aP (T (0 + j))) (aP (aK (rowsOf ⟨false, 10, 0, 0⟩ 8 8 (.fn fun j => aP (T j))) j)))) (x2 : (∃ cl, iq (Ku (aK (rowsOf ⟨false, 10, 0, 0⟩ 8 8 (.fn fun j => aP (T j)))) t) cl)) (x3 : (∀ (j : Nat), j < t → ∀ (u : AV), u ∈ aP (T (0 + j)) → AV.low 0 u = true)) (x4 : (∀ (XU : Nat), XU < Nc (aK fun j => (aP (T (0 + j)))) t (El.b (R i)) (El.a (R i)) → ∀ (o : Nat) (v : AV), [.str true (alG (aK fun j => (aP (T (0 + j)))) t (El.b (R i)) (El.a (R i)) XU)][o]? = Option.some v → AV.iy (fun g => H9 [(0, 13), (14, 15), (14, 14), (14, 14), (14, 14), (14, 14), (14, 14)] g = true) v)) (x5 : (0 + Nc (aK fun j => (aP (T (0 + j)))) t (El.b (R i)) (El.a (R i)) ≤ Nc (aK (rowsOf ⟨false, 10, 0, 0⟩ 8 8 (.fn fun j => aP (T j)))) t (El.b (R i)) (El.a (R i)))) (x6 : ((1 + Nc (aK (rowsOf ⟨false, 10, 0, 0⟩ 8 8 (.fn fun j => aP (T j)))) t (El.b (R i)) (El.a (R i))) * 16 ≤ 140737488355328)) (x7 : (1 + Nc (aK (rowsOf ⟨false, 10, 0, 0⟩ 8 8 (.fn fun j => aP (T j)))) t (El.b (R i)) (El.a (R i)) ≤ 9223372036854775807)) (x8 : (∀ (XU : Nat), XU < 1 + Nc (aK (rowsOf ⟨false, 10, 0, 0⟩ 8 8 (.fn fun j => aP (T j)))) t (El.b (R i)) (El.a (R i)) → ∀ (o : Nat) (v : AV), (bif decide (XU < 1) then [.str true (El.n (R i))] else bif Nat.beq (Nc (aK (rowsOf ⟨false, 10, 0, 0⟩ 8 8 (.fn fun j => aP (T j)))) t (El.b (R i)) (El.a (R i))) 1 then [.str true (alG (aK fun j => (aP (T (0 + j)))) t (El.b (R i)) (El.a (R i)) 0)] else [.str true (alG (aK fun j => (aP (T (0 + j)))) t (El.b (R i)) (El.a (R i)) (0 + (XU - 1)))])[o]? = Option.some v → AV.iy (fun g => H9 [(0, 13), (15, 16), (14, 15), (14, 14), (14, 14), (14, 14), (14, 14), (14, 14), (13, 14), (13, 13), (13, 13)] g = true) v)) (x9 : ((k + 1) * 24 ≤ 140737488355328)) (x10 : (k + 1 ≤ 9223372036854775807)) (x11 : (∀ (XU : Nat), XU < k + 1 → ∀ (o : Nat) (v : AV), (bif decide (XU < k) then [.iP] else [sL 15 (1 + Nc (aK (rowsOf ⟨false, 10, 0, 0⟩ 8 8 (.fn fun j => aP (T j)))) t (El.b (R i)) (El.a (R i)))])[o]? = Option.some v → AV.iy (fun g => H9 [(0, 13), (17, 18), (16, 17), (15, 16), (14, 15), (14, 14), (14, 14), (14, 14), (14, 14), (14, 14), (13, 14), (13, 13), (13, 13), (13, 13)] g = true) v)) : aj Try.prog ZCQ Try.f19.ntmps B 13 18 (aV [(3, sL 9 k), (4, sL 10 t), (15, sL 11 s), (16, iT (s : Int)), (17, iT (i : Int)), (7, .ptr ⟨false, 12, 0, 0⟩)]) (hpL [(9, .cells true 1 k (.fn fun _ => [.iP])), (10, .cells true 8 t (.fn fun j => aP (T j))), (11, .cells true 8 s (.fn fun j => aP (R j))), (12, .cells true 8 1 (.fn fun _ => aP (R i)))]) (pP .normal [(3, sL 17 (k + 1)), (4, sL 10 t), (15, sL 11 s), (16, iT (↑s : Int)), (17, iT (↑i : Int))] [(10, .cells true 8 t (.fn fun j => (aP (T j)))), (11, .cells true 8 s (.fn fun j => (aP (R j)))), (17, .cells true 1 (k + 1) (.fn fun j => bif decide (j < k) then [.iP] else [sL 15 (1 + Nc (aK (rowsOf ⟨false, 10, 0, 0⟩ 8 8 (.fn fun j => aP (T j)))) t (El.b (R i)) (El.a (R i)))]))]) := Q7 [] (I8 (show 0 + t ≤ t by omega) (ai (ai x0 (ai x1 x2)) x3) x4 x5 (ai (show 1 ≤ 1 by omega) (ai x6 x7)) x8 (ai (show k ≤ k by omega) (ai x9 x10)) x11) hB
theorem loJ (B : Nat) (hB : B ≤ 12) (t s i k : Nat) (T R : tE) (nd br : Nat → List UInt8) (M1 M2 M3 : List (List UInt8 × Int)) (x0 : ((↑i : Int) + 1 ≤ (9223372036854775807 : Int))) : aj Try.prog ((aT [1,1,1,1,0,1,0,0,1,1,1] (ak Try.f19))) Try.f19.ntmps B 12 12 (ZCx k t s i) (ZEO k t T s R) (pP .normal [(3, sL 9 k), (4, sL 10 t), (15, sL 11 s), (16, iT (↑s : Int)), (17, JJ i)] [(9, ZCD k), (10, ZQ t T), (11, ZQ s R)]) := Q7 [] (I1 (ai (show -9223372036854775808 ≤ (↑i : Int) + 1 by omega) x0)) hB
theorem loI (B : Nat) (hB : B ≤ 12) (k : Nat) (nd br : Nat → List UInt8) (M1 M2 M3 : List (List UInt8 × Int)) : aj Try.prog ((aT [1,1,1,1,1] (ak Try.f19))) Try.f19.ntmps B 12 12 (aV [(3, sL 9 k)]) (hpL [(9, ZBQ k)]) (pP .ret [(2, sL 9 k)] [(9, ZCD k)]) := Q7 [] trivial hB
theorem QL {n B K : Nat} {H : T aF} {μ : MM} {w w' : World} {H' : T aF} {fr' : Fr} {a a' : Act} {fl : jU} {bl : tH} (hf : Ge fr' fl) (hH : GeG H' bl) (h : AtB n B K H μ w H' fr' a a' w') : AtB n B K H μ w (hpL bl) (aV fl) a a' w' := by
 obtain ⟨μ', k1, k2, k3, k4⟩ := h.of
 have G := fun i b (hb : (hpL bl).get i = some b) => hH.get _ (aY hb)
 have nU : ∀ b, May μ' (hpL bl) b → May μ' H' b := fun b hm => by
  obtain ⟨i, x, m1, m2, m3, m4⟩ := hm
  obtain ⟨b0, h1, h2⟩ := G i x m1
  exact ⟨i, b0, h1, by rw [h2.owned]; exact m2, (h2.real _ _).2 m3, m4⟩
 refine ⟨μ', ⟨fun i b hb => ?_, fun i b hb => ?_, fun i b j b' hi hj ho hr hr' he => ?_, fun b o q => ⟨(k1.fz b o q).1, fun hm => (k1.fz b o q).2 (nU b hm)⟩⟩, ⟨k2.names, k2.os, k2.tape, k2.output, k2.size, k2.block, fun b hb hm => k2.may b hb (nU b hm), k2.fz⟩, ⟨k3.size, fun t v ht => ?_⟩, k4⟩
 ·obtain ⟨b0, h1, h2⟩ := G i b hb; exact k1.lt i b0 h1
 ·obtain ⟨b0, h1, h2⟩ := G i b hb; exact h2.ok (k1.ok i b0 h1)
 ·obtain ⟨b0, h1, h2⟩ := G i b hi
  obtain ⟨b1, l1, l2⟩ := G j b' hj
  exact k1.sep i b0 j b1 h1 l1 (by rw [h2.owned]; exact ho) ((h2.real _ _).2 hr) ((l2.real _ _).2 hr') he
 ·obtain ⟨u, h1, h2⟩ := hf.get _ (fV ht)
  exact h2 _ _ _ (k3.val t u h1)
theorem Eb {P : Program} {n B K K' : Nat} {c : Code} {fr : Fr} {H : T aF} {Post Post' : Po} (h : aj P c n B K K' fr H Post) (k : ∀ e fr' H', Post e fr' H' → ∃ fl bl, Ge fr' fl ∧ GeG H' bl ∧ Post' e (aV fl) (hpL bl)) : aj P c n B K K' fr H Post' :=
 fun μ w a hg hf Q hQ => h μ w a hg hf Q fun e fr' H' a' w' hp ha => by
  obtain ⟨fl, bl, h1, h2, h3⟩ := k _ _ _ hp
  exact hQ e _ _ a' w' h3 (QL h1 h2 ha)
theorem JY (G : tE) : (aK fun j => aP (G j)) = G := rfl
theorem JX (a : Nat) (G : tE) : aK (rowsOf ⟨false, a, 0, 0⟩ 8 8 (.fn fun j => aP (G j))) = G := funext fun j => by
 show unE (aP (G (0 + j))) = G j
 rw [Nat.zero_add]
 rfl
theorem XV {v : AV} (h : v.one = true) : AV.ge v .iP := fun N μ c k => by
 simp only [Rep]
 exact Rep.oneCell k h
theorem abJ (E : tE) (k : Nat) (z y : Tx) : Nc E k z y ≤ k + 1 := by rw [Ut]; exact Xx E k z y
theorem BA {x : Tx} {o : Nat} {v : AV} {S : Nat → Prop} (h : [AV.str true x][o]? = some v) : v.iy S := by
 rw [List.mem_singleton.1 (List.mem_of_getElem? h)]; trivial
noncomputable abbrev ZB9 (v0 v1 v2 : Nat) (w0) := ([(3, sL w0 (v0 + 1)), (4, sL 10 v1), (15, sL 11 v2), (16, iT (v2 : Int)), (17, iT (v0 : Int))] : jU)
noncomputable abbrev ZCE (v0 v1 v2 : Nat) := ([(3, sL 9 v0), (4, sL 10 v1), (15, sL 11 v2), (16, iT (v2 : Int)), (17, iT (v0 : Int))] : jU)
noncomputable abbrev ZCf (v0 : Nat) := (.cells true 1 (v0 + 1) (.fn fun _ => [.iP]) : aF)
theorem abK (t s i : Nat) (T R : tE) (ht : t ≤ 256) (hs : s ≤ 256) (hF : ∃ cl : Nat → Tx → Nat, iq (Ku T t) cl) (hi : i < s) :
  aj Try.prog (.block 1 (.seq ZCP ZCQ)) Try.f19.ntmps 9 12 12 (aV [(3, sL 9 i), (4, sL 10 t), (15, sL 11 s), (16, iT (s : Int)), (17, iT (i : Int))]) (hpL [(9, .cells true 1 i (.fn fun _ => [.iP])), (10, .cells true 8 t (.fn fun j => aP (T j))), (11, .cells true 8 s (.fn fun j => aP (R j)))]) (Nm [(3, sL 9 (i + 1)), (4, sL 10 t), (15, sL 11 s), (16, iT (s : Int)), (17, iT (i : Int))] [(9, .cells true 1 (i + 1) (.fn fun _ => [.iP])), (10, .cells true 8 t (.fn fun j => aP (T j))), (11, .cells true 8 s (.fn fun j => aP (R j)))]) := by
 have h1 : aj Try.prog (.block 1 (.seq ZCP ZCQ)) Try.f19.ntmps 9 12 18 (aV [(3, sL 9 i), (4, sL 10 t), (15, sL 11 s), (16, iT (s : Int)), (17, iT (i : Int))]) (hpL [(9, .cells true 1 i (.fn fun _ => [.iP])), (10, .cells true 8 t (.fn fun j => aP (T j))), (11, .cells true 8 s (.fn fun j => aP (R j)))]) (Nm [(3, sL 17 (i + 1)), (4, sL 10 t), (15, sL 11 s), (16, iT (s : Int)), (17, iT (i : Int))] [(17, .cells true 1 (i + 1) (.fn fun _ => [.iP])), (10, .cells true 8 t (.fn fun j => aP (T j))), (11, .cells true 8 s (.fn fun j => aP (R j)))]) := by
  refine aj.nV ?_
  refine aj.bn (K1 := 13) (F1 := [(3, sL 9 i), (4, sL 10 t), (15, sL 11 s), (16, iT (s : Int)), (17, iT (i : Int)), (7, .ptr ⟨false, 12, 0, 0⟩)]) (H1 := [(9, .cells true 1 i (.fn fun _ => [.iP])), (10, .cells true 8 t (.fn fun j => aP (T j))), (11, .cells true 8 s (.fn fun j => aP (R j))), (12, .cells true 8 1 (.fn fun _ => aP (R i)))]) (aj.toN (loG 9 (by omega) t s i i T R (fun _ => []) (fun _ => []) [] [] [] (by omega) (by omega)) (iD rfl) ⟨(Sx.hs rfl), (Sx.hs rfl), (Sx.hs rfl), wG rfl (by show aP (R (0 + i)) = aP (R i); rw [Nat.zero_add]), trivial⟩) (by omega) ?_
  have hN := abJ T t (R i).b (R i).a
  have hH := loH 9 (by omega) t s i i T R (fun _ => []) (fun _ => []) [] [] []
  simp only [JX, Nat.zero_add, JY] at hH
  refine Eb (hH ht (fun j hj => aQ _ rfl) hF (fun j hj u hu => List.all_eq_true.1 (sJ 0 _) u hu) (fun j hj o v hv => BA hv) (Nat.le_refl _) (by omega) (by omega) (fun j hj o v hv => ?_) (by omega) (by omega) (fun j hj o v hv => ?_)) fun e fr' H' h => ?_
  ·by_cases c : j < 1
   ·rw [decide_eq_true c, cond_true] at hv; exact BA hv
   ·rw [decide_eq_false c, cond_false] at hv
    cases q : Nat.beq (Nc T t (R i).b (R i).a) 1 with
    | true => rw [q, cond_true] at hv; exact BA hv
    | false => rw [q, cond_false] at hv; exact BA hv
  ·by_cases c : j < i
   ·rw [decide_eq_true c, cond_true] at hv
    rw [List.mem_singleton.1 (List.mem_of_getElem? hv)]; trivial
   ·rw [decide_eq_false c, cond_false] at hv
    rw [List.mem_singleton.1 (List.mem_of_getElem? hv)]
    show H9 _ 15 = true
    rfl
  ·obtain ⟨rfl, rfl, rfl⟩ := h
   refine ⟨[(3, sL 17 (i + 1)), (4, sL 10 t), (15, sL 11 s), (16, iT (s : Int)), (17, iT (i : Int))], [(17, .cells true 1 (i + 1) (.fn fun _ => [.iP])), (10, .cells true 8 t (.fn fun j => aP (T j))), (11, .cells true 8 s (.fn fun j => aP (R j)))], (iD rfl), ⟨⟨_, rfl, rfl, rfl, rfl, fun j hj => ?_⟩, ⟨_, rfl, rfl, rfl, rfl, fun j _ => aQ _ rfl⟩, ⟨_, rfl, rfl, rfl, rfl, fun j _ => aQ _ rfl⟩, trivial⟩, rfl, rfl, rfl⟩
   show dQ (bif decide (j < i) then [AV.iP] else [sL 15 (1 + Nc T t (R i).b (R i).a)]) [AV.iP]
   by_cases c : j < i
   ·rw [decide_eq_true c, cond_true]; exact aQ _ rfl
   ·rw [decide_eq_false c, cond_false]; exact ⟨XV rfl, rfl, trivial⟩
 exact h1.renG fun e fr' H' h => by
  obtain ⟨rfl, rfl, rfl⟩ := h
  exact ⟨sg 9 17, [(3, sL 9 (i + 1)), (4, sL 10 t), (15, sL 11 s), (16, iT (s : Int)), (17, iT (i : Int))], [(9, .cells true 1 (i + 1) (.fn fun _ => [.iP])), (10, .cells true 8 t (.fn fun j => aP (T j))), (11, .cells true 8 s (.fn fun j => aP (R j)))], mX (by omega), (yX rfl), ⟨dX rfl rfl (fun j _ => rfl) (fun j _ => rfl) (by omega), dX rfl rfl (fun j _ => rfl) (fun j _ => rfl) (by omega), dX rfl rfl (fun j _ => rfl) (fun j _ => rfl) (by omega), trivial⟩, mY (by omega), rfl, rfl, rfl⟩
noncomputable abbrev ZCp := aT [1,1,1,1,0,1,0,0] (ak Try.f19)
theorem O7 : ZCp = .seq (aT [1,1,1,1,0,1,0,0,0] (ak Try.f19)) (.seq (aT [1,1,1,1,0,1,0,0,1,0] (ak Try.f19)) (.seq (.block 1 (.seq ZCP ZCQ)) (aT [1,1,1,1,0,1,0,0,1,1,1] (ak Try.f19)))) := by kernel_rfl
theorem ad4 : (ak Try.f19) = .seq (aT [0] (ak Try.f19)) (.seq (aT [1,0] (ak Try.f19)) (.seq (aT [1,1,0] (ak Try.f19)) (.seq (aT [1,1,1,0] (ak Try.f19)) (.seq (.seq (aT [1,1,1,1,0,0] (ak Try.f19)) (.block 0 (.loop ZCp))) (aT [1,1,1,1,1] (ak Try.f19)))))) := by kernel_rfl
theorem XW (t s i : Nat) (T R : tE) (ht : t ≤ 256) (hs : s ≤ 256) (hF : ∃ cl : Nat → Tx → Nat, iq (Ku T t) cl) (hi : i < s) :
  aj Try.prog ZCp Try.f19.ntmps 9 12 12 (aV (ZCE i t s)) (ZEO i t T s R) (Nm [(3, sL 9 (i + 1)), (4, sL 10 t), (15, sL 11 s), (16, iT (s : Int)), (17, Vl i)] [(9, ZCf i), (10, ZF t T), (11, ZF s R)]) := by
 rw [O7]
 refine aj.bn (K1 := 12) (loF 9 (by omega) t s i i T R (fun _ => []) (fun _ => []) [] [] []) (by omega) ?_
 refine aj.bn (K1 := 12) (F1 := (ZCE i t s)) (H1 := [(9, ZBQ i), (10, ZF t T), (11, ZF s R)]) ((loX 9 (by omega) t s i i T R (fun _ => []) (fun _ => []) [] [] [] (decide ((i : Int) < (s : Int)))).mono fun e fr' H' h => ?_) (by omega) ?_
 ·rw [decide_eq_true (by omega), cond_true] at h
  exact h
 refine aj.bn (K1 := 12) (abK t s i T R ht hs hF hi) (by omega) ?_
 exact aj.toN (loJ 9 (by omega) t s i (i + 1) T R (fun _ => []) (fun _ => []) [] [] [] (by omega)) ⟨re rfl, re rfl, re rfl, re rfl, ⟨_, rfl, AV.ge.int' _ _ _ (by omega)⟩, trivial⟩ (gq rfl)
theorem abL (t s : Nat) (T R : tE) :
  aj Try.prog ZCp Try.f19.ntmps 9 12 12 (aV [(3, sL 9 s), (4, sL 10 t), (15, sL 11 s), (16, iT (s : Int)), (17, iT (s : Int))]) (hpL [(9, ZBQ s), (10, ZF t T), (11, ZF s R)]) (Xm 0 [(3, sL 9 s), (4, sL 10 t), (15, sL 11 s), (16, iT (s : Int)), (17, iT (s : Int))] [(9, ZBQ s), (10, ZF t T), (11, ZF s R)]) := by
 rw [O7]
 refine aj.bn (K1 := 12) (loF 9 (by omega) t s s s T R (fun _ => []) (fun _ => []) [] [] []) (by omega) ?_
 refine aj.DY (K1 := 12) ((loX 9 (by omega) t s s s T R (fun _ => []) (fun _ => []) [] [] [] (decide ((s : Int) < (s : Int)))).mono fun e fr' H' h => ?_) (by omega)
 rw [decide_eq_false (by omega), cond_false] at h
 exact h
noncomputable abbrev ZBG (v0 : tE) (v1 : Nat) := (.cells true 8 (aW v0 v1).length (.fn fun j => aP (bG (aW v0 v1) j)) : aF)
noncomputable abbrev ZCJ (v0 : tE) (v1 : Nat) := (.cells true 8 (fB v0 v1).length (.fn fun j => aP (bG (fB v0 v1) j)) : aF)
noncomputable abbrev ZCW (v0 : tE) (v1 : Nat) (w0) := sL w0 (aW v0 v1).length
noncomputable abbrev ZEl (v0 : tE) (v1 : Nat) := ([(9, .cells true 1 (fB v0 v1).length (.fn fun _ => [.iP])), (2, ZD v1 v0), (3, ZM v0 v1), (4, ZN v0 v1), (5, ZO v0 v1), (6, ZC v1 v0), (7, ZG v0 v1), (8, ZH v0 v1)] : tH)
theorem XY (n : Nat) (E : tE) (hn : n ≤ 256) :
  aj Try.prog (ak Try.f19) Try.f19.ntmps 9 9 12 JI (hpL (ZB n E)) (fun e fr' H' => e = .ret ∧ fr' = aV [(2, sL 9 (fB E n).length)] ∧ H' = hpL (ZEl E n)) := by
 have hq := AU n E hn
 have lT : (aW E n).length ≤ n := by rw [pJ]; exact Bz _ E n
 have lR : (fB E n).length ≤ n := by rw [yV]; exact H6 _ E n
 have hF : ∃ cl : Nat → Tx → Nat, iq (Ku (bG (aW E n)) (aW E n).length) cl := by rw [pJ]; exact KD _ E n
 rw [ad4]
 refine aj.bn (K1 := 9) (loA 9 (by omega) n (ND E n).length (BR E n).length E (aA (ND E n)) (aA (BR E n)) (ay 0 (NM E n)) (ay 0 (ND E n)) (ay 0 (BR E n))) (by omega) ?_
 refine aj.bn (K1 := 9) (F1 := [(0, ZA 2)]) (H1 := (ZB n E)) (aj.toN (loB 9 (by omega) n (ND E n).length (BR E n).length E (aA (ND E n)) (aA (BR E n)) (ay 0 (NM E n)) (ay 0 (ND E n)) (ay 0 (BR E n)) hq) ⟨re rfl, trivial⟩ (gq rfl)) (by omega) ?_
 refine aj.bn (K1 := 9) (loC 9 (by omega) n (ND E n).length (BR E n).length E (aA (ND E n)) (aA (BR E n)) (ay 0 (NM E n)) (ay 0 (ND E n)) (ay 0 (BR E n))) (by omega) ?_
 refine aj.phantom 3 1 (fun _ => [.iP]) rfl (by omega) (by omega) ?_
 refine aj.gK (fl := [(0, ZA 2), (3, sL 9 0)]) (bl := [(2, ZD n E), (3, ZM E n), (4, ZN E n), (5, ZO E n), (6, ZC n E), (7, ZG E n), (8, ZH E n), (9, .cells true 1 0 (.fn fun _ => [.iP]))]) (iD rfl) (gq rfl) ?_
 refine aj.bn (K1 := 12) (F1 := [(3, sL 9 0), (4, ZCW E n 10), (5, sL 11 (fB E n).length)]) (H1 := [(9, .cells true 1 0 (.fn fun _ => [.iP])), (10, ZBG E n), (11, ZCJ E n), (2, ZD n E), (3, ZM E n), (4, ZN E n), (5, ZO E n), (6, ZC n E), (7, ZG E n), (8, ZH E n)]) (aj.toN (loD 9 (by omega) n (ND E n).length (BR E n).length E (aA (ND E n)) (aA (BR E n)) (ay 0 (NM E n)) (ay 0 (ND E n)) (ay 0 (BR E n)) hq) (iD rfl) (gq rfl)) (by omega) ?_
 refine aj.bn (K1 := 12) (F1 := [(3, sL 9 (fB E n).length), (4, ZCW E n 10), (15, sL 11 (fB E n).length), (16, iT ((fB E n).length : Int)), (17, iT ((fB E n).length : Int))]) (H1 := [(9, .cells true 1 (fB E n).length (.fn fun _ => [.iP])), (10, ZBG E n), (11, ZCJ E n), (2, ZD n E), (3, ZM E n), (4, ZN E n), (5, ZO E n), (6, ZC n E), (7, ZG E n), (8, ZH E n)]) ?_ (by omega) ?_
 ·have hr := aj.rounds (P := Try.prog) (n := Try.f19.ntmps) (B := 9) (K := 12) (id := 0) (fB E n).length (fun i => [(3, sL 9 i), (4, ZCW E n 10), (15, sL 11 (fB E n).length), (16, iT ((fB E n).length : Int)), (17, iT ((i : Nat) : Int))]) (fun i => [(9, .cells true 1 i (.fn fun _ => [.iP])), (10, ZBG E n), (11, ZCJ E n)]) (fun i hi => XW (aW E n).length (fB E n).length i (bG (aW E n)) (bG (fB E n)) (by omega) (by omega) hF hi) (abL (aW E n).length (fB E n).length (bG (aW E n)) (bG (fB E n)))
  exact (aj.bn (K1 := 12) (F1 := [(3, sL 9 0), (4, ZCW E n 10), (15, sL 11 (fB E n).length), (16, iT ((fB E n).length : Int)), (17, FC)]) (H1 := [(9, .cells true 1 0 (.fn fun _ => [.iP])), (10, ZBG E n), (11, ZCJ E n)]) (aj.toN (loE 9 (by omega) (aW E n).length (fB E n).length 0 (bG (aW E n)) (bG (fB E n)) (fun _ => []) (fun _ => []) [] [] []) ⟨re rfl, re rfl, re rfl, re rfl, ⟨_, rfl, AV.ge.int _ _ _ _⟩, trivial⟩ (gq rfl)) (by omega) hr).jR (xl := (ZB n E)) (by omega) ⟨⟨by omega, fun j hj v hv => List.all_eq_true.1 (show (bQ 6 7 8 n (ND E n).length (BR E n).length).all (fun v => v.low 9) = true from rfl) v hv⟩, ⟨by omega, trivial⟩, ⟨by omega, trivial⟩, ⟨by omega, trivial⟩, ⟨by omega, fun j hj v hv => List.all_eq_true.1 (show (aP (E j)).all (fun v => v.low 9) = true from rfl) v hv⟩, ⟨by omega, fun j hj v hv => List.all_eq_true.1 (show (aU (aA (ND E n)) j).all (fun v => v.low 9) = true from rfl) v hv⟩, ⟨by omega, fun j hj v hv => List.all_eq_true.1 (show (aU (aA (BR E n)) j).all (fun v => v.low 9) = true from rfl) v hv⟩, trivial⟩ rfl rfl ⟨.inl rfl, .inl rfl, .inl rfl, trivial⟩
 ·refine aj.gK (fl := [(3, sL 9 (fB E n).length)]) (bl := (ZEl E n)) ⟨re rfl, trivial⟩ (gq rfl) ?_
  exact (loI 9 (by omega) (fB E n).length (fun _ => []) (fun _ => []) [] [] []).lM (xl := (ZB n E)) (by omega) ⟨⟨by omega, fun j hj v hv => List.all_eq_true.1 (show (bQ 6 7 8 n (ND E n).length (BR E n).length).all (fun v => v.low 9) = true from rfl) v hv⟩, ⟨by omega, trivial⟩, ⟨by omega, trivial⟩, ⟨by omega, trivial⟩, ⟨by omega, fun j hj v hv => List.all_eq_true.1 (show (aP (E j)).all (fun v => v.low 9) = true from rfl) v hv⟩, ⟨by omega, fun j hj v hv => List.all_eq_true.1 (show (aU (aA (ND E n)) j).all (fun v => v.low 9) = true from rfl) v hv⟩, ⟨by omega, fun j hj v hv => List.all_eq_true.1 (show (aU (aA (BR E n)) j).all (fun v => v.low 9) = true from rfl) v hv⟩, trivial⟩ rfl (fun e fr' H0' h => by
   obtain ⟨rfl, rfl, rfl⟩ := h
   exact ⟨_, rfl, rfl, ⟨.inl rfl, trivial⟩, rfl, rfl, rfl⟩)


noncomputable def YN (b : List El) : M Nat := M.fD (.cells true 1 b.length (.fn fun _ => [.iP]))
theorem Nq {b : List El} {N : Nat} {g g' : G} (h : YN b g = .done N g') : N = g.nx ∧ g'.H = kS g.H g.nx [.cells true 1 b.length (.fn fun _ => [.iP])] ∧ g'.nx = g.nx + 1 ∧ g'.cs = g.cs := by
 cases h
 exact ⟨rfl, rfl, rfl, rfl⟩
noncomputable def su : List AV → M AV
 | [.ptr aN] => (M.dh (og aN)).andThen fun _ => (netRd aN.g).andThen fun y => (M.setB y.1.m1 (.aJ true (ay 0 (NM y.2 y.1.n)))).andThen fun _ => (M.setB y.1.m2 (.aJ true (ay 0 (ND y.2 y.1.n)))).andThen fun _ => (M.setB y.1.m3 (.aJ true (ay 0 (BR y.2 y.1.n)))).andThen fun _ => (YN (fB y.2 y.1.n)).andThen fun N => M.ret (.slc true true ⟨false, N, 0, 0⟩ (fB y.2 y.1.n).length)
 | _ => M.no
theorem pG : ∀ args, aC (su args) := by
 intro args
 unfold su
 split
 ·exact (aC.dh _).andThen fun _ => (lu _).andThen fun _ => (aC.setB _ _).andThen fun _ => (aC.setB _ _).andThen fun _ => (aC.setB _ _).andThen fun _ => (aC.fD _).andThen fun _ => aC.ret _
 ·exact aC.no
theorem qQ : ∀ args v g g', su args g = .done v g' → bZ Try.prog 19 args v g g' := by
 intro args v g g' h
 unfold su at h
 split at h
 case h_2 => exact (bC h).elim
 rename_i aN
 obtain ⟨_, g1, a1, h⟩ := au h
 obtain ⟨q0, rfl⟩ := aS a1
 have q0 := jD q0
 obtain ⟨⟨w, E⟩, g3, a3, h⟩ := au h
 obtain ⟨qf, kk, ff⟩ := jE a3
 dsimp only at h ff
 obtain ⟨_, g6, a6, h⟩ := au h
 obtain ⟨_, g7, a7, h⟩ := au h
 obtain ⟨_, g8, a8, h⟩ := au h
 obtain ⟨b1, b2, b3⟩ := bM a6
 obtain ⟨b4, b5, b6⟩ := bM a7
 obtain ⟨b7, b8, b9⟩ := bM a8
 have hx : g8.nx = g.nx := by rw [b8, b5, b2, kk.2.1]
 obtain ⟨N, g9, a9, h⟩ := au h
 obtain ⟨e1, e2, e3, e4⟩ := Nq a9
 obtain ⟨rfl, rfl⟩ := aB h
 refine qx (K' := 12) (c := (ak Try.f19)) Try.func19 (by kernel_rfl) (by kernel_rfl) (gG := [ZA 2]) (fun hc => kk.2.2 (by rw [← b3, ← b6, ← b9, ← e4]; exact hc)) (N := aN.g) (w := w) (E := E) (fun hp => ff hp) (xl := []) (rx := fun _ => 0) (K0 := 9) (Nat.le_refl _) (fun hp M μ cs hr => ?_) (fun hp i b hb => by cases hb) (fun hp i j b b' hi => by cases hi) (bs := [.cells true 1 (fB E w.n).length (.fn fun _ => [.iP])]) (nms := [9]) rfl (by decide) (by decide) (by rw [e2, b7, b4, b1, kk.1, hx]; rfl) (by rw [e3, hx]; rfl) (fun b hb => by
   rw [List.mem_singleton.1 hb]
   exact ⟨rfl, fun i hi v hv => by rw [List.mem_singleton.1 hv]; rfl, fun i hi o v hv => by
    rw [List.mem_singleton.1 (List.mem_of_getElem? hv)]; trivial⟩) (by rw [e1, hx]; exact Nat.ble_eq_true_of_le (show Nat.succ g.nx ≤ g.nx + 1 by omega)) (by rw [e1, hx]; exact ⟨by show g.nx ≤ g.nx; omega, by show g.nx < g.nx + 1; omega⟩) (fun hp kN => ?_)
 ·simp only [aO] at hr ⊢
  obtain ⟨c1, l1, rfl, h1, rfl⟩ := hr
  exact ⟨c1, _, rfl, kD h1 q0.1 q0.2 (by omega) rfl, rfl⟩
 have F := ff hp
 rw [List.append_nil, qU F]
 have k0 : zn w g.nx [9] g.nx = 9 := kN 0 (by simp)
 refine (XY w.n E F.n256).mono fun e fr' H' h => ?_
 obtain ⟨rfl, rfl, rfl⟩ := h
 refine ⟨.inl rfl, _, _, res1 (t := 2) (by kernel_rfl) rfl, trivial, ?_, ⟨rfl, rfl, rfl⟩, fun j b hb => ?_⟩
 ·simp only [AV.ren, AA.ren, e1, hx, k0]
  exact AV.ge.refl _
 ·match j, hb with
  | 0, hb => cases hb; exact ⟨_, rfl, rfl, rfl, rfl, fun j hj => rfl⟩

noncomputable def abM : Known := kc 71 ofBits (kc 74 toBits (kc 72 jw (kc 61 nM (kc 58 jT (kc 73 KP (kc 59 pq (kc 60 pz (kc 35 yS (kc 12 mP (kc 29 zT (kc 46 mQ (kc 44 qO (kc 41 sS (kc 39 uM (kc 40 Tz (kc 15 wE (kc 45 qH (kc 19 su (kn)))))))))))))))))))
theorem O8 : fK Try.prog abM := aH ((fQ Try.prog).fE Try.func71 (by kernel_rfl) (by kernel_rfl) (by kernel_rfl) (by kernel_rfl)) (aH ((fP Try.prog).fE Try.func74 (by kernel_rfl) (by kernel_rfl) (by kernel_rfl) (by kernel_rfl)) (aH gI (aH iK (aH gU (aH nX (aH jy (aH jA (aH nC (aH jL (aH oG (aH jM (aH lQ (aH nN (aH pF (aH xk (aH qP (aH oI (aH qQ (qj)))))))))))))))))))
theorem KE : gY abM := aG aC.ofBits (aG aC.toBits (aG fJ (aG gJ (aG fZ (aG kH (aG iL (aG iM (aG ku (aG iR (aG lS (aG iU (aG jO (aG kY (aG mV (aG sD (aG oJ (aG mW (aG pG (lJ)))))))))))))))))))
noncomputable def O9 : Calls' := Sx.runN Try.prog abM (bK Try.prog) 1000 50
theorem UZ : dw Try.prog O9 := iQ O8 KE (by kernel_rfl) (by kernel_rfl) 1000 50
theorem QM (n : Nat) : eF Try.prog (bK Try.prog O9 n) n := eX O8 KE (by kernel_rfl) (by kernel_rfl) 1000 50 n
noncomputable abbrev En (f : Func) (c : Code) (fr : Fr) (H : T aF) (K : Nat) (path : List Bool) : Aa (Ex × Fr) :=
 bV Try.prog O9 (bK Try.prog O9 f.ntmps) jH f.ntmps 1000 c fr ⟨H, K, [], path, True⟩


theorem rcZ {fn : Func} {K K' B : Nat} {e : Ex} {F : jU} {Hl : tH} {c : Code} {fr : Fr} {H : T aF} {path : List Bool} (h : cO K' e F Hl (En fn c fr H K path)) (hB : B ≤ K) : aj Try.prog c fn.ntmps B K K' fr H fun e' fr' H' => e' = e ∧ fr' = aV F ∧ H' = hpL Hl := aj.runN UZ (QM _) (gu.none _ _ _) h hB
theorem Q8 {fn : Func} {K K' B : Nat} {e : Ex} {F : jU} {Hl : tH} {c : Code} {fr : Fr} {H : T aF} (path : List Bool) {q : Prop} (hq : q) (hB : B ≤ K) (h : jg K' e F Hl (En fn c fr H K path) = (e = e ∧ ql F ∧ qm Hl ∧ true = true ∧ q) := by kernel_rfl) : aj Try.prog c fn.ntmps B K K' fr H fun e' fr' H' => e' = e ∧ fr' = aV F ∧ H' = hpL Hl := rcZ (eqn h hq) hB
theorem QN : AO (.bool true) (lU 9 [] (G.on [])) = (AV.bool true = AV.bool true ∧ True) := by kernel_rfl
noncomputable def D7 : List AV → M AV
 | [] => M.ret (.bool true)
 | args => lU 9 args
theorem Qg : ∀ args v g g', D7 args g = .done v g' → bZ Try.prog 9 args v g g' := by
 intro args v g g' h
 unfold D7 at h
 split at h
 ·obtain ⟨rfl, rfl⟩ := aB h
  refine VG qR fun μ bW ha => ?_
  have ha' : aO 0 MM.none [] bW.toList := by simpa only [aO] using ha
  exact ⟨[], [], _, ha', ⟨by rw [QN]; exact ⟨rfl, trivial⟩⟩, rfl, fun c hc => by have := hc g.nx μ; simpa only [Rep] using this⟩
 ·exact qR _ _ _ _ _ h
theorem MC : ∀ args, aC (D7 args) := by
 intro args
 unfold D7
 split
 ·exact aC.ret _
 ·exact FH _ _


theorem trA (B : Nat) (hB : B ≤ 9) (n q r : Nat) (E : tE) (h : Nat → List UInt8) (nd br : Nat → List UInt8) (M1 M2 M3 : List (List UInt8 × Int)) : aj Try.prog ((aT [0] (ak Try.f18))) Try.f18.ntmps B 9 9 JI (D9 n q r M1 M2 M3 E nd br) (YF n q r M1 M2 M3 E nd br) := Q8 [] trivial hB
theorem trB (B : Nat) (hB : B ≤ 9) (n q r : Nat) (E : tE) (h : Nat → List UInt8) (nd br : Nat → List UInt8) (M1 M2 M3 : List (List UInt8 × Int)) (x0 : (qI n q r n q r M1 M2 M3 (Cont.row (.fn fun j => aP (E j))) (Cont.row (.fn (aU nd))) (Cont.row (.fn (aU br))))) : aj Try.prog ((aT [1,0] (ak Try.f18))) Try.f18.ntmps B 9 9 (zq 0 2) (D9 n q r M1 M2 M3 E nd br) (ZEF n q r E nd br) := Q8 [] (I1 x0) hB
theorem trC (B : Nat) (hB : B ≤ 9) (n q r : Nat) (E : tE) (h : Nat → List UInt8) (nd br : Nat → List UInt8) (M1 M2 M3 : List (List UInt8 × Int)) : aj Try.prog ((aT [1,1,0] (ak Try.f18))) Try.f18.ntmps B 9 9 (zq 0 2) (D9 n q r M1 M2 M3 E nd br) (pP .normal [(0, ZA 2), (3, .dL)] [(2, Za n q r), (3, Zb M1), (4, Zb M2), (5, Zb M3), (6, ZS n E), (7, ZK q nd), (8, ZK r br)]) := Q8 [] trivial hB
theorem trD (B : Nat) (hB : B ≤ 10) (n q r : Nat) (E : tE) (h : Nat → List UInt8) (nd br : Nat → List UInt8) (M1 M2 M3 : List (List UInt8 × Int)) (x0 : (qI n q r n q r M1 M2 M3 (Cont.row (.fn fun j => aP (E j))) (Cont.row (.fn (aU nd))) (Cont.row (.fn (aU br))))) : aj Try.prog ((aT [1,1,1,0] (ak Try.f18))) Try.f18.ntmps B 10 12 (aV [(0, ZA 2), (3, sL 9 0)]) (hpL [(2, ZV n q r), (3, .aJ true M1), (4, .aJ true M2), (5, .aJ true M3), (6, ZC n E), (7, ZK q nd), (8, ZK r br), (9, .cells true 1 0 (.fn (aU h)))]) (pP .normal [(3, sL 9 0), (4, sL 10 (List.length (aW (aK (Cont.row (.fn fun j => aP (E j)))) n)))] [(2, Za n q r), (3, Zt E n), (4, Zu E n), (5, Zv E n), (6, ZS n E), (7, ZK q nd), (8, ZK r br), (9, .cells true 1 0 (.fn (aU h))), (10, ZCh E n)]) := Q8 [] (I1 x0) hB
theorem trE (B : Nat) (hB : B ≤ 11) (t k : Nat) (T : tE) (h : Nat → List UInt8) (nd br : Nat → List UInt8) (M1 M2 M3 : List (List UInt8 × Int)) : aj Try.prog ((aT [1,1,1,1,0,0] (ak Try.f18))) Try.f18.ntmps B 11 11 (aV [(3, sL 9 k), (4, sL 10 t)]) (hpL [(9, ZT k h), (10, ZF t T)]) (pP .normal [(3, sL 9 k), (15, sL 10 t), (16, iT (↑t : Int)), (17, Zg)] [(9, ZT k h), (10, ZQ t T)]) := Q8 [] trivial hB
noncomputable abbrev ZDM (v0 v1 v2 : Nat) := aV [(3, sL 9 v0), (15, sL 10 v1), (16, iT (v1 : Int)), (17, iT (v2 : Int))]
theorem trF (B : Nat) (hB : B ≤ 11) (t i k : Nat) (T : tE) (h : Nat → List UInt8) (nd br : Nat → List UInt8) (M1 M2 M3 : List (List UInt8 × Int)) : aj Try.prog ((aT [1,1,1,1,0,1,0,0,0] (ak Try.f18))) Try.f18.ntmps B 11 11 (aV [(3, sL 9 k), (15, sL 10 t), (16, iT (t : Int)), (17, iT (i : Int))]) (hpL [(9, .cells true 1 k (.fn (aU h))), (10, .cells true 8 t (.fn fun j => aP (T j)))]) (pP .normal [(3, sL 9 k), (15, sL 10 t), (16, iT (↑t : Int)), (17, iT (↑i : Int)), (18, .bD (decide ((↑i : Int) < (↑t : Int))))] [(9, .cells true 1 k (.fn (aU h))), (10, .cells true 8 t (.fn fun j => (aP (T j))))]) := Q8 [] trivial hB
theorem trX (B : Nat) (hB : B ≤ 11) (t i k : Nat) (T : tE) (h : Nat → List UInt8) (nd br : Nat → List UInt8) (M1 M2 M3 : List (List UInt8 × Int)) (b : Bool) : aj Try.prog ((aT [1,1,1,1,0,1,0,0,1,0] (ak Try.f18))) Try.f18.ntmps B 11 11 (aV [(3, sL 9 k), (15, sL 10 t), (16, iT (t : Int)), (17, iT (i : Int)), (18, .bD b)]) (hpL [(9, .cells true 1 k (.fn (aU h))), (10, .cells true 8 t (.fn fun j => aP (T j)))]) fun e fr' H' => (cond (b) (pP .normal [(3, sL 9 k), (15, sL 10 t), (16, iT (↑t : Int)), (17, iT (↑i : Int))] [(9, .cells true 1 k (.fn (aU h))), (10, .cells true 8 t (.fn fun j => (aP (T j))))] e fr' H') (pP (.exit 0) [(3, sL 9 k), (15, sL 10 t), (16, iT (↑t : Int)), (17, iT (↑i : Int))] [(9, .cells true 1 k (.fn (aU h))), (10, .cells true 8 t (.fn fun j => (aP (T j))))] e fr' H')) := cI (fun t0 => Q8 [tT] (I1 t0) hB) (fun t0 => Q8 [fF] (I1 t0) hB)
noncomputable abbrev ZCR := aT [1,1,1,1,0,1,0,0,1,1,0,0,0] (ak Try.f18)
theorem trG (B : Nat) (hB : B ≤ 11) (t i k : Nat) (T : tE) (h : Nat → List UInt8) (nd br : Nat → List UInt8) (M1 M2 M3 : List (List UInt8 × Int)) (x0 : ((↑i : Int) < (↑t : Int))) (x1 : (0 + i < t)) : aj Try.prog (ZCR) Try.f18.ntmps B 11 12 (ZDM k t i) (hpL [(9, ZT k h), (10, ZF t T)]) (pP .normal [(3, sL 9 k), (15, sL 10 t), (16, iT (↑t : Int)), (17, iT (↑i : Int)), (7, ZA 11)] [(9, ZT k h), (10, ZQ t T), (11, ZBP T i)]) := Q8 [] (I3 (ai (show 0 ≤ (↑i : Int) by omega) x0) x1 (show 8 ≤ 8 by omega)) hB
noncomputable abbrev ZCS := aT [1,1,1,1,0,1,0,0,1,1,0,0,1] (ak Try.f18)
theorem trH (B : Nat) (hB : B ≤ 12) (t i k : Nat) (T : tE) (h : Nat → List UInt8) (nd br : Nat → List UInt8) (M1 M2 M3 : List (List UInt8 × Int)) (x0 : ((k + 1) * 16 ≤ 140737488355328)) (x1 : (k + 1 ≤ 9223372036854775807)) : aj Try.prog (ZCS) Try.f18.ntmps B 12 14 (aV [(3, sL 9 k), (15, sL 10 t), (16, iT (t : Int)), (17, iT (i : Int)), (7, ZA 11)]) (hpL [(9, ZT k h), (10, ZF t T), (11, Zl T i)]) (pP .normal [(3, sL 13 (k + 1)), (15, sL 10 t), (16, iT (↑t : Int)), (17, iT (↑i : Int))] [(10, ZQ t T), (13, .cells true 1 (k + 1) (.fn fun j => bif decide (j < k) then (aU h j) else [.str true (El.n (T i))]))]) := Q8 [] (I1 (ai (show k ≤ k by omega) (ai x0 x1))) hB
theorem trJ (B : Nat) (hB : B ≤ 11) (t i k : Nat) (T : tE) (h : Nat → List UInt8) (nd br : Nat → List UInt8) (M1 M2 M3 : List (List UInt8 × Int)) (x0 : ((↑i : Int) + 1 ≤ (9223372036854775807 : Int))) : aj Try.prog ((aT [1,1,1,1,0,1,0,0,1,1,1] (ak Try.f18))) Try.f18.ntmps B 11 11 (ZDM k t i) (hpL [(9, ZT k h), (10, ZF t T)]) (pP .normal [(3, sL 9 k), (15, sL 10 t), (16, iT (↑t : Int)), (17, JJ i)] [(9, ZT k h), (10, ZQ t T)]) := Q8 [] (I1 (ai (show -9223372036854775808 ≤ (↑i : Int) + 1 by omega) x0)) hB
theorem trI (B : Nat) (hB : B ≤ 11) (k : Nat) (h : Nat → List UInt8) (nd br : Nat → List UInt8) (M1 M2 M3 : List (List UInt8 × Int)) : aj Try.prog ((aT [1,1,1,1,1] (ak Try.f18))) Try.f18.ntmps B 11 11 (aV [(3, sL 9 k)]) (hpL [(9, ZT k h)]) (pP .ret [(2, sL 9 k)] [(9, ZT k h)]) := Q8 [] trivial hB
/-- the names of elements -/
def kC (T : tE) (j : Nat) : Tx := (T j).n
noncomputable abbrev ZCV (v0 v1 : Nat) := ([(3, sL 9 v0), (15, sL 10 v1), (16, iT (v1 : Int)), (17, iT (v0 : Int))] : jU)
noncomputable abbrev ZCj (v0 : Nat) (v1 : tE) := (.cells true 1 v0 (.fn (aU (kC v1))) : aF)
theorem abN (t i : Nat) (T : tE) (ht : t ≤ 1024) (hi : i < t) :
  aj Try.prog (.block 1 (.seq ZCR ZCS)) Try.f18.ntmps 9 11 11 (aV (ZCV i t)) (hpL [(9, ZCj i T), (10, ZF t T)]) (Nm [(3, sL 9 (i + 1)), (15, sL 10 t), (16, iT (t : Int)), (17, iT (i : Int))] [(9, .cells true 1 (i + 1) (.fn (aU (kC T)))), (10, ZF t T)]) := by
 have h1 : aj Try.prog (.block 1 (.seq ZCR ZCS)) Try.f18.ntmps 9 11 14 (aV (ZCV i t)) (hpL [(9, ZCj i T), (10, ZF t T)]) (Nm [(3, sL 13 (i + 1)), (15, sL 10 t), (16, iT (t : Int)), (17, iT (i : Int))] [(10, ZF t T), (13, .cells true 1 (i + 1) (.fn (aU (kC T))))]) := by
  refine aj.nV ?_
  refine aj.bn (K1 := 12) (F1 := [(3, sL 9 i), (15, sL 10 t), (16, iT (t : Int)), (17, iT (i : Int)), (7, ZA 11)]) (H1 := [(9, ZCj i T), (10, ZF t T), (11, Zl T i)]) (aj.toN (trG 9 (by omega) t i i T (kC T) (fun _ => []) (fun _ => []) [] [] [] (by omega) (by omega)) (iD rfl) ⟨hs rfl, hs rfl, wG rfl (by show aP (T (0 + i)) = aP (T i); rw [Nat.zero_add]), trivial⟩) (by omega) ?_
  refine aj.toN (trH 9 (by omega) t i i T (kC T) (fun _ => []) (fun _ => []) [] [] [] (by omega) (by omega)) (iD rfl) ⟨hs rfl, ⟨_, rfl, rfl, rfl, rfl, fun j hj => ?_⟩, trivial⟩
  show (bif decide (j < i) then [AV.str true (kC T j)] else [AV.str true (T i).n]) = [AV.str true (kC T j)]
  by_cases c : j < i
  ·rw [decide_eq_true c, cond_true]
  ·obtain rfl : j = i := by omega
   rw [decide_eq_false c, cond_false]; rfl
 exact h1.renG fun e fr' H' h => by
  obtain ⟨rfl, rfl, rfl⟩ := h
  exact ⟨sg 9 13, [(3, sL 9 (i + 1)), (15, sL 10 t), (16, iT (t : Int)), (17, iT (i : Int))], [(9, .cells true 1 (i + 1) (.fn (aU (kC T)))), (10, ZF t T)], mX (by omega), (yX rfl), ⟨dX rfl rfl (fun j _ => rfl) (fun j _ => rfl) (by omega), dX rfl rfl (fun j _ => rfl) (fun j _ => rfl) (by omega), trivial⟩, mY (by omega), rfl, rfl, rfl⟩
noncomputable abbrev ZCq := aT [1,1,1,1,0,1,0,0] (ak Try.f18)
theorem Pg : ZCq = .seq (aT [1,1,1,1,0,1,0,0,0] (ak Try.f18)) (.seq (aT [1,1,1,1,0,1,0,0,1,0] (ak Try.f18)) (.seq (.block 1 (.seq ZCR ZCS)) (aT [1,1,1,1,0,1,0,0,1,1,1] (ak Try.f18)))) := by kernel_rfl
theorem ad6 : (ak Try.f18) = .seq (aT [0] (ak Try.f18)) (.seq (aT [1,0] (ak Try.f18)) (.seq (aT [1,1,0] (ak Try.f18)) (.seq (aT [1,1,1,0] (ak Try.f18)) (.seq (.seq (aT [1,1,1,1,0,0] (ak Try.f18)) (.block 0 (.loop ZCq))) (aT [1,1,1,1,1] (ak Try.f18)))))) := by kernel_rfl
theorem XZ (t i : Nat) (T : tE) (ht : t ≤ 1024) (hi : i < t) :
  aj Try.prog ZCq Try.f18.ntmps 9 11 11 (aV (ZCV i t)) (hpL [(9, ZCj i T), (10, ZF t T)]) (Nm [(3, sL 9 (i + 1)), (15, sL 10 t), (16, iT (t : Int)), (17, Vl i)] [(9, .cells true 1 (i + 1) (.fn (aU (kC T)))), (10, ZF t T)]) := by
 rw [Pg]
 refine aj.bn (K1 := 11) (trF 9 (by omega) t i i T (kC T) (fun _ => []) (fun _ => []) [] [] []) (by omega) ?_
 refine aj.bn (K1 := 11) (F1 := (ZCV i t)) (H1 := [(9, ZCj i T), (10, ZF t T)]) ((trX 9 (by omega) t i i T (kC T) (fun _ => []) (fun _ => []) [] [] [] (decide ((i : Int) < (t : Int)))).mono fun e fr' H' h => ?_) (by omega) ?_
 ·rw [decide_eq_true (by omega), cond_true] at h
  exact h
 refine aj.bn (K1 := 11) (abN t i T ht hi) (by omega) ?_
 exact aj.toN (trJ 9 (by omega) t i (i + 1) T (kC T) (fun _ => []) (fun _ => []) [] [] [] (by omega)) ⟨re rfl, re rfl, re rfl, ⟨_, rfl, AV.ge.int' _ _ _ (by omega)⟩, trivial⟩ (gq rfl)
theorem abO (t : Nat) (T : tE) :
  aj Try.prog ZCq Try.f18.ntmps 9 11 11 (aV [(3, sL 9 t), (15, sL 10 t), (16, iT (t : Int)), (17, iT (t : Int))]) (hpL [(9, .cells true 1 t (.fn (aU (kC T)))), (10, .cells true 8 t (.fn fun j => aP (T j)))]) (Xm 0 [(3, sL 9 t), (15, sL 10 t), (16, iT (t : Int)), (17, iT (t : Int))] [(9, .cells true 1 t (.fn (aU (kC T)))), (10, .cells true 8 t (.fn fun j => aP (T j)))]) := by
 rw [Pg]
 refine aj.bn (K1 := 11) (trF 9 (by omega) t t t T (kC T) (fun _ => []) (fun _ => []) [] [] []) (by omega) ?_
 refine aj.DY (K1 := 11) ((trX 9 (by omega) t t t T (kC T) (fun _ => []) (fun _ => []) [] [] [] (decide ((t : Int) < (t : Int)))).mono fun e fr' H' h => ?_) (by omega)
 rw [decide_eq_false (by omega), cond_false] at h
 exact h
noncomputable abbrev ZBk (v0 : tE) (v1 : Nat) := (.cells true 1 (aW v0 v1).length (.fn (aU (kC (bG (aW v0 v1))))) : aF)
noncomputable abbrev ZDE (v0 : tE) (v1 : Nat) := (.cells true 1 0 (.fn (aU (kC (bG (aW v0 v1))))) : aF)
theorem X0 (n : Nat) (E : tE) (hn : n ≤ 256) :
  aj Try.prog (ak Try.f18) Try.f18.ntmps 9 9 11 (bJ [.ptr ⟨false, 2, 0, 0⟩] 0 .e) (hpL [(2, .cells false 7 1 (.fn fun _ => bQ 6 7 8 n (ND E n).length (BR E n).length)), (3, .aJ true (ay 0 (NM E n))), (4, .aJ true (ay 0 (ND E n))), (5, .aJ true (ay 0 (BR E n))), (6, .cells false 8 n (.fn fun j => aP (E j))), (7, .cells false 1 (ND E n).length (.fn (aU (aA (ND E n))))), (8, .cells false 1 (BR E n).length (.fn (aU (aA (BR E n)))))]) (fun e fr' H' => e = .ret ∧ fr' = aV [(2, sL 9 (aW E n).length)] ∧ H' = hpL [(9, .cells true 1 (aW E n).length (.fn (aU (kC (bG (aW E n)))))), (2, .cells false 7 1 (.fn fun _ => bQ 6 7 8 n (ND E n).length (BR E n).length)), (3, .aJ true (ay 0 (NM E n))), (4, .aJ true (ay 0 (ND E n))), (5, .aJ true (ay 0 (BR E n))), (6, .cells false 8 n (.fn fun j => aP (E j))), (7, .cells false 1 (ND E n).length (.fn (aU (aA (ND E n))))), (8, .cells false 1 (BR E n).length (.fn (aU (aA (BR E n)))))]) := by
 have hq := AU n E hn
 have lT : (aW E n).length ≤ n := by rw [pJ]; exact Bz _ E n
 rw [ad6]
 refine aj.bn (K1 := 9) (trA 9 (by omega) n (ND E n).length (BR E n).length E (kC (bG (aW E n))) (aA (ND E n)) (aA (BR E n)) (ay 0 (NM E n)) (ay 0 (ND E n)) (ay 0 (BR E n))) (by omega) ?_
 refine aj.bn (K1 := 9) (F1 := [(0, .ptr ⟨false, 2, 0, 0⟩)]) (H1 := [(2, .cells false 7 1 (.fn fun _ => bQ 6 7 8 n (ND E n).length (BR E n).length)), (3, .aJ true (ay 0 (NM E n))), (4, .aJ true (ay 0 (ND E n))), (5, .aJ true (ay 0 (BR E n))), (6, .cells false 8 n (.fn fun j => aP (E j))), (7, .cells false 1 (ND E n).length (.fn (aU (aA (ND E n))))), (8, .cells false 1 (BR E n).length (.fn (aU (aA (BR E n)))))]) (aj.toN (trB 9 (by omega) n (ND E n).length (BR E n).length E (kC (bG (aW E n))) (aA (ND E n)) (aA (BR E n)) (ay 0 (NM E n)) (ay 0 (ND E n)) (ay 0 (BR E n)) hq) ⟨re rfl, trivial⟩ (gq rfl)) (by omega) ?_
 refine aj.bn (K1 := 9) (trC 9 (by omega) n (ND E n).length (BR E n).length E (kC (bG (aW E n))) (aA (ND E n)) (aA (BR E n)) (ay 0 (NM E n)) (ay 0 (ND E n)) (ay 0 (BR E n))) (by omega) ?_
 refine aj.phantom 3 1 (aU (kC (bG (aW E n)))) rfl (by omega) (by omega) ?_
 refine aj.gK (fl := [(0, .ptr ⟨false, 2, 0, 0⟩), (3, sL 9 0)]) (bl := [(2, .cells false 7 1 (.fn fun _ => bQ 6 7 8 n (ND E n).length (BR E n).length)), (3, .aJ true (ay 0 (NM E n))), (4, .aJ true (ay 0 (ND E n))), (5, .aJ true (ay 0 (BR E n))), (6, .cells false 8 n (.fn fun j => aP (E j))), (7, .cells false 1 (ND E n).length (.fn (aU (aA (ND E n))))), (8, .cells false 1 (BR E n).length (.fn (aU (aA (BR E n))))), (9, .cells true 1 0 (.fn (aU (kC (bG (aW E n))))))]) (iD rfl) (gq rfl) ?_
 refine aj.bn (K1 := 11) (F1 := [(3, sL 9 0), (4, sL 10 (aW E n).length)]) (H1 := [(9, .cells true 1 0 (.fn (aU (kC (bG (aW E n)))))), (10, .cells true 8 (aW E n).length (.fn fun j => aP (bG (aW E n) j))), (2, .cells false 7 1 (.fn fun _ => bQ 6 7 8 n (ND E n).length (BR E n).length)), (3, .aJ true (ay 0 (NM E n))), (4, .aJ true (ay 0 (ND E n))), (5, .aJ true (ay 0 (BR E n))), (6, .cells false 8 n (.fn fun j => aP (E j))), (7, .cells false 1 (ND E n).length (.fn (aU (aA (ND E n))))), (8, .cells false 1 (BR E n).length (.fn (aU (aA (BR E n)))))]) ((trD 9 (by omega) n (ND E n).length (BR E n).length E (kC (bG (aW E n))) (aA (ND E n)) (aA (BR E n)) (ay 0 (NM E n)) (ay 0 (ND E n)) (ay 0 (BR E n)) hq).renG fun e fr' H' h => by
  obtain ⟨rfl, rfl, rfl⟩ := h
  exact ⟨id, [(3, sL 9 0), (4, sL 10 (aW E n).length)], [(9, .cells true 1 0 (.fn (aU (kC (bG (aW E n)))))), (10, .cells true 8 (aW E n).length (.fn fun j => aP (bG (aW E n) j))), (2, .cells false 7 1 (.fn fun _ => bQ 6 7 8 n (ND E n).length (BR E n).length)), (3, .aJ true (ay 0 (NM E n))), (4, .aJ true (ay 0 (ND E n))), (5, .aJ true (ay 0 (BR E n))), (6, .cells false 8 n (.fn fun j => aP (E j))), (7, .cells false 1 (ND E n).length (.fn (aU (aA (ND E n))))), (8, .cells false 1 (BR E n).length (.fn (aU (aA (BR E n)))))], fun g hg => rfl, (yX rfl), ⟨dX rfl rfl (fun j _ => rfl) (fun j _ => rfl) (by omega), dX rfl rfl (fun j _ => rfl) (fun j _ => rfl) (by omega), dX rfl rfl (fun j _ => rfl) (fun j _ => rfl) (by omega), lW rfl rfl (by omega), lW rfl rfl (by omega), lW rfl rfl (by omega), dX rfl rfl (fun j _ => rfl) (fun j _ => rfl) (by omega), dX rfl rfl (fun j _ => rfl) (fun j _ => rfl) (by omega), dX rfl rfl (fun j _ => rfl) (fun j _ => rfl) (by omega), trivial⟩, fun i j _ _ h => h, rfl, rfl, rfl⟩) (by omega) ?_
 refine aj.bn (K1 := 11) (F1 := [(3, sL 9 (aW E n).length), (15, sL 10 (aW E n).length), (16, iT ((aW E n).length : Int)), (17, iT ((aW E n).length : Int))]) (H1 := [(9, .cells true 1 (aW E n).length (.fn (aU (kC (bG (aW E n)))))), (10, .cells true 8 (aW E n).length (.fn fun j => aP (bG (aW E n) j))), (2, .cells false 7 1 (.fn fun _ => bQ 6 7 8 n (ND E n).length (BR E n).length)), (3, .aJ true (ay 0 (NM E n))), (4, .aJ true (ay 0 (ND E n))), (5, .aJ true (ay 0 (BR E n))), (6, .cells false 8 n (.fn fun j => aP (E j))), (7, .cells false 1 (ND E n).length (.fn (aU (aA (ND E n))))), (8, .cells false 1 (BR E n).length (.fn (aU (aA (BR E n)))))]) ?_ (by omega) ?_
 ·have hr := aj.rounds (P := Try.prog) (n := Try.f18.ntmps) (B := 9) (K := 11) (id := 0) (aW E n).length (fun i => [(3, sL 9 i), (15, sL 10 (aW E n).length), (16, iT ((aW E n).length : Int)), (17, iT (((i : Nat)) : Int))]) (fun i => [(9, .cells true 1 i (.fn (aU (kC (bG (aW E n)))))), (10, .cells true 8 (aW E n).length (.fn fun j => aP (bG (aW E n) j)))]) (fun i hi => XZ (aW E n).length i (bG (aW E n)) (by omega) hi) (abO (aW E n).length (bG (aW E n)))
  exact (aj.bn (K1 := 11) (F1 := [(3, sL 9 0), (15, sL 10 (aW E n).length), (16, iT ((aW E n).length : Int)), (17, iT ((0 : Nat) : Int))]) (H1 := [(9, .cells true 1 0 (.fn (aU (kC (bG (aW E n)))))), (10, .cells true 8 (aW E n).length (.fn fun j => aP (bG (aW E n) j)))]) (aj.toN (trE 9 (by omega) (aW E n).length 0 (bG (aW E n)) (kC (bG (aW E n))) (fun _ => []) (fun _ => []) [] [] []) ⟨re rfl, re rfl, re rfl, ⟨_, rfl, AV.ge.int _ _ _ _⟩, trivial⟩ (gq rfl)) (by omega) hr).jR (xl := [(2, .cells false 7 1 (.fn fun _ => bQ 6 7 8 n (ND E n).length (BR E n).length)), (3, .aJ true (ay 0 (NM E n))), (4, .aJ true (ay 0 (ND E n))), (5, .aJ true (ay 0 (BR E n))), (6, .cells false 8 n (.fn fun j => aP (E j))), (7, .cells false 1 (ND E n).length (.fn (aU (aA (ND E n))))), (8, .cells false 1 (BR E n).length (.fn (aU (aA (BR E n)))))]) (by omega) ⟨⟨by omega, fun j hj v hv => List.all_eq_true.1 (show (bQ 6 7 8 n (ND E n).length (BR E n).length).all (fun v => v.low 9) = true from rfl) v hv⟩, ⟨by omega, trivial⟩, ⟨by omega, trivial⟩, ⟨by omega, trivial⟩, ⟨by omega, fun j hj v hv => List.all_eq_true.1 (show (aP (E j)).all (fun v => v.low 9) = true from rfl) v hv⟩, ⟨by omega, fun j hj v hv => List.all_eq_true.1 (show (aU (aA (ND E n)) j).all (fun v => v.low 9) = true from rfl) v hv⟩, ⟨by omega, fun j hj v hv => List.all_eq_true.1 (show (aU (aA (BR E n)) j).all (fun v => v.low 9) = true from rfl) v hv⟩, trivial⟩ rfl rfl ⟨.inl rfl, .inl rfl, trivial⟩
 ·refine aj.gK (fl := [(3, sL 9 (aW E n).length)]) (bl := [(9, .cells true 1 (aW E n).length (.fn (aU (kC (bG (aW E n)))))), (2, .cells false 7 1 (.fn fun _ => bQ 6 7 8 n (ND E n).length (BR E n).length)), (3, .aJ true (ay 0 (NM E n))), (4, .aJ true (ay 0 (ND E n))), (5, .aJ true (ay 0 (BR E n))), (6, .cells false 8 n (.fn fun j => aP (E j))), (7, .cells false 1 (ND E n).length (.fn (aU (aA (ND E n))))), (8, .cells false 1 (BR E n).length (.fn (aU (aA (BR E n)))))]) ⟨re rfl, trivial⟩ (gq rfl) ?_
  exact (trI 9 (by omega) (aW E n).length (kC (bG (aW E n))) (fun _ => []) (fun _ => []) [] [] []).lM (xl := [(2, .cells false 7 1 (.fn fun _ => bQ 6 7 8 n (ND E n).length (BR E n).length)), (3, .aJ true (ay 0 (NM E n))), (4, .aJ true (ay 0 (ND E n))), (5, .aJ true (ay 0 (BR E n))), (6, .cells false 8 n (.fn fun j => aP (E j))), (7, .cells false 1 (ND E n).length (.fn (aU (aA (ND E n))))), (8, .cells false 1 (BR E n).length (.fn (aU (aA (BR E n)))))]) (by omega) ⟨⟨by omega, fun j hj v hv => List.all_eq_true.1 (show (bQ 6 7 8 n (ND E n).length (BR E n).length).all (fun v => v.low 9) = true from rfl) v hv⟩, ⟨by omega, trivial⟩, ⟨by omega, trivial⟩, ⟨by omega, trivial⟩, ⟨by omega, fun j hj v hv => List.all_eq_true.1 (show (aP (E j)).all (fun v => v.low 9) = true from rfl) v hv⟩, ⟨by omega, fun j hj v hv => List.all_eq_true.1 (show (aU (aA (ND E n)) j).all (fun v => v.low 9) = true from rfl) v hv⟩, ⟨by omega, fun j hj v hv => List.all_eq_true.1 (show (aU (aA (BR E n)) j).all (fun v => v.low 9) = true from rfl) v hv⟩, trivial⟩ rfl (fun e fr' H0' h => by
   obtain ⟨rfl, rfl, rfl⟩ := h
   exact ⟨_, rfl, rfl, ⟨.inl rfl, trivial⟩, rfl, rfl, rfl⟩)


noncomputable def YO (b : List El) : M Nat := M.fD (.cells true 1 b.length (.fn (aU (kC (bG b)))))
theorem Nr {b : List El} {N : Nat} {g g' : G} (h : YO b g = .done N g') : N = g.nx ∧ g'.H = kS g.H g.nx [.cells true 1 b.length (.fn (aU (kC (bG b))))] ∧ g'.nx = g.nx + 1 ∧ g'.cs = g.cs := by
 cases h
 exact ⟨rfl, rfl, rfl, rfl⟩
noncomputable def AY : List AV → M AV
 | [.ptr aN] => (M.dh (og aN)).andThen fun _ => (netRd aN.g).andThen fun y => (M.setB y.1.m1 (.aJ true (ay 0 (NM y.2 y.1.n)))).andThen fun _ => (M.setB y.1.m2 (.aJ true (ay 0 (ND y.2 y.1.n)))).andThen fun _ => (M.setB y.1.m3 (.aJ true (ay 0 (BR y.2 y.1.n)))).andThen fun _ => (YO (aW y.2 y.1.n)).andThen fun N => M.ret (.slc true true ⟨false, N, 0, 0⟩ (aW y.2 y.1.n).length)
 | _ => M.no
theorem vK : ∀ args, aC (AY args) := by
 intro args
 unfold AY
 split
 ·exact (aC.dh _).andThen fun _ => (lu _).andThen fun _ => (aC.setB _ _).andThen fun _ => (aC.setB _ _).andThen fun _ => (aC.setB _ _).andThen fun _ => (aC.fD _).andThen fun _ => aC.ret _
 ·exact aC.no
theorem yT : ∀ args v g g', AY args g = .done v g' → bZ Try.prog 18 args v g g' := by
 intro args v g g' h
 unfold AY at h
 split at h
 case h_2 => exact (bC h).elim
 rename_i aN
 obtain ⟨_, g1, a1, h⟩ := au h
 obtain ⟨q0, rfl⟩ := aS a1
 have q0 := jD q0
 obtain ⟨⟨w, E⟩, g3, a3, h⟩ := au h
 obtain ⟨qf, kk, ff⟩ := jE a3
 dsimp only at h ff
 obtain ⟨_, g6, a6, h⟩ := au h
 obtain ⟨_, g7, a7, h⟩ := au h
 obtain ⟨_, g8, a8, h⟩ := au h
 obtain ⟨b1, b2, b3⟩ := bM a6
 obtain ⟨b4, b5, b6⟩ := bM a7
 obtain ⟨b7, b8, b9⟩ := bM a8
 have hx : g8.nx = g.nx := by rw [b8, b5, b2, kk.2.1]
 obtain ⟨N, g9, a9, h⟩ := au h
 obtain ⟨e1, e2, e3, e4⟩ := Nr a9
 obtain ⟨rfl, rfl⟩ := aB h
 refine qx (K' := 11) (c := (ak Try.f18)) Try.func18 (by kernel_rfl) (by kernel_rfl) (gG := [.ptr ⟨false, 2, 0, 0⟩]) (fun hc => kk.2.2 (by rw [← b3, ← b6, ← b9, ← e4]; exact hc)) (N := aN.g) (w := w) (E := E) (fun hp => ff hp) (xl := []) (rx := fun _ => 0) (K0 := 9) (Nat.le_refl _) (fun hp M μ cs hr => ?_) (fun hp i b hb => by cases hb) (fun hp i j b b' hi => by cases hi) (bs := [.cells true 1 (aW E w.n).length (.fn (aU (kC (bG (aW E w.n)))))]) (nms := [9]) rfl (by decide) (by decide) (by rw [e2, b7, b4, b1, kk.1, hx]; rfl) (by rw [e3, hx]; rfl) (fun b hb => by
   rw [List.mem_singleton.1 hb]
   exact ⟨rfl, fun i hi v hv => by rw [List.mem_singleton.1 hv]; rfl, fun i hi o v hv => by
    rw [List.mem_singleton.1 (List.mem_of_getElem? hv)]; trivial⟩) (by rw [e1, hx]; exact Nat.ble_eq_true_of_le (show Nat.succ g.nx ≤ g.nx + 1 by omega)) (by rw [e1, hx]; exact ⟨by show g.nx ≤ g.nx; omega, by show g.nx < g.nx + 1; omega⟩) (fun hp kN => ?_)
 ·simp only [aO] at hr ⊢
  obtain ⟨c1, l1, rfl, h1, rfl⟩ := hr
  exact ⟨c1, _, rfl, kD h1 q0.1 q0.2 (by omega) rfl, rfl⟩
 have F := ff hp
 rw [List.append_nil, qU F]
 have k0 : zn w g.nx [9] g.nx = 9 := kN 0 (by simp)
 refine (X0 w.n E F.n256).mono fun e fr' H' h => ?_
 obtain ⟨rfl, rfl, rfl⟩ := h
 refine ⟨.inl rfl, _, _, res1 (t := 2) (by kernel_rfl) rfl, trivial, ?_, ⟨rfl, rfl, rfl⟩, fun j b hb => ?_⟩
 ·simp only [AV.ren, AA.ren, e1, hx, k0]
  exact AV.ge.refl _
 ·match j, hb with
  | 0, hb => cases hb; exact ⟨_, rfl, rfl, rfl, rfl, fun j hj => rfl⟩

noncomputable def abP : Known := kc 71 ofBits (kc 74 toBits (kc 72 jw (kc 61 nM (kc 58 jT (kc 73 KP (kc 59 pq (kc 60 pz (kc 35 yS (kc 12 mP (kc 29 zT (kc 46 mQ (kc 44 qO (kc 41 sS (kc 39 uM (kc 40 Tz (kc 15 wE (kc 45 qH (kc 19 su (kc 18 AY (kn))))))))))))))))))))
theorem Ph : fK Try.prog abP := aH ((fQ Try.prog).fE Try.func71 (by kernel_rfl) (by kernel_rfl) (by kernel_rfl) (by kernel_rfl)) (aH ((fP Try.prog).fE Try.func74 (by kernel_rfl) (by kernel_rfl) (by kernel_rfl) (by kernel_rfl)) (aH gI (aH iK (aH gU (aH nX (aH jy (aH jA (aH nC (aH jL (aH oG (aH jM (aH lQ (aH nN (aH pF (aH xk (aH qP (aH oI (aH qQ (aH yT (qj))))))))))))))))))))
theorem KF : gY abP := aG aC.ofBits (aG aC.toBits (aG fJ (aG gJ (aG fZ (aG kH (aG iL (aG iM (aG ku (aG iR (aG lS (aG iU (aG jO (aG kY (aG mV (aG sD (aG oJ (aG mW (aG pG (aG vK (lJ))))))))))))))))))))
noncomputable def Pj : Calls' := Sx.runN Try.prog abP (bK Try.prog) 1000 50
theorem U0 : dw Try.prog Pj := iQ Ph KF (by kernel_rfl) (by kernel_rfl) 1000 50
theorem QO (n : Nat) : eF Try.prog (bK Try.prog Pj n) n := eX Ph KF (by kernel_rfl) (by kernel_rfl) 1000 50 n
noncomputable abbrev Eo (f : Func) (c : Code) (fr : Fr) (H : T aF) (K : Nat) (path : List Bool) : Aa (Ex × Fr) :=
 bV Try.prog Pj (bK Try.prog Pj f.ntmps) jH f.ntmps 1000 c fr ⟨H, K, [], path, True⟩


theorem rcT {fn : Func} {K K' B : Nat} {e : Ex} {F : jU} {Hl : tH} {c : Code} {fr : Fr} {H : T aF} {path : List Bool} (h : cO K' e F Hl (Eo fn c fr H K path)) (hB : B ≤ K) : aj Try.prog c fn.ntmps B K K' fr H fun e' fr' H' => e' = e ∧ fr' = aV F ∧ H' = hpL Hl := aj.runN U0 (QO _) (gu.none _ _ _) h hB
theorem Q9 {fn : Func} {K K' B : Nat} {e : Ex} {F : jU} {Hl : tH} {c : Code} {fr : Fr} {H : T aF} (path : List Bool) {q : Prop} (hq : q) (hB : B ≤ K) (h : jg K' e F Hl (Eo fn c fr H K path) = (e = e ∧ ql F ∧ qm Hl ∧ true = true ∧ q) := by kernel_rfl) : aj Try.prog c fn.ntmps B K K' fr H fun e' fr' H' => e' = e ∧ fr' = aV F ∧ H' = hpL Hl := rcT (eqn h hq) hB
theorem xaA (B : Nat) (hB : B ≤ 9) (n q r : Nat) (E : tE) (nd br : Nat → List UInt8) (M1 M2 M3 zl : List (List UInt8 × Int)) : aj Try.prog ((aT [0] (ak Try.f43))) Try.f43.ntmps B 9 9 JI (D9 n q r M1 M2 M3 E nd br) (YF n q r M1 M2 M3 E nd br) := Q9 [] trivial hB
theorem xaB (B : Nat) (hB : B ≤ 9) (n q r : Nat) (E : tE) (nd br : Nat → List UInt8) (M1 M2 M3 zl : List (List UInt8 × Int)) (x0 : (qI n q r n q r M1 M2 M3 (Cont.row (.fn fun j => aP (E j))) (Cont.row (.fn (aU nd))) (Cont.row (.fn (aU br))))) : aj Try.prog ((aT [1,0] (ak Try.f43))) Try.f43.ntmps B 9 12 (aV [(0, .ptr ⟨false, 2, 0, 0⟩)]) (hpL [(2, .cells false 7 1 (.fn fun _ => bQ 6 7 8 n q r)), (3, .aJ true M1), (4, .aJ true M2), (5, .aJ true M3), (6, .cells false 8 n (.fn fun j => aP (E j))), (7, .cells false 1 q (.fn (aU nd))), (8, .cells false 1 r (.fn (aU br)))]) (pP .normal [(0, .ptr ⟨false, 2, 0, 0⟩), (3, .ptr ⟨false, 11, 0, 0⟩)] [(2, .cells false 7 1 (.fn fun x => (bQ 6 7 8 n q r))), (3, aF.aJ true (ay 0 (NM (aK (Cont.row (.fn fun j => aP (E j)))) n))), (4, aF.aJ true (ay 0 (ND (aK (Cont.row (.fn fun j => aP (E j)))) n))), (5, aF.aJ true (ay 0 (BR (aK (Cont.row (.fn fun j => aP (E j)))) n))), (6, .cells false 8 n (.fn fun j => (aP (E j)))), (7, .cells false 1 q (.fn (aU nd))), (8, .cells false 1 r (.fn (aU br))), (9, .cells true 1 (List.length (ND (aK (Cont.row (.fn fun j => aP (E j)))) n) + 1) (.fn fun k => [iT (↑k : Int)])), (10, aF.aJ true (ay 0 (g0 :: ND (aK (Cont.row (.fn fun j => aP (E j)))) n))), (11, .cells true 2 1 (.fn fun x => [.mp 10, sL 9 (List.length (ND (aK (Cont.row (.fn fun j => aP (E j)))) n) + 1)]))]) := Q9 [] (I1 x0) hB
theorem xaC (B : Nat) (hB : B ≤ 12) (n q r : Nat) (E : tE) (nd br : Nat → List UInt8) (M1 M2 M3 zl : List (List UInt8 × Int)) (l : List Tx) (x0 : (n * 104 ≤ 140737488355328)) (x1 : (n ≤ 9223372036854775807)) : aj Try.prog ((aT [1,1,0,0] (ak Try.f43))) Try.f43.ntmps B 12 13 (aV (sQ 0 2 3 11)) (hpL [(2, ZV n q r), (3, .aJ true M1), (4, .aJ true M2), (5, .aJ true M3), (6, ZC n E), (7, ZK q nd), (8, ZK r br), (9, Z6 l), (10, ZCz l), (11, Xz l 10 9)]) (pP .normal [(3, ZA 11), (9, sL 12 n), (10, iT (↑n : Int)), (11, Zg)] [(2, Za n q r), (3, Zb M1), (4, Zb M2), (5, Zb M3), (6, ZS n E), (7, ZK q nd), (8, ZK r br), (9, .cells true 1 (List.length l + 1) (.fn fun k => [iT (↑k : Int)])), (10, aF.aJ true (ay 0 (g0 :: l))), (11, .cells true 2 1 (.fn fun x => [.mp 10, sL 9 (List.length l + 1)])), (12, .cells true 8 n (.fn fun j => (aP (E (0 + j)))))]) := Q9 [] (I2 (show 0 + n ≤ n by omega) (ai x0 x1)) hB
theorem xaF (B : Nat) (hB : B ≤ 13) (n m i : Nat) (u : Nat → Nat) (E : tE) (nd br : Nat → List UInt8) (M1 M2 M3 zl : List (List UInt8 × Int)) : aj Try.prog ((aT [1,1,0,1,0,0,0] (ak Try.f43))) Try.f43.ntmps B 13 13 (aV (zY n i 11 9 10 11)) (hpL [(9, ZL m u), (10, .aJ true zl), (11, ZI m 10 9), (12, ZF n E)]) (pP .normal [(3, ZA 11), (9, sL 12 n), (10, iT (↑n : Int)), (11, iT (↑i : Int)), (12, .bD (decide ((↑i : Int) < (↑n : Int))))] [(9, ZU m u), (10, Zb zl), (11, ZZ m 10 9), (12, ZQ n E)]) := Q9 [] trivial hB
theorem xaX (B : Nat) (hB : B ≤ 13) (n m i : Nat) (u : Nat → Nat) (E : tE) (nd br : Nat → List UInt8) (M1 M2 M3 zl : List (List UInt8 × Int)) (b : Bool) : aj Try.prog ((aT [1,1,0,1,0,0,1,0] (ak Try.f43))) Try.f43.ntmps B 13 13 (ZEe n i b 11 9 10 11 12) (hpL [(9, ZL m u), (10, .aJ true zl), (11, ZI m 10 9), (12, ZF n E)]) fun e fr' H' => (cond (b) (pP .normal (Q5 n i 11 9 10 11) [(9, ZU m u), (10, Zb zl), (11, ZZ m 10 9), (12, ZQ n E)] e fr' H') (pP (.exit 0) (Q5 n i 11 9 10 11) [(9, ZU m u), (10, Zb zl), (11, ZZ m 10 9), (12, ZQ n E)] e fr' H')) := cI (fun t0 => Q9 [tT] (I1 t0) hB) (fun t0 => Q9 [fF] (I1 t0) hB)
noncomputable abbrev ZCd := aT [1,1,0,1,0,0,1,1,0,0,0] (ak Try.f43)
theorem xaG (B : Nat) (hB : B ≤ 13) (n m i : Nat) (u : Nat → Nat) (E : tE) (nd br : Nat → List UInt8) (M1 M2 M3 zl : List (List UInt8 × Int)) (x0 : ((↑i : Int) < (↑n : Int))) (x1 : (0 + i < n)) : aj Try.prog (ZCd) Try.f43.ntmps B 13 14 (aV (zY n i 11 9 10 11)) (hpL [(9, ZL m u), (10, .aJ true zl), (11, ZI m 10 9), (12, ZF n E)]) (pP .normal [(3, ZA 11), (9, sL 12 n), (10, iT (↑n : Int)), (11, iT (↑i : Int)), (5, ZA 13)] [(9, ZU m u), (10, Zb zl), (11, ZZ m 10 9), (12, ZQ n E), (13, ZBP E i)]) := Q9 [] (I3 (ai (show 0 ≤ (↑i : Int) by omega) x0) x1 (show 8 ≤ 8 by omega)) hB
noncomputable abbrev ZB8 := aT [1,1,0,1,0,0,1,1,0,0,1] (ak Try.f43)
theorem xaH (B : Nat) (hB : B ≤ 14) (n m i : Nat) (u : Nat → Nat) (E : tE) (nd br : Nat → List UInt8) (M1 M2 M3 zl : List (List UInt8 × Int)) (x0 : ((decide (El.k (E i) = (4 : Int))) = false → ((decide (El.k (E i) = (6 : Int))) = false → (m = m)))) (x1 : ((decide (El.k (E i) = (4 : Int))) = false → ((decide (El.k (E i) = (6 : Int))) = false → (m ≤ 4096)))) (x2 : ((decide (El.k (E i) = (4 : Int))) = false → ((decide (El.k (E i) = (6 : Int))) = false → (∀ (j : Nat), j < m → dQ [iT (↑(u j) : Int)] [iT (↑(uO m (Cont.row (.fn fun k => [YE u k])) j) : Int)] ∧ uO m (Cont.row (.fn fun k => [iT (↑(u k) : Int)])) j ≤ j)))) (x3 : ((decide (El.k (E i) = (4 : Int))) = false → ((decide (El.k (E i) = (6 : Int))) = false → (∀ (z : List UInt8), (0 : Int) ≤ Option.getD (cZ seq z zl) (0 : Int) ∧ Option.getD (cZ seq z zl) 0 < (↑m : Int))))) : aj Try.prog (ZB8) Try.f43.ntmps B 14 14 (aV (ZD9 n i 11 9 10 11)) (hpL [(9, ZL m u), (10, .aJ true zl), (11, ZI m 10 9), (12, ZF n E), (13, Zl E i)]) fun e fr' H' => (cond (decide (El.k (E i) = (4 : Int))) (pP .normal (Q5 n i 11 9 10 11) [(9, ZU m u), (10, Zb zl), (11, ZZ m 10 9), (12, ZQ n E)] e fr' H') (cond (decide (El.k (E i) = (6 : Int))) (pP .normal (Q5 n i 11 9 10 11) [(9, ZU m u), (10, Zb zl), (11, ZZ m 10 9), (12, ZQ n E)] e fr' H') (pP .normal (Q5 n i 11 9 10 11) [(9, ZBB m u zl E i), (10, Zb zl), (11, ZZ m 10 9), (12, ZQ n E)] e fr' H'))) := cD (fun q0 t0 => Q9 [fF] (I1 (nt t0)) hB) (fun q0 t0 => cD (fun q1 t1 => Q9 [tT, fF] (I2 (nf t0) (nt t1)) hB) (fun q1 t1 => Q9 [tT, tT] (I3 (nf t0) (nf t1) (ai (x0 t0 t1) (ai (x1 t0 t1) (ai (x2 t0 t1) (x3 t0 t1))))) hB))
theorem xaJ (B : Nat) (hB : B ≤ 13) (n m i : Nat) (u : Nat → Nat) (E : tE) (nd br : Nat → List UInt8) (M1 M2 M3 zl : List (List UInt8 × Int)) (x0 : ((↑i : Int) + 1 ≤ (9223372036854775807 : Int))) : aj Try.prog ((aT [1,1,0,1,0,0,1,1,1] (ak Try.f43))) Try.f43.ntmps B 13 13 (aV (zY n i 11 9 10 11)) (hpL [(9, ZL m u), (10, .aJ true zl), (11, ZI m 10 9), (12, ZF n E)]) (pP .normal [(3, ZA 11), (9, sL 12 n), (10, iT (↑n : Int)), (11, JJ i)] [(9, ZU m u), (10, Zb zl), (11, ZZ m 10 9), (12, ZQ n E)]) := Q9 [] (I1 (ai (show -9223372036854775808 ≤ (↑i : Int) + 1 by omega) x0)) hB
theorem xaI (B : Nat) (hB : B ≤ 13) (m : Nat) (u : Nat → Nat) (nd br : Nat → List UInt8) (M1 M2 M3 zl : List (List UInt8 × Int)) : aj Try.prog ((aT [1,1,1] (ak Try.f43))) Try.f43.ntmps B 13 13 (zq 3 11) (hpL [(9, ZL m u), (10, .aJ true zl), (11, ZI m 10 9)]) (pP .ret [(2, ZA 11)] [(9, ZU m u), (10, Zb zl), (11, ZZ m 10 9)]) := Q9 [] trivial hB
noncomputable abbrev YP (v0 : Nat) (v1 : tM) (v2 : tE) (v3 v4 : Nat) := ([(9, Zr v0 v1 v2 v3), (10, .aJ true v1), (11, ZI v0 10 9), (12, ZF v4 v2)] : tH)
theorem agV (n m i : Nat) (E : tE) (zl : tM) (hn : n ≤ 1024) (hm : m ≤ 4096) (hz : ∀ x, 0 ≤ (cZ seq x zl).getD 0 ∧ (cZ seq x zl).getD 0 < (m : Int)) :
  aj Try.prog ZB8 Try.f43.ntmps 9 14 14 (aV (ZD9 n i 11 9 10 11)) (hpL [(9, Zh m zl E i), (10, .aJ true zl), (11, ZI m 10 9), (12, ZF n E), (13, Zl E i)]) (Nm (zY n i 11 9 10 11) (YP m zl E i n)) := by
 have hu := AX (bU zl) (jl E i)
 have la : bU zl (E i).a < m := by have := hz (E i).a; unfold bU; omega
 have lb : bU zl (E i).b < m := by have := hz (E i).b; unfold bU; omega
 refine (xaH 9 (by omega) n m i (Ul (bU zl) (jl E i)) E (fun _ => []) (fun _ => []) [] [] [] zl (fun _ _ => rfl) (fun _ _ => hm) (fun _ _ j hj => ⟨⟨by rw [nY hj]; exact AV.ge.refl _, rfl, trivial⟩, by rw [nY hj]; exact hu j⟩) (fun _ _ => hz)).post fun e fr' H' h => ?_
 cases q1 : decide ((E i).k = 4) with
 | true =>
   rw [q1, cond_true] at h
   obtain ⟨rfl, rfl, rfl⟩ := h
   have hs : jd (E i) = false := by unfold jd; rw [q1]; rfl
   refine ⟨(zY n i 11 9 10 11), (YP m zl E i n), (iD rfl), ⟨⟨_, rfl, rfl, rfl, rfl, fun j hj => ?_⟩, gq rfl⟩, rfl, rfl, rfl⟩
   show [iT (((Ul (bU zl) (jl E i)) j : Nat) : Int)] = [iT (((Ul (bU zl) (jl E (i + 1))) j : Nat) : Int)]
   conv => rhs; unfold jl
   rw [hs, cond_false]
 | false =>
  rw [q1, cond_false] at h
  cases q2 : decide ((E i).k = 6) with
  | true =>
   rw [q2, cond_true] at h
   obtain ⟨rfl, rfl, rfl⟩ := h
   have hs : jd (E i) = false := by unfold jd; rw [q1, q2]; rfl
   refine ⟨(zY n i 11 9 10 11), (YP m zl E i n), (iD rfl), ⟨⟨_, rfl, rfl, rfl, rfl, fun j hj => ?_⟩, gq rfl⟩, rfl, rfl, rfl⟩
   show [iT (((Ul (bU zl) (jl E i)) j : Nat) : Int)] = [iT (((Ul (bU zl) (jl E (i + 1))) j : Nat) : Int)]
   conv => rhs; unfold jl
   rw [hs, cond_false]
  | false =>
   rw [q2, cond_false] at h
   obtain ⟨rfl, rfl, rfl⟩ := h
   have hs : jd (E i) = true := by unfold jd; rw [q1, q2]; rfl
   refine ⟨(zY n i 11 9 10 11), (YP m zl E i n), (iD rfl), ⟨⟨_, rfl, rfl, rfl, rfl, fun j hj => ?_⟩, gq rfl⟩, rfl, rfl, rfl⟩
   show [iT ((jn (uO m (Cont.row (.fn fun k => [AV.int true .i64 (((Ul (bU zl) (jl E i)) k : Nat) : Int)]))) (bU zl (E i).a) (bU zl (E i).b) j : Nat) : Int)] = [iT (((Ul (bU zl) (jl E (i + 1))) j : Nat) : Int)]
   rw [OT hu la lb hj]
   conv => rhs; unfold jl
   rw [hs, cond_true, vM]
theorem abQ (n m i : Nat) (E : tE) (zl : tM) (hi : i < n) (hn : n ≤ 1024) (hm : m ≤ 4096) (hz : ∀ x, 0 ≤ (cZ seq x zl).getD 0 ∧ (cZ seq x zl).getD 0 < (m : Int)) :
  aj Try.prog (.block 1 (.seq ZCd ZB8)) Try.f43.ntmps 9 13 13 (aV (zY n i 11 9 10 11)) (hpL [(9, Zh m zl E i), (10, .aJ true zl), (11, ZI m 10 9), (12, ZF n E)]) (Nm (zY n i 11 9 10 11) (YP m zl E i n)) := by
 have h1 : aj Try.prog (.block 1 (.seq ZCd ZB8)) Try.f43.ntmps 9 13 14 (aV (zY n i 11 9 10 11)) (hpL [(9, Zh m zl E i), (10, .aJ true zl), (11, ZI m 10 9), (12, ZF n E)]) (Nm (zY n i 11 9 10 11) (YP m zl E i n)) := by
  refine aj.nV ?_
  refine aj.bn (K1 := 14) (F1 := (ZD9 n i 11 9 10 11)) (H1 := [(9, Zh m zl E i), (10, .aJ true zl), (11, ZI m 10 9), (12, ZF n E), (13, Zl E i)]) (aj.toN (xaG 9 (by omega) n m i (Ul (bU zl) (jl E i)) E (fun _ => []) (fun _ => []) [] [] [] zl (by omega) (by omega)) (iD rfl) ⟨hs rfl, hs rfl, hs rfl, hs rfl, wG rfl (by show aP (E (0 + i)) = aP (E i); rw [Nat.zero_add]), trivial⟩) (by omega) ?_
  exact agV n m i E zl hn hm hz
 exact h1.renG fun e fr' H' h => by
  obtain ⟨rfl, rfl, rfl⟩ := h
  exact ⟨id, (zY n i 11 9 10 11), (YP m zl E i n), fun g hg => rfl, (yX rfl), ⟨dX rfl rfl (fun j _ => rfl) (fun j _ => rfl) (by omega), lW rfl rfl (by omega), dX rfl rfl (fun j _ => rfl) (fun j _ => rfl) (by omega), dX rfl rfl (fun j _ => rfl) (fun j _ => rfl) (by omega), trivial⟩, fun i j _ _ h => h, rfl, rfl, rfl⟩
noncomputable abbrev ZC9 := aT [1,1,0,1,0,0] (ak Try.f43)
theorem Pm : ZC9 = .seq (aT [1,1,0,1,0,0,0] (ak Try.f43)) (.seq (aT [1,1,0,1,0,0,1,0] (ak Try.f43)) (.seq (.block 1 (.seq ZCd ZB8)) (aT [1,1,0,1,0,0,1,1,1] (ak Try.f43)))) := by kernel_rfl
theorem ad8 : (ak Try.f43) = .seq (aT [0] (ak Try.f43)) (.seq (aT [1,0] (ak Try.f43)) (.seq (.seq (aT [1,1,0,0] (ak Try.f43)) (.block 0 (.loop ZC9))) (aT [1,1,1] (ak Try.f43)))) := by kernel_rfl
theorem X3 (n m i : Nat) (E : tE) (zl : tM) (hi : i < n) (hn : n ≤ 1024) (hm : m ≤ 4096) (hz : ∀ x, 0 ≤ (cZ seq x zl).getD 0 ∧ (cZ seq x zl).getD 0 < (m : Int)) :
  aj Try.prog ZC9 Try.f43.ntmps 9 13 13 (aV (zY n i 11 9 10 11)) (hpL [(9, Zh m zl E i), (10, .aJ true zl), (11, ZI m 10 9), (12, ZF n E)]) (Nm [(3, ZA 11), (9, sL 12 n), (10, iT (n : Int)), (11, Vl i)] (YP m zl E i n)) := by
 rw [Pm]
 refine aj.bn (K1 := 13) (xaF 9 (by omega) n m i (Ul (bU zl) (jl E i)) E (fun _ => []) (fun _ => []) [] [] [] zl) (by omega) ?_
 refine aj.bn (K1 := 13) (F1 := (zY n i 11 9 10 11)) (H1 := [(9, Zh m zl E i), (10, .aJ true zl), (11, ZI m 10 9), (12, ZF n E)]) ((xaX 9 (by omega) n m i (Ul (bU zl) (jl E i)) E (fun _ => []) (fun _ => []) [] [] [] zl (decide ((i : Int) < (n : Int)))).mono fun e fr' H' h => ?_) (by omega) ?_
 ·rw [decide_eq_true (by omega), cond_true] at h
  exact h
 refine aj.bn (K1 := 13) (abQ n m i E zl hi hn hm hz) (by omega) ?_
 exact aj.toN (xaJ 9 (by omega) n m i (Ul (bU zl) (jl E (i + 1))) E (fun _ => []) (fun _ => []) [] [] [] zl (by omega)) ⟨re rfl, re rfl, re rfl, ⟨_, rfl, AV.ge.int' _ _ _ (by omega)⟩, trivial⟩ (gq rfl)
theorem abR (n m : Nat) (E : tE) (zl : tM) :
  aj Try.prog ZC9 Try.f43.ntmps 9 13 13 (aV (ZEJ n 11 9 10 11)) (hpL [(9, Zh m zl E n), (10, .aJ true zl), (11, ZI m 10 9), (12, ZF n E)]) (Xm 0 (ZEJ n 11 9 10 11) [(9, Zh m zl E n), (10, .aJ true zl), (11, ZI m 10 9), (12, ZF n E)]) := by
 rw [Pm]
 refine aj.bn (K1 := 13) (xaF 9 (by omega) n m n (Ul (bU zl) (jl E n)) E (fun _ => []) (fun _ => []) [] [] [] zl) (by omega) ?_
 refine aj.DY (K1 := 13) ((xaX 9 (by omega) n m n (Ul (bU zl) (jl E n)) E (fun _ => []) (fun _ => []) [] [] [] zl (decide ((n : Int) < (n : Int)))).mono fun e fr' H' h => ?_) (by omega)
 rw [decide_eq_false (by omega), cond_false] at h
 exact h
noncomputable abbrev ZEy (v0 : tE) (v1 : Nat) := ([(9, ZBg v0 v1), (10, G7 v0 v1), (11, Ze v0 v1 10 9), (2, ZD v1 v0), (3, ZM v0 v1), (4, ZN v0 v1), (5, ZO v0 v1), (6, ZC v1 v0), (7, ZG v0 v1), (8, ZH v0 v1)] : tH)
theorem X4 (n : Nat) (E : tE) (hn : n ≤ 256) :
  aj Try.prog (ak Try.f43) Try.f43.ntmps 9 9 13 JI (hpL (ZB n E)) (fun e fr' H' => e = .ret ∧ fr' = aV [(2, ZA 11)] ∧ H' = hpL (ZEy E n)) := by
 have hq := AU n E hn
 have ln := uK E n
 rw [ad8]
 refine aj.bn (K1 := 9) (xaA 9 (by omega) n (ND E n).length (BR E n).length E (aA (ND E n)) (aA (BR E n)) (ay 0 (NM E n)) (ay 0 (ND E n)) (ay 0 (BR E n)) []) (by omega) ?_
 refine aj.bn (K1 := 12) (F1 := (sQ 0 2 3 11)) (H1 := [(9, ZCI E n), (10, G7 E n), (11, Ze E n 10 9), (2, ZD n E), (3, ZM E n), (4, ZN E n), (5, ZO E n), (6, ZC n E), (7, ZG E n), (8, ZH E n)]) (aj.toN (xaB 9 (by omega) n (ND E n).length (BR E n).length E (aA (ND E n)) (aA (BR E n)) (ay 0 (NM E n)) (ay 0 (ND E n)) (ay 0 (BR E n)) [] hq) (iD rfl) (gq rfl)) (by omega) ?_
 refine aj.bn (K1 := 13) (F1 := (ZEJ n 11 9 10 11)) (H1 := [(9, ZBg E n), (10, G7 E n), (11, Ze E n 10 9), (12, ZF n E), (2, ZD n E), (3, ZM E n), (4, ZN E n), (5, ZO E n), (6, ZC n E), (7, ZG E n), (8, ZH E n)]) (aj.bn (K1 := 13) (F1 := [(3, ZA 11), (9, sL 12 n), (10, iT (n : Int)), (11, FC)]) (H1 := [(9, .cells true 1 ((ND E n).length + 1) (.fn fun k => [iT (((Ul (bU (ay 0 (g0 :: ND E n))) (jl E 0)) k : Nat) : Int)])), (10, G7 E n), (11, Ze E n 10 9), (12, ZF n E), (2, ZD n E), (3, ZM E n), (4, ZN E n), (5, ZO E n), (6, ZC n E), (7, ZG E n), (8, ZH E n)]) (aj.toN (xaC 9 (by omega) n (ND E n).length (BR E n).length E (aA (ND E n)) (aA (BR E n)) (ay 0 (NM E n)) (ay 0 (ND E n)) (ay 0 (BR E n)) [] (ND E n) (by omega) (by omega)) ⟨re rfl, re rfl, re rfl, ⟨_, rfl, AV.ge.int _ _ _ _⟩, trivial⟩ ⟨hs rfl, hs rfl, hs rfl, ⟨_, rfl, rfl, rfl, rfl, fun j hj => by
   show aP (E (0 + j)) = aP (E j)
   rw [Nat.zero_add]⟩, gq rfl⟩) (by omega) ?_) (by omega) ?_
 ·have hr := aj.rounds (P := Try.prog) (n := Try.f43.ntmps) (B := 9) (K := 13) (id := 0) n (fun i => [(3, ZA 11), (9, sL 12 n), (10, iT (n : Int)), (11, iT ((i : Nat) : Int))]) (fun i => [(9, .cells true 1 ((ND E n).length + 1) (.fn fun k => [iT (((Ul (bU (ay 0 (g0 :: ND E n))) (jl E i)) k : Nat) : Int)])), (10, G7 E n), (11, Ze E n 10 9), (12, ZF n E)]) (fun i hi => X3 n ((ND E n).length + 1) i E (ay 0 (g0 :: ND E n)) hi (by omega) (by omega) (He _)) (abR n ((ND E n).length + 1) E (ay 0 (g0 :: ND E n)))
  exact hr.jR (xl := (ZB n E)) (by omega) ⟨⟨by omega, fun j hj v hv => List.all_eq_true.1 (show (bQ 6 7 8 n (ND E n).length (BR E n).length).all (fun v => v.low 9) = true from rfl) v hv⟩, ⟨by omega, trivial⟩, ⟨by omega, trivial⟩, ⟨by omega, trivial⟩, ⟨by omega, fun j hj v hv => List.all_eq_true.1 (show (aP (E j)).all (fun v => v.low 9) = true from rfl) v hv⟩, ⟨by omega, fun j hj v hv => List.all_eq_true.1 (show (aU (aA (ND E n)) j).all (fun v => v.low 9) = true from rfl) v hv⟩, ⟨by omega, fun j hj v hv => List.all_eq_true.1 (show (aU (aA (BR E n)) j).all (fun v => v.low 9) = true from rfl) v hv⟩, trivial⟩ rfl rfl ⟨.inl rfl, .inl rfl, .inl rfl, .inl rfl, trivial⟩
 ·refine aj.gK (fl := [(3, ZA 11)]) (bl := (ZEy E n)) ⟨re rfl, trivial⟩ (gq rfl) ?_
  exact (xaI 9 (by omega) ((ND E n).length + 1) (Ul (bU (ay 0 (g0 :: ND E n))) (jl E n)) (fun _ => []) (fun _ => []) [] [] [] (ay 0 (g0 :: ND E n))).lM (xl := (ZB n E)) (by omega) ⟨⟨by omega, fun j hj v hv => List.all_eq_true.1 (show (bQ 6 7 8 n (ND E n).length (BR E n).length).all (fun v => v.low 9) = true from rfl) v hv⟩, ⟨by omega, trivial⟩, ⟨by omega, trivial⟩, ⟨by omega, trivial⟩, ⟨by omega, fun j hj v hv => List.all_eq_true.1 (show (aP (E j)).all (fun v => v.low 9) = true from rfl) v hv⟩, ⟨by omega, fun j hj v hv => List.all_eq_true.1 (show (aU (aA (ND E n)) j).all (fun v => v.low 9) = true from rfl) v hv⟩, ⟨by omega, fun j hj v hv => List.all_eq_true.1 (show (aU (aA (BR E n)) j).all (fun v => v.low 9) = true from rfl) v hv⟩, trivial⟩ rfl (fun e fr' H0' h => by
   obtain ⟨rfl, rfl, rfl⟩ := h
   exact ⟨_, rfl, rfl, ⟨.inl rfl, .inl rfl, .inl rfl, trivial⟩, rfl, rfl, rfl⟩)


noncomputable def bP : (Nat → El) → Nat → Nat → Nat := Classical.choose (⟨fun E n => (Ul (bU (ay 0 (g0 :: ND E n))) (jl E n)), rfl⟩ : ∃ f, f = fun (E : tE) (n : Nat) => (Ul (bU (ay 0 (g0 :: ND E n))) (jl E n)))
theorem vJ : bP = fun E n => (Ul (bU (ay 0 (g0 :: ND E n))) (jl E n)) := Classical.choose_spec (⟨fun E n => (Ul (bU (ay 0 (g0 :: ND E n))) (jl E n)), rfl⟩ : ∃ f, f = fun (E : tE) (n : Nat) => (Ul (bU (ay 0 (g0 :: ND E n))) (jl E n)))
noncomputable abbrev ZBm (v0 : tE) (v1 : Nat) := (.cells true 1 ((ND v0 v1).length + 1) (.fn fun k => [iT ((bP v0 v1 k : Nat) : Int)]) : aF)
noncomputable def U1 (E : tE) (n : Nat) : M Nat :=
 (M.fD (ZBm E n)).andThen fun N => (M.fD (G7 E n)).andThen fun _ => M.fD (.cells true 2 1 (.fn fun _ => [.mp (N + 1), .slc true true ⟨false, N, 0, 0⟩ ((ND E n).length + 1)]))
noncomputable def alB (N : Nat) (E : tE) (n : Nat) : List aF := [.cells true 1 ((ND E n).length + 1) (.fn fun k => [iT ((bP E n k : Nat) : Int)]), .aJ true (ay 0 (g0 :: ND E n)), .cells true 2 1 (.fn fun _ => [.mp (N + 1), .slc true true ⟨false, N, 0, 0⟩ ((ND E n).length + 1)])]
theorem QS (E : tE) (n : Nat) : aC (U1 E n) := (aC.fD _).andThen fun _ => (aC.fD _).andThen fun _ => aC.fD _
theorem Ns {E : tE} {n : Nat} {N : Nat} {g g' : G} (h : U1 E n g = .done N g') : N = g.nx + 2 ∧ g'.H = kS g.H g.nx (alB g.nx E n) ∧ g'.nx = g.nx + 3 ∧ g'.cs = g.cs := by
 cases h
 exact ⟨rfl, rfl, rfl, rfl⟩
noncomputable def MB : List AV → M AV
 | [.ptr aN] => (M.dh (og aN)).andThen fun _ => (netRd aN.g).andThen fun y => (M.setB y.1.m1 (.aJ true (ay 0 (NM y.2 y.1.n)))).andThen fun _ => (M.setB y.1.m2 (.aJ true (ay 0 (ND y.2 y.1.n)))).andThen fun _ => (M.setB y.1.m3 (.aJ true (ay 0 (BR y.2 y.1.n)))).andThen fun _ => (U1 y.2 y.1.n).andThen fun N => M.ret (.ptr ⟨false, N, 0, 0⟩)
 | _ => M.no
theorem D8 : ∀ args, aC (MB args) := by
 intro args
 unfold MB
 split
 ·exact (aC.dh _).andThen fun _ => (lu _).andThen fun _ => (aC.setB _ _).andThen fun _ => (aC.setB _ _).andThen fun _ => (aC.setB _ _).andThen fun _ => (QS _ _).andThen fun _ => aC.ret _
 ·exact aC.no
theorem G8 : ∀ args v g g', MB args g = .done v g' → bZ Try.prog 43 args v g g' := by
 intro args v g g' h
 unfold MB at h
 split at h
 case h_2 => exact (bC h).elim
 rename_i aN
 obtain ⟨_, g1, a1, h⟩ := au h
 obtain ⟨q0, rfl⟩ := aS a1
 have q0 := jD q0
 obtain ⟨⟨w, E⟩, g3, a3, h⟩ := au h
 obtain ⟨qf, kk, ff⟩ := jE a3
 dsimp only at h ff
 obtain ⟨_, g6, a6, h⟩ := au h
 obtain ⟨_, g7, a7, h⟩ := au h
 obtain ⟨_, g8, a8, h⟩ := au h
 obtain ⟨b1, b2, b3⟩ := bM a6
 obtain ⟨b4, b5, b6⟩ := bM a7
 obtain ⟨b7, b8, b9⟩ := bM a8
 have hx : g8.nx = g.nx := by rw [b8, b5, b2, kk.2.1]
 obtain ⟨N, g9, a9, h⟩ := au h
 obtain ⟨e1, e2, e3, e4⟩ := Ns a9
 obtain ⟨rfl, rfl⟩ := aB h
 refine qx (K' := 13) (c := (ak Try.f43)) Try.func43 (by kernel_rfl) (by kernel_rfl) (gG := [.ptr ⟨false, 2, 0, 0⟩]) (fun hc => kk.2.2 (by rw [← b3, ← b6, ← b9, ← e4]; exact hc)) (N := aN.g) (w := w) (E := E) (fun hp => ff hp) (xl := []) (rx := fun _ => 0) (K0 := 9) (Nat.le_refl _) (fun hp M μ cs hr => ?_) (fun hp i b hb => by cases hb) (fun hp i j b b' hi => by cases hi) (bs := alB g.nx E w.n) (nms := [9, 10, 11]) rfl (by decide) (by decide) (by rw [e2, b7, b4, b1, kk.1, hx]; rfl) (by rw [e3, hx]; rfl) (fun b hb => by
   simp only [alB, List.mem_cons, List.not_mem_nil, or_false] at hb
   rcases hb with rfl | rfl | rfl
   ·exact ⟨rfl, fun i hi v hv => by rw [List.mem_singleton.1 hv]; rfl, fun i hi o v hv => by
     match o, hv with
     | 0, hv => cases hv; trivial⟩
   ·exact ⟨rfl, trivial, trivial⟩
   ·refine ⟨rfl, fun i hi v hv => ?_, fun i hi o v hv => ?_⟩
    ·rcases List.mem_cons.1 hv with rfl | hv
     ·exact Nat.ble_eq_true_of_le (show Nat.succ (g.nx + 1) ≤ g.nx + 3 by omega)
     ·rw [List.mem_singleton.1 hv]; exact Nat.ble_eq_true_of_le (show Nat.succ g.nx ≤ g.nx + 3 by omega)
    ·match o, hv with
     | 0, hv => cases hv; exact ⟨by omega, by show _ < g.nx + 3; omega⟩
     | 1, hv => cases hv; exact ⟨by show g.nx ≤ g.nx; omega, by show g.nx < g.nx + 3; omega⟩) (by rw [e1, hx]; exact Nat.ble_eq_true_of_le (show Nat.succ (g.nx + 2) ≤ g.nx + 3 by omega)) (by rw [e1, hx]; exact ⟨by show g.nx ≤ g.nx + 2; omega, by show g.nx + 2 < g.nx + 3; omega⟩) (fun hp kN => ?_)
 ·simp only [aO] at hr ⊢
  obtain ⟨c1, l1, rfl, h1, rfl⟩ := hr
  exact ⟨c1, _, rfl, kD h1 q0.1 q0.2 (by omega) rfl, rfl⟩
 have F := ff hp
 rw [List.append_nil, qU F]
 have k0 : zn w g.nx [9, 10, 11] g.nx = 9 := kN 0 (by simp)
 have k1 : zn w g.nx [9, 10, 11] (g.nx + 1) = 10 := kN 1 (by simp)
 have k2 : zn w g.nx [9, 10, 11] (g.nx + 2) = 11 := kN 2 (by simp)
 refine (X4 w.n E F.n256).mono fun e fr' H' h => ?_
 obtain ⟨rfl, rfl, rfl⟩ := h
 refine ⟨.inl rfl, _, _, res1 (t := 2) (by kernel_rfl) rfl, trivial, ?_, ⟨rfl, rfl, rfl⟩, fun j b hb => ?_⟩
 ·simp only [AV.ren, AA.ren, e1, hx, k2]
  exact AV.ge.refl _
 ·rw [alB, vJ] at hb
  match j, hb with
  | 0, hb => cases hb; exact ⟨_, rfl, rfl, rfl, rfl, fun j hj => rfl⟩
  | 1, hb => cases hb; exact (hs rfl)
  | 2, hb =>
   cases hb
   refine ⟨_, rfl, rfl, rfl, rfl, fun j hj => ?_⟩
   show _ = kQ (zn w g.nx [9, 10, 11]) [.mp (g.nx + 1), .slc true true ⟨false, g.nx, 0, 0⟩ ((ND E w.n).length + 1)]
   simp only [kQ, AV.ren, AA.ren, k0, k1]
   rfl

noncomputable def abS : Known := kc 71 ofBits (kc 74 toBits (kc 72 jw (kc 61 nM (kc 58 jT (kc 73 KP (kc 59 pq (kc 60 pz (kc 35 yS (kc 12 mP (kc 29 zT (kc 46 mQ (kc 44 qO (kc 41 sS (kc 39 uM (kc 40 Tz (kc 15 wE (kc 45 qH (kc 19 su (kc 18 AY (kc 43 MB (kn)))))))))))))))))))))
theorem Pn : fK Try.prog abS := aH ((fQ Try.prog).fE Try.func71 (by kernel_rfl) (by kernel_rfl) (by kernel_rfl) (by kernel_rfl)) (aH ((fP Try.prog).fE Try.func74 (by kernel_rfl) (by kernel_rfl) (by kernel_rfl) (by kernel_rfl)) (aH gI (aH iK (aH gU (aH nX (aH jy (aH jA (aH nC (aH jL (aH oG (aH jM (aH lQ (aH nN (aH pF (aH xk (aH qP (aH oI (aH qQ (aH yT (aH G8 (qj)))))))))))))))))))))
theorem KG : gY abS := aG aC.ofBits (aG aC.toBits (aG fJ (aG gJ (aG fZ (aG kH (aG iL (aG iM (aG ku (aG iR (aG lS (aG iU (aG jO (aG kY (aG mV (aG sD (aG oJ (aG mW (aG pG (aG vK (aG D8 (lJ)))))))))))))))))))))
noncomputable def Pq : Calls' := Sx.runN Try.prog abS (bK Try.prog) 1000 50
theorem U2 : dw Try.prog Pq := iQ Pn KG (by kernel_rfl) (by kernel_rfl) 1000 50
theorem QT (n : Nat) : eF Try.prog (bK Try.prog Pq n) n := eX Pn KG (by kernel_rfl) (by kernel_rfl) 1000 50 n
noncomputable abbrev Ep (f : Func) (c : Code) (fr : Fr) (H : T aF) (K : Nat) (path : List Bool) : Aa (Ex × Fr) :=
 bV Try.prog Pq (bK Try.prog Pq f.ntmps) jH f.ntmps 1000 c fr ⟨H, K, [], path, True⟩


theorem rcM {fn : Func} {K K' B : Nat} {e : Ex} {F : jU} {Hl : tH} {c : Code} {fr : Fr} {H : T aF} {path : List Bool} (h : cO K' e F Hl (Ep fn c fr H K path)) (hB : B ≤ K) : aj Try.prog c fn.ntmps B K K' fr H fun e' fr' H' => e' = e ∧ fr' = aV F ∧ H' = hpL Hl := aj.runN U2 (QT _) (gu.none _ _ _) h hB
theorem U3 {fn : Func} {K K' B : Nat} {e : Ex} {F : jU} {Hl : tH} {c : Code} {fr : Fr} {H : T aF} (path : List Bool) {q : Prop} (hq : q) (hB : B ≤ K) (h : jg K' e F Hl (Ep fn c fr H K path) = (e = e ∧ ql F ∧ qm Hl ∧ true = true ∧ q) := by kernel_rfl) : aj Try.prog c fn.ntmps B K K' fr H fun e' fr' H' => e' = e ∧ fr' = aV F ∧ H' = hpL Hl := rcM (eqn h hq) hB
theorem xbA (B : Nat) (hB : B ≤ 9) (n q r : Nat) (E : tE) (nd br : Nat → List UInt8) (M1 M2 M3 zl : List (List UInt8 × Int)) : aj Try.prog ((aT [0] (ak Try.f25))) Try.f25.ntmps B 9 10 JI (D9 n q r M1 M2 M3 E nd br) (pP .normal (sQ 0 2 2 9) [(2, Za n q r), (3, Zb M1), (4, Zb M2), (5, Zb M3), (6, ZS n E), (7, ZK q nd), (8, ZK r br), (9, ZEc)]) := U3 [] trivial hB
noncomputable abbrev Vg (v0 v1 : Int) := (.cells true 2 1 (.fn fun x => [iT v0, iT v1]) : aF)
theorem xbB (B : Nat) (hB : B ≤ 10) (n q r : Nat) (E : tE) (nd br : Nat → List UInt8) (M1 M2 M3 zl : List (List UInt8 × Int)) (fe fa : Int) (x0 : (qI n q r n q r M1 M2 M3 (Cont.row (.fn fun j => aP (E j))) (Cont.row (.fn (aU nd))) (Cont.row (.fn (aU br))))) : aj Try.prog ((aT [1,0] (ak Try.f25))) Try.f25.ntmps B 10 10 (aV (sQ 0 2 2 9)) (hpL [(2, ZV n q r), (3, .aJ true M1), (4, .aJ true M2), (5, .aJ true M3), (6, ZC n E), (7, ZK q nd), (8, ZK r br), (9, TA fe fa)]) (pP .normal (sQ 0 2 2 9) [(2, Za n q r), (3, Zt E n), (4, Zu E n), (5, Zv E n), (6, ZS n E), (7, ZK q nd), (8, ZK r br), (9, Vg fe fa)]) := U3 [] (I1 x0) hB
noncomputable abbrev ZCg (v0 : tE) (v1 : Nat) := (.cells true 1 (List.length (ND (aK (Cont.row (.fn fun j => aP (v0 j)))) v1) + 1) (.fn fun k => [iT (↑(bP (aK (Cont.row (.fn fun j => aP (v0 j)))) v1 k) : Int)]) : aF)
theorem xbC (B : Nat) (hB : B ≤ 10) (n q r : Nat) (E : tE) (nd br : Nat → List UInt8) (M1 M2 M3 zl : List (List UInt8 × Int)) (fe fa : Int) (x0 : (qI n q r n q r M1 M2 M3 (Cont.row (.fn fun j => aP (E j))) (Cont.row (.fn (aU nd))) (Cont.row (.fn (aU br))))) : aj Try.prog ((aT [1,1,0] (ak Try.f25))) Try.f25.ntmps B 10 13 (aV [(0, .ptr ⟨false, 2, 0, 0⟩), (2, .ptr ⟨false, 9, 0, 0⟩)]) (hpL [(2, .cells false 7 1 (.fn fun _ => bQ 6 7 8 n q r)), (3, .aJ true M1), (4, .aJ true M2), (5, .aJ true M3), (6, .cells false 8 n (.fn fun j => aP (E j))), (7, .cells false 1 q (.fn (aU nd))), (8, .cells false 1 r (.fn (aU br))), (9, .cells true 2 1 (.fn fun _ => [iT fe, iT fa]))]) (pP .normal [(0, .ptr ⟨false, 2, 0, 0⟩), (2, .ptr ⟨false, 9, 0, 0⟩), (3, .ptr ⟨false, 12, 0, 0⟩)] [(2, .cells false 7 1 (.fn fun x => (bQ 6 7 8 n q r))), (3, aF.aJ true (ay 0 (NM (aK (Cont.row (.fn fun j => aP (E j)))) n))), (4, aF.aJ true (ay 0 (ND (aK (Cont.row (.fn fun j => aP (E j)))) n))), (5, aF.aJ true (ay 0 (BR (aK (Cont.row (.fn fun j => aP (E j)))) n))), (6, .cells false 8 n (.fn fun j => (aP (E j)))), (7, .cells false 1 q (.fn (aU nd))), (8, .cells false 1 r (.fn (aU br))), (9, .cells true 2 1 (.fn fun x => [iT fe, iT fa])), (10, .cells true 1 (List.length (ND (aK (Cont.row (.fn fun j => aP (E j)))) n) + 1) (.fn fun k => [iT (↑(bP (aK (Cont.row (.fn fun j => aP (E j)))) n k) : Int)])), (11, aF.aJ true (ay 0 (g0 :: ND (aK (Cont.row (.fn fun j => aP (E j)))) n))), (12, .cells true 2 1 (.fn fun x => [.mp 11, sL 10 (List.length (ND (aK (Cont.row (.fn fun j => aP (E j)))) n) + 1)]))]) := U3 [] (I1 x0) hB
theorem xbD (B : Nat) (hB : B ≤ 13) (n m q r : Nat) (u : Nat → Nat) (E : tE) (nd br : Nat → List UInt8) (M1 M2 M3 zl : List (List UInt8 × Int)) (fe fa : Int) (x0 : (q * 16 ≤ 140737488355328)) (x1 : (q ≤ 9223372036854775807)) : aj Try.prog ((aT [1,1,1,0,0] (ak Try.f25))) Try.f25.ntmps B 13 14 (aV [(0, ZA 2), (2, ZA 9), (3, ZA 12)]) (hpL [(2, ZV n q r), (3, .aJ true M1), (4, .aJ true M2), (5, .aJ true M3), (6, ZC n E), (7, ZK q nd), (8, ZK r br), (9, TA fe fa), (10, ZL m u), (11, .aJ true zl), (12, ZI m 11 10)]) (pP .normal [(2, ZA 9), (3, ZA 12), (12, iT (↑q : Int)), (13, Zg)] [(9, Vg fe fa), (10, ZU m u), (11, Zb zl), (12, ZZ m 11 10), (2, Za n q r), (3, Zb M1), (4, Zb M2), (5, Zb M3), (6, ZS n E), (7, ZK q nd), (8, ZK r br)]) := U3 [] (I2 (show 0 + q ≤ q by omega) (ai x0 x1)) hB
noncomputable abbrev ZEw (v0 v1 : Nat) := aV [(2, ZA 9), (3, ZA 12), (12, iT (v0 : Int)), (13, iT (v1 : Int))]
noncomputable abbrev ZEz (v0 v1 : Int) (v2 : Nat) (v3 : Nat → Nat) (v4 : List (List UInt8 × Int)) := hpL [(9, TA v0 v1), (10, ZL v2 v3), (11, .aJ true v4), (12, ZI v2 11 10)]
theorem xbF (B : Nat) (hB : B ≤ 14) (m i q : Nat) (u : Nat → Nat) (nd br : Nat → List UInt8) (M1 M2 M3 zl : List (List UInt8 × Int)) (fe fa : Int) : aj Try.prog ((aT [1,1,1,0,1,0,0,0] (ak Try.f25))) Try.f25.ntmps B 14 14 (ZEw q i) (ZEz fe fa m u zl) (pP .normal [(2, ZA 9), (3, ZA 12), (12, iT (↑q : Int)), (13, iT (↑i : Int)), (14, .bD (decide ((↑i : Int) < (↑q : Int))))] [(9, Vg fe fa), (10, ZU m u), (11, Zb zl), (12, ZZ m 11 10)]) := U3 [] trivial hB
noncomputable abbrev ZEY (v0 v1 : Nat) := ([(2, ZA 9), (3, ZA 12), (12, EM v0), (13, EM v1)] : jU)
theorem xbX (B : Nat) (hB : B ≤ 14) (m i q : Nat) (u : Nat → Nat) (nd br : Nat → List UInt8) (M1 M2 M3 zl : List (List UInt8 × Int)) (fe fa : Int) (b : Bool) : aj Try.prog ((aT [1,1,1,0,1,0,0,1,0] (ak Try.f25))) Try.f25.ntmps B 14 14 (aV [(2, ZA 9), (3, ZA 12), (12, iT (q : Int)), (13, iT (i : Int)), (14, .bD b)]) (ZEz fe fa m u zl) fun e fr' H' => (cond (b) (pP .normal (ZEY q i) [(9, Vg fe fa), (10, ZU m u), (11, Zb zl), (12, ZZ m 11 10)] e fr' H') (pP (.exit 0) (ZEY q i) [(9, Vg fe fa), (10, ZU m u), (11, Zb zl), (12, ZZ m 11 10)] e fr' H')) := cI (fun t0 => U3 [tT] (I1 t0) hB) (fun t0 => U3 [fF] (I1 t0) hB)
theorem xbG (B : Nat) (hB : B ≤ 14) (m i q : Nat) (u : Nat → Nat) (nd br : Nat → List UInt8) (M1 M2 M3 zl : List (List UInt8 × Int)) (fe fa : Int) (x0 : ((↑i : Int) + 1 ≤ (9223372036854775807 : Int))) (x1 : (m ≤ 4096)) (x2 : ((↑i : Int) + 1 < (↑m : Int))) (x3 : (∀ (j : Nat), j < m → dQ [iT (↑(u j) : Int)] [iT (↑(uO m (Cont.row (.fn fun k => [YE u k])) j) : Int)] ∧ uO m (Cont.row (.fn fun k => [iT (↑(u k) : Int)])) j ≤ j)) : aj Try.prog ((aT [1,1,1,0,1,0,0,1,1,0] (ak Try.f25))) Try.f25.ntmps B 14 14 (ZEw q i) (ZEz fe fa m u zl) fun e fr' H' => (cond (decide ((↑(root (uO m (Cont.row (.fn fun k => [iT (↑(u k) : Int)]))) (Int.toNat ((↑i : Int) + 1))) : Int) = 0)) (pP .normal (ZEY q i) [(9, Vg fe fa), (10, ZU m u), (11, Zb zl), (12, ZZ m 11 10)] e fr' H') (pP .ret (ZEY q i) [(9, .cells true 2 1 (.fn fun j => bif Nat.beq j 0 then [.int false .i64 11, iT (↑i : Int)] else [iT fe, iT fa])), (10, ZU m u), (11, Zb zl), (12, ZZ m 11 10)] e fr' H')) := cD (fun q0 t0 => U3 [fF] (I3 (ai (show -9223372036854775808 ≤ (↑i : Int) + 1 by omega) x0) (ai (show m ≤ m by omega) (ai x1 (ai (show 0 ≤ (↑i : Int) + 1 by omega) (ai x2 x3)))) (nt t0)) hB) (fun q0 t0 => U3 [tT] (I3 (ai (show -9223372036854775808 ≤ (↑i : Int) + 1 by omega) x0) (ai (show m ≤ m by omega) (ai x1 (ai (show 0 ≤ (↑i : Int) + 1 by omega) (ai x2 x3)))) (nf t0)) hB)
theorem xbJ (B : Nat) (hB : B ≤ 14) (m i q : Nat) (u : Nat → Nat) (nd br : Nat → List UInt8) (M1 M2 M3 zl : List (List UInt8 × Int)) (fe fa : Int) (x0 : ((↑i : Int) + 1 ≤ (9223372036854775807 : Int))) : aj Try.prog ((aT [1,1,1,0,1,0,0,1,1,1] (ak Try.f25))) Try.f25.ntmps B 14 14 (ZEw q i) (ZEz fe fa m u zl) (pP .normal [(2, ZA 9), (3, ZA 12), (12, iT (↑q : Int)), (13, JJ i)] [(9, Vg fe fa), (10, ZU m u), (11, Zb zl), (12, ZZ m 11 10)]) := U3 [] (I1 (ai (show -9223372036854775808 ≤ (↑i : Int) + 1 by omega) x0)) hB
theorem xbI (B : Nat) (hB : B ≤ 14) (nd br : Nat → List UInt8) (M1 M2 M3 zl : List (List UInt8 × Int)) (fe fa : Int) : aj Try.prog ((aT [1,1,1,1] (ak Try.f25))) Try.f25.ntmps B 14 14 (zq 2 9) (hpL [(9, TA fe fa)]) (pP .ret [(2, ZA 9)] [(9, .cells true 2 1 (.fn fun j => bif Nat.beq j 0 then [Zg, Zg] else [iT fe, iT fa]))]) := U3 [] trivial hB
theorem X5 : (aT [1,1,1,0,1,0,0] (ak Try.f25)) = .seq (aT [1,1,1,0,1,0,0,0] (ak Try.f25)) (.seq (aT [1,1,1,0,1,0,0,1,0] (ak Try.f25)) (.seq (aT [1,1,1,0,1,0,0,1,1,0] (ak Try.f25)) (aT [1,1,1,0,1,0,0,1,1,1] (ak Try.f25)))) := by kernel_rfl
theorem ad9 : (ak Try.f25) = .seq (aT [0] (ak Try.f25)) (.seq (aT [1,0] (ak Try.f25)) (.seq (aT [1,1,0] (ak Try.f25)) (.seq (.seq (aT [1,1,1,0,0] (ak Try.f25)) (.block 0 (.loop (aT [1,1,1,0,1,0,0] (ak Try.f25))))) (aT [1,1,1,1] (ak Try.f25))))) := by kernel_rfl
/-- the first node that does not hang together with the ground -/
def jP (u : Nat → Nat) (q : Nat) : Option Nat := (List.range q).find? fun i => !decide (root u (i + 1) = 0)
def gE : Option Nat → Int
 | none => 0
 | some _ => 11
def gA : Option Nat → Int
 | none => 0
 | some i => (i : Int)
noncomputable def gRow : Option Nat → List AV
 | none => [Zg, Zg]
 | some i => [.int false .i64 11, iT (i : Int)]
theorem U4 {u : Nat → Nat} {q : Nat} (h : ∀ j, j < q → root u (j + 1) = 0) : jP u q = none := by
 unfold jP
 rw [List.find?_eq_none]
 intro j hj
 rw [h j (List.mem_range.1 hj)]
 decide
theorem U5 {u : Nat → Nat} {q i : Nat} (hi : i < q) (h : ∀ j, j < i → root u (j + 1) = 0) (h1 : root u (i + 1) ≠ 0) : jP u q = some i := by
 unfold jP
 obtain ⟨k, rfl⟩ := Nat.exists_eq_add_of_lt hi
 rw [show i + k + 1 = i + (k + 1) by omega, List.range_add, List.find?_append, List.find?_eq_none.2 (fun j hj => by rw [h j (List.mem_range.1 hj)]; decide), Option.none_or]
 rw [List.range_succ_eq_map, List.map_cons, List.find?_cons_of_pos (by rw [Nat.add_zero, decide_eq_false h1]; rfl), Nat.add_zero]
noncomputable abbrev ZBK := (.cells true 2 1 (.fn fun _ => [iT 0, iT 0]) : aF)
noncomputable abbrev ZCe (v0) := (.cells true 2 1 (.fn fun _ => gRow (some v0)) : aF)
noncomputable abbrev YQ (v0 : Nat) (v1 : Nat → Nat) (v2 : tM) := ([(9, ZBK), (10, ZL v0 v1), (11, .aJ true v2), (12, ZI v0 11 10)] : tH)
noncomputable abbrev ZEd (v0 : Nat) (v1) := ([(2, ZA 9), (3, ZA 12), (12, iT (v0 : Int)), (13, iT (v1 : Int))] : jU)
theorem X6 (m q : Nat) (u : Nat → Nat) (zl : tM) (hu : ∀ j, u j ≤ j) (hq : q + 1 ≤ m) (hm : m ≤ 4096) :
  aj Try.prog (.block 0 (.loop (aT [1,1,1,0,1,0,0] (ak Try.f25)))) Try.f25.ntmps 9 14 14 (aV [(2, ZA 9), (3, ZA 12), (12, iT (q : Int)), (13, FC)]) (hpL (YQ m u zl)) (fun e fr H => (e = .normal ∧ (∀ j, j < q → root u (j + 1) = 0) ∧ fr = aV [(2, ZA 9), (3, ZA 12), (12, iT (q : Int)), (13, iT (q : Int))] ∧ H = hpL (YQ m u zl)) ∨ (e = .ret ∧ ∃ i, i < q ∧ (∀ j, j < i → root u (j + 1) = 0) ∧ root u (i + 1) ≠ 0 ∧ fr = aV [(2, ZA 9)] ∧ H = hpL [(9, ZCe i)])) := by
 refine aj.count q (fun i => (ZEd q i)) (fun _ => (YQ m u zl)) [(2, ZA 9), (3, ZA 12), (12, iT (q : Int)), (13, iT (q : Int))] (YQ m u zl) (fun i => ∀ j, j < i → root u (j + 1) = 0) (fun fr H => ∃ i, i < q ∧ (∀ j, j < i → root u (j + 1) = 0) ∧ root u (i + 1) ≠ 0 ∧ fr = aV [(2, ZA 9)] ∧ H = hpL [(9, ZCe i)]) (fun j hj => absurd hj (Nat.not_lt_zero _)) fun i hi hg => ?_
 rw [X5]
 refine aj.bn (K1 := 14) (xbF 9 (by omega) m i q u (fun _ => []) (fun _ => []) [] [] [] zl 0 0) (by omega) ?_
 by_cases c : i < q
 ·refine aj.bn (K1 := 14) (F1 := (ZEd q i)) (H1 := (YQ m u zl)) ((xbX 9 (by omega) m i q u (fun _ => []) (fun _ => []) [] [] [] zl 0 0 (decide ((i : Int) < (q : Int)))).mono fun e fr' H' h => ?_) (by omega) ?_
  ·rw [decide_eq_true (by omega), cond_true] at h
   exact h
  have er : root (uO m (Cont.row (.fn fun k => [iT ((u k : Nat) : Int)]))) (Int.toNat ((i : Int) + 1)) = root u (i + 1) := by
   rw [show Int.toNat ((i : Int) + 1) = i + 1 by omega]
   exact qw hu (by omega)
  refine aj.seq (K1 := 14) (by omega) ((xbG 9 (by omega) m i q u (fun _ => []) (fun _ => []) [] [] [] zl 0 0 (by omega) hm (by omega) (fun j hj => ⟨⟨by rw [nY hj]; exact AV.ge.refl _, rfl, trivial⟩, by rw [nY hj]; exact hu j⟩)).post (Post' := fun e fr' H' => (e = .normal ∧ root u (i + 1) = 0 ∧ fr' = aV (ZEd q i) ∧ H' = hpL (YQ m u zl)) ∨ (e = .ret ∧ root u (i + 1) ≠ 0 ∧ fr' = aV [(2, ZA 9)] ∧ H' = hpL [(9, ZCe i)])) (fun e fr' H' h => ?_) |>.mono fun e fr' H' h => ?_)
  ·rw [er] at h
   cases z : decide (((root u (i + 1) : Nat) : Int) = 0) with
   | true =>
    rw [z, cond_true] at h
    obtain ⟨rfl, rfl, rfl⟩ := h
    have z := of_decide_eq_true z
    exact ⟨(ZEd q i), (YQ m u zl), (iD rfl), (gq rfl), .inl ⟨rfl, by omega, rfl, rfl⟩⟩
   | false =>
    rw [z, cond_false] at h
    obtain ⟨rfl, rfl, rfl⟩ := h
    have z := of_decide_eq_false z
    refine ⟨[(2, ZA 9)], [(9, ZCe i)], ⟨re rfl, trivial⟩, ⟨⟨_, rfl, rfl, rfl, rfl, fun j hj => ?_⟩, trivial⟩, .inr ⟨rfl, by omega, rfl, rfl⟩⟩
    obtain rfl : j = 0 := by omega
    rfl
  ·rcases h with ⟨rfl, h0, rfl, rfl⟩ | ⟨rfl, h0, rfl, rfl⟩
   ·refine (aj.toN (xbJ 9 (by omega) m i q u (fun _ => []) (fun _ => []) [] [] [] zl 0 0 (by omega)) (F' := [(2, ZA 9), (3, ZA 12), (12, iT (q : Int)), (13, iT ((i + 1 : Nat) : Int))]) (Vf := (YQ m u zl)) ⟨re rfl, re rfl, re rfl, ⟨_, rfl, AV.ge.int' _ _ _ (by omega)⟩, trivial⟩ (gq rfl)).mono fun e fr' H' h => ?_
    obtain ⟨rfl, rfl, rfl⟩ := h
    refine .inl ⟨rfl, c, fun j hj => ?_, rfl, rfl⟩
    by_cases d : j < i
    ·exact hg j d
    ·obtain rfl : j = i := by omega
     exact h0
   ·exact .inr (.inr ⟨rfl, i, c, hg, h0, rfl, rfl⟩)
 ·have hin : q = i := by omega
  subst hin
  refine aj.seq (K1 := 14) (by omega) ((xbX 9 (by omega) m q q u (fun _ => []) (fun _ => []) [] [] [] zl 0 0 (decide ((q : Int) < (q : Int)))).mono fun e fr' H' h => ?_)
  rw [decide_eq_false (by omega), cond_false] at h
  obtain ⟨rfl, rfl, rfl⟩ := h
  exact .inr (.inl ⟨rfl, hg, rfl, rfl⟩)
noncomputable abbrev ZD6 (v0 : tE) (v1 : Nat) := ([(9, ZBK), (10, ZBm v0 v1), (11, G7 v0 v1), (12, Ze v0 v1 11 10), (2, ZD v1 v0), (3, ZM v0 v1), (4, ZN v0 v1), (5, ZO v0 v1), (6, ZC v1 v0), (7, ZG v0 v1), (8, ZH v0 v1)] : tH)
theorem X7 (n : Nat) (E : tE) (hn : n ≤ 256) :
  aj Try.prog (ak Try.f25) Try.f25.ntmps 9 9 14 JI (hpL (ZB n E)) (fun e fr' H' => e = .ret ∧ fr' = aV [(2, ZA 9)] ∧ H' = hpL [(9, .cells true 2 1 (.fn fun _ => gRow (jP (bP E n) (ND E n).length))), (2, ZD n E), (3, ZM E n), (4, ZN E n), (5, ZO E n), (6, ZC n E), (7, ZG E n), (8, ZH E n)]) := by
 have hq := AU n E hn
 have ln := uK E n
 have hu : ∀ j, bP E n j ≤ j := by rw [vJ]; exact AX _ _
 rw [ad9]
 refine aj.seq (K1 := 10) (by omega) ((xbA 9 (by omega) n (ND E n).length (BR E n).length E (aA (ND E n)) (aA (BR E n)) (ay 0 (NM E n)) (ay 0 (ND E n)) (ay 0 (BR E n)) (ay 0 (g0 :: ND E n))).mono fun e fr' H' h => ?_)
 obtain ⟨rfl, rfl, rfl⟩ := h
 refine aj.D6 (fl := (sQ 0 2 2 9)) (bl := [(2, ZD n E), (3, ZM E n), (4, ZN E n), (5, ZO E n), (6, ZC n E), (7, ZG E n), (8, ZH E n), (9, ZBK)]) (iD rfl) ⟨⟨_, rfl, .inl ⟨rfl, rfl, rfl, fun j _ => aQ _ rfl⟩⟩, ⟨_, rfl, .inr ⟨_, _, _, rfl, rfl⟩⟩, ⟨_, rfl, .inr ⟨_, _, _, rfl, rfl⟩⟩, ⟨_, rfl, .inr ⟨_, _, _, rfl, rfl⟩⟩, ⟨_, rfl, .inl ⟨rfl, rfl, rfl, fun j _ => aQ _ rfl⟩⟩, ⟨_, rfl, .inl ⟨rfl, rfl, rfl, fun j _ => aQ _ rfl⟩⟩, ⟨_, rfl, .inl ⟨rfl, rfl, rfl, fun j _ => aQ _ rfl⟩⟩, ⟨_, rfl, .inl ⟨rfl, rfl, rfl, fun j hj => by
  obtain rfl : j = 0 := by omega
  exact ⟨AV.ge.int _ _ _ _, rfl, AV.ge.int _ _ _ _, rfl, trivial⟩⟩⟩, trivial⟩ ?_
 refine aj.bn (K1 := 10) (xbB 9 (by omega) n (ND E n).length (BR E n).length E (aA (ND E n)) (aA (BR E n)) (ay 0 (NM E n)) (ay 0 (ND E n)) (ay 0 (BR E n)) (ay 0 (g0 :: ND E n)) 0 0 hq) (by omega) ?_
 refine aj.bn (K1 := 13) (F1 := [(0, ZA 2), (2, ZA 9), (3, ZA 12)]) (H1 := (ZD6 E n)) (aj.toN (xbC 9 (by omega) n (ND E n).length (BR E n).length E (aA (ND E n)) (aA (BR E n)) (ay 0 (NM E n)) (ay 0 (ND E n)) (ay 0 (BR E n)) (ay 0 (g0 :: ND E n)) 0 0 hq) (iD rfl) (gq rfl)) (by omega) ?_
 have hf := (X6 ((ND E n).length + 1) (ND E n).length (bP E n) (ay 0 (g0 :: ND E n)) hu (Nat.le_refl _) (by omega)).lM (xl := (ZB n E)) (Post' := fun e fr H => (e = .normal ∧ (∀ j, j < (ND E n).length → root (bP E n) (j + 1) = 0) ∧ fr = aV [(2, ZA 9), (3, ZA 12), (12, iT ((ND E n).length : Int)), (13, iT ((ND E n).length : Int))] ∧ H = hpL (ZD6 E n)) ∨ (e = .ret ∧ ∃ i, i < (ND E n).length ∧ (∀ j, j < i → root (bP E n) (j + 1) = 0) ∧ root (bP E n) (i + 1) ≠ 0 ∧ fr = aV [(2, ZA 9)] ∧ H = hpL [(9, ZCe i), (2, ZD n E), (3, ZM E n), (4, ZN E n), (5, ZO E n), (6, ZC n E), (7, ZG E n), (8, ZH E n)])) (by omega) ⟨⟨by omega, fun j hj v hv => List.all_eq_true.1 (show (bQ 6 7 8 n (ND E n).length (BR E n).length).all (fun v => v.low 9) = true from rfl) v hv⟩, ⟨by omega, trivial⟩, ⟨by omega, trivial⟩, ⟨by omega, trivial⟩, ⟨by omega, fun j hj v hv => List.all_eq_true.1 (show (aP (E j)).all (fun v => v.low 9) = true from rfl) v hv⟩, ⟨by omega, fun j hj v hv => List.all_eq_true.1 (show (aU (aA (ND E n)) j).all (fun v => v.low 9) = true from rfl) v hv⟩, ⟨by omega, fun j hj v hv => List.all_eq_true.1 (show (aU (aA (BR E n)) j).all (fun v => v.low 9) = true from rfl) v hv⟩, trivial⟩ rfl (fun e fr' H0' h => by
  rcases h with ⟨rfl, h0, rfl, rfl⟩ | ⟨rfl, i, h1, h2, h3, rfl, rfl⟩
  ·exact ⟨_, rfl, rfl, ⟨.inl rfl, .inl rfl, .inl rfl, .inl rfl, trivial⟩, .inl ⟨rfl, h0, rfl, rfl⟩⟩
  ·exact ⟨_, rfl, rfl, ⟨.inl rfl, trivial⟩, .inr ⟨rfl, i, h1, h2, h3, rfl, rfl⟩⟩)
 refine aj.seq (K1 := 14) (by omega) (aj.bn (K1 := 14) (F1 := [(2, ZA 9), (3, ZA 12), (12, iT ((ND E n).length : Int)), (13, FC)]) (H1 := (ZD6 E n)) (aj.toN (xbD 9 (by omega) n ((ND E n).length + 1) (ND E n).length (BR E n).length (bP E n) E (aA (ND E n)) (aA (BR E n)) (ay 0 (NM E n)) (ay 0 (ND E n)) (ay 0 (BR E n)) (ay 0 (g0 :: ND E n)) 0 0 (by omega) (by omega)) ⟨re rfl, re rfl, re rfl, ⟨_, rfl, AV.ge.int _ _ _ _⟩, trivial⟩ (gq rfl)) (by omega) (hf.mono fun e fr' H' h => ?_))
 rcases h with ⟨rfl, h0, rfl, rfl⟩ | ⟨rfl, i, h1, h2, h3, rfl, rfl⟩
 ·refine aj.gK (fl := [(2, ZA 9)]) (bl := [(9, ZBK), (2, ZD n E), (3, ZM E n), (4, ZN E n), (5, ZO E n), (6, ZC n E), (7, ZG E n), (8, ZH E n)]) ⟨re rfl, trivial⟩ (gq rfl) ?_
  rw [U4 h0]
  have hi := (xbI 9 (by omega) (fun _ => []) (fun _ => []) [] [] [] (ay 0 (g0 :: ND E n)) 0 0).lM (xl := (ZB n E)) (Post' := fun e fr H => e = .ret ∧ fr = aV [(2, ZA 9)] ∧ H = hpL [(9, .cells true 2 1 (.fn fun j => bif Nat.beq j 0 then [KQ 0, KQ 0] else [iT 0, iT 0])), (2, ZD n E), (3, ZM E n), (4, ZN E n), (5, ZO E n), (6, ZC n E), (7, ZG E n), (8, ZH E n)]) (by omega) ⟨⟨by omega, fun j hj v hv => List.all_eq_true.1 (show (bQ 6 7 8 n (ND E n).length (BR E n).length).all (fun v => v.low 9) = true from rfl) v hv⟩, ⟨by omega, trivial⟩, ⟨by omega, trivial⟩, ⟨by omega, trivial⟩, ⟨by omega, fun j hj v hv => List.all_eq_true.1 (show (aP (E j)).all (fun v => v.low 9) = true from rfl) v hv⟩, ⟨by omega, fun j hj v hv => List.all_eq_true.1 (show (aU (aA (ND E n)) j).all (fun v => v.low 9) = true from rfl) v hv⟩, ⟨by omega, fun j hj v hv => List.all_eq_true.1 (show (aU (aA (BR E n)) j).all (fun v => v.low 9) = true from rfl) v hv⟩, trivial⟩ rfl (fun e fr' H0' h => by
   obtain ⟨rfl, rfl, rfl⟩ := h
   exact ⟨_, rfl, rfl, ⟨.inl rfl, trivial⟩, rfl, rfl, rfl⟩)
  refine hi.post fun e fr' H' h => ?_
  obtain ⟨rfl, rfl, rfl⟩ := h
  refine ⟨[(2, ZA 9)], [(9, .cells true 2 1 (.fn fun _ => gRow none)), (2, ZD n E), (3, ZM E n), (4, ZN E n), (5, ZO E n), (6, ZC n E), (7, ZG E n), (8, ZH E n)], ⟨re rfl, trivial⟩, ⟨⟨_, rfl, rfl, rfl, rfl, fun j hj => ?_⟩, gq rfl⟩, rfl, rfl, rfl⟩
  obtain rfl : j = 0 := by omega
  rfl
 ·rw [U5 h1 h2 h3]
  exact ⟨rfl, rfl, rfl⟩


noncomputable def Qe : List AV → M AV
 | [.ptr aN] => (M.dh (og aN)).andThen fun _ => (netRd aN.g).andThen fun y => (M.setB y.1.m1 (.aJ true (ay 0 (NM y.2 y.1.n)))).andThen fun _ => (M.setB y.1.m2 (.aJ true (ay 0 (ND y.2 y.1.n)))).andThen fun _ => (M.setB y.1.m3 (.aJ true (ay 0 (BR y.2 y.1.n)))).andThen fun _ => M.ret (.agg [iT (gE (jP (bP y.2 y.1.n) (ND y.2 y.1.n).length)), iT (gA (jP (bP y.2 y.1.n) (ND y.2 y.1.n).length))])
 | _ => M.no
theorem JL : ∀ args, aC (Qe args) := by
 intro args
 unfold Qe
 split
 ·exact (aC.dh _).andThen fun _ => (lu _).andThen fun _ => (aC.setB _ _).andThen fun _ => (aC.setB _ _).andThen fun _ => (aC.setB _ _).andThen fun _ => aC.ret _
 ·exact aC.no
theorem Ob : ∀ args v g g', Qe args g = .done v g' → bZ Try.prog 25 args v g g' := by
 intro args v g g' h
 unfold Qe at h
 split at h
 case h_2 => exact (bC h).elim
 rename_i aN
 obtain ⟨_, g1, a1, h⟩ := au h
 obtain ⟨q0, rfl⟩ := aS a1
 have q0 := jD q0
 obtain ⟨⟨w, E⟩, g3, a3, h⟩ := au h
 obtain ⟨qf, kk, ff⟩ := jE a3
 dsimp only at h ff
 obtain ⟨_, g6, a6, h⟩ := au h
 obtain ⟨_, g7, a7, h⟩ := au h
 obtain ⟨_, g8, a8, h⟩ := au h
 obtain ⟨b1, b2, b3⟩ := bM a6
 obtain ⟨b4, b5, b6⟩ := bM a7
 obtain ⟨b7, b8, b9⟩ := bM a8
 have hx : g8.nx = g.nx := by rw [b8, b5, b2, kk.2.1]
 obtain ⟨rfl, rfl⟩ := aB h
 refine qx (K' := 14) (c := (ak Try.f25)) Try.func25 (by kernel_rfl) (by kernel_rfl) (gG := [ZA 2]) (fun hc => kk.2.2 (by rw [← b3, ← b6, ← b9]; exact hc)) (N := aN.g) (w := w) (E := E) (fun hp => ff hp) (xl := []) (rx := fun _ => 0) (K0 := 9) (Nat.le_refl _) (fun hp M μ cs hr => ?_) (fun hp i b hb => by cases hb) (fun hp i j b b' hi => by cases hi) (bs := []) (nms := []) rfl (by decide) (by decide) (by rw [b7, b4, b1, kk.1]; rfl) (by rw [b8, b5, b2, kk.2.1]; rfl) (fun b hb => by cases hb) (by simp [AV.low, mD]) (by simp [AV.iy, lC]) (fun hp kN => ?_)
 ·simp only [aO] at hr ⊢
  obtain ⟨c1, l1, rfl, h1, rfl⟩ := hr
  exact ⟨c1, _, rfl, kD h1 q0.1 q0.2 (by omega) rfl, rfl⟩
 have F := ff hp
 rw [List.append_nil, qU F]
 refine (X7 w.n E F.n256).mono fun e fr' H' h => ?_
 obtain ⟨rfl, rfl, rfl⟩ := h
 generalize jP (bP E w.n) (ND E w.n).length = o
 have hres : Try.f25.results.toList = [.cell 2 33] := by kernel_rfl
 cases o with
 | none =>
  refine ⟨.inl rfl, [.agg (gRow none)], _, by rw [hres]; rfl, trivial, ?_, ⟨rfl, rfl, rfl⟩, fun j b hb => by cases hb⟩
  exact fun N μ c h => by simpa only [jZ, AV.ren, kQ, Rep, aO, gRow, gE, gA] using h
 | some i =>
  refine ⟨.inl rfl, [.agg (gRow (some i))], _, by rw [hres]; rfl, trivial, ?_, ⟨rfl, rfl, rfl⟩, fun j b hb => by cases hb⟩
  exact fun N μ c h => by simpa only [jZ, AV.ren, kQ, Rep, aO, gRow, gE, gA] using h

noncomputable def abT : Known := kc 71 ofBits (kc 74 toBits (kc 72 jw (kc 61 nM (kc 58 jT (kc 73 KP (kc 59 pq (kc 60 pz (kc 35 yS (kc 12 mP (kc 29 zT (kc 46 mQ (kc 44 qO (kc 41 sS (kc 39 uM (kc 40 Tz (kc 15 wE (kc 45 qH (kc 19 su (kc 18 AY (kc 43 MB (kc 25 Qe (kn))))))))))))))))))))))
theorem Pv : fK Try.prog abT := aH ((fQ Try.prog).fE Try.func71 (by kernel_rfl) (by kernel_rfl) (by kernel_rfl) (by kernel_rfl)) (aH ((fP Try.prog).fE Try.func74 (by kernel_rfl) (by kernel_rfl) (by kernel_rfl) (by kernel_rfl)) (aH gI (aH iK (aH gU (aH nX (aH jy (aH jA (aH nC (aH jL (aH oG (aH jM (aH lQ (aH nN (aH pF (aH xk (aH qP (aH oI (aH qQ (aH yT (aH G8 (aH Ob (qj))))))))))))))))))))))
theorem KH : gY abT := aG aC.ofBits (aG aC.toBits (aG fJ (aG gJ (aG fZ (aG kH (aG iL (aG iM (aG ku (aG iR (aG lS (aG iU (aG jO (aG kY (aG mV (aG sD (aG oJ (aG mW (aG pG (aG vK (aG D8 (aG JL (lJ))))))))))))))))))))))
noncomputable def Px : Calls' := Sx.runN Try.prog abT (bK Try.prog) 1000 50
theorem U6 : dw Try.prog Px := iQ Pv KH (by kernel_rfl) (by kernel_rfl) 1000 50
theorem QU (n : Nat) : eF Try.prog (bK Try.prog Px n) n := eX Pv KH (by kernel_rfl) (by kernel_rfl) 1000 50 n
noncomputable abbrev xE (f : Func) (c : Code) (fr : Fr) (H : T aF) (K : Nat) (path : List Bool) : Aa (Ex × Fr) :=
 bV Try.prog Px (bK Try.prog Px f.ntmps) jH f.ntmps 1000 c fr ⟨H, K, [], path, True⟩


theorem rcN {fn : Func} {K K' B : Nat} {e : Ex} {F : jU} {Hl : tH} {c : Code} {fr : Fr} {H : T aF} {path : List Bool} (h : cO K' e F Hl (xE fn c fr H K path)) (hB : B ≤ K) : aj Try.prog c fn.ntmps B K K' fr H fun e' fr' H' => e' = e ∧ fr' = aV F ∧ H' = hpL Hl := aj.runN U6 (QU _) (gu.none _ _ _) h hB
theorem yR {fn : Func} {K K' B : Nat} {e : Ex} {F : jU} {Hl : tH} {c : Code} {fr : Fr} {H : T aF} (path : List Bool) {q : Prop} (hq : q) (hB : B ≤ K) (h : jg K' e F Hl (xE fn c fr H K path) = (e = e ∧ ql F ∧ qm Hl ∧ true = true ∧ q) := by kernel_rfl) : aj Try.prog c fn.ntmps B K K' fr H fun e' fr' H' => e' = e ∧ fr' = aV F ∧ H' = hpL Hl := rcN (eqn h hq) hB
theorem ypA (B : Nat) (hB : B ≤ 9) (n q r : Nat) (x : Int) (E : tE) (nd br nm h : Nat → List UInt8) (M1 M2 M3 zl : List (List UInt8 × Int)) (al : List (Int × Int)) : aj Try.prog ((aT [0] (ak Try.f17))) Try.f17.ntmps B 9 9 JI (D9 n q r M1 M2 M3 E nd br) (YF n q r M1 M2 M3 E nd br) := yR [] trivial hB
theorem ypB (B : Nat) (hB : B ≤ 9) (n q r : Nat) (x : Int) (E : tE) (nd br nm h : Nat → List UInt8) (M1 M2 M3 zl : List (List UInt8 × Int)) (al : List (Int × Int)) (x0 : (qI n q r n q r M1 M2 M3 (Cont.row (.fn fun j => aP (E j))) (Cont.row (.fn (aU nd))) (Cont.row (.fn (aU br))))) : aj Try.prog ((aT [1,0] (ak Try.f17))) Try.f17.ntmps B 9 9 (zq 0 2) (D9 n q r M1 M2 M3 E nd br) (ZEF n q r E nd br) := yR [] (I1 x0) hB
theorem ypC (B : Nat) (hB : B ≤ 9) (n q r : Nat) (x k : Int) (E : tE) (nd br nm h : Nat → List UInt8) (M1 M2 M3 zl : List (List UInt8 × Int)) (al : List (Int × Int)) (x0 : (qI n q r n q r M1 M2 M3 (Cont.row (.fn fun j => aP (E j))) (Cont.row (.fn (aU nd))) (Cont.row (.fn (aU br))))) : aj Try.prog ((aT [1,1,0] (ak Try.f17))) Try.f17.ntmps B 9 12 (aV [(0, .ptr ⟨false, 2, 0, 0⟩)]) (hpL [(2, .cells false 7 1 (.fn fun _ => bQ 6 7 8 n q r)), (3, .aJ true M1), (4, .aJ true M2), (5, .aJ true M3), (6, .cells false 8 n (.fn fun j => aP (E j))), (7, .cells false 1 q (.fn (aU nd))), (8, .cells false 1 r (.fn (aU br)))]) (pP .normal [(0, .ptr ⟨false, 2, 0, 0⟩), (3, .ptr ⟨false, 11, 0, 0⟩)] [(2, .cells false 7 1 (.fn fun x => (bQ 6 7 8 n q r))), (3, aF.aJ true (ay 0 (NM (aK (Cont.row (.fn fun j => aP (E j)))) n))), (4, aF.aJ true (ay 0 (ND (aK (Cont.row (.fn fun j => aP (E j)))) n))), (5, aF.aJ true (ay 0 (BR (aK (Cont.row (.fn fun j => aP (E j)))) n))), (6, .cells false 8 n (.fn fun j => (aP (E j)))), (7, .cells false 1 q (.fn (aU nd))), (8, .cells false 1 r (.fn (aU br))), (9, .cells true 1 (List.length (ND (aK (Cont.row (.fn fun j => aP (E j)))) n) + 1) (.fn fun k => [iT (↑(bP (aK (Cont.row (.fn fun j => aP (E j)))) n k) : Int)])), (10, aF.aJ true (ay 0 (g0 :: ND (aK (Cont.row (.fn fun j => aP (E j)))) n))), (11, .cells true 2 1 (.fn fun x => [.mp 10, sL 9 (List.length (ND (aK (Cont.row (.fn fun j => aP (E j)))) n) + 1)]))]) := yR [] (I1 x0) hB
theorem ypD (B : Nat) (hB : B ≤ 12) (n m q r : Nat) (x k : Int) (u : Nat → Nat) (E : tE) (nd br nm h : Nat → List UInt8) (M1 M2 M3 zl : List (List UInt8 × Int)) (al : List (Int × Int)) : aj Try.prog ((aT [1,1,1,0] (ak Try.f17))) Try.f17.ntmps B 12 13 (aV (sQ 0 2 3 11)) (hpL [(2, ZV n q r), (3, .aJ true M1), (4, .aJ true M2), (5, .aJ true M3), (6, ZC n E), (7, ZK q nd), (8, ZK r br), (9, ZL m u), (10, .aJ true zl), (11, ZI m 10 9)]) (pP .normal [(0, ZA 2), (3, ZA 11), (4, .mp 12)] [(2, Za n q r), (3, Zb M1), (4, Zb M2), (5, Zb M3), (6, ZS n E), (7, ZK q nd), (8, ZK r br), (9, ZU m u), (10, Zb zl), (11, ZZ m 10 9), (12, aF.iY false [])]) := yR [] trivial hB
theorem ypE (B : Nat) (hB : B ≤ 13) (n m q r : Nat) (x k : Int) (u : Nat → Nat) (E : tE) (nd br nm h : Nat → List UInt8) (M1 M2 M3 zl : List (List UInt8 × Int)) (al : List (Int × Int)) : aj Try.prog ((aT [1,1,1,1,0] (ak Try.f17))) Try.f17.ntmps B 13 13 (aV [(0, ZA 2), (3, ZA 11), (4, .mp 12)]) (hpL [(2, ZV n q r), (3, .aJ true M1), (4, .aJ true M2), (5, .aJ true M3), (6, ZC n E), (7, ZK q nd), (8, ZK r br), (9, ZL m u), (10, .aJ true zl), (11, ZI m 10 9), (12, .iY true al)]) (pP .normal [(0, ZA 2), (3, ZA 11), (4, .mp 12), (5, .dL)] [(2, Za n q r), (3, Zb M1), (4, Zb M2), (5, Zb M3), (6, ZS n E), (7, ZK q nd), (8, ZK r br), (9, ZU m u), (10, Zb zl), (11, ZZ m 10 9), (12, aF.iY true al)]) := yR [] trivial hB
noncomputable abbrev Z5 (v0 : Nat) (v1 v2 v3 : Nat → Nat) := (.cells true 1 v0 (.fn fun j => [.hdr (v1 j) (v2 j) (v3 j)]) : aF)
theorem ypF (B : Nat) (hB : B ≤ 14) (n m q r cnt : Nat) (x k : Int) (u hb ln hc : Nat → Nat) (E : tE) (nd br nm h : Nat → List UInt8) (M1 M2 M3 zl : List (List UInt8 × Int)) (al : List (Int × Int)) (x0 : (q * 16 ≤ 140737488355328)) (x1 : (q ≤ 9223372036854775807)) (x2 : ((1 + q) * 16 ≤ 140737488355328)) (x3 : (1 + q ≤ 9223372036854775807)) : aj Try.prog ((aT [1,1,1,1,1,0,0] (ak Try.f17))) Try.f17.ntmps B 14 17 (aV [(0, ZA 2), (3, ZA 11), (4, .mp 12), (5, sL 13 cnt)]) (hpL [(2, ZV n q r), (3, .aJ true M1), (4, .aJ true M2), (5, .aJ true M3), (6, ZC n E), (7, ZK q nd), (8, ZK r br), (9, ZL m u), (10, .aJ true zl), (11, ZI m 10 9), (12, .iY true al), (13, Z5 cnt hb ln hc)]) (pP .normal [(3, ZA 11), (4, .mp 12), (5, sL 13 cnt), (19, sL 16 (1 + q)), (20, iT (↑((1 : Nat) + q) : Int)), (21, Zg)] [(2, Za n q r), (3, Zb M1), (4, Zb M2), (5, Zb M3), (6, ZS n E), (7, ZK q nd), (8, ZK r br), (9, ZU m u), (10, Zb zl), (11, ZZ m 10 9), (12, aF.iY true al), (13, Z5 cnt hb ln hc), (16, .cells true 1 (1 + q) (.fn fun j => bif decide (j < 1) then [.str false [(48 : UInt8)]] else bif Nat.beq q 1 then [.str true (nd 0)] else [.str true (nd (0 + (0 + (j - 1))))]))]) := yR [] (I4 (show 0 + q ≤ q by omega) (ai x0 x1) (show 0 + q ≤ q by omega) (ai (show 1 ≤ 1 by omega) (ai x2 x3))) hB
noncomputable abbrev ZDm (v0 : Nat) (v1 : Nat → Nat) (v2 : List (List UInt8 × Int)) (v3 : List (Int × Int)) (v4 : Nat) (v5 v6 v7 : Nat → Nat) (v8 : Nat → List UInt8) := hpL [(9, ZL v0 v1), (10, .aJ true v2), (11, ZI v0 10 9), (12, .iY true v3), (13, Z5 v4 v5 v6 v7), (16, ZT v0 v8)]
noncomputable abbrev ZEW (v0 v1 v2 : Nat) := aV [(3, ZA 11), (4, .mp 12), (5, sL 13 v0), (19, sL 16 v1), (20, iT (v1 : Int)), (21, iT (v2 : Int))]
theorem ypG (B : Nat) (hB : B ≤ 17) (m i cnt : Nat) (x k : Int) (u hb ln hc : Nat → Nat) (nd br nm h : Nat → List UInt8) (M1 M2 M3 zl : List (List UInt8 × Int)) (al : List (Int × Int)) : aj Try.prog ((aT [1,1,1,1,1,0,1,0,0,0] (ak Try.f17))) Try.f17.ntmps B 17 17 (ZEW cnt m i) (ZDm m u zl al cnt hb ln hc nm) (pP .normal [(3, ZA 11), (4, .mp 12), (5, sL 13 cnt), (19, sL 16 m), (20, iT (↑m : Int)), (21, iT (↑i : Int)), (22, .bD (decide ((↑i : Int) < (↑m : Int))))] [(9, ZU m u), (10, Zb zl), (11, ZZ m 10 9), (12, aF.iY true al), (13, Z5 cnt hb ln hc), (16, ZT m nm)]) := yR [] trivial hB
theorem ypX (B : Nat) (hB : B ≤ 17) (m i cnt : Nat) (x k : Int) (u hb ln hc : Nat → Nat) (nd br nm h : Nat → List UInt8) (M1 M2 M3 zl : List (List UInt8 × Int)) (al : List (Int × Int)) (b : Bool) : aj Try.prog ((aT [1,1,1,1,1,0,1,0,0,1,0] (ak Try.f17))) Try.f17.ntmps B 17 17 (aV [(3, ZA 11), (4, .mp 12), (5, sL 13 cnt), (19, sL 16 m), (20, iT (m : Int)), (21, iT (i : Int)), (22, .bD b)]) (ZDm m u zl al cnt hb ln hc nm) fun e fr' H' => (cond (b) (pP .normal [(3, ZA 11), (4, .mp 12), (5, sL 13 cnt), (19, sL 16 m), (20, iT (↑m : Int)), (21, iT (↑i : Int))] [(9, ZU m u), (10, Zb zl), (11, ZZ m 10 9), (12, aF.iY true al), (13, Z5 cnt hb ln hc), (16, ZT m nm)] e fr' H') (pP (.exit 0) [(3, ZA 11), (4, .mp 12), (5, sL 13 cnt), (19, sL 16 m), (20, iT (↑m : Int)), (21, iT (↑i : Int))] [(9, ZU m u), (10, Zb zl), (11, ZZ m 10 9), (12, aF.iY true al), (13, Z5 cnt hb ln hc), (16, ZT m nm)] e fr' H')) := cI (fun t0 => yR [tT] (I1 t0) hB) (fun t0 => yR [fF] (I1 t0) hB)
noncomputable abbrev ZDH := aT [1,1,1,1,1,0,1,0,0,1,1,0,0,0] (ak Try.f17)
theorem ypH (B : Nat) (hB : B ≤ 17) (m i cnt : Nat) (x k : Int) (u hb ln hc : Nat → Nat) (nd br nm h : Nat → List UInt8) (M1 M2 M3 zl : List (List UInt8 × Int)) (al : List (Int × Int)) (x0 : ((↑i : Int) < (↑m : Int))) (x1 : (0 + i < m)) : aj Try.prog ZDH Try.f17.ntmps B 17 17 (aV [(3, .ptr ⟨false, 11, 0, 0⟩), (4, .mp 12), (5, sL 13 cnt), (19, sL 16 m), (20, iT (m : Int)), (21, iT (i : Int))]) (hpL [(9, .cells true 1 m (.fn fun k => [iT ((u k : Nat) : Int)])), (10, .aJ true zl), (11, .cells true 2 1 (.fn fun _ => [.mp 10, sL 9 m])), (12, .iY true al), (13, .cells true 1 cnt (.fn fun j => [.hdr (hb j) (ln j) (hc j)])), (16, .cells true 1 m (.fn (aU nm)))]) (pP .normal [(3, .ptr ⟨false, 11, 0, 0⟩), (4, .mp 12), (5, sL 13 cnt), (19, sL 16 m), (20, iT (↑m : Int)), (21, iT (↑i : Int)), (6, iT (↑i : Int)), (7, .str true (nm (0 + i)))] [(9, .cells true 1 m (.fn fun k => [iT (↑(u k) : Int)])), (10, aF.aJ true zl), (11, .cells true 2 1 (.fn fun x => [.mp 10, sL 9 m])), (12, aF.iY true al), (13, .cells true 1 cnt (.fn fun j => [.hdr (hb j) (ln j) (hc j)])), (16, .cells true 1 m (.fn (aU nm)))]) := yR [] (I2 (ai (show 0 ≤ (↑i : Int) by omega) x0) x1) hB
noncomputable abbrev ZDD := aT [1,1,1,1,1,0,1,0,0,1,1,0,0,1,0] (ak Try.f17)
theorem ypI (B : Nat) (hB : B ≤ 17) (m i cnt : Nat) (x k : Int) (u hb ln hc : Nat → Nat) (nd br nm h : Nat → List UInt8) (M1 M2 M3 zl : List (List UInt8 × Int)) (al : List (Int × Int)) (y : List UInt8) (x0 : (m ≤ 4096)) (x1 : ((↑i : Int) < (↑m : Int))) (x2 : (∀ (j : Nat), j < m → dQ [iT (↑(u j) : Int)] [iT (↑(uO m (Cont.row (.fn fun k => [.int true .i64 (↑(u k) : Int)])) j) : Int)] ∧ uO m (Cont.row (.fn fun k => [iT (↑(u k) : Int)])) j ≤ j)) : aj Try.prog ZDD Try.f17.ntmps B 17 17 (aV [(3, .ptr ⟨false, 11, 0, 0⟩), (4, .mp 12), (5, sL 13 cnt), (19, sL 16 m), (20, iT (m : Int)), (21, iT (i : Int)), (6, iT (i : Int)), (7, .str true y)]) (hpL [(9, .cells true 1 m (.fn fun k => [iT ((u k : Nat) : Int)])), (10, .aJ true zl), (11, .cells true 2 1 (.fn fun _ => [.mp 10, sL 9 m])), (12, .iY true al), (13, .cells true 1 cnt (.fn fun j => [.hdr (hb j) (ln j) (hc j)])), (16, .cells true 1 m (.fn (aU nm)))]) (pP .normal [(3, .ptr ⟨false, 11, 0, 0⟩), (4, .mp 12), (5, sL 13 cnt), (19, sL 16 m), (20, iT (↑m : Int)), (21, iT (↑i : Int)), (7, .str true y), (8, iT (↑(root (uO m (Cont.row (.fn fun k => [.int true .i64 (↑(u k) : Int)]))) i) : Int))] [(9, .cells true 1 m (.fn fun k => [iT (↑(u k) : Int)])), (10, aF.aJ true zl), (11, .cells true 2 1 (.fn fun x => [.mp 10, sL 9 m])), (12, aF.iY true al), (13, .cells true 1 cnt (.fn fun j => [.hdr (hb j) (ln j) (hc j)])), (16, .cells true 1 m (.fn (aU nm)))]) := yR [] (I1 (ai (show m ≤ m by omega) (ai x0 (ai (show 0 ≤ (↑i : Int) by omega) (ai x1 x2))))) hB
noncomputable abbrev ZC2 := aT [1,1,1,1,1,0,1,0,0,1,1,0,0,1,1,0] (ak Try.f17)
theorem ypJ (B : Nat) (hB : B ≤ 17) (m i cnt : Nat) (x k : Int) (u hb ln hc : Nat → Nat) (nd br nm h : Nat → List UInt8) (M1 M2 M3 zl : List (List UInt8 × Int)) (al : List (Int × Int)) (y : List UInt8) : aj Try.prog ZC2 Try.f17.ntmps B 17 17 (aV [(3, .ptr ⟨false, 11, 0, 0⟩), (4, .mp 12), (5, sL 13 cnt), (19, sL 16 m), (20, iT (m : Int)), (21, iT (i : Int)), (7, .str true y), (8, iT x)]) (hpL [(9, .cells true 1 m (.fn fun k => [iT ((u k : Nat) : Int)])), (10, .aJ true zl), (11, .cells true 2 1 (.fn fun _ => [.mp 10, sL 9 m])), (12, .iY true al), (13, .cells true 1 cnt (.fn fun j => [.hdr (hb j) (ln j) (hc j)])), (16, .cells true 1 m (.fn (aU nm)))]) (pP .normal [(3, .ptr ⟨false, 11, 0, 0⟩), (4, .mp 12), (5, sL 13 cnt), (19, sL 16 m), (20, iT (↑m : Int)), (21, iT (↑i : Int)), (7, .str true y), (8, iT x), (9, iT (Option.getD (cZ ieq x al) (0 : Int))), (10, .bD (Option.isSome (cZ ieq x al)))] [(9, .cells true 1 m (.fn fun k => [iT (↑(u k) : Int)])), (10, aF.aJ true zl), (11, .cells true 2 1 (.fn fun x => [.mp 10, sL 9 m])), (12, aF.iY true al), (13, .cells true 1 cnt (.fn fun j => [.hdr (hb j) (ln j) (hc j)])), (16, .cells true 1 m (.fn (aU nm)))]) := yR [] trivial hB
noncomputable abbrev ZCy := aT [1,1,1,1,1,0,1,0,0,1,1,0,0,1,1,1,0] (ak Try.f17)
theorem ypK (B : Nat) (hB : B ≤ 17) (m i cnt : Nat) (x k : Int) (u hb ln hc : Nat → Nat) (nd br nm h : Nat → List UInt8) (M1 M2 M3 zl : List (List UInt8 × Int)) (al : List (Int × Int)) (y : List UInt8) (b : Bool) (x0 : ((b) = false → ((cnt + 1) * 24 ≤ 140737488355328))) (x1 : ((b) = false → (cnt + 1 ≤ 9223372036854775807))) : aj Try.prog ZCy Try.f17.ntmps B 17 19 (aV [(3, .ptr ⟨false, 11, 0, 0⟩), (4, .mp 12), (5, sL 13 cnt), (19, sL 16 m), (20, iT (m : Int)), (21, iT (i : Int)), (7, .str true y), (8, iT x), (9, iT k), (10, .bD b)]) (hpL [(9, .cells true 1 m (.fn fun k => [iT ((u k : Nat) : Int)])), (10, .aJ true zl), (11, .cells true 2 1 (.fn fun _ => [.mp 10, sL 9 m])), (12, .iY true al), (13, .cells true 1 cnt (.fn fun j => [.hdr (hb j) (ln j) (hc j)])), (16, .cells true 1 m (.fn (aU nm)))]) fun e fr' H' => (cond (b) (pP .normal [(3, .ptr ⟨false, 11, 0, 0⟩), (4, .mp 12), (5, sL 13 cnt), (19, sL 16 m), (20, iT (↑m : Int)), (21, iT (↑i : Int)), (7, .str true y), (9, iT k)] [(9, .cells true 1 m (.fn fun k => [iT (↑(u k) : Int)])), (10, aF.aJ true zl), (11, .cells true 2 1 (.fn fun x => [.mp 10, sL 9 m])), (12, aF.iY true al), (13, .cells true 1 cnt (.fn fun j => [.hdr (hb j) (ln j) (hc j)])), (16, .cells true 1 m (.fn (aU nm)))] e fr' H') (pP .normal [(3, .ptr ⟨false, 11, 0, 0⟩), (4, .mp 12), (5, sL 18 (cnt + 1)), (19, sL 16 m), (20, iT (↑m : Int)), (21, iT (↑i : Int)), (7, .str true y), (9, iT (↑cnt : Int))] [(9, .cells true 1 m (.fn fun k => [iT (↑(u k) : Int)])), (10, aF.aJ true zl), (11, .cells true 2 1 (.fn fun x => [.mp 10, sL 9 m])), (12, aF.iY true (oh ieq x (↑cnt : Int) al)), (16, .cells true 1 m (.fn (aU nm))), (18, .cells true 1 (cnt + 1) (.fn fun j => bif decide (j < cnt) then [.hdr (hb j) (ln j) (hc j)] else [.dL]))] e fr' H')) := cI (fun t0 => yR [fF] (I1 (nt t0)) hB) (fun t0 => yR [tT] (I2 (nf t0) (ai (show cnt ≤ cnt by omega) (ai (x0 t0) (x1 t0)))) hB)
noncomputable abbrev ZBX := aT [1,1,1,1,1,0,1,0,0,1,1,0,0,1,1,1,1] (ak Try.f17)
theorem abV (m i cnt len kk : Nat) (x k : Int) (u hb ln hc : Nat → Nat) (nm h : Nat → List UInt8) (zl : List (List UInt8 × Int)) (al : List (Int × Int)) (y : List UInt8) (c0 : 0 ≤ (↑kk : Int)) (c1 : (↑kk : Int) < (↑cnt : Int)) (c2 : 0 + kk < cnt) (c3 : Nat.beq (0 + kk) kk = true) (c4 : len ≤ len) (c5 : (len + 1) * 16 ≤ 140737488355328) (c6 : len + 1 ≤ 9223372036854775807) (c7 : 1 ≤ 1) : cO 20 (Ex.normal) [(3, ZA 11), (4, .mp 12), (5, sL 13 cnt), (19, sL 16 m), (20, iT (↑m : Int)), (21, iT (↑i : Int))] [(9, ZU m u), (10, Zb zl), (11, ZZ m 10 9), (12, aF.iY true al), (13, .cells true 1 cnt (Cont.at [(kk, [sL 19 (len + 1)])] fun j => [.hdr (hb j) (ln j) (hc j)])), (16, ZT m nm), (19, .cells true 1 (len + 1) (.fn fun j => bif decide (j < len) then (aU h j) else [.str true y]))] (xE Try.f17 (ZBX) (aV [(3, ZA 11), (4, .mp 12), (5, sL 13 cnt), (19, sL 16 m), (20, iT (m : Int)), (21, iT (i : Int)), (7, .str true y), (9, iT (kk : Int))]) (hpL [(9, ZL m u), (10, .aJ true zl), (11, ZI m 10 9), (12, .iY true al), (13, .cells true 1 cnt (.at [(kk, [sL 17 len])] (fun j => [.hdr (hb j) (ln j) (hc j)]))), (16, ZT m nm), (17, ZT len h)]) 18 [true, true]) := eN (I8 (ai c0 c1) c2 c3 (ai c4 (ai c5 c6)) (ai c0 c1) c2 c7 c3)
theorem ypM (B : Nat) (hB : B ≤ 17) (m i cnt : Nat) (x k : Int) (u hb ln hc : Nat → Nat) (nd br nm h : Nat → List UInt8) (M1 M2 M3 zl : List (List UInt8 × Int)) (al : List (Int × Int)) (x0 : ((↑i : Int) + 1 ≤ (9223372036854775807 : Int))) : aj Try.prog ((aT [1,1,1,1,1,0,1,0,0,1,1,1] (ak Try.f17))) Try.f17.ntmps B 17 17 (ZEW cnt m i) (ZDm m u zl al cnt hb ln hc nm) (pP .normal [(3, ZA 11), (4, .mp 12), (5, sL 13 cnt), (19, sL 16 m), (20, iT (↑m : Int)), (21, JJ i)] [(9, ZU m u), (10, Zb zl), (11, ZZ m 10 9), (12, aF.iY true al), (13, Z5 cnt hb ln hc), (16, ZT m nm)]) := yR [] (I1 (ai (show -9223372036854775808 ≤ (↑i : Int) + 1 by omega) x0)) hB
noncomputable abbrev Zx (v0 : Nat) (v1 : Nat → Nat) (v2 : Nat → Nat → List UInt8) := (.cells true 1 v0 (.fn fun j => [.iw (v1 j) (v2 j)]) : aF)
theorem ypN (B : Nat) (hB : B ≤ 17) (cnt : Nat) (ln : Nat → Nat) (lf : Nat → Nat → List UInt8) : aj Try.prog ((aT [1,1,1,1,1,1] (ak Try.f17))) Try.f17.ntmps B 17 17 (aV [(5, sL 13 cnt)]) (hpL [(13, Zx cnt ln lf)]) (pP .ret [(2, sL 13 cnt)] [(13, Zx cnt ln lf)]) := yR [] trivial hB
/-- the row of a header -/
theorem ag3 (cnt kk : Nat) (π : Pool) (b c len : Nat) (val : Nat → AV) : ∀ j, j < cnt → Cont.row (.fn fun j => bif Nat.beq j kk then [AV.hdr b len c] else Cont.row (.at [(kk, [sL 19 len])] fun j => [AV.hdr (π.hb j) (π.len j) (π.hc j)]) j) j = Cont.row (.fn fun j => [AV.hdr ((π.on kk len val b c).hb j) ((π.on kk len val b c).len j) ((π.on kk len val b c).hc j)]) j := fun j _ => by
 show (bif Nat.beq j kk then _ else bif Nat.beq j kk then _ else [AV.hdr (π.hb j) (π.len j) (π.hc j)]) = [AV.hdr (gy π.hb kk b j) (gy π.len kk len j) (gy π.hc kk c j)]
 unfold gy
 cases Nat.beq j kk <;> rfl
theorem QV (p : List Tx) (y : Tx) (j : Nat) (hj : j < p.length + 1) : (bif decide (j < p.length) then aU (aA p) j else [AV.str true y]) = [AV.str true (aA (p ++ [y]) j)] := by
 by_cases c : j < p.length
 ·rw [decide_eq_true c, cond_true]
  show [AV.str true (aA p j)] = _
  unfold aA
  rw [List.getD_eq_getElem?_getD, List.getD_eq_getElem?_getD, List.getElem?_append_left c]
 ·obtain rfl : j = p.length := by omega
  rw [decide_eq_false c, cond_false]
  unfold aA
  rw [List.getD_eq_getElem?_getD, List.getElem?_append_right (Nat.le_refl _), Nat.sub_self]
  rfl
theorem U7 (m i cnt kk : Nat) (u : Nat → Nat) (nm : tX) (zl : tM) (al : List (Int × Int)) (π : Pool) (p : List Tx) (y : Tx) (hπ : ¬ π.live kk) (hk : kk < cnt) (hp : p.length ≤ 4096) :
  bI Try.prog ZBX Try.f17.ntmps 9 18 17 (aV [(3, .ptr ⟨false, 11, 0, 0⟩), (4, .mp 12), (5, sL 13 cnt), (19, sL 16 m), (20, iT (m : Int)), (21, iT (i : Int)), (7, .str true y), (9, iT (kk : Int))]) (hpL [(9, .cells true 1 m (.fn fun k => [iT ((u k : Nat) : Int)])), (10, .aJ true zl), (11, .cells true 2 1 (.fn fun _ => [.mp 10, sL 9 m])), (12, .iY true al), (13, .cells true 1 cnt (.at [(kk, [sL 17 p.length])] (fun j => [.hdr (π.hb j) (π.len j) (π.hc j)]))), (16, .cells true 1 m (.fn (aU nm))), (17, .cells true 1 p.length (.fn (aU (aA p))))]) π (fun e fr' H' π' => e = .normal ∧ fr' = aV [(3, .ptr ⟨false, 11, 0, 0⟩), (4, .mp 12), (5, sL 13 cnt), (19, sL 16 m), (20, iT (m : Int)), (21, iT (i : Int))] ∧ H' = hpL [(9, .cells true 1 m (.fn fun k => [iT ((u k : Nat) : Int)])), (10, .aJ true zl), (11, .cells true 2 1 (.fn fun _ => [.mp 10, sL 9 m])), (12, .iY true al), (13, .cells true 1 cnt (.fn fun j => [.hdr (π'.hb j) (π'.len j) (π'.hc j)])), (16, .cells true 1 m (.fn (aU nm)))] ∧ ∃ b c, π' = π.on kk (p.length + 1) (fun x => .str true (aA (p ++ [y]) x)) b c) := by
 have h1 : aj Try.prog ZBX Try.f17.ntmps 9 18 20 _ _ _ := rcN (abV m i cnt p.length kk 0 0 u π.hb π.len π.hc nm (aA p) zl al y (by omega) (by omega) (by omega) (by rw [Nat.zero_add]; exact Nat.beq_refl kk) (by omega) (by omega) (by omega) (by omega)) (by omega)
 have h2 := (bI.ofB (π := π) h1 fun e fr' H' h => by rw [h.2.2]; exact mO.hp rfl).shut (Post' := fun e fr' H' π' => ∃ b c, e = .normal ∧ fr' = aV [(3, .ptr ⟨false, 11, 0, 0⟩), (4, .mp 12), (5, sL 13 cnt), (19, sL 16 m), (20, iT (m : Int)), (21, iT (i : Int))] ∧ π' = π.on kk (p.length + 1) (fun x => .str true (aA (p ++ [y]) x)) b c ∧ Ia H' [(9, .cells true 1 m (.fn fun k => [iT ((u k : Nat) : Int)])), (10, .aJ true zl), (11, .cells true 2 1 (.fn fun _ => [.mp 10, sL 9 m])), (12, .iY true al), (13, .cells true 1 cnt (.fn fun j => [.hdr (π'.hb j) (π'.len j) (π'.hc j)])), (16, .cells true 1 m (.fn (aU nm)))]) fun e fr' H' π' h => by
  obtain ⟨⟨rfl, rfl, rfl⟩, rfl⟩ := h
  refine ⟨13, 19, kk, p.length + 1, cnt, _, _, fun x => .str true (aA (p ++ [y]) x), true, rfl, Tq, rfl, by decide, by omega, fun j hj => ⟨QV p y j hj, rfl⟩, hπ, fun b c => ⟨b, c, rfl, rfl, rfl, hs rfl, hs rfl, hs rfl, hs rfl, ⟨_, rfl, rfl, rfl, rfl, ag3 cnt kk _ b c _ _⟩, hs rfl, trivial⟩⟩
 have h3 := h2.post (Post' := fun e fr' H' π' => e = .normal ∧ fr' = aV [(3, .ptr ⟨false, 11, 0, 0⟩), (4, .mp 12), (5, sL 13 cnt), (19, sL 16 m), (20, iT (m : Int)), (21, iT (i : Int))] ∧ H' = hpL [(9, .cells true 1 m (.fn fun k => [iT ((u k : Nat) : Int)])), (10, .aJ true zl), (11, .cells true 2 1 (.fn fun _ => [.mp 10, sL 9 m])), (12, .iY true al), (13, .cells true 1 cnt (.fn fun j => [.hdr (π'.hb j) (π'.len j) (π'.hc j)])), (16, .cells true 1 m (.fn (aU nm)))] ∧ ∃ b c, π' = π.on kk (p.length + 1) (fun x => .str true (aA (p ++ [y]) x)) b c) fun e fr' H' π' h => by
  obtain ⟨b, c, rfl, rfl, rfl, h⟩ := h
  exact ⟨[(3, .ptr ⟨false, 11, 0, 0⟩), (4, .mp 12), (5, sL 13 cnt), (19, sL 16 m), (20, iT (m : Int)), (21, iT (i : Int))], _, ⟨re rfl, re rfl, re rfl, re rfl, re rfl, re rfl, trivial⟩, h, rfl, rfl, rfl, b, c, rfl⟩
 refine h3.low fun e fr' H' π' h => ?_
 obtain ⟨rfl, rfl, rfl, _⟩ := h
 exact ⟨[(3, .ptr ⟨false, 11, 0, 0⟩), (4, .mp 12), (5, sL 13 cnt), (19, sL 16 m), (20, iT (m : Int)), (21, iT (i : Int))], _, rfl, rfl, List.all_eq_true.1 rfl, ⟨⟨by omega, fun j hj v hv => by rw [List.mem_singleton.1 hv]; rfl⟩, ⟨by omega, trivial⟩, ⟨by omega, fun j hj v hv => List.all_eq_true.1 (show ([.mp 10, sL 9 m] : List AV).all (fun v => v.low 17) = true from rfl) v hv⟩, ⟨by omega, trivial⟩, ⟨by omega, fun j hj v hv => by rw [List.mem_singleton.1 hv]; rfl⟩, ⟨by omega, fun j hj v hv => List.all_eq_true.1 (show (aU nm j).all (fun v => v.low 17) = true from rfl) v hv⟩, trivial⟩⟩

/-- the parts after so many nodes: the roots in their order, and the names -/
structure PtS where
 rs : List Nat
 pc : Nat → List Tx
def bH (u : Nat → Nat) (nm : tX) : Nat → PtS
 | 0 => ⟨[], fun _ => []⟩
 | i + 1 => ⟨if root u i ∈ (bH u nm i).rs then (bH u nm i).rs else (bH u nm i).rs ++ [root u i], gy (bH u nm i).pc ((bH u nm i).rs.idxOf (root u i)) ((bH u nm i).pc ((bH u nm i).rs.idxOf (root u i)) ++ [nm i])⟩
def xG : Nat → List Nat → List (Int × Int)
 | _, [] => []
 | k, r :: l => ((r : Int), (k : Int)) :: xG (k + 1) l
theorem Py (x r : Nat) : ieq (x : Int) (r : Int) = decide (x = r) := by
 unfold ieq
 by_cases h : x = r
 ·rw [h, decide_eq_true rfl]; exact beq_self_eq_true _
 ·rw [decide_eq_false h]; exact beq_eq_false_iff_ne.2 fun e => h (by omega)
theorem KI (x : Nat) : ∀ (l : List Nat) (k : Nat), cZ ieq (x : Int) (xG k l) = if x ∈ l then some ((k + l.idxOf x : Nat) : Int) else none
 | [], k => rfl
 | r :: l, k => by
  show (bif ieq (x : Int) (r : Int) then some (k : Int) else cZ ieq (x : Int) (xG (k + 1) l)) = _
  rw [Py, KI x l (k + 1)]
  by_cases h : x = r
  ·subst h
   rw [decide_eq_true rfl, cond_true, if_pos (List.mem_cons_self ..), List.idxOf_cons_self]
   rfl
  ·rw [decide_eq_false h, cond_false, List.idxOf_cons, beq_false_of_ne (fun e => h e.symm), cond_false]
   by_cases c : x ∈ l
   ·rw [if_pos c, if_pos (List.mem_cons_of_mem _ c)]
    exact congrArg some (by omega)
   ·rw [if_neg c, if_neg (by simp [h, c])]
theorem Pz (x : Nat) : ∀ (l : List Nat) (k : Nat), x ∉ l → oh ieq (x : Int) ((k + l.length : Nat) : Int) (xG k l) = xG k (l ++ [x])
 | [], k, _ => rfl
 | r :: l, k, h => by
  show (bif ieq (x : Int) (r : Int) then _ else ((r : Int), (k : Int)) :: oh ieq (x : Int) ((k + (r :: l).length : Nat) : Int) (xG (k + 1) l)) = _
  rw [Py, decide_eq_false (fun e => h (by simp [e])), cond_false, show k + (r :: l).length = k + 1 + l.length by simp; omega, Pz x l (k + 1) (fun e => h (by simp [e]))]
  rfl
theorem MP (u : Nat → Nat) (nm : tX) : ∀ i, (bH u nm i).rs.length ≤ i
 | 0 => Nat.le_refl _
 | i + 1 => by
  have := MP u nm i
  show (if root u i ∈ (bH u nm i).rs then (bH u nm i).rs else (bH u nm i).rs ++ [root u i]).length ≤ i + 1
  split
  ·omega
  ·simp only [List.length_append, List.length_singleton]; omega
theorem TJ (u : Nat → Nat) (nm : tX) : ∀ i j, ((bH u nm i).pc j).length ≤ i
 | 0, j => Nat.le_refl _
 | i + 1, j => by
  have := TJ u nm i
  show (gy (bH u nm i).pc _ _ j).length ≤ i + 1
  by_cases c : j = (bH u nm i).rs.idxOf (root u i)
  ·subst c
   rw [dO, List.length_append]
   exact Nat.succ_le_succ (this _)
  ·rw [eY _ _ c]; exact Nat.le_succ_of_le (this j)
theorem MG (u : Nat → Nat) (nm : tX) : ∀ i j, (bH u nm i).rs.length ≤ j → (bH u nm i).pc j = []
 | 0, j, _ => rfl
 | i + 1, j, h => by
  have h' : (if root u i ∈ (bH u nm i).rs then (bH u nm i).rs else (bH u nm i).rs ++ [root u i]).length ≤ j := h
  show gy (bH u nm i).pc _ _ j = []
  have e : (bH u nm i).rs.length ≤ j ∧ j ≠ (bH u nm i).rs.idxOf (root u i) := by
   split at h'
   ·rename_i c
    have := List.idxOf_lt_length_of_mem c
    exact ⟨h', by omega⟩
   ·rename_i c
    rw [List.idxOf_eq_length c]
    simp only [List.length_append, List.length_singleton] at h'
    exact ⟨by omega, by omega⟩
  rw [eY _ _ e.2]
  exact MG u nm i j e.1
/-- the pool holds the parts -/
def PtQ (s : PtS) (π : Pool) : Prop := (∀ j, π.live j ↔ j < s.rs.length) ∧ ∀ j, j < s.rs.length → π.len j = (s.pc j).length ∧ ∀ x, x < (s.pc j).length → π.val j x = .str true (aA (s.pc j) x)
theorem rgI {σ : Nat → Nat} {K' : Nat} {H : T aF} {g : Nat} {s : Bool} {l l' : List (Int × Int)} (h : H.get (σ g) = some (.iY s l)) (e : l = l') (hlt : g < K') : ∃ b, H.get (σ g) = some b ∧ dD b ((aF.iY s l').ren σ) ∧ (aF.iY s l').mJ K' ∧ g < K' := ⟨_, h, by rw [e]; exact dD.refl _, trivial, hlt⟩
/-- a part that is there gets a name more -/
theorem abX (m i cnt kk : Nat) (u : Nat → Nat) (nm : tX) (zl : tM) (al : List (Int × Int)) (π : Pool) (p : List Tx) (y : Tx) (hl : π.live kk) (hlen : π.len kk = p.length) (hv : ∀ x, x < p.length → π.val kk x = .str true (aA p x)) (hk : kk < cnt) (hp : p.length ≤ 4096) :
  bI Try.prog ZBX Try.f17.ntmps 9 17 17 (aV [(3, .ptr ⟨false, 11, 0, 0⟩), (4, .mp 12), (5, sL 13 cnt), (19, sL 16 m), (20, iT (m : Int)), (21, iT (i : Int)), (7, .str true y), (9, iT (kk : Int))]) (hpL [(9, .cells true 1 m (.fn fun k => [iT ((u k : Nat) : Int)])), (10, .aJ true zl), (11, .cells true 2 1 (.fn fun _ => [.mp 10, sL 9 m])), (12, .iY true al), (13, .cells true 1 cnt (.fn fun j => [.hdr (π.hb j) (π.len j) (π.hc j)])), (16, .cells true 1 m (.fn (aU nm)))]) π (fun e fr' H' π' => e = .normal ∧ fr' = aV [(3, .ptr ⟨false, 11, 0, 0⟩), (4, .mp 12), (5, sL 13 cnt), (19, sL 16 m), (20, iT (m : Int)), (21, iT (i : Int))] ∧ H' = hpL [(9, .cells true 1 m (.fn fun k => [iT ((u k : Nat) : Int)])), (10, .aJ true zl), (11, .cells true 2 1 (.fn fun _ => [.mp 10, sL 9 m])), (12, .iY true al), (13, .cells true 1 cnt (.fn fun j => [.hdr (π'.hb j) (π'.len j) (π'.hc j)])), (16, .cells true 1 m (.fn (aU nm)))] ∧ ∃ b c, π' = (π.off kk).on kk (p.length + 1) (fun x => .str true (aA (p ++ [y]) x)) b c) := by
 refine bI.open 13 kk rfl hk rfl hl (by omega) ?_
 refine bI.gK (fl := [(3, .ptr ⟨false, 11, 0, 0⟩), (4, .mp 12), (5, sL 13 cnt), (19, sL 16 m), (20, iT (m : Int)), (21, iT (i : Int)), (7, .str true y), (9, iT (kk : Int))]) (bl := [(9, .cells true 1 m (.fn fun k => [iT ((u k : Nat) : Int)])), (10, .aJ true zl), (11, .cells true 2 1 (.fn fun _ => [.mp 10, sL 9 m])), (12, .iY true al), (13, .cells true 1 cnt (.at [(kk, [sL 17 p.length])] (fun j => [.hdr ((π.off kk).hb j) ((π.off kk).len j) ((π.off kk).hc j)]))), (16, .cells true 1 m (.fn (aU nm))), (17, .cells true 1 p.length (.fn (aU (aA p))))]) (iD rfl) ⟨hs rfl, hs rfl, hs rfl, hs rfl, ⟨_, rfl, rfl, rfl, rfl, fun j hj => ?_⟩, hs rfl, ⟨_, rfl, rfl, rfl, hlen, fun j hj => ?_⟩, trivial⟩ (U7 m i cnt kk u nm zl al (π.off kk) p y (fun h => h.2 rfl) hk hp)
 ·rw [hlen]; rfl
 ·show [π.val kk j] = [AV.str true (aA p j)]
  rw [hv j (by omega)]
/-- a new part with its first name -/
theorem abY (m i cnt : Nat) (u : Nat → Nat) (nm : tX) (zl : tM) (al : List (Int × Int)) (π : Pool) (y : Tx) (hl : ¬ π.live cnt) :
  bI Try.prog ZBX Try.f17.ntmps 9 17 17 (aV [(3, .ptr ⟨false, 11, 0, 0⟩), (4, .mp 12), (5, sL 13 (cnt + 1)), (19, sL 16 m), (20, iT (m : Int)), (21, iT (i : Int)), (7, .str true y), (9, iT (cnt : Int))]) (hpL [(9, .cells true 1 m (.fn fun k => [iT ((u k : Nat) : Int)])), (10, .aJ true zl), (11, .cells true 2 1 (.fn fun _ => [.mp 10, sL 9 m])), (12, .iY true al), (13, .cells true 1 (cnt + 1) (.fn fun j => bif decide (j < cnt) then [.hdr (π.hb j) (π.len j) (π.hc j)] else [.dL])), (16, .cells true 1 m (.fn (aU nm)))]) π (fun e fr' H' π' => e = .normal ∧ fr' = aV [(3, .ptr ⟨false, 11, 0, 0⟩), (4, .mp 12), (5, sL 13 (cnt + 1)), (19, sL 16 m), (20, iT (m : Int)), (21, iT (i : Int))] ∧ H' = hpL [(9, .cells true 1 m (.fn fun k => [iT ((u k : Nat) : Int)])), (10, .aJ true zl), (11, .cells true 2 1 (.fn fun _ => [.mp 10, sL 9 m])), (12, .iY true al), (13, .cells true 1 (cnt + 1) (.fn fun j => [.hdr (π'.hb j) (π'.len j) (π'.hc j)])), (16, .cells true 1 m (.fn (aU nm)))] ∧ ∃ b c, π' = π.on cnt 1 (fun x => .str true (aA [y] x)) b c) := by
 refine bI.V8 13 cnt (aU (aA [])) rfl (by show (bif decide (cnt < cnt) then _ else _) = _; rw [decide_eq_false (Nat.lt_irrefl _)]; rfl) (by omega) ?_
 refine bI.gK (fl := [(3, .ptr ⟨false, 11, 0, 0⟩), (4, .mp 12), (5, sL 13 (cnt + 1)), (19, sL 16 m), (20, iT (m : Int)), (21, iT (i : Int)), (7, .str true y), (9, iT (cnt : Int))]) (bl := [(9, .cells true 1 m (.fn fun k => [iT ((u k : Nat) : Int)])), (10, .aJ true zl), (11, .cells true 2 1 (.fn fun _ => [.mp 10, sL 9 m])), (12, .iY true al), (13, .cells true 1 (cnt + 1) (.at [(cnt, [sL 17 0])] (fun j => [.hdr (π.hb j) (π.len j) (π.hc j)]))), (16, .cells true 1 m (.fn (aU nm))), (17, .cells true 1 0 (.fn (aU (aA []))))]) (iD rfl) ⟨hs rfl, hs rfl, hs rfl, hs rfl, ⟨_, rfl, rfl, rfl, rfl, Qc fun j hj hne => ?_⟩, hs rfl, ⟨_, rfl, rfl, rfl, rfl, fun j hj => absurd hj (Nat.not_lt_zero _)⟩, trivial⟩ (U7 m i (cnt + 1) cnt u nm zl al π [] y hl (by omega) (Nat.zero_le _))
 show (bif decide (j < cnt) then _ else _) = _
 rw [decide_eq_true (by omega)]
 rfl



theorem U8 {u : Nat → Nat} {nm : tX} {i : Nat} {π : Pool} (hq : PtQ (bH u nm i) π) (hmem : root u i ∈ (bH u nm i).rs) (b c : Nat) : PtQ (bH u nm (i + 1)) ((π.off ((bH u nm i).rs.idxOf (root u i))).on ((bH u nm i).rs.idxOf (root u i)) (((bH u nm i).pc ((bH u nm i).rs.idxOf (root u i))).length + 1) (fun x => .str true (aA ((bH u nm i).pc ((bH u nm i).rs.idxOf (root u i)) ++ [nm i]) x)) b c) := by
 have e1 : (bH u nm (i + 1)).rs = (bH u nm i).rs := if_pos hmem
 have hk := List.idxOf_lt_length_of_mem hmem
 refine ⟨fun j => ?_, fun j hj => ?_⟩
 ·rw [e1]
  show (π.live j ∧ j ≠ ((bH u nm i).rs.idxOf (root u i))) ∨ j = ((bH u nm i).rs.idxOf (root u i)) ↔ _
  rw [hq.1 j]
  constructor
  ·rintro (h | h)
   ·exact h.1
   ·rw [h]; exact hk
  ·intro h
   by_cases c : j = ((bH u nm i).rs.idxOf (root u i))
   ·exact .inr c
   ·exact .inl ⟨h, c⟩
 ·rw [e1] at hj
  show gy π.len _ _ j = (gy (bH u nm i).pc _ _ j).length ∧ ∀ x, x < (gy (bH u nm i).pc _ _ j).length → gy π.val _ _ j x = .str true (aA (gy (bH u nm i).pc _ _ j) x)
  by_cases c : j = ((bH u nm i).rs.idxOf (root u i))
  ·subst c
   rw [dO, dO, dO]
   exact ⟨by rw [List.length_append]; rfl, fun x _ => rfl⟩
  ·rw [eY _ _ c, eY _ _ c, eY _ _ c]
   exact hq.2 j hj
theorem U9 {u : Nat → Nat} {nm : tX} {i : Nat} {π : Pool} (hq : PtQ (bH u nm i) π) (hmem : ¬ root u i ∈ (bH u nm i).rs) (b c : Nat) : PtQ (bH u nm (i + 1)) (π.on (bH u nm i).rs.length 1 (fun x => .str true (aA [nm i] x)) b c) := by
 have e1 : (bH u nm (i + 1)).rs = (bH u nm i).rs ++ [root u i] := if_neg hmem
 have e2 : (bH u nm (i + 1)).pc = gy (bH u nm i).pc (bH u nm i).rs.length [nm i] := by
  show gy (bH u nm i).pc ((bH u nm i).rs.idxOf (root u i)) ((bH u nm i).pc ((bH u nm i).rs.idxOf (root u i)) ++ [nm i]) = _
  rw [List.idxOf_eq_length hmem, MG u nm i _ (Nat.le_refl _)]
  rfl
 refine ⟨fun j => ?_, fun j hj => ?_⟩
 ·rw [e1]
  show π.live j ∨ j = (bH u nm i).rs.length ↔ _
  rw [hq.1 j, List.length_append, List.length_singleton]
  omega
 ·rw [e1, List.length_append, List.length_singleton] at hj
  rw [e2]
  show gy π.len _ _ j = (gy (bH u nm i).pc _ _ j).length ∧ ∀ x, x < (gy (bH u nm i).pc _ _ j).length → gy π.val _ _ j x = .str true (aA (gy (bH u nm i).pc _ _ j) x)
  by_cases c : j = (bH u nm i).rs.length
  ·subst c
   rw [dO, dO, dO]
   exact ⟨rfl, fun x _ => rfl⟩
  ·rw [eY _ _ c, eY _ _ c, eY _ _ c]
   exact hq.2 j (by omega)
noncomputable abbrev ZBM (v0 : Nat → Nat) (v1 : tX) (v2 : Nat) (v3 : Pool) := (.cells true 1 (bH v0 v1 v2).rs.length (.fn fun j => [.hdr (v3.hb j) (v3.len j) (v3.hc j)]) : aF)
noncomputable abbrev ZC3 (v0 : Nat → Nat) (v1 : tX) (v2 : Nat) := sL 13 (bH v0 v1 v2).rs.length
theorem abZ (m i : Nat) (u : Nat → Nat) (nm : tX) (zl : tM) (π : Pool) (hi : i < m) (hm : m ≤ 4096) (hu : ∀ j, u j ≤ j) (hq : PtQ (bH u nm i) π) :
  bI Try.prog (.block 1 (.seq ZDH (.seq ZDD (.seq ZC2 (.seq ZCy ZBX))))) Try.f17.ntmps 9 17 17 (aV [(3, .ptr ⟨false, 11, 0, 0⟩), (4, .mp 12), (5, sL 13 (bH u nm i).rs.length), (19, sL 16 m), (20, iT (m : Int)), (21, iT (i : Int))]) (hpL [(9, .cells true 1 m (.fn fun k => [iT ((u k : Nat) : Int)])), (10, .aJ true zl), (11, .cells true 2 1 (.fn fun _ => [.mp 10, sL 9 m])), (12, .iY true (xG 0 (bH u nm i).rs)), (13, .cells true 1 (bH u nm i).rs.length (.fn fun j => [.hdr (π.hb j) (π.len j) (π.hc j)])), (16, .cells true 1 m (.fn (aU nm)))]) π (fun e fr' H' π' => e = .normal ∧ fr' = aV [(3, .ptr ⟨false, 11, 0, 0⟩), (4, .mp 12), (5, sL 13 (bH u nm (i + 1)).rs.length), (19, sL 16 m), (20, iT (m : Int)), (21, iT (i : Int))] ∧ H' = hpL [(9, .cells true 1 m (.fn fun k => [iT ((u k : Nat) : Int)])), (10, .aJ true zl), (11, .cells true 2 1 (.fn fun _ => [.mp 10, sL 9 m])), (12, .iY true (xG 0 (bH u nm (i + 1)).rs)), (13, .cells true 1 (bH u nm (i + 1)).rs.length (.fn fun j => [.hdr (π'.hb j) (π'.len j) (π'.hc j)])), (16, .cells true 1 m (.fn (aU nm)))] ∧ PtQ (bH u nm (i + 1)) π') := by
 have lc := MP u nm i
 refine bI.block ?_
 refine bI.seqB (K1 := 17) (F1 := [(3, .ptr ⟨false, 11, 0, 0⟩), (4, .mp 12), (5, sL 13 (bH u nm i).rs.length), (19, sL 16 m), (20, iT (m : Int)), (21, iT (i : Int)), (6, iT (i : Int)), (7, .str true (nm i))]) (H1 := [(9, .cells true 1 m (.fn fun k => [iT ((u k : Nat) : Int)])), (10, .aJ true zl), (11, .cells true 2 1 (.fn fun _ => [.mp 10, sL 9 m])), (12, .iY true (xG 0 (bH u nm i).rs)), (13, .cells true 1 (bH u nm i).rs.length (.fn fun j => [.hdr (π.hb j) (π.len j) (π.hc j)])), (16, .cells true 1 m (.fn (aU nm)))]) (aj.toN (ypH 9 (by omega) m i (bH u nm i).rs.length 0 0 u π.hb π.len π.hc (fun _ => []) (fun _ => []) nm (fun _ => []) [] [] [] zl (xG 0 (bH u nm i).rs) (by omega) (by omega)) ⟨re rfl, re rfl, re rfl, re rfl, re rfl, re rfl, re rfl, ⟨_, rfl, by rw [Nat.zero_add]; exact AV.ge.refl _⟩, trivial⟩ (gq rfl)) rfl (by omega) ?_
 refine bI.seqB (K1 := 17) (F1 := [(3, .ptr ⟨false, 11, 0, 0⟩), (4, .mp 12), (5, sL 13 (bH u nm i).rs.length), (19, sL 16 m), (20, iT (m : Int)), (21, iT (i : Int)), (7, .str true (nm i)), (8, iT ((root u i : Nat) : Int))]) (H1 := [(9, .cells true 1 m (.fn fun k => [iT ((u k : Nat) : Int)])), (10, .aJ true zl), (11, .cells true 2 1 (.fn fun _ => [.mp 10, sL 9 m])), (12, .iY true (xG 0 (bH u nm i).rs)), (13, .cells true 1 (bH u nm i).rs.length (.fn fun j => [.hdr (π.hb j) (π.len j) (π.hc j)])), (16, .cells true 1 m (.fn (aU nm)))]) (aj.toN (ypI 9 (by omega) m i (bH u nm i).rs.length 0 0 u π.hb π.len π.hc (fun _ => []) (fun _ => []) nm (fun _ => []) [] [] [] zl (xG 0 (bH u nm i).rs) (nm i) (by omega) (by omega) (fun j hj => ⟨⟨by rw [nY hj]; exact AV.ge.refl _, rfl, trivial⟩, by rw [nY hj]; exact hu j⟩)) ⟨re rfl, re rfl, re rfl, re rfl, re rfl, re rfl, re rfl, ⟨_, rfl, by rw [qw hu hi]; exact AV.ge.refl _⟩, trivial⟩ (gq rfl)) rfl (by omega) ?_
 have hJ := ypJ 9 (by omega) m i (bH u nm i).rs.length ((root u i : Nat) : Int) 0 u π.hb π.len π.hc (fun _ => []) (fun _ => []) nm (fun _ => []) [] [] [] zl (xG 0 (bH u nm i).rs) (nm i)
 rw [KI] at hJ
 by_cases hmem : root u i ∈ (bH u nm i).rs
 ·rw [if_pos hmem] at hJ
  have hk := List.idxOf_lt_length_of_mem hmem
  have e1 : (bH u nm (i + 1)).rs = (bH u nm i).rs := if_pos hmem
  refine bI.seqB (K1 := 17) (F1 := [(3, .ptr ⟨false, 11, 0, 0⟩), (4, .mp 12), (5, sL 13 (bH u nm i).rs.length), (19, sL 16 m), (20, iT (m : Int)), (21, iT (i : Int)), (7, .str true (nm i)), (8, iT ((root u i : Nat) : Int)), (9, iT (((bH u nm i).rs.idxOf (root u i)) : Int)), (10, .bD true)]) (H1 := [(9, .cells true 1 m (.fn fun k => [iT ((u k : Nat) : Int)])), (10, .aJ true zl), (11, .cells true 2 1 (.fn fun _ => [.mp 10, sL 9 m])), (12, .iY true (xG 0 (bH u nm i).rs)), (13, .cells true 1 (bH u nm i).rs.length (.fn fun j => [.hdr (π.hb j) (π.len j) (π.hc j)])), (16, .cells true 1 m (.fn (aU nm)))]) (aj.toN hJ ⟨re rfl, re rfl, re rfl, re rfl, re rfl, re rfl, re rfl, re rfl, ⟨_, rfl, AV.ge.int' _ _ _ (by show ((0 + ((bH u nm i).rs.idxOf (root u i)) : Nat) : Int) = _; rw [Nat.zero_add])⟩, re rfl, trivial⟩ (gq rfl)) rfl (by omega) ?_
  refine bI.seqB (K1 := 17) (F1 := [(3, .ptr ⟨false, 11, 0, 0⟩), (4, .mp 12), (5, sL 13 (bH u nm i).rs.length), (19, sL 16 m), (20, iT (m : Int)), (21, iT (i : Int)), (7, .str true (nm i)), (9, iT (((bH u nm i).rs.idxOf (root u i)) : Int))]) (H1 := [(9, .cells true 1 m (.fn fun k => [iT ((u k : Nat) : Int)])), (10, .aJ true zl), (11, .cells true 2 1 (.fn fun _ => [.mp 10, sL 9 m])), (12, .iY true (xG 0 (bH u nm i).rs)), (13, .cells true 1 (bH u nm i).rs.length (.fn fun j => [.hdr (π.hb j) (π.len j) (π.hc j)])), (16, .cells true 1 m (.fn (aU nm)))]) ((ypK 9 (by omega) m i (bH u nm i).rs.length ((root u i : Nat) : Int) (((bH u nm i).rs.idxOf (root u i)) : Int) u π.hb π.len π.hc (fun _ => []) (fun _ => []) nm (fun _ => []) [] [] [] zl (xG 0 (bH u nm i).rs) (nm i) true (fun h => by cases h) (fun h => by cases h)).renG fun e fr' H' h => ?_) rfl (by omega) ?_
  ·rw [cond_true] at h
   obtain ⟨rfl, rfl, rfl⟩ := h
   exact ⟨id, [(3, .ptr ⟨false, 11, 0, 0⟩), (4, .mp 12), (5, sL 13 (bH u nm i).rs.length), (19, sL 16 m), (20, iT (m : Int)), (21, iT (i : Int)), (7, .str true (nm i)), (9, iT (((bH u nm i).rs.idxOf (root u i)) : Int))], [(9, .cells true 1 m (.fn fun k => [iT ((u k : Nat) : Int)])), (10, .aJ true zl), (11, .cells true 2 1 (.fn fun _ => [.mp 10, sL 9 m])), (12, .iY true (xG 0 (bH u nm i).rs)), (13, .cells true 1 (bH u nm i).rs.length (.fn fun j => [.hdr (π.hb j) (π.len j) (π.hc j)])), (16, .cells true 1 m (.fn (aU nm)))], fun g hg => rfl, (yX rfl), ⟨dX rfl rfl (fun j _ => rfl) (fun j _ => rfl) (by omega), lW rfl rfl (by omega), dX rfl rfl (fun j _ => rfl) (fun j _ => rfl) (by omega), rgI rfl rfl (by omega), dX rfl rfl (fun j _ => rfl) (fun j _ => rfl) (by omega), dX rfl rfl (fun j _ => rfl) (fun j _ => rfl) (by omega), trivial⟩, fun i j _ _ h => h, rfl, rfl, rfl⟩
  ·obtain ⟨q1, q2⟩ := hq.2 _ hk
   refine (abX m i (bH u nm i).rs.length ((bH u nm i).rs.idxOf (root u i)) u nm zl (xG 0 (bH u nm i).rs) π ((bH u nm i).pc ((bH u nm i).rs.idxOf (root u i))) (nm i) ((hq.1 _).2 hk) q1 q2 hk (by have := TJ u nm i ((bH u nm i).rs.idxOf (root u i)); omega)).mono fun e fr' H' π' h => ?_
   obtain ⟨rfl, rfl, rfl, b, c, rfl⟩ := h
   exact ⟨rfl, by rw [e1], by rw [e1], U8 hq hmem b c⟩
 ·rw [if_neg hmem] at hJ
  have e1 : (bH u nm (i + 1)).rs = (bH u nm i).rs ++ [root u i] := if_neg hmem
  have e3 : ((bH u nm i).rs ++ [root u i]).length = (bH u nm i).rs.length + 1 := by rw [List.length_append]; rfl
  refine bI.seqB (K1 := 17) (F1 := [(3, .ptr ⟨false, 11, 0, 0⟩), (4, .mp 12), (5, sL 13 (bH u nm i).rs.length), (19, sL 16 m), (20, iT (m : Int)), (21, iT (i : Int)), (7, .str true (nm i)), (8, iT ((root u i : Nat) : Int)), (9, iT 0), (10, .bD false)]) (H1 := [(9, .cells true 1 m (.fn fun k => [iT ((u k : Nat) : Int)])), (10, .aJ true zl), (11, .cells true 2 1 (.fn fun _ => [.mp 10, sL 9 m])), (12, .iY true (xG 0 (bH u nm i).rs)), (13, .cells true 1 (bH u nm i).rs.length (.fn fun j => [.hdr (π.hb j) (π.len j) (π.hc j)])), (16, .cells true 1 m (.fn (aU nm)))]) (aj.toN hJ (iD rfl) (gq rfl)) rfl (by omega) ?_
  refine bI.seqB (K1 := 17) (F1 := [(3, .ptr ⟨false, 11, 0, 0⟩), (4, .mp 12), (5, sL 13 ((bH u nm i).rs.length + 1)), (19, sL 16 m), (20, iT (m : Int)), (21, iT (i : Int)), (7, .str true (nm i)), (9, iT ((bH u nm i).rs.length : Int))]) (H1 := [(9, .cells true 1 m (.fn fun k => [iT ((u k : Nat) : Int)])), (10, .aJ true zl), (11, .cells true 2 1 (.fn fun _ => [.mp 10, sL 9 m])), (12, .iY true (xG 0 (bH u nm (i + 1)).rs)), (13, .cells true 1 ((bH u nm i).rs.length + 1) (.fn fun j => bif decide (j < (bH u nm i).rs.length) then [.hdr (π.hb j) (π.len j) (π.hc j)] else [.dL])), (16, .cells true 1 m (.fn (aU nm)))]) ((ypK 9 (by omega) m i (bH u nm i).rs.length ((root u i : Nat) : Int) 0 u π.hb π.len π.hc (fun _ => []) (fun _ => []) nm (fun _ => []) [] [] [] zl (xG 0 (bH u nm i).rs) (nm i) false (fun _ => by omega) (fun _ => by omega)).renG fun e fr' H' h => ?_) rfl (by omega) ?_
  ·rw [cond_false] at h
   obtain ⟨rfl, rfl, rfl⟩ := h
   refine ⟨sg 13 18, [(3, .ptr ⟨false, 11, 0, 0⟩), (4, .mp 12), (5, sL 13 ((bH u nm i).rs.length + 1)), (19, sL 16 m), (20, iT (m : Int)), (21, iT (i : Int)), (7, .str true (nm i)), (9, iT ((bH u nm i).rs.length : Int))], [(9, .cells true 1 m (.fn fun k => [iT ((u k : Nat) : Int)])), (10, .aJ true zl), (11, .cells true 2 1 (.fn fun _ => [.mp 10, sL 9 m])), (12, .iY true (xG 0 (bH u nm (i + 1)).rs)), (13, .cells true 1 ((bH u nm i).rs.length + 1) (.fn fun j => bif decide (j < (bH u nm i).rs.length) then [.hdr (π.hb j) (π.len j) (π.hc j)] else [.dL])), (16, .cells true 1 m (.fn (aU nm)))], mX (by omega), (yX rfl), ⟨dX rfl rfl (fun j _ => rfl) (fun j _ => rfl) (by omega), lW rfl rfl (by omega), dX rfl rfl (fun j _ => rfl) (fun j _ => rfl) (by omega), rgI rfl ?_ (by omega), dX rfl rfl (fun j hj => ?_) (fun j hj => ?_) (by omega), dX rfl rfl (fun j _ => rfl) (fun j _ => rfl) (by omega), trivial⟩, mY (by omega), rfl, rfl, rfl⟩
   ·rw [e1]
    have := Pz (root u i) (bH u nm i).rs 0 hmem
    rw [Nat.zero_add] at this
    exact this
   ·show (bif decide (j < (bH u nm i).rs.length) then [AV.hdr (π.hb j) (π.len j) (π.hc j)] else [AV.dL]) = kQ _ (bif decide (j < (bH u nm i).rs.length) then [AV.hdr (π.hb j) (π.len j) (π.hc j)] else [AV.dL])
    cases decide (j < (bH u nm i).rs.length) <;> rfl
   ·show (bif decide (j < (bH u nm i).rs.length) then [AV.hdr (π.hb j) (π.len j) (π.hc j)] else [AV.dL]).all _ = true
    cases decide (j < (bH u nm i).rs.length) <;> rfl
  ·refine (abY m i (bH u nm i).rs.length u nm zl (xG 0 (bH u nm (i + 1)).rs) π (nm i) (fun h => absurd ((hq.1 _).1 h) (Nat.lt_irrefl _))).mono fun e fr' H' π' h => ?_
   obtain ⟨rfl, rfl, rfl, b, c, rfl⟩ := h
   exact ⟨rfl, by rw [e1, e3], by rw [e1, e3], U9 hq hmem b c⟩
noncomputable abbrev ZCG := aT [1,1,1,1,1,0,1,0,0] (ak Try.f17)
theorem PD : ZCG = .seq (aT [1,1,1,1,1,0,1,0,0,0] (ak Try.f17)) (.seq (aT [1,1,1,1,1,0,1,0,0,1,0] (ak Try.f17)) (.seq (.block 1 (.seq ZDH (.seq ZDD (.seq ZC2 (.seq ZCy ZBX))))) (aT [1,1,1,1,1,0,1,0,0,1,1,1] (ak Try.f17)))) := by kernel_rfl
/-- ahead of round i -/
def PtI (m : Nat) (u : Nat → Nat) (nm : tX) (zl : tM) (i : Nat) (fr : Fr) (H : T aF) (π : Pool) : Prop := fr = aV [(3, .ptr ⟨false, 11, 0, 0⟩), (4, .mp 12), (5, sL 13 (bH u nm i).rs.length), (19, sL 16 m), (20, iT (m : Int)), (21, iT (i : Int))] ∧ H = hpL [(9, .cells true 1 m (.fn fun k => [iT ((u k : Nat) : Int)])), (10, .aJ true zl), (11, .cells true 2 1 (.fn fun _ => [.mp 10, sL 9 m])), (12, .iY true (xG 0 (bH u nm i).rs)), (13, .cells true 1 (bH u nm i).rs.length (.fn fun j => [.hdr (π.hb j) (π.len j) (π.hc j)])), (16, .cells true 1 m (.fn (aU nm)))] ∧ PtQ (bH u nm i) π
theorem Wh (m i : Nat) (u : Nat → Nat) (nm : tX) (zl : tM) (hi : i < m) (hm : m ≤ 4096) (hu : ∀ j, u j ≤ j) (fr : Fr) (H : T aF) (π : Pool) (h : PtI m u nm zl i fr H π) :
  bI Try.prog ZCG Try.f17.ntmps 9 17 17 fr H π (fun e fr' H' π' => e = .normal ∧ PtI m u nm zl (i + 1) fr' H' π') := by
 obtain ⟨rfl, rfl, hq⟩ := h
 rw [PD]
 refine bI.seqB (K1 := 17) (ypG 9 (by omega) m i (bH u nm i).rs.length 0 0 u π.hb π.len π.hc (fun _ => []) (fun _ => []) nm (fun _ => []) [] [] [] zl (xG 0 (bH u nm i).rs)) rfl (by omega) ?_
 refine bI.seqB (K1 := 17) (F1 := [(3, ZA 11), (4, .mp 12), (5, ZC3 u nm i), (19, sL 16 m), (20, iT (m : Int)), (21, iT (i : Int))]) (H1 := [(9, ZL m u), (10, .aJ true zl), (11, ZI m 10 9), (12, .iY true (xG 0 (bH u nm i).rs)), (13, ZBM u nm i π), (16, ZY m nm)]) ((ypX 9 (by omega) m i (bH u nm i).rs.length 0 0 u π.hb π.len π.hc (fun _ => []) (fun _ => []) nm (fun _ => []) [] [] [] zl (xG 0 (bH u nm i).rs) (decide ((i : Int) < (m : Int)))).mono fun e fr' H' h => ?_) rfl (by omega) ?_
 ·rw [decide_eq_true (by omega), cond_true] at h
  exact h
 refine bI.seq (K1 := 17) (by omega) ((abZ m i u nm zl π hi hm hu hq).mono fun e fr' H' π' h => ?_)
 obtain ⟨rfl, rfl, rfl, hq'⟩ := h
 refine (bI.ofB (aj.toN (ypM 9 (by omega) m i (bH u nm (i + 1)).rs.length 0 0 u π'.hb π'.len π'.hc (fun _ => []) (fun _ => []) nm (fun _ => []) [] [] [] zl (xG 0 (bH u nm (i + 1)).rs) (by omega)) (F' := [(3, ZA 11), (4, .mp 12), (5, sL 13 (bH u nm (i + 1)).rs.length), (19, sL 16 m), (20, iT (m : Int)), (21, iT ((i + 1) : Int))]) (Vf := [(9, ZL m u), (10, .aJ true zl), (11, ZI m 10 9), (12, .iY true (xG 0 (bH u nm (i + 1)).rs)), (13, .cells true 1 (bH u nm (i + 1)).rs.length (.fn fun j => [.hdr (π'.hb j) (π'.len j) (π'.hc j)])), (16, ZY m nm)]) ⟨re rfl, re rfl, re rfl, re rfl, re rfl, ⟨_, rfl, AV.ge.int' _ _ _ (by omega)⟩, trivial⟩ (gq rfl)) fun e fr' H' h => by rw [h.2.2]; exact mO.hp rfl).mono fun e fr' H' π' h => ?_
 obtain ⟨⟨rfl, rfl, rfl⟩, rfl⟩ := h
 exact ⟨rfl, rfl, rfl, hq'⟩
theorem aar (m : Nat) (u : Nat → Nat) (nm : tX) (zl : tM) (fr : Fr) (H : T aF) (π : Pool) (h : PtI m u nm zl m fr H π) :
  bI Try.prog ZCG Try.f17.ntmps 9 17 17 fr H π (fun e fr' H' π' => e = .exit 0 ∧ PtI m u nm zl m fr' H' π') := by
 obtain ⟨rfl, rfl, hq⟩ := h
 rw [PD]
 refine bI.seqB (K1 := 17) (ypG 9 (by omega) m m (bH u nm m).rs.length 0 0 u π.hb π.len π.hc (fun _ => []) (fun _ => []) nm (fun _ => []) [] [] [] zl (xG 0 (bH u nm m).rs)) rfl (by omega) ?_
 refine bI.seq (K1 := 17) (by omega) ((bI.ofB (ypX 9 (by omega) m m (bH u nm m).rs.length 0 0 u π.hb π.len π.hc (fun _ => []) (fun _ => []) nm (fun _ => []) [] [] [] zl (xG 0 (bH u nm m).rs) (decide ((m : Int) < (m : Int)))) fun e fr' H' h => by
  rw [decide_eq_false (by omega), cond_false] at h
  rw [h.2.2]; exact mO.hp rfl).mono fun e fr' H' π' h => ?_)
 rw [decide_eq_false (by omega), cond_false] at h
 obtain ⟨⟨rfl, rfl, rfl⟩, rfl⟩ := h
 exact ⟨rfl, rfl, rfl, hq⟩


theorem adi : (ak Try.f17) = .seq (aT [0] (ak Try.f17)) (.seq (aT [1,0] (ak Try.f17)) (.seq (aT [1,1,0] (ak Try.f17)) (.seq (aT [1,1,1,0] (ak Try.f17)) (.seq (aT [1,1,1,1,0] (ak Try.f17)) (.seq (.seq (aT [1,1,1,1,1,0,0] (ak Try.f17)) (.block 0 (.loop ZCG))) (aT [1,1,1,1,1,1] (ak Try.f17))))))) := by kernel_rfl
/-- the loop: behind it the parts are frozen -/
noncomputable abbrev ZCL := (.cells true 1 0 (.fn fun j => [.hdr ((fun _ => 0) j) ((fun _ => 0) j) ((fun _ => 0) j)]) : aF)
end Go.Proofs.Ytgjdeclenlgaeaa
