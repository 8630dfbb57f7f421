/- GraphRounds: a part: summaries of functions that the statement reaches, printed by program, checked by the kernel. -/
import Derived.ProofKit
import Derived.OpenShut
import Derived.KernelRfl
import Derived.SizedLaws
import Derived.Test.YtgjdeclenlgaeaaProg
import Derived.Test.YtgjdeclenlgaeaaGraphRoundsPB
namespace Go.Proofs.Ytgjdeclenlgaeaa
open Go.ChangeShapes Go.WideShapes Go.ChangeAt Go.RowKit Go.Sx
set_option linter.unusedVariables false
set_option linter.unusedSimpArgs false
set_option maxRecDepth 100000

theorem sp_y (n m i : Nat) (E : tE) (zl : tM) (hi : i < n) (hn : n ≤ 1024) (hm : m ≤ 4096) (hz : ∀ x, 0 ≤ (lfind seq x zl).getD 0 ∧ (lfind seq x zl).getD 0 < (m : Int)) :
    GoesB Try.prog ZB1 Try.f45.ntmps 9 16 15 (frL [(2, sL 9 (spT zl E i).length), (3, sL 10 (spR zl E i).length), (4, .ptr ⟨false, 13, 0, 0⟩), (10, sL 14 n), (11, iT (n : Int)), (12, iT (i : Int)), (6, .ptr ⟨false, 15, 0, 0⟩), (20, .sbool (!jsel (E i)))]) (hpL [(9, .cells true 8 (spT zl E i).length (.fn fun j => elR (eget (spT zl E i) j))), (10, .cells true 8 (spR zl E i).length (.fn fun j => elR (eget (spR zl E i) j))), (11, .cells true 1 m (.fn fun k => [iT (((Ul (plc zl) (jl E i)) k : Nat) : Int)])), (12, .mSI true zl), (13, .cells true 2 1 (.fn fun _ => [.mp 12, sL 11 m])), (14, .cells true 8 n (.fn fun j => elR (E j))), (15, .cells true 8 1 (.fn fun _ => elR (E i)))]) (Nm [(2, sL 9 (spT zl E (i + 1)).length), (3, sL 10 (spR zl E (i + 1)).length), (4, .ptr ⟨false, 13, 0, 0⟩), (10, sL 14 n), (11, iT (n : Int)), (12, iT (i : Int))] [(9, .cells true 8 (spT zl E (i + 1)).length (.fn fun j => elR (eget (spT zl E (i + 1)) j))), (10, .cells true 8 (spR zl E (i + 1)).length (.fn fun j => elR (eget (spR zl E (i + 1)) j))), (11, .cells true 1 m (.fn fun k => [iT (((Ul (plc zl) (jl E (i + 1))) k : Nat) : Int)])), (12, .mSI true zl), (13, .cells true 2 1 (.fn fun _ => [.mp 12, sL 11 m])), (14, .cells true 8 n (.fn fun j => elR (E j)))]) := by
  have hu := Ul_le (plc zl) (jl E i)
  have la : plc zl (E i).a < m := by have := hz (E i).a; unfold plc; omega
  have lb : plc zl (E i).b < m := by have := hz (E i).b; unfold plc; omega
  have l1 := spT_len zl E i
  have l2 := spR_len zl E i
  have hr : decide (((root (uO m (Cont.row (.fn fun k => [iT (((Ul (plc zl) (jl E i)) k : Nat) : Int)]))) (plc zl (E i).a) : Nat) : Int) = ((root (uO m (Cont.row (.fn fun k => [iT (((Ul (plc zl) (jl E i)) k : Nat) : Int)]))) (plc zl (E i).b) : Nat) : Int)) = jsame zl E i := by
    rw [root_uO hu la, root_uO hu lb]
    unfold jsame
    exact decide_eq_decide.2 (by unfold cls; omega)
  refine (spY 9 (by omega) n m i (spT zl E i).length (spR zl E i).length (Ul (plc zl) (jl E i)) E (eget (spT zl E i)) (eget (spR zl E i)) (fun _ => []) (fun _ => []) [] [] [] zl (!jsel (E i)) (fun _ => rfl) (fun _ => hm) (fun _ j hj => ⟨⟨by rw [uO_row hj]; exact AV.ge.refl _, rfl, trivial⟩, by rw [uO_row hj]; exact hu j⟩) (fun _ => hz) (fun _ _ => by omega) (fun _ _ => by omega) (fun _ _ => by omega) (fun _ _ => by omega)).renG fun e fr' H' h => ?_
  cases hs : jsel (E i) with
  | false =>
    rw [hs, Bool.not_false, cond_true] at h
    obtain ⟨rfl, rfl, rfl⟩ := h
    have e1 : spT zl E (i + 1) = spT zl E i := by conv => lhs; unfold spT
                                                  rw [hs, Bool.false_and, cond_false]
    have e2 : spR zl E (i + 1) = spR zl E i := by conv => lhs; unfold spR
                                                  rw [hs, Bool.false_and, cond_false]
    have e3 : jl E (i + 1) = jl E i := by conv => lhs; unfold jl
                                          rw [hs, cond_false]
    rw [e1, e2, e3]
    exact ⟨id, [(2, sL 9 (spT zl E i).length), (3, sL 10 (spR zl E i).length), (4, .ptr ⟨false, 13, 0, 0⟩), (10, sL 14 n), (11, iT (n : Int)), (12, iT (i : Int))], [(9, .cells true 8 (spT zl E i).length (.fn fun j => elR (eget (spT zl E i) j))), (10, .cells true 8 (spR zl E i).length (.fn fun j => elR (eget (spR zl E i) j))), (11, .cells true 1 m (.fn fun k => [iT (((Ul (plc zl) (jl E i)) k : Nat) : Int)])), (12, .mSI true zl), (13, .cells true 2 1 (.fn fun _ => [.mp 12, sL 11 m])), (14, .cells true 8 n (.fn fun j => elR (E j)))], fun g hg => rfl, (eRr rfl), ⟨rgR rfl rfl (fun j _ => rfl) (fun j _ => rfl) (by omega), rgR rfl rfl (fun j _ => rfl) (fun j _ => rfl) (by omega), rgR rfl rfl (fun j _ => rfl) (fun j _ => rfl) (by omega), rgM rfl rfl (by omega), rgR rfl rfl (fun j _ => rfl) (fun j _ => rfl) (by omega), rgR rfl rfl (fun j _ => rfl) (fun j _ => rfl) (by omega), trivial⟩, fun i j _ _ h => h, rfl, rfl, rfl⟩
  | true =>
    rw [hs, Bool.not_true, cond_false, hr] at h
    cases hj : jsame zl E i with
    | true =>
      rw [hj, cond_true] at h
      obtain ⟨rfl, rfl, rfl⟩ := h
      have e0 : spT zl E (i + 1) = spT zl E i := by conv => lhs; unfold spT
                                                    rw [hs, hj, Bool.not_true, Bool.and_false, cond_false]
      have e1 : spR zl E (i + 1) = spR zl E i ++ [E i] := by conv => lhs; unfold spR
                                                             rw [hs, hj, Bool.and_true, cond_true]
      rw [e0]
      exact ⟨sg 10 17, [(2, sL 9 (spT zl E i).length), (3, sL 10 (spR zl E (i + 1)).length), (4, .ptr ⟨false, 13, 0, 0⟩), (10, sL 14 n), (11, iT (n : Int)), (12, iT (i : Int))], [(9, .cells true 8 (spT zl E i).length (.fn fun j => elR (eget (spT zl E i) j))), (10, .cells true 8 (spR zl E (i + 1)).length (.fn fun j => elR (eget (spR zl E (i + 1)) j))), (11, .cells true 1 m (.fn fun k => [iT (((Ul (plc zl) (jl E (i + 1))) k : Nat) : Int)])), (12, .mSI true zl), (13, .cells true 2 1 (.fn fun _ => [.mp 12, sL 11 m])), (14, .cells true 8 n (.fn fun j => elR (E j)))], sg_low (by omega), ⟨⟨_, rfl, AV.ge.refl _, rfl⟩, ⟨_, rfl, AV.ge.slc _ _ _ (by rw [e1, List.length_append]; rfl), rfl⟩, eRr rfl⟩, ⟨rgR rfl rfl (fun j _ => rfl) (fun j _ => rfl) (by omega), rgR rfl (by rw [e1, List.length_append]; rfl) (fun j hj => by
      show (bif decide (j < (spR zl E i).length) then elR (eget (spR zl E i) j) else elR (E i)) = elR (eget (spR zl E (i + 1)) j)
      rw [e1]
      exact (eget_snoc (spR zl E i) (E i) j hj).symm) (fun j _ => rfl) (by omega), rgR rfl rfl (fun j hj => by
      show [iT ((jn (uO m (Cont.row (.fn fun k => [AV.int true .i64 (((Ul (plc zl) (jl E i)) k : Nat) : Int)]))) (plc zl (E i).a) (plc zl (E i).b) j : Nat) : Int)] = [iT (((Ul (plc zl) (jl E (i + 1))) j : Nat) : Int)]
      rw [jn_uO hu la lb hj]
      conv => rhs; unfold jl
      rw [hs, cond_true, Ul_snoc]) (fun j _ => rfl) (by omega), rgM rfl rfl (by omega), rgR rfl rfl (fun j _ => rfl) (fun j _ => rfl) (by omega), rgR rfl rfl (fun j _ => rfl) (fun j _ => rfl) (by omega), trivial⟩, sg_inj (by omega), rfl, rfl, rfl⟩
    | false =>
      rw [hj, cond_false] at h
      obtain ⟨rfl, rfl, rfl⟩ := h
      have e0 : spR zl E (i + 1) = spR zl E i := by conv => lhs; unfold spR
                                                    rw [hs, hj, Bool.and_false, cond_false]
      have e1 : spT zl E (i + 1) = spT zl E i ++ [E i] := by conv => lhs; unfold spT
                                                             rw [hs, hj, Bool.not_false, Bool.and_true, cond_true]
      rw [e0]
      exact ⟨sg 9 17, [(2, sL 9 (spT zl E (i + 1)).length), (3, sL 10 (spR zl E i).length), (4, .ptr ⟨false, 13, 0, 0⟩), (10, sL 14 n), (11, iT (n : Int)), (12, iT (i : Int))], [(9, .cells true 8 (spT zl E (i + 1)).length (.fn fun j => elR (eget (spT zl E (i + 1)) j))), (10, .cells true 8 (spR zl E i).length (.fn fun j => elR (eget (spR zl E i) j))), (11, .cells true 1 m (.fn fun k => [iT (((Ul (plc zl) (jl E (i + 1))) k : Nat) : Int)])), (12, .mSI true zl), (13, .cells true 2 1 (.fn fun _ => [.mp 12, sL 11 m])), (14, .cells true 8 n (.fn fun j => elR (E j)))], sg_low (by omega), ⟨⟨_, rfl, AV.ge.slc _ _ _ (by rw [e1, List.length_append]; rfl), rfl⟩, eRr rfl⟩, ⟨rgR rfl (by rw [e1, List.length_append]; rfl) (fun j hj => by
      show (bif decide (j < (spT zl E i).length) then elR (eget (spT zl E i) j) else elR (E i)) = elR (eget (spT zl E (i + 1)) j)
      rw [e1]
      exact (eget_snoc (spT zl E i) (E i) j hj).symm) (fun j _ => rfl) (by omega), rgR rfl rfl (fun j _ => rfl) (fun j _ => rfl) (by omega), rgR rfl rfl (fun j hj => by
      show [iT ((jn (uO m (Cont.row (.fn fun k => [AV.int true .i64 (((Ul (plc zl) (jl E i)) k : Nat) : Int)]))) (plc zl (E i).a) (plc zl (E i).b) j : Nat) : Int)] = [iT (((Ul (plc zl) (jl E (i + 1))) j : Nat) : Int)]
      rw [jn_uO hu la lb hj]
      conv => rhs; unfold jl
      rw [hs, cond_true, Ul_snoc]) (fun j _ => rfl) (by omega), rgM rfl rfl (by omega), rgR rfl rfl (fun j _ => rfl) (fun j _ => rfl) (by omega), rgR rfl rfl (fun j _ => rfl) (fun j _ => rfl) (by omega), trivial⟩, sg_inj (by omega), rfl, rfl, rfl⟩
theorem sp_blk (n m i : Nat) (E : tE) (zl : tM) (hi : i < n) (hn : n ≤ 1024) (hm : m ≤ 4096) (hz : ∀ x, 0 ≤ (lfind seq x zl).getD 0 ∧ (lfind seq x zl).getD 0 < (m : Int)) :
  GoesB Try.prog (.block 1 (.seq ZCY (.block 2 (.seq ZCL ZB1)))) Try.f45.ntmps 9 15 15 (frL (ZDt zl E i n)) (hpL (ZDu zl E i m n)) (ZDa zl E i n m) := by
 have h1 : GoesB Try.prog (.block 1 (.seq ZCY (.block 2 (.seq ZCL ZB1)))) Try.f45.ntmps 9 15 16 (frL (ZDt zl E i n)) (hpL (ZDu zl E i m n)) (ZDa zl E i n m) := by
  refine GoesB.blockN ?_
  refine GoesB.seqN (K1 := 16) (F1 := [(2, ZC1 zl E i), (3, ZCm zl E i), (4, ZA 13), (10, sL 14 n), (11, iT (n : Int)), (12, iT (i : Int)), (6, ZA 15)]) (H1 := (ZDj zl E i m n)) (GoesB.toN (spE 9 (by omega) n m i (spT zl E i).length (spR zl E i).length (Ul (plc zl) (jl E i)) E (eget (spT zl E i)) (eget (spR zl E i)) (fun _ => []) (fun _ => []) [] [] [] zl (by omega) (by omega)) (eGg rfl) ⟨(Sx.hs rfl), (Sx.hs rfl), (Sx.hs rfl), (Sx.hs rfl), (Sx.hs rfl), (Sx.hs rfl), wk_hb rfl (by show elR (E (0 + i)) = elR (E i); rw [Nat.zero_add]), trivial⟩) (by omega) ?_
  refine GoesB.blockN ?_
  refine GoesB.seqN (K1 := 16) (F1 := [(2, ZC1 zl E i), (3, ZCm zl E i), (4, ZA 13), (10, sL 14 n), (11, iT (n : Int)), (12, iT (i : Int)), (6, ZA 15), (20, .sbool (!jsel (E i)))]) (H1 := (ZDj zl E i m n)) ((spF 9 (by omega) n m i (spT zl E i).length (spR zl E i).length (Ul (plc zl) (jl E i)) E (eget (spT zl E i)) (eget (spR zl E i)) (fun _ => []) (fun _ => []) [] [] [] zl).post fun e fr' H' h => ?_) (by omega) ((sp_y n m i E zl hi hn hm hz).up (by omega))
  cases q1 : decide ((E i).k = 4) with
  | true =>
   rw [q1, cond_true] at h
   obtain ⟨rfl, rfl, rfl⟩ := h
   have hs : jsel (E i) = false := by unfold jsel; rw [q1]; rfl
   refine ⟨[(2, ZC1 zl E i), (3, ZCm zl E i), (4, ZA 13), (10, sL 14 n), (11, iT (n : Int)), (12, iT (i : Int)), (6, ZA 15), (20, .sbool (!jsel (E i)))], (ZDj zl E i m n), ⟨re rfl, re rfl, re rfl, re rfl, re rfl, re rfl, re rfl, ⟨_, rfl, fun N μ c h => ?_⟩, trivial⟩, (eHh rfl), rfl, rfl, rfl⟩
   rw [hs]
   simpa only [Rep, Bool.not_false] using h
  | false =>
   rw [q1, cond_false] at h
   obtain ⟨rfl, rfl, rfl⟩ := h
   have hs : jsel (E i) = !decide ((E i).k = 6) := by unfold jsel; rw [q1]; rfl
   refine ⟨[(2, ZC1 zl E i), (3, ZCm zl E i), (4, ZA 13), (10, sL 14 n), (11, iT (n : Int)), (12, iT (i : Int)), (6, ZA 15), (20, .sbool (!jsel (E i)))], (ZDj zl E i m n), ⟨re rfl, re rfl, re rfl, re rfl, re rfl, re rfl, re rfl, ⟨_, rfl, ?_⟩, trivial⟩, (eHh rfl), rfl, rfl, rfl⟩
   rw [hs]
   exact AV.ge.refl _
 exact h1.renG fun e fr' H' h => by
  obtain ⟨rfl, rfl, rfl⟩ := h
  exact ⟨id, [(2, sL 9 (spT zl E (i + 1)).length), (3, sL 10 (spR zl E (i + 1)).length), (4, ZA 13), (10, sL 14 n), (11, iT (n : Int)), (12, iT (i : Int))], (ZEv zl E i m n), fun g hg => rfl, (eRr rfl), ⟨rgR rfl rfl (fun j _ => rfl) (fun j _ => rfl) (by omega), rgR rfl rfl (fun j _ => rfl) (fun j _ => rfl) (by omega), rgR rfl rfl (fun j _ => rfl) (fun j _ => rfl) (by omega), rgM rfl rfl (by omega), rgR rfl rfl (fun j _ => rfl) (fun j _ => rfl) (by omega), rgR rfl rfl (fun j _ => rfl) (fun j _ => rfl) (by omega), trivial⟩, fun i j _ _ h => h, rfl, rfl, rfl⟩
noncomputable abbrev ZCy := nav [1,1,0,1,0,0] (bodyOf Try.f45)
theorem sp_body : ZCy = .seq (nav [1,1,0,1,0,0,0] (bodyOf Try.f45)) (.seq (nav [1,1,0,1,0,0,1,0] (bodyOf Try.f45)) (.seq (.block 1 (.seq ZCY (.block 2 (.seq ZCL ZB1)))) (nav [1,1,0,1,0,0,1,1,1] (bodyOf Try.f45)))) := by kernel_rfl
theorem sp_is : (bodyOf Try.f45) = .seq (nav [0] (bodyOf Try.f45)) (.seq (nav [1,0] (bodyOf Try.f45)) (.seq (.seq (nav [1,1,0,0] (bodyOf Try.f45)) (.block 0 (.loop ZCy))) (nav [1,1,1] (bodyOf Try.f45)))) := by kernel_rfl
theorem sp_step (n m i : Nat) (E : tE) (zl : tM) (hi : i < n) (hn : n ≤ 1024) (hm : m ≤ 4096) (hz : ∀ x, 0 ≤ (lfind seq x zl).getD 0 ∧ (lfind seq x zl).getD 0 < (m : Int)) :
  GoesB Try.prog ZCy Try.f45.ntmps 9 15 15 (frL (ZDt zl E i n)) (hpL (ZDu zl E i m n)) (Nm [(2, sL 9 (spT zl E (i + 1)).length), (3, sL 10 (spR zl E (i + 1)).length), (4, ZA 13), (10, sL 14 n), (11, iT (n : Int)), (12, ZCR i)] (ZEv zl E i m n)) := by
 rw [sp_body]
 refine GoesB.seqN (K1 := 15) (spD 9 (by omega) n m i (spT zl E i).length (spR zl E i).length (Ul (plc zl) (jl E i)) E (eget (spT zl E i)) (eget (spR zl E i)) (fun _ => []) (fun _ => []) [] [] [] zl) (by omega) ?_
 refine GoesB.seqN (K1 := 15) (F1 := (ZDt zl E i n)) (H1 := (ZDu zl E i m n)) ((spX 9 (by omega) n m i (spT zl E i).length (spR zl E i).length (Ul (plc zl) (jl E i)) E (eget (spT zl E i)) (eget (spR zl E i)) (fun _ => []) (fun _ => []) [] [] [] zl (decide ((i : Int) < (n : Int)))).mono fun e fr' H' h => ?_) (by omega) ?_
 ·rw [decide_eq_true (by omega), cond_true] at h
  exact h
 refine GoesB.seqN (K1 := 15) (sp_blk n m i E zl hi hn hm hz) (by omega) ?_
 exact GoesB.toN (spH 9 (by omega) n m i (spT zl E (i + 1)).length (spR zl E (i + 1)).length (Ul (plc zl) (jl E (i + 1))) E (eget (spT zl E (i + 1))) (eget (spR zl E (i + 1))) (fun _ => []) (fun _ => []) [] [] [] zl (by omega)) ⟨re rfl, re rfl, re rfl, re rfl, re rfl, ⟨_, rfl, AV.ge.int' _ _ _ (by omega)⟩, trivial⟩ (eHh rfl)
theorem sp_end (n m : Nat) (E : tE) (zl : tM) :
  GoesB Try.prog ZCy Try.f45.ntmps 9 15 15 (frL [(2, ZC1 zl E n), (3, ZCm zl E n), (4, ZA 13), (10, sL 14 n), (11, iT (n : Int)), (12, iT (n : Int))]) (hpL [(9, Zu zl E n), (10, Zv zl E n), (11, Z1 m zl E n), (12, .mSI true zl), (13, ZT m 12 11), (14, ZG n E)]) (Xm 0 [(2, ZC1 zl E n), (3, ZCm zl E n), (4, ZA 13), (10, sL 14 n), (11, iT (n : Int)), (12, iT (n : Int))] [(9, Zu zl E n), (10, Zv zl E n), (11, Z1 m zl E n), (12, .mSI true zl), (13, ZT m 12 11), (14, ZG n E)]) := by
 rw [sp_body]
 refine GoesB.seqN (K1 := 15) (spD 9 (by omega) n m n (spT zl E n).length (spR zl E n).length (Ul (plc zl) (jl E n)) E (eget (spT zl E n)) (eget (spR zl E n)) (fun _ => []) (fun _ => []) [] [] [] zl) (by omega) ?_
 refine GoesB.seqX (K1 := 15) ((spX 9 (by omega) n m n (spT zl E n).length (spR zl E n).length (Ul (plc zl) (jl E n)) E (eget (spT zl E n)) (eget (spR zl E n)) (fun _ => []) (fun _ => []) [] [] [] zl (decide ((n : Int) < (n : Int)))).mono fun e fr' H' h => ?_) (by omega)
 rw [decide_eq_false (by omega), cond_false] at h
 exact h
noncomputable abbrev ZB5 (v0 : tE) (v1 : Nat) := (.cells true 8 (spT (zipF 0 (g0 :: ND v0 v1)) v0 v1).length (.fn fun j => elR (eget (spT (zipF 0 (g0 :: ND v0 v1)) v0 v1) j)) : ABk)
noncomputable abbrev ZB6 (v0 : tE) (v1 : Nat) := (.cells true 8 (spR (zipF 0 (g0 :: ND v0 v1)) v0 v1).length (.fn fun j => elR (eget (spR (zipF 0 (g0 :: ND v0 v1)) v0 v1) j)) : ABk)
noncomputable abbrev ZCn := (.cells true 8 0 (.fn fun j => elR (eget [] j)) : ABk)
theorem sp_goes (n : Nat) (E : tE) (hn : n ≤ 256) :
  GoesB Try.prog (bodyOf Try.f45) Try.f45.ntmps 9 9 15 ZDx (hpL (ZDG n E)) (fun e fr' H' => e = .ret ∧ fr' = frL [(2, sL 9 (spT (zipF 0 (g0 :: ND E n)) E n).length), (3, sL 10 (spR (zipF 0 (g0 :: ND E n)) E n).length)] ∧ H' = hpL [(9, ZB5 E n), (10, ZB6 E n), (2, ZC n E), (3, ZK E n), (4, ZL E n), (5, ZM E n), (6, ZB n E), (7, ZD E n), (8, ZE E n)]) := by
 have hq := net_q n E hn
 have ln := ND_len E n
 rw [sp_is]
 refine GoesB.seqN (K1 := 9) (spA 9 (by omega) n (ND E n).length (BR E n).length E (lget (ND E n)) (lget (BR E n)) (zipF 0 (NM E n)) (zipF 0 (ND E n)) (zipF 0 (BR E n)) []) (by omega) ?_
 refine GoesB.phantom 2 8 (fun j => elR (eget [] j)) rfl (by omega) (by omega) ?_
 refine GoesB.phantom 3 8 (fun j => elR (eget [] j)) rfl (by omega) (by omega) ?_
 refine GoesB.weakL (fl := [(0, ZA 2), (2, sL 9 0), (3, sL 10 0)]) (bl := [(2, ZC n E), (3, ZK E n), (4, ZL E n), (5, ZM E n), (6, ZB n E), (7, ZD E n), (8, ZE E n), (9, ZCn), (10, ZCn)]) (eGg rfl) (eHh rfl) ?_
 refine GoesB.seqN (K1 := 14) (F1 := [(0, ZA 2), (2, sL 9 0), (3, sL 10 0), (4, ZA 13)]) (H1 := [(2, ZC n E), (3, ZK E n), (4, ZL E n), (5, ZM E n), (6, ZB n E), (7, ZD E n), (8, ZE E n), (9, ZCn), (10, ZCn), (11, ZC7 E n), (12, .mSI true (zipF 0 (g0 :: ND E n))), (13, ZBM E n 12 11)]) (GoesB.toN (spB 9 (by omega) n 0 (ND E n).length (BR E n).length E (eget []) (eget []) (lget (ND E n)) (lget (BR E n)) (zipF 0 (NM E n)) (zipF 0 (ND E n)) (zipF 0 (BR E n)) [] hq) (eGg rfl) (eHh rfl)) (by omega) ?_
 refine GoesB.seqN (K1 := 15) (F1 := [(2, sL 9 (spT (zipF 0 (g0 :: ND E n)) E n).length), (3, sL 10 (spR (zipF 0 (g0 :: ND E n)) E n).length), (4, ZA 13), (10, sL 14 n), (11, iT (n : Int)), (12, iT (n : Int))]) (H1 := [(9, ZB5 E n), (10, ZB6 E n), (11, .cells true 1 ((ND E n).length + 1) (.fn fun k => [iT (((Ul (plc (zipF 0 (g0 :: ND E n))) (jl E n)) k : Nat) : Int)])), (12, .mSI true (zipF 0 (g0 :: ND E n))), (13, ZBM E n 12 11), (14, ZG n E), (2, ZC n E), (3, ZK E n), (4, ZL E n), (5, ZM E n), (6, ZB n E), (7, ZD E n), (8, ZE E n)]) (GoesB.seqN (K1 := 15) (F1 := [(2, sL 9 (spT (zipF 0 (g0 :: ND E n)) E 0).length), (3, sL 10 (spR (zipF 0 (g0 :: ND E n)) E 0).length), (4, ZA 13), (10, sL 14 n), (11, iT (n : Int)), (12, ZBn)]) (H1 := [(9, .cells true 8 (spT (zipF 0 (g0 :: ND E n)) E 0).length (.fn fun j => elR (eget (spT (zipF 0 (g0 :: ND E n)) E 0) j))), (10, .cells true 8 (spR (zipF 0 (g0 :: ND E n)) E 0).length (.fn fun j => elR (eget (spR (zipF 0 (g0 :: ND E n)) E 0) j))), (11, .cells true 1 ((ND E n).length + 1) (.fn fun k => [iT (((Ul (plc (zipF 0 (g0 :: ND E n))) (jl E 0)) k : Nat) : Int)])), (12, .mSI true (zipF 0 (g0 :: ND E n))), (13, ZBM E n 12 11), (14, ZG n E), (2, ZC n E), (3, ZK E n), (4, ZL E n), (5, ZM E n), (6, ZB n E), (7, ZD E n), (8, ZE E n)]) (GoesB.toN (spC 9 (by omega) n 0 (ND E n).length (BR E n).length E (eget []) (eget []) (lget (ND E n)) (lget (BR E n)) (zipF 0 (NM E n)) (zipF 0 (ND E n)) (zipF 0 (BR E n)) [] (ND E n) (by omega) (by omega)) ⟨re rfl, re rfl, re rfl, re rfl, re rfl, ⟨_, rfl, AV.ge.int _ _ _ _⟩, trivial⟩ ⟨hs rfl, hs rfl, hs rfl, hs rfl, hs rfl, ⟨_, rfl, rfl, rfl, rfl, fun j hj => by
   show elR (E (0 + j)) = elR (E j)
   rw [Nat.zero_add]⟩, eHh rfl⟩) (by omega) ?_) (by omega) ?_
 ·have hr := GoesB.rounds (P := Try.prog) (n := Try.f45.ntmps) (B := 9) (K := 15) (id := 0) n (fun i => [(2, sL 9 (spT (zipF 0 (g0 :: ND E n)) E i).length), (3, sL 10 (spR (zipF 0 (g0 :: ND E n)) E i).length), (4, ZA 13), (10, sL 14 n), (11, iT (n : Int)), (12, iT ((i : Nat) : Int))]) (fun i => [(9, .cells true 8 (spT (zipF 0 (g0 :: ND E n)) E i).length (.fn fun j => elR (eget (spT (zipF 0 (g0 :: ND E n)) E i) j))), (10, .cells true 8 (spR (zipF 0 (g0 :: ND E n)) E i).length (.fn fun j => elR (eget (spR (zipF 0 (g0 :: ND E n)) E i) j))), (11, .cells true 1 ((ND E n).length + 1) (.fn fun k => [iT (((Ul (plc (zipF 0 (g0 :: ND E n))) (jl E i)) k : Nat) : Int)])), (12, .mSI true (zipF 0 (g0 :: ND E n))), (13, ZBM E n 12 11), (14, ZG n E)]) (fun i hi => sp_step n ((ND E n).length + 1) i E (zipF 0 (g0 :: ND E n)) hi (by omega) (by omega) (zip_in _)) (sp_end n ((ND E n).length + 1) E (zipF 0 (g0 :: ND E n)))
  exact hr.frameN (xl := (ZDG n E)) (by omega) ⟨⟨by omega, fun j hj v hv => List.all_eq_true.1 (show (netR 6 7 8 n (ND E n).length (BR E n).length).all (fun v => v.low 9) = true from rfl) v hv⟩, ⟨by omega, trivial⟩, ⟨by omega, trivial⟩, ⟨by omega, trivial⟩, ⟨by omega, fun j hj v hv => List.all_eq_true.1 (show (elR (E j)).all (fun v => v.low 9) = true from rfl) v hv⟩, ⟨by omega, fun j hj v hv => List.all_eq_true.1 (show (txR (lget (ND E n)) j).all (fun v => v.low 9) = true from rfl) v hv⟩, ⟨by omega, fun j hj v hv => List.all_eq_true.1 (show (txR (lget (BR E n)) j).all (fun v => v.low 9) = true from rfl) v hv⟩, trivial⟩ rfl rfl ⟨.inl rfl, .inl rfl, .inl rfl, .inl rfl, .inl rfl, .inl rfl, trivial⟩
 ·refine GoesB.weakL (fl := [(2, sL 9 (spT (zipF 0 (g0 :: ND E n)) E n).length), (3, sL 10 (spR (zipF 0 (g0 :: ND E n)) E n).length)]) (bl := [(9, ZB5 E n), (10, ZB6 E n), (2, ZC n E), (3, ZK E n), (4, ZL E n), (5, ZM E n), (6, ZB n E), (7, ZD E n), (8, ZE E n)]) (eGg rfl) (eHh rfl) ?_
  exact (spI 9 (by omega) (spT (zipF 0 (g0 :: ND E n)) E n).length (spR (zipF 0 (g0 :: ND E n)) E n).length (eget (spT (zipF 0 (g0 :: ND E n)) E n)) (eget (spR (zipF 0 (g0 :: ND E n)) E n)) (fun _ => []) (fun _ => []) [] [] [] []).frameL (xl := (ZDG n E)) (by omega) ⟨⟨by omega, fun j hj v hv => List.all_eq_true.1 (show (netR 6 7 8 n (ND E n).length (BR E n).length).all (fun v => v.low 9) = true from rfl) v hv⟩, ⟨by omega, trivial⟩, ⟨by omega, trivial⟩, ⟨by omega, trivial⟩, ⟨by omega, fun j hj v hv => List.all_eq_true.1 (show (elR (E j)).all (fun v => v.low 9) = true from rfl) v hv⟩, ⟨by omega, fun j hj v hv => List.all_eq_true.1 (show (txR (lget (ND E n)) j).all (fun v => v.low 9) = true from rfl) v hv⟩, ⟨by omega, fun j hj v hv => List.all_eq_true.1 (show (txR (lget (BR E n)) j).all (fun v => v.low 9) = true from rfl) v hv⟩, trivial⟩ rfl (fun e fr' H0' h => by
   obtain ⟨rfl, rfl, rfl⟩ := h
   exact ⟨_, rfl, rfl, ⟨.inl rfl, .inl rfl, trivial⟩, rfl, rfl, rfl⟩)


noncomputable def treeL : (Nat → El) → Nat → List El := Classical.choose (⟨fun E n => spT (zipF 0 (g0 :: ND E n)) E n, rfl⟩ : ∃ f, f = fun (E : tE) (n : Nat) => spT (zipF 0 (g0 :: ND E n)) E n)
theorem treeL_is : treeL = fun E n => spT (zipF 0 (g0 :: ND E n)) E n := Classical.choose_spec (⟨fun E n => spT (zipF 0 (g0 :: ND E n)) E n, rfl⟩ : ∃ f, f = fun (E : tE) (n : Nat) => spT (zipF 0 (g0 :: ND E n)) E n)
noncomputable def restL : (Nat → El) → Nat → List El := Classical.choose (⟨fun E n => spR (zipF 0 (g0 :: ND E n)) E n, rfl⟩ : ∃ f, f = fun (E : tE) (n : Nat) => spR (zipF 0 (g0 :: ND E n)) E n)
theorem restL_is : restL = fun E n => spR (zipF 0 (g0 :: ND E n)) E n := Classical.choose_spec (⟨fun E n => spR (zipF 0 (g0 :: ND E n)) E n, rfl⟩ : ∃ f, f = fun (E : tE) (n : Nat) => spR (zipF 0 (g0 :: ND E n)) E n)
noncomputable abbrev ZCz (v0 : List El) := (.cells true 8 v0.length (.fn fun j => elR (eget v0 j)) : ABk)
noncomputable def spNew (a b : List El) : M Nat :=
 (M.newB (ZCz a)).andThen fun N => (M.newB (ZCz b)).andThen fun _ => M.ret N
noncomputable def spB2 (a b : List El) : List ABk := [ZCz a, ZCz b]
theorem Tch_spNew (a b : List El) : Tch (spNew a b) := (Tch.newB _).andThen fun _ => (Tch.newB _).andThen fun _ => Tch.ret _
theorem spNew_done {a b : List El} {N : Nat} {g g' : G} (h : spNew a b g = .done N g') : N = g.nx ∧ g'.H = putNew g.H g.nx (spB2 a b) ∧ g'.nx = g.nx + 2 ∧ g'.cs = g.cs := by
 cases h
 exact ⟨rfl, rfl, rfl, rfl⟩
theorem el_lowR {n K : Nat} {l : List El} : (ABk.cells true 8 n (.fn fun j => elR (eget l j))).lowR K := fun i hi v hv => List.all_eq_true.1 (show (elR (eget l i)).all (fun v => v.low K) = true from rfl) v hv
theorem el_inS {n : Nat} {l : List El} {S : Nat → Prop} : (ABk.cells true 8 n (.fn fun j => elR (eget l j))).inS S := fun i hi o v hv => by
 match o, hv with
 | 0, hv | 1, hv | 2, hv | 3, hv | 4, hv | 5, hv | 6, hv | 7, hv => cases hv; trivial
noncomputable def splitS : List AV → M AV
 | [.ptr aN] => (M.okIf (flat0 aN)).andThen fun _ => (netRd aN.g).andThen fun y => (M.setB y.1.m1 (.mSI true (zipF 0 (NM y.2 y.1.n)))).andThen fun _ => (M.setB y.1.m2 (.mSI true (zipF 0 (ND y.2 y.1.n)))).andThen fun _ => (M.setB y.1.m3 (.mSI true (zipF 0 (BR y.2 y.1.n)))).andThen fun _ => (spNew (treeL y.2 y.1.n) (restL y.2 y.1.n)).andThen fun N => M.ret (.tup [.slc true true ⟨false, N, 0, 0⟩ (treeL y.2 y.1.n).length, .slc true true ⟨false, N + 1, 0, 0⟩ (restL y.2 y.1.n).length])
 | _ => M.no
theorem splitS_tch : ∀ args, Tch (splitS args) := by
 intro args
 unfold splitS
 split
 ·exact (Tch.okIf _).andThen fun _ => (Tch_netRd _).andThen fun _ => (Tch.setB _ _).andThen fun _ => (Tch.setB _ _).andThen fun _ => (Tch.setB _ _).andThen fun _ => (Tch_spNew _ _).andThen fun _ => Tch.ret _
 ·exact Tch.no
theorem splitS_ok : ∀ args v g g', splitS args g = .done v g' → CallIs Try.prog 45 args v g g' := by
 intro args v g g' h
 unfold splitS at h
 split at h
 case h_2 => exact (no_done h).elim
 rename_i aN
 obtain ⟨_, g1, a1, h⟩ := done_of h
 obtain ⟨q0, rfl⟩ := okIf_done a1
 have q0 := flat0_is q0
 obtain ⟨⟨w, E⟩, g3, a3, h⟩ := done_of h
 obtain ⟨qf, kk, ff⟩ := netRd_done a3
 dsimp only at h ff
 obtain ⟨_, g6, a6, h⟩ := done_of h
 obtain ⟨_, g7, a7, h⟩ := done_of h
 obtain ⟨_, g8, a8, h⟩ := done_of h
 obtain ⟨b1, b2, b3⟩ := setB_done a6
 obtain ⟨b4, b5, b6⟩ := setB_done a7
 obtain ⟨b7, b8, b9⟩ := setB_done a8
 have hx : g8.nx = g.nx := by rw [b8, b5, b2, kk.2.1]
 obtain ⟨N, g9, a9, h⟩ := done_of h
 obtain ⟨e1, e2, e3, e4⟩ := spNew_done a9
 obtain ⟨rfl, rfl⟩ := ret_done h
 refine netCall (K' := 15) (c := (bodyOf Try.f45)) Try.func45 (by kernel_rfl) (by kernel_rfl) (argsC := [ZA 2]) (fun hc => kk.2.2 (by rw [← b3, ← b6, ← b9, ← e4]; exact hc)) (N := aN.g) (w := w) (E := E) (fun hp => ff hp) (xl := []) (rx := fun _ => 0) (K0 := 9) (Nat.le_refl _) (fun hp M μ cs hr => ?_) (fun hp i b hb => by cases hb) (fun hp i j b b' hi => by cases hi) (bs := spB2 (treeL E w.n) (restL E w.n)) (nms := [9, 10]) rfl (by decide) (by decide) (by rw [e2, b7, b4, b1, kk.1, hx]; rfl) (by rw [e3, hx]; rfl) (fun b hb => by
   simp only [spB2, List.mem_cons, List.not_mem_nil, or_false] at hb
   rcases hb with rfl | rfl
   ·exact ⟨rfl, el_lowR, el_inS⟩
   ·exact ⟨rfl, el_lowR, el_inS⟩) (by
   rw [e1, hx]
   simp only [AV.low, lows, Bool.and_eq_true]
   exact ⟨Nat.ble_eq_true_of_le (show Nat.succ g.nx ≤ g.nx + 2 by omega), Nat.ble_eq_true_of_le (show Nat.succ (g.nx + 1) ≤ g.nx + 2 by omega), trivial⟩) (by
   rw [e1, hx]
   simp only [AV.inS, insS]
   exact ⟨⟨by show g.nx ≤ g.nx; omega, by show g.nx < g.nx + 2; omega⟩, ⟨by show g.nx ≤ g.nx + 1; omega, by show g.nx + 1 < g.nx + 2; omega⟩, trivial⟩) (fun hp kN => ?_)
 ·simp only [Reps] at hr ⊢
  obtain ⟨c1, l1, rfl, h1, rfl⟩ := hr
  exact ⟨c1, _, rfl, rep_ptr0 h1 q0.1 q0.2 (by omega) rfl, rfl⟩
 have F := ff hp
 rw [List.append_nil, netBL_is F]
 have k0 : kaG w g.nx [9, 10] g.nx = 9 := kN 0 (by simp)
 have k1 : kaG w g.nx [9, 10] (g.nx + 1) = 10 := kN 1 (by simp)
 refine (sp_goes w.n E F.n256).mono fun e fr' H' h => ?_
 obtain ⟨rfl, rfl, rfl⟩ := h
 refine ⟨.inl rfl, _, _, res2 (t := 2) (t' := 3) (by kernel_rfl) rfl rfl, trivial, ?_, ⟨rfl, rfl, rfl⟩, fun j b hb => ?_⟩
 ·simp only [AV.ren, rens, AA.ren, e1, hx, k0, k1, treeL_is, restL_is]
  exact AV.ge.refl _
 ·rw [treeL_is, restL_is] at hb
  match j, hb with
  | 0, hb => cases hb; exact ⟨_, rfl, rfl, rfl, rfl, fun j hj => rfl⟩
  | 1, hb => cases hb; exact ⟨_, rfl, rfl, rfl, rfl, fun j hj => rfl⟩

noncomputable def gamY : Known := kc 71 ofBits (kc 74 toBits (kc 72 smallS (kc 61 kindS (kc 58 rowOfS (kc 73 ofS (kc 59 nameS (kc 60 nodeS (kc 35 chkS (kc 12 netofS (kc 29 elsS (kc 46 alongS (kc 44 rootS (kc 41 joinS (kc 39 noneS (kc 40 ogS (kc 15 voltS (kc 45 splitS (kn))))))))))))))))))
theorem gamY_ok : KnownOk Try.prog gamY := kc_ok ((ofBits_is Try.prog).callIs Try.func71 (by kernel_rfl) (by kernel_rfl) (by kernel_rfl) (by kernel_rfl)) (kc_ok ((toBits_is Try.prog).callIs Try.func74 (by kernel_rfl) (by kernel_rfl) (by kernel_rfl) (by kernel_rfl)) (kc_ok smallS_ok (kc_ok kindS_ok (kc_ok rowOfS_ok (kc_ok ofS_ok (kc_ok nameS_ok (kc_ok nodeS_ok (kc_ok chkS_ok (kc_ok netofS_ok (kc_ok elsS_ok (kc_ok alongS_ok (kc_ok rootS_ok (kc_ok joinS_ok (kc_ok noneS_ok (kc_ok ogS_ok (kc_ok voltS_ok (kc_ok splitS_ok (kn_ok))))))))))))))))))
theorem gamY_tch : KnownT gamY := kc_tch Tch.ofBits (kc_tch Tch.toBits (kc_tch smallS_tch (kc_tch kindS_tch (kc_tch rowOfS_tch (kc_tch ofS_tch (kc_tch nameS_tch (kc_tch nodeS_tch (kc_tch chkS_tch (kc_tch netofS_tch (kc_tch elsS_tch (kc_tch alongS_tch (kc_tch rootS_tch (kc_tch joinS_tch (kc_tch noneS_tch (kc_tch ogS_tch (kc_tch voltS_tch (kc_tch splitS_tch (kn_tch))))))))))))))))))
noncomputable def callY : Calls' := Sx.runN Try.prog gamY (regionC Try.prog) 1000 50
theorem callY_ok : CallOk Try.prog callY := engineC gamY_ok gamY_tch (by kernel_rfl) (by kernel_rfl) 1000 50
theorem callY_reg (n : Nat) : RegionOk Try.prog (regionC Try.prog callY n) n := runN_regionC gamY_ok gamY_tch (by kernel_rfl) (by kernel_rfl) 1000 50 n
noncomputable abbrev piececallY (f : Func) (c : Code) (fr : Fr) (H : T ABk) (K : Nat) (path : List Bool) : Res (Ex × Fr) :=
 codeA Try.prog callY (regionC Try.prog callY f.ntmps) noLoops f.ntmps 1000 c fr ⟨H, K, [], path, True⟩


theorem rcY {fn : Func} {K K' B : Nat} {e : Ex} {F : tF} {Hl : tH} {c : Code} {fr : Fr} {H : T ABk} {path : List Bool} (h : PieceN K' e F Hl (piececallY fn c fr H K path)) (hB : B ≤ K) : GoesB Try.prog c fn.ntmps B K K' fr H fun e' fr' H' => e' = e ∧ fr' = frL F ∧ H' = hpL Hl := GoesB.runN callY_ok (callY_reg _) (LoopsIn.none _ _ _) h hB
theorem rdY {fn : Func} {K K' B : Nat} {e : Ex} {F : tF} {Hl : tH} {c : Code} {fr : Fr} {H : T ABk} (path : List Bool) {q : Prop} (hq : q) (hB : B ≤ K) (h : pieceN K' e F Hl (piececallY fn c fr H K path) = (e = e ∧ selfW F ∧ selfH Hl ∧ true = true ∧ q) := by kernel_rfl) : GoesB Try.prog c fn.ntmps B K K' fr H fun e' fr' H' => e' = e ∧ fr' = frL F ∧ H' = hpL Hl := rcY (eqn h hq) hB
def ends (l : List El) : List (Tx × Tx) := l.map fun z => (z.a, z.b)
theorem ends_snoc (l : List El) (z : El) : ends (l ++ [z]) = ends l ++ [(z.a, z.b)] := by simp [ends]
theorem ends_len (l : List El) : (ends l).length = l.length := by simp [ends]
theorem eget_is {l : List El} {i : Nat} (h : i < l.length) : eget l i = l[i] := by
 unfold eget
 rw [List.getD_eq_getElem?_getD, List.getElem?_eq_getElem h]; rfl
theorem edT_eget (l : List El) : edT (eget l) l.length = ends l := by
 apply List.ext_getElem?
 intro i
 by_cases h : i < l.length
 ·rw [edT_get _ h, eget_is h]
  simp [ends, h]
 ·rw [List.getElem?_eq_none (by rw [edT_len]; omega), List.getElem?_eq_none (by rw [ends_len]; omega)]
section
variable (zl : tM) (E : tE)
theorem jl_t {i : Nat} (h : jsel (E i) = true) : jl E (i + 1) = jl E i ++ [((E i).a, (E i).b)] := by
 conv => lhs; unfold jl
 rw [h, cond_true]
theorem jl_f {i : Nat} (h : jsel (E i) = false) : jl E (i + 1) = jl E i := by
 conv => lhs; unfold jl
 rw [h, cond_false]
theorem spT_t {i : Nat} (h : (jsel (E i) && !jsame zl E i) = true) : spT zl E (i + 1) = spT zl E i ++ [E i] := by
 conv => lhs; unfold spT
 rw [h, cond_true]
theorem spT_f {i : Nat} (h : (jsel (E i) && !jsame zl E i) = false) : spT zl E (i + 1) = spT zl E i := by
 conv => lhs; unfold spT
 rw [h, cond_false]
theorem spR_t {i : Nat} (h : (jsel (E i) && jsame zl E i) = true) : spR zl E (i + 1) = spR zl E i ++ [E i] := by
 conv => lhs; unfold spR
 rw [h, cond_true]
theorem spR_f {i : Nat} (h : (jsel (E i) && jsame zl E i) = false) : spR zl E (i + 1) = spR zl E i := by
 conv => lhs; unfold spR
 rw [h, cond_false]
/-- the tree's classes are those of all that join, and it is a forest -/
theorem sp_inv : ∀ i, (∀ a b, cls (plc zl) (jl E i) a = cls (plc zl) (jl E i) b ↔ cls (plc zl) (ends (spT zl E i)) a = cls (plc zl) (ends (spT zl E i)) b) ∧ ∀ k p, (ends (spT zl E i))[k]? = some p → cls (plc zl) ((ends (spT zl E i)).take k) p.1 ≠ cls (plc zl) ((ends (spT zl E i)).take k) p.2
 | 0 => ⟨fun a b => Iff.rfl, fun k p h => by simp [spT, ends] at h⟩
 | i + 1 => by
  obtain ⟨h1, h2⟩ := sp_inv i
  cases hs : jsel (E i) with
  | false =>
   rw [spT_f zl E (by rw [hs]; rfl), jl_f E hs]
   exact ⟨h1, h2⟩
  | true =>
   rw [jl_t E hs]
   cases hj : jsame zl E i with
   | true =>
    have hc : cls (plc zl) (jl E i) (E i).a = cls (plc zl) (jl E i) (E i).b := of_decide_eq_true hj
    rw [spT_f zl E (by rw [hs, hj]; rfl)]
    refine ⟨fun a b => ?_, h2⟩
    rw [cls_join, ← h1]
    constructor
    ·rintro (h | ⟨ha | ha, hb | hb⟩)
     ·exact h
     ·exact ha.trans hb.symm
     ·exact ha.trans (hc.trans hb.symm)
     ·exact ha.trans (hc.symm.trans hb.symm)
     ·exact ha.trans hb.symm
    ·exact .inl
   | false =>
    have hc : ¬ cls (plc zl) (jl E i) (E i).a = cls (plc zl) (jl E i) (E i).b := of_decide_eq_false hj
    rw [spT_t zl E (by rw [hs, hj]; rfl), ends_snoc]
    refine ⟨fun a b => ?_, fun k p hk => ?_⟩
    ·rw [cls_join, cls_join, h1, h1, h1, h1, h1]
    ·by_cases c : k < (ends (spT zl E i)).length
     ·rw [List.getElem?_append_left c] at hk
      rw [List.take_append_of_le_length (by omega)]
      exact h2 k p hk
     ·rw [List.getElem?_append_right (by omega)] at hk
      by_cases d : k = (ends (spT zl E i)).length
      ·subst d
       rw [Nat.sub_self] at hk
       cases hk
       rw [List.take_append_of_le_length (Nat.le_refl _), List.take_length]
       exact fun e => hc ((h1 _ _).2 e)
      ·rw [List.getElem?_eq_none (by simp; omega)] at hk
       cases hk
theorem tree_forest (n : Nat) : ∃ cl : Nat → Tx → Nat, Forest (edT (eget (spT zl E n)) (spT zl E n).length) cl := by
 rw [edT_eget]
 exact ⟨_, forest_of (plc zl) _ (sp_inv zl E n).2⟩
end
theorem shut_nil {α : Type} (A : α → Nat) : ¬ shut A [] := fun ⟨i, p, h, _⟩ => by simp at h
theorem shut_snoc {α : Type} (A : α → Nat) (l : List (α × α)) (p : α × α) : shut A (l ++ [p]) ↔ shut A l ∨ cls A l p.1 = cls A l p.2 := by
 constructor
 ·rintro ⟨i, q, h1, h2⟩
  by_cases c : i < l.length
  ·rw [List.getElem?_append_left c] at h1
   rw [List.take_append_of_le_length (by omega)] at h2
   exact .inl ⟨i, q, h1, h2⟩
  ·by_cases d : i = l.length
   ·subst d
    rw [List.getElem?_append_right (Nat.le_refl _), Nat.sub_self] at h1
    cases h1
    rw [List.take_append_of_le_length (Nat.le_refl _), List.take_length] at h2
    exact .inr h2
   ·rw [List.getElem?_eq_none (by simp; omega)] at h1
    cases h1
 ·rintro (⟨i, q, h1, h2⟩ | h)
  ·have c : i < l.length := (List.getElem?_eq_some_iff.1 h1).1
   exact ⟨i, q, by rw [List.getElem?_append_left c]; exact h1, by rw [List.take_append_of_le_length (by omega)]; exact h2⟩
  ·exact ⟨l.length, p, by rw [List.getElem?_append_right (Nat.le_refl _), Nat.sub_self]; rfl, by rw [List.take_append_of_le_length (Nat.le_refl _), List.take_length]; exact h⟩
theorem shV_succ (zl : tM) (E : tE) (n : Nat) : shV zl E (n + 1) = (shV zl E n || vfail zl E n) := by
 unfold shV
 rw [List.range_succ, List.any_append]
 simp
theorem shV_shut (zl : tM) (E : tE) : ∀ n, shV zl E n = true ↔ shut (plc zl) (vl E n)
 | 0 => ⟨fun h => by simp [shV] at h, fun h => absurd h (shut_nil _)⟩
 | n + 1 => by
  rw [shV_succ, Bool.or_eq_true, shV_shut zl E n]
  unfold vfail
  conv => rhs; unfold vl
  cases hs : vsel (E n) with
  | true => rw [cond_true, shut_snoc, Bool.true_and, decide_eq_true_eq]
  | false => rw [cond_false, Bool.false_and]; exact ⟨fun h => h.elim id fun h => absurd h (by decide), .inl⟩
theorem spR_shut (zl : tM) (E : tE) : ∀ n, 0 < (spR zl E n).length ↔ shut (plc zl) (jl E n)
 | 0 => ⟨fun h => absurd h (by simp [spR]), fun h => absurd h (shut_nil _)⟩
 | n + 1 => by
  have ih := spR_shut zl E n
  cases hs : jsel (E n) with
  | false => rw [spR_f zl E (by rw [hs]; rfl), jl_f E hs]; exact ih
  | true =>
   rw [jl_t E hs, shut_snoc, ← ih]
   cases hj : jsame zl E n with
   | true =>
    rw [spR_t zl E (by rw [hs, hj]; rfl)]
    exact ⟨fun _ => .inr (of_decide_eq_true hj), fun _ => by simp⟩
   | false =>
    rw [spR_f zl E (by rw [hs, hj]; rfl)]
    exact ⟨.inl, fun h => h.elim id fun h => absurd h (of_decide_eq_false hj)⟩
theorem jl_all (L : List El) (h : ∀ z ∈ L, jsel z = true) : ∀ i, i ≤ L.length → jl (eget L) i = (ends L).take i
 | 0, _ => by rw [List.take_zero]; rfl
 | i + 1, hi => by
  have hm : eget L i ∈ L := by rw [eget_is (by omega)]; exact List.getElem_mem _
  rw [jl_t _ (h _ hm), jl_all L h i (by omega), List.take_add_one, eget_is (by omega)]
  simp [ends, show i < L.length by omega]
theorem pos_getD {x : Tx} : ∀ {l : List Tx} {i : Nat}, pos x l = some i → l.getD i [] = x
 | y :: l, i, h => by
  unfold pos at h
  cases e : x == y with
  | true =>
   rw [e, cond_true] at h
   cases h
   exact (eq_of_beq e).symm
  | false =>
   rw [e, cond_false] at h
   cases q : pos x l with
   | none => rw [q] at h; cases h
   | some j => rw [q] at h; cases h; exact pos_getD (l := l) q
theorem plc_is (l : List Tx) (x : Tx) : plc (zipF 0 l) x = (pos x l).getD 0 := by
 unfold plc
 rw [find_zip]
 cases pos x l with
 | none => rfl
 | some i => show ((0 + i : Nat) : Int).toNat = i; omega
theorem plc_inj {l : List Tx} {x y : Tx} (hx : x ∈ l) (hy : y ∈ l) : plc (zipF 0 l) x = plc (zipF 0 l) y ↔ x = y := by
 constructor
 ·intro h
  rw [plc_is, plc_is] at h
  cases ex : pos x l with
  | none => exact absurd hx (pos_none.1 ex)
  | some i =>
   cases ey : pos y l with
   | none => exact absurd hy (pos_none.1 ey)
   | some j =>
    rw [ex, ey] at h
    obtain rfl : i = j := h
    rw [← pos_getD ex, ← pos_getD ey]
 ·intro h; rw [h]
theorem mem_addN {l : List Tx} {x y : Tx} : x ∈ addN l y ↔ x ∈ l ∨ (x = y ∧ y ≠ [] ∧ y ≠ [48]) := by
 unfold addN
 cases e1 : y == [] with
 | true =>
  have : y = [] := eq_of_beq e1
  simp [this]
 | false =>
  have h1 : y ≠ [] := fun h => by rw [h] at e1; exact absurd e1 (by decide)
  cases e2 : y == [48] with
  | true =>
   have : y = [48] := eq_of_beq e2
   simp [this]
  | false =>
   have h2 : y ≠ [48] := fun h => by rw [h] at e2; exact absurd e2 (by decide)
   cases e3 : pos y l with
   | none => simp [h1, h2]
   | some i =>
    have hm : y ∈ l := by
     by_cases c : y ∈ l
     ·exact c
     ·rw [pos_none.2 c] at e3; cases e3
    simp only [Option.isSome, Bool.true_or, cond_true]
    exact ⟨.inl, fun h => h.elim id fun h => by rw [h.1]; exact hm⟩
theorem mem_ND {E : tE} {x : Tx} : ∀ {n : Nat}, x ∈ ND E n ↔ (∃ i, i < n ∧ (x = (E i).a ∨ x = (E i).b ∨ x = (E i).c ∨ x = (E i).d)) ∧ x ≠ [] ∧ x ≠ [48]
 | 0 => by
  constructor
  ·intro h; simp [ND] at h
  ·rintro ⟨⟨i, h, _⟩, _⟩; exact absurd h (Nat.not_lt_zero _)
 | n + 1 => by
  unfold ND
  rw [mem_addN, mem_addN, mem_addN, mem_addN, mem_ND]
  constructor
  ·rintro ((((⟨⟨i, h1, h2⟩, h3⟩ | ⟨rfl, h⟩) | ⟨rfl, h⟩) | ⟨rfl, h⟩) | ⟨rfl, h⟩)
   ·exact ⟨⟨i, by omega, h2⟩, h3⟩
   ·exact ⟨⟨n, by omega, .inl rfl⟩, h⟩
   ·exact ⟨⟨n, by omega, .inr (.inl rfl)⟩, h⟩
   ·exact ⟨⟨n, by omega, .inr (.inr (.inl rfl))⟩, h⟩
   ·exact ⟨⟨n, by omega, .inr (.inr (.inr rfl))⟩, h⟩
  ·rintro ⟨⟨i, h1, h2⟩, h3⟩
   by_cases c : i < n
   ·exact .inl (.inl (.inl (.inl ⟨⟨i, c, h2⟩, h3⟩)))
   ·obtain rfl : i = n := by omega
    rcases h2 with rfl | rfl | rfl | rfl
    ·exact .inl (.inl (.inl (.inr ⟨rfl, h3⟩)))
    ·exact .inl (.inl (.inr ⟨rfl, h3⟩))
    ·exact .inl (.inr ⟨rfl, h3⟩)
    ·exact .inr ⟨rfl, h3⟩
theorem addN_nodup {l : List Tx} {x : Tx} (h : l.Nodup) : (addN l x).Nodup := by
 unfold addN
 cases e : (pos x l).isSome || x == [] || x == [48] with
 | true => exact h
 | false =>
  rw [cond_false]
  simp only [Bool.or_eq_false_iff] at e
  have hp : pos x l = none := by
   cases q : pos x l with
   | none => rfl
   | some i => rw [q] at e; exact absurd (show true = false from e.1.1) (by decide)
  rw [List.nodup_append]
  exact ⟨h, by simp, fun a ha b hb e => by rw [List.mem_singleton.1 hb] at e; rw [e] at ha; exact pos_none.1 hp ha⟩
theorem ND_nodup (E : tE) : ∀ n, (ND E n).Nodup
 | 0 => List.nodup_nil
 | n + 1 => by unfold ND; exact addN_nodup (addN_nodup (addN_nodup (addN_nodup (ND_nodup E n))))
theorem nodup_sub : ∀ {l l' : List Tx}, l.Nodup → (∀ x ∈ l, x ∈ l') → l.length ≤ l'.length
 | [], l', _, _ => Nat.zero_le _
 | x :: l, l', h, hs => by
  obtain ⟨h1, h2⟩ := List.nodup_cons.1 h
  have hx := hs x (by simp)
  have h3 := nodup_sub (l := l) (l' := l'.erase x) h2 fun y hy => by
   have hne : y ≠ x := fun e => h1 (e ▸ hy)
   exact (List.mem_erase_of_ne hne).2 (hs y (by simp [hy]))
  rw [List.length_erase_of_mem hx] at h3
  have := List.length_pos_of_mem hx
  simp only [List.length_cons]
  omega
theorem ofE_all {chk : El → Int} {E : tE} {n : Nat} : ∀ m, m ≤ n → (ofE chk E n m).1 = 0 → (∀ j, n - m ≤ j → j < n → badE chk E j = 0) ∧ (ofE chk E n 0).1 = 0
 | 0, _, h => ⟨fun j h1 h2 => absurd h1 (by omega), h⟩
 | m + 1, hm, h => by
  unfold ofE at h
  by_cases b : badE chk E (n - (m + 1)) = 0
  ·rw [decide_eq_true b, cond_true] at h
   obtain ⟨h1, h2⟩ := ofE_all m (by omega) h
   refine ⟨fun j k1 k2 => ?_, h2⟩
   by_cases c : j = n - (m + 1)
   ·rw [c]; exact b
   ·exact h1 j (by omega) k2
  ·rw [decide_eq_false b, cond_false] at h
   exact absurd h b
theorem ofE_of {chk : El → Int} {E : tE} {n : Nat} (hb : ∀ j, j < n → badE chk E j = 0) : ∀ m, m ≤ n → ofE chk E n m = ofE chk E n 0
 | 0, _ => rfl
 | m + 1, hm => by
  conv => lhs; unfold ofE
  rw [decide_eq_true (hb _ (by omega)), cond_true]
  exact ofE_of hb m (by omega)
/-- what Of asks of a net -/
structure GdN (n : Nat) (E : tE) : Prop where
 n256 : n ≤ 256
 bad : ∀ j, j < n → badE chkE E j = 0
 nd : (ND E n).length ≤ 32
theorem of_gdn {n : Nat} {E : tE} (h : (ofX E n).1 = 0) : GdN n E := by
 rw [ofX_is] at h
 unfold ofR at h
 by_cases c : 256 < n
 ·rw [decide_eq_true c, cond_true] at h
  exact absurd h (by decide)
 ·rw [decide_eq_false c, cond_false] at h
  obtain ⟨h1, h2⟩ := ofE_all n (Nat.le_refl _) h
  refine ⟨by omega, fun j hj => h1 j (by omega) hj, ?_⟩
  by_cases d : 32 < (ND E n).length
  ·unfold ofE at h2
   rw [decide_eq_true d, Bool.true_or, cond_true] at h2
   exact absurd h2 (by decide)
  ·omega
theorem bad_of {E : tE} {i : Nat} (h : badE chkE E i = 0) : chkE (E i) = 0 ∧ pos (E i).n (NM E i) = none := by
 unfold badE at h
 by_cases c : chkE (E i) = 0
 ·rw [decide_eq_true c, cond_true] at h
  refine ⟨c, ?_⟩
  cases e : pos (E i).n (NM E i) with
  | none => rfl
  | some j => rw [e] at h; exact absurd (show (9 : Int) = 0 from h) (by decide)
 ·rw [decide_eq_false c, cond_false] at h
  exact absurd h c
theorem of_bad {E : tE} {i : Nat} (h : chkE (E i) = 0) (hp : pos (E i).n (NM E i) = none) : badE chkE E i = 0 := by
 unfold badE
 rw [decide_eq_true h, cond_true, hp]
 rfl
theorem mem_NM {E : tE} {x : Tx} : ∀ {n : Nat}, x ∈ NM E n ↔ ∃ i, i < n ∧ x = (E i).n
 | 0 => ⟨fun h => by simp [NM] at h, fun ⟨i, h, _⟩ => absurd h (Nat.not_lt_zero _)⟩
 | n + 1 => by
  unfold NM
  rw [List.mem_append, mem_NM, List.mem_singleton]
  constructor
  ·rintro (⟨i, h, e⟩ | e)
   ·exact ⟨i, by omega, e⟩
   ·exact ⟨n, by omega, e⟩
  ·rintro ⟨i, h, e⟩
   by_cases c : i < n
   ·exact .inl ⟨i, c, e⟩
   ·obtain rfl : i = n := by omega
    exact .inr e
/-! ### what value.Check asks -/
theorem chk_facts {z : El} (h : chkE z = 0) : name_1 z.n = true ∧ name_0 z.n = z.k ∧ node_0 z.a = true ∧ node_0 z.b = true ∧ (z.a == z.b) = false := by
 unfold chkE chk_0 at h
 cases e1 : rowOf_5 z.k
 ·rw [e1] at h; exact absurd (show (2 : Int) = 0 from h) (by decide)
 rw [e1, cond_true] at h
 cases e2 : name_1 z.n
 ·rw [e2] at h; exact absurd (show (8 : Int) = 0 from h) (by decide)
 rw [e2, cond_true] at h
 by_cases e3 : name_0 z.n = z.k
 case neg => rw [decide_eq_false e3] at h; exact absurd (show (8 : Int) = 0 from h) (by decide)
 rw [decide_eq_true e3, cond_true] at h
 cases e4 : node_0 z.a
 ·rw [e4] at h; exact absurd (show (8 : Int) = 0 from h) (by decide)
 rw [e4, cond_true] at h
 cases e5 : node_0 z.b
 ·rw [e5] at h; exact absurd (show (8 : Int) = 0 from h) (by decide)
 rw [e5, cond_true] at h
 refine ⟨rfl, e3, rfl, rfl, ?_⟩
 cases e6 : z.a == z.b
 ·rfl
 rw [e6] at h
 cases e7 : rowOf_3 z.k
 ·rw [e7] at h; exact absurd (show (2 : Int) = 0 from h) (by decide)
 rw [e7, cond_true] at h
 cases e8 : node_0 z.c
 ·rw [e8] at h; exact absurd (show (8 : Int) = 0 from h) (by decide)
 rw [e8, cond_true] at h
 cases e9 : node_0 z.d
 ·rw [e9] at h; exact absurd (show (8 : Int) = 0 from h) (by decide)
 rw [e9] at h; exact absurd (show (2 : Int) = 0 from h) (by decide)
theorem node_ne {l : Tx} (h : node_0 l = true) : l ≠ [] := fun e => by
 rw [e] at h
 exact absurd h (by decide)
theorem loA (B : Nat) (hB : B ≤ 9) (n q r : Nat) (E : tE) (nd br : Nat → List UInt8) (M1 M2 M3 : List (List UInt8 × Int)) : GoesB Try.prog ((nav [0] (bodyOf Try.f19))) Try.f19.ntmps B 9 9 ZDx (ZDH n q r M1 M2 M3 E nd br) (ZDf n q r M1 M2 M3 E nd br) := rdY [] trivial hB
theorem loB (B : Nat) (hB : B ≤ 9) (n q r : Nat) (E : tE) (nd br : Nat → List UInt8) (M1 M2 M3 : List (List UInt8 × Int)) (x0 : (NetQ n q r n q r M1 M2 M3 (Cont.row (.fn fun j => elR (E j))) (Cont.row (.fn (txR nd))) (Cont.row (.fn (txR br))))) : GoesB Try.prog ((nav [1,0] (bodyOf Try.f19))) Try.f19.ntmps B 9 9 (ZDy 0 2) (ZDH n q r M1 M2 M3 E nd br) (ZD7 n q r E nd br) := rdY [] (I1 x0) hB
theorem loC (B : Nat) (hB : B ≤ 9) (n q r : Nat) (E : tE) (nd br : Nat → List UInt8) (M1 M2 M3 : List (List UInt8 × Int)) : GoesB Try.prog ((nav [1,1,0] (bodyOf Try.f19))) Try.f19.ntmps B 9 9 (ZDy 0 2) (ZDH n q r M1 M2 M3 E nd br) (pP .normal [(0, ZA 2), (3, .nils)] [(2, ZX n q r), (3, Zd M1), (4, Zd M2), (5, Zd M3), (6, ZQ n E), (7, ZI q nd), (8, ZI r br)]) := rdY [] trivial hB
noncomputable abbrev ZBb (v0 : tE) (v1 : Nat) := (.cells true 8 (List.length (treeL (rowsE (Cont.row (.fn fun j => elR (v0 j)))) v1)) (.fn fun j => (elR (eget (treeL (rowsE (Cont.row (.fn fun j => elR (v0 j)))) v1) j))) : ABk)
noncomputable abbrev ZCI (v0 : tE) (v1 : Nat) (w0) := sL w0 (List.length (treeL (rowsE (Cont.row (.fn fun j => elR (v0 j)))) v1))
noncomputable abbrev ZCa (v0 : tE) (v1 : Nat) := (.cells true 8 (List.length (restL (rowsE (Cont.row (.fn fun j => elR (v0 j)))) v1)) (.fn fun j => (elR (eget (restL (rowsE (Cont.row (.fn fun j => elR (v0 j)))) v1) j))) : ABk)
theorem loD (B : Nat) (hB : B ≤ 10) (n q r : Nat) (E : tE) (nd br : Nat → List UInt8) (M1 M2 M3 : List (List UInt8 × Int)) (x0 : (NetQ n q r n q r M1 M2 M3 (Cont.row (.fn fun j => elR (E j))) (Cont.row (.fn (txR nd))) (Cont.row (.fn (txR br))))) : GoesB Try.prog ((nav [1,1,1,0] (bodyOf Try.f19))) Try.f19.ntmps B 10 12 (frL [(0, ZA 2), (3, sL 9 0)]) (hpL [(2, ZY n q r), (3, .mSI true M1), (4, .mSI true M2), (5, .mSI true M3), (6, ZB n E), (7, ZI q nd), (8, ZI r br), (9, .cells true 1 0 (.fn fun _ => [.any1]))]) (pP .normal [(3, sL 9 0), (4, ZCI E n 10), (5, sL 11 (List.length (restL (rowsE (Cont.row (.fn fun j => elR (E j)))) n)))] [(2, ZX n q r), (3, Zx E n), (4, Zy E n), (5, Zz E n), (6, ZQ n E), (7, ZI q nd), (8, ZI r br), (9, .cells true 1 0 (.fn fun x => [.any1])), (10, ZBb E n), (11, ZCa E n)]) := rdY [] (I1 x0) hB
noncomputable abbrev ZBK (v0 : Nat) := (.cells true 1 v0 (.fn fun _ => [.any1]) : ABk)
noncomputable abbrev ZCB (v0 : Nat) := (.cells true 1 v0 (.fn fun x => [.any1]) : ABk)
noncomputable abbrev ZEJ (v0 v1 : Nat) (v2 : tE) (v3 : Nat) (v4 : tE) := hpL [(9, ZBK v0), (10, ZG v1 v2), (11, ZG v3 v4)]
theorem loE (B : Nat) (hB : B ≤ 12) (t s k : Nat) (T R : tE) (nd br : Nat → List UInt8) (M1 M2 M3 : List (List UInt8 × Int)) : GoesB Try.prog ((nav [1,1,1,1,0,0] (bodyOf Try.f19))) Try.f19.ntmps B 12 12 (frL [(3, sL 9 k), (4, sL 10 t), (5, sL 11 s)]) (ZEJ k t T s R) (pP .normal [(3, sL 9 k), (4, sL 10 t), (15, sL 11 s), (16, iT (↑s : Int)), (17, Zc)] [(9, ZCB k), (10, ZN t T), (11, ZN s R)]) := rdY [] trivial hB
noncomputable abbrev ZBV (v0 v1 v2 v3 : Nat) := frL [(3, sL 9 v0), (4, sL 10 v1), (15, sL 11 v2), (16, iT (v2 : Int)), (17, iT (v3 : Int))]
theorem loF (B : Nat) (hB : B ≤ 12) (t s i k : Nat) (T R : tE) (nd br : Nat → List UInt8) (M1 M2 M3 : List (List UInt8 × Int)) : GoesB Try.prog ((nav [1,1,1,1,0,1,0,0,0] (bodyOf Try.f19))) Try.f19.ntmps B 12 12 (ZBV k t s i) (ZEJ k t T s R) (pP .normal [(3, sL 9 k), (4, sL 10 t), (15, sL 11 s), (16, iT (↑s : Int)), (17, iT (↑i : Int)), (18, .sbool (decide ((↑i : Int) < (↑s : Int))))] [(9, ZCB k), (10, ZN t T), (11, ZN s R)]) := rdY [] trivial hB
noncomputable abbrev ZCE (v0 v1 v2 v3 : Nat) := ([(3, sL 9 v0), (4, sL 10 v1), (15, sL 11 v2), (16, ZEt v2), (17, ZEt v3)] : tF)
theorem loX (B : Nat) (hB : B ≤ 12) (t s i k : Nat) (T R : tE) (nd br : Nat → List UInt8) (M1 M2 M3 : List (List UInt8 × Int)) (b : Bool) : GoesB Try.prog ((nav [1,1,1,1,0,1,0,0,1,0] (bodyOf Try.f19))) Try.f19.ntmps B 12 12 (frL [(3, sL 9 k), (4, sL 10 t), (15, sL 11 s), (16, iT (s : Int)), (17, iT (i : Int)), (18, .sbool b)]) (ZEJ k t T s R) fun e fr' H' => (cond (b) (pP .normal (ZCE k t s i) [(9, ZCB k), (10, ZN t T), (11, ZN s R)] e fr' H') (pP (.exit 0) (ZCE k t s i) [(9, ZCB k), (10, ZN t T), (11, ZN s R)] e fr' H')) := cI (fun t0 => rdY [tT] (I1 t0) hB) (fun t0 => rdY [fF] (I1 t0) hB)
noncomputable abbrev ZBQ := nav [1,1,1,1,0,1,0,0,1,1,0,0,0] (bodyOf Try.f19)
theorem loG (B : Nat) (hB : B ≤ 12) (t s i k : Nat) (T R : tE) (nd br : Nat → List UInt8) (M1 M2 M3 : List (List UInt8 × Int)) (x0 : ((↑i : Int) < (↑s : Int))) (x1 : (0 + i < s)) : GoesB Try.prog (ZBQ) Try.f19.ntmps B 12 13 (ZBV k t s i) (ZEJ k t T s R) (pP .normal [(3, sL 9 k), (4, sL 10 t), (15, sL 11 s), (16, iT (↑s : Int)), (17, iT (↑i : Int)), (7, ZA 12)] [(9, ZCB k), (10, ZN t T), (11, ZN s R), (12, ZBJ R i)]) := rdY [] (I3 (ai (show 0 ≤ (↑i : Int) by omega) x0) x1 (show 8 ≤ 8 by omega)) hB
noncomputable abbrev ZBR := nav [1,1,1,1,0,1,0,0,1,1,0,0,1] (bodyOf Try.f19)
noncomputable abbrev ZBq (v0 : tE) (v1 : Nat) (v2 : tE) (v3 : Nat) := sL 15 (1 + alN (rowsE (rowsOf ⟨false, 10, 0, 0⟩ 8 8 (.fn fun j => elR (v0 j)))) v1 (El.b (v2 v3)) (El.a (v2 v3)))
noncomputable abbrev ZDB (v0 : tE) (v1 : Nat) (v2 : tE) (v3 : Nat) (v4) := (.str true (alG (rowsE fun j => (elR (v0 (0 + j)))) v1 (El.b (v2 v3)) (El.a (v2 v3)) (0 + (v4 - 1))) : AV)
theorem loH (B : Nat) (hB : B ≤ 13) (t s i k : Nat) (T R : tE) (nd br : Nat → List UInt8) (M1 M2 M3 : List (List UInt8 × Int)) (x0 : (t ≤ 256)) (x1 : (∀ (j : Nat), j < t → RowGe (elR (T (0 + j))) (elR (rowsE (rowsOf ⟨false, 10, 0, 0⟩ 8 8 (.fn fun j => elR (T j))) j)))) (x2 : (∃ cl, Forest (edT (rowsE (rowsOf ⟨false, 10, 0, 0⟩ 8 8 (.fn fun j => elR (T j)))) t) cl)) (x3 : (∀ (j : Nat), j < t → ∀ (u : AV), u ∈ elR (T (0 + j)) → AV.low 0 u = true)) (x4 : (∀ (i_1 : Nat), i_1 < alN (rowsE fun j => (elR (T (0 + j)))) t (El.b (R i)) (El.a (R i)) → ∀ (o : Nat) (v : AV), [.str true (alG (rowsE fun j => (elR (T (0 + j)))) t (El.b (R i)) (El.a (R i)) i_1)][o]? = Option.some v → AV.inS (fun g => inR [(0, 13), (14, 15), (14, 14), (14, 14), (14, 14), (14, 14), (14, 14)] g = true) v)) (x5 : (0 + alN (rowsE fun j => (elR (T (0 + j)))) t (El.b (R i)) (El.a (R i)) ≤ alN (rowsE (rowsOf ⟨false, 10, 0, 0⟩ 8 8 (.fn fun j => elR (T j)))) t (El.b (R i)) (El.a (R i)))) (x6 : ((1 + alN (rowsE (rowsOf ⟨false, 10, 0, 0⟩ 8 8 (.fn fun j => elR (T j)))) t (El.b (R i)) (El.a (R i))) * 16 ≤ 140737488355328)) (x7 : (1 + alN (rowsE (rowsOf ⟨false, 10, 0, 0⟩ 8 8 (.fn fun j => elR (T j)))) t (El.b (R i)) (El.a (R i)) ≤ 9223372036854775807)) (x8 : (∀ (i_1 : Nat), i_1 < 1 + alN (rowsE (rowsOf ⟨false, 10, 0, 0⟩ 8 8 (.fn fun j => elR (T j)))) t (El.b (R i)) (El.a (R i)) → ∀ (o : Nat) (v : AV), (bif decide (i_1 < 1) then [.str true (El.n (R i))] else bif Nat.beq (alN (rowsE (rowsOf ⟨false, 10, 0, 0⟩ 8 8 (.fn fun j => elR (T j)))) t (El.b (R i)) (El.a (R i))) 1 then [.str true (alG (rowsE fun j => (elR (T (0 + j)))) t (El.b (R i)) (El.a (R i)) 0)] else [.str true (alG (rowsE fun j => (elR (T (0 + j)))) t (El.b (R i)) (El.a (R i)) (0 + (i_1 - 1)))])[o]? = Option.some v → AV.inS (fun g => inR [(0, 13), (15, 16), (14, 15), (14, 14), (14, 14), (14, 14), (14, 14), (14, 14), (13, 14), (13, 13), (13, 13)] g = true) v)) (x9 : ((k + 1) * 24 ≤ 140737488355328)) (x10 : (k + 1 ≤ 9223372036854775807)) (x11 : (∀ (i_1 : Nat), i_1 < k + 1 → ∀ (o : Nat) (v : AV), (bif decide (i_1 < k) then [.any1] else [sL 15 (1 + alN (rowsE (rowsOf ⟨false, 10, 0, 0⟩ 8 8 (.fn fun j => elR (T j)))) t (El.b (R i)) (El.a (R i)))])[o]? = Option.some v → AV.inS (fun g => inR [(0, 13), (17, 18), (16, 17), (15, 16), (14, 15), (14, 14), (14, 14), (14, 14), (14, 14), (14, 14), (13, 14), (13, 13), (13, 13), (13, 13)] g = true) v)) : GoesB Try.prog ZBR Try.f19.ntmps B 13 18 (frL [(3, sL 9 k), (4, sL 10 t), (15, sL 11 s), (16, iT (s : Int)), (17, iT (i : Int)), (7, .ptr ⟨false, 12, 0, 0⟩)]) (hpL [(9, .cells true 1 k (.fn fun _ => [.any1])), (10, .cells true 8 t (.fn fun j => elR (T j))), (11, .cells true 8 s (.fn fun j => elR (R j))), (12, .cells true 8 1 (.fn fun _ => elR (R i)))]) (pP .normal [(3, sL 17 (k + 1)), (4, sL 10 t), (15, sL 11 s), (16, iT (↑s : Int)), (17, iT (↑i : Int))] [(10, .cells true 8 t (.fn fun j => (elR (T j)))), (11, .cells true 8 s (.fn fun j => (elR (R j)))), (17, .cells true 1 (k + 1) (.fn fun j => bif decide (j < k) then [.any1] else [sL 15 (1 + alN (rowsE (rowsOf ⟨false, 10, 0, 0⟩ 8 8 (.fn fun j => elR (T j)))) t (El.b (R i)) (El.a (R i)))]))]) := rdY [] (I8 (show 0 + t ≤ t by omega) (ai (ai x0 (ai x1 x2)) x3) x4 x5 (ai (show 1 ≤ 1 by omega) (ai x6 x7)) x8 (ai (show k ≤ k by omega) (ai x9 x10)) x11) hB
theorem loJ (B : Nat) (hB : B ≤ 12) (t s i k : Nat) (T R : tE) (nd br : Nat → List UInt8) (M1 M2 M3 : List (List UInt8 × Int)) (x0 : ((↑i : Int) + 1 ≤ (9223372036854775807 : Int))) : GoesB Try.prog ((nav [1,1,1,1,0,1,0,0,1,1,1] (bodyOf Try.f19))) Try.f19.ntmps B 12 12 (ZBV k t s i) (ZEJ k t T s R) (pP .normal [(3, sL 9 k), (4, sL 10 t), (15, sL 11 s), (16, iT (↑s : Int)), (17, ZBw i)] [(9, ZCB k), (10, ZN t T), (11, ZN s R)]) := rdY [] (I1 (ai (show -9223372036854775808 ≤ (↑i : Int) + 1 by omega) x0)) hB
theorem loI (B : Nat) (hB : B ≤ 12) (k : Nat) (nd br : Nat → List UInt8) (M1 M2 M3 : List (List UInt8 × Int)) : GoesB Try.prog ((nav [1,1,1,1,1] (bodyOf Try.f19))) Try.f19.ntmps B 12 12 (frL [(3, sL 9 k)]) (hpL [(9, ZBK k)]) (pP .ret [(2, sL 9 k)] [(9, ZCB k)]) := rdY [] trivial hB
theorem atB_weakG {n B K : Nat} {H : T ABk} {μ : MM} {w w' : World} {H' : T ABk} {fr' : Fr} {a a' : Act} {fl : tF} {bl : tH} (hf : Ge fr' fl) (hH : GeG H' bl) (h : AtB n B K H μ w H' fr' a a' w') : AtB n B K H μ w (hpL bl) (frL fl) a a' w' := by
 obtain ⟨μ', k1, k2, k3, k4⟩ := h.of
 have G := fun i b (hb : (hpL bl).get i = some b) => hH.get _ (hpL_get hb)
 have mayT : ∀ b, May μ' (hpL bl) b → May μ' H' b := fun b hm => by
  obtain ⟨i, x, m1, m2, m3, m4⟩ := hm
  obtain ⟨b0, h1, h2⟩ := G i x m1
  exact ⟨i, b0, h1, by rw [h2.owned]; exact m2, (h2.real _ _).2 m3, m4⟩
 refine ⟨μ', ⟨fun i b hb => ?_, fun i b hb => ?_, fun i b j b' hi hj ho hr hr' he => ?_, fun b o q => ⟨(k1.fz b o q).1, fun hm => (k1.fz b o q).2 (mayT b hm)⟩⟩, ⟨k2.names, k2.os, k2.tape, k2.output, k2.size, k2.block, fun b hb hm => k2.may b hb (mayT b hm), k2.fz⟩, ⟨k3.size, fun t v ht => ?_⟩, k4⟩
 ·obtain ⟨b0, h1, h2⟩ := G i b hb; exact k1.lt i b0 h1
 ·obtain ⟨b0, h1, h2⟩ := G i b hb; exact h2.ok (k1.ok i b0 h1)
 ·obtain ⟨b0, h1, h2⟩ := G i b hi
  obtain ⟨b1, l1, l2⟩ := G j b' hj
  exact k1.sep i b0 j b1 h1 l1 (by rw [h2.owned]; exact ho) ((h2.real _ _).2 hr) ((l2.real _ _).2 hr') he
 ·obtain ⟨u, h1, h2⟩ := hf.get _ (frL_get ht)
  exact h2 _ _ _ (k3.val t u h1)
theorem goes_postG {P : Program} {n B K K' : Nat} {c : Code} {fr : Fr} {H : T ABk} {Post Post' : Po} (h : GoesB P c n B K K' fr H Post) (k : ∀ e fr' H', Post e fr' H' → ∃ fl bl, Ge fr' fl ∧ GeG H' bl ∧ Post' e (frL fl) (hpL bl)) : GoesB P c n B K K' fr H Post' :=
 fun μ w a hg hf Q hQ => h μ w a hg hf Q fun e fr' H' a' w' hp ha => by
  obtain ⟨fl, bl, h1, h2, h3⟩ := k _ _ _ hp
  exact hQ e _ _ a' w' h3 (atB_weakG h1 h2 ha)
theorem rowsE_el (G : tE) : (rowsE fun j => elR (G j)) = G := rfl
theorem rowsO_el (a : Nat) (G : tE) : rowsE (rowsOf ⟨false, a, 0, 0⟩ 8 8 (.fn fun j => elR (G j))) = G := funext fun j => by
 show unE (elR (G (0 + j))) = G j
 rw [Nat.zero_add]
 rfl
theorem ge_any1 {v : AV} (h : v.one = true) : AV.ge v .any1 := fun N μ c k => by
 simp only [Rep]
 exact Rep.oneCell k h
theorem alN_le (E : tE) (k : Nat) (z y : Tx) : alN E k z y ≤ k + 1 := by rw [alN_is]; exact alX_len E k z y
theorem str_inS {x : Tx} {o : Nat} {v : AV} {S : Nat → Prop} (h : [AV.str true x][o]? = some v) : v.inS S := by
 rw [List.mem_singleton.1 (List.mem_of_getElem? h)]; trivial
noncomputable abbrev Z5 (v0 v1 v2 : Nat) (w0) := ([(3, sL w0 (v0 + 1)), (4, sL 10 v1), (15, sL 11 v2), (16, iT (v2 : Int)), (17, iT (v0 : Int))] : tF)
noncomputable abbrev Z7 (v0 v1 v2 : Nat) := ([(3, sL 9 v0), (4, sL 10 v1), (15, sL 11 v2), (16, iT (v2 : Int)), (17, iT (v0 : Int))] : tF)
noncomputable abbrev ZCZ (v0 : Nat) := (.cells true 1 (v0 + 1) (.fn fun _ => [.any1]) : ABk)
theorem lo_blk (t s i : Nat) (T R : tE) (ht : t ≤ 256) (hs : s ≤ 256) (hF : ∃ cl : Nat → Tx → Nat, Forest (edT T t) cl) (hi : i < s) :
  GoesB Try.prog (.block 1 (.seq ZBQ ZBR)) Try.f19.ntmps 9 12 12 (frL [(3, sL 9 i), (4, sL 10 t), (15, sL 11 s), (16, iT (s : Int)), (17, iT (i : Int))]) (hpL [(9, .cells true 1 i (.fn fun _ => [.any1])), (10, .cells true 8 t (.fn fun j => elR (T j))), (11, .cells true 8 s (.fn fun j => elR (R j)))]) (Nm [(3, sL 9 (i + 1)), (4, sL 10 t), (15, sL 11 s), (16, iT (s : Int)), (17, iT (i : Int))] [(9, .cells true 1 (i + 1) (.fn fun _ => [.any1])), (10, .cells true 8 t (.fn fun j => elR (T j))), (11, .cells true 8 s (.fn fun j => elR (R j)))]) := by
 have h1 : GoesB Try.prog (.block 1 (.seq ZBQ ZBR)) Try.f19.ntmps 9 12 18 (frL [(3, sL 9 i), (4, sL 10 t), (15, sL 11 s), (16, iT (s : Int)), (17, iT (i : Int))]) (hpL [(9, .cells true 1 i (.fn fun _ => [.any1])), (10, .cells true 8 t (.fn fun j => elR (T j))), (11, .cells true 8 s (.fn fun j => elR (R j)))]) (Nm [(3, sL 17 (i + 1)), (4, sL 10 t), (15, sL 11 s), (16, iT (s : Int)), (17, iT (i : Int))] [(17, .cells true 1 (i + 1) (.fn fun _ => [.any1])), (10, .cells true 8 t (.fn fun j => elR (T j))), (11, .cells true 8 s (.fn fun j => elR (R j)))]) := by
  refine GoesB.blockN ?_
  refine GoesB.seqN (K1 := 13) (F1 := [(3, sL 9 i), (4, sL 10 t), (15, sL 11 s), (16, iT (s : Int)), (17, iT (i : Int)), (7, .ptr ⟨false, 12, 0, 0⟩)]) (H1 := [(9, .cells true 1 i (.fn fun _ => [.any1])), (10, .cells true 8 t (.fn fun j => elR (T j))), (11, .cells true 8 s (.fn fun j => elR (R j))), (12, .cells true 8 1 (.fn fun _ => elR (R i)))]) (GoesB.toN (loG 9 (by omega) t s i i T R (fun _ => []) (fun _ => []) [] [] [] (by omega) (by omega)) (eGg rfl) ⟨(Sx.hs rfl), (Sx.hs rfl), (Sx.hs rfl), wk_hb rfl (by show elR (R (0 + i)) = elR (R i); rw [Nat.zero_add]), trivial⟩) (by omega) ?_
  have hN := alN_le T t (R i).b (R i).a
  have hH := loH 9 (by omega) t s i i T R (fun _ => []) (fun _ => []) [] [] []
  simp only [rowsO_el, Nat.zero_add, rowsE_el] at hH
  refine goes_postG (hH ht (fun j hj => RowGe_refl _ rfl) hF (fun j hj u hu => List.all_eq_true.1 (elR_low 0 _) u hu) (fun j hj o v hv => str_inS hv) (Nat.le_refl _) (by omega) (by omega) (fun j hj o v hv => ?_) (by omega) (by omega) (fun j hj o v hv => ?_)) fun e fr' H' h => ?_
  ·by_cases c : j < 1
   ·rw [decide_eq_true c, cond_true] at hv; exact str_inS hv
   ·rw [decide_eq_false c, cond_false] at hv
    cases q : Nat.beq (alN T t (R i).b (R i).a) 1 with
    | true => rw [q, cond_true] at hv; exact str_inS hv
    | false => rw [q, cond_false] at hv; exact str_inS hv
  ·by_cases c : j < i
   ·rw [decide_eq_true c, cond_true] at hv
    rw [List.mem_singleton.1 (List.mem_of_getElem? hv)]; trivial
   ·rw [decide_eq_false c, cond_false] at hv
    rw [List.mem_singleton.1 (List.mem_of_getElem? hv)]
    show inR _ 15 = true
    rfl
  ·obtain ⟨rfl, rfl, rfl⟩ := h
   refine ⟨[(3, sL 17 (i + 1)), (4, sL 10 t), (15, sL 11 s), (16, iT (s : Int)), (17, iT (i : Int))], [(17, .cells true 1 (i + 1) (.fn fun _ => [.any1])), (10, .cells true 8 t (.fn fun j => elR (T j))), (11, .cells true 8 s (.fn fun j => elR (R j)))], (eGg rfl), ⟨⟨_, rfl, rfl, rfl, rfl, fun j hj => ?_⟩, ⟨_, rfl, rfl, rfl, rfl, fun j _ => RowGe_refl _ rfl⟩, ⟨_, rfl, rfl, rfl, rfl, fun j _ => RowGe_refl _ rfl⟩, trivial⟩, rfl, rfl, rfl⟩
   show RowGe (bif decide (j < i) then [AV.any1] else [sL 15 (1 + alN T t (R i).b (R i).a)]) [AV.any1]
   by_cases c : j < i
   ·rw [decide_eq_true c, cond_true]; exact RowGe_refl _ rfl
   ·rw [decide_eq_false c, cond_false]; exact ⟨ge_any1 rfl, rfl, trivial⟩
 exact h1.renG fun e fr' H' h => by
  obtain ⟨rfl, rfl, rfl⟩ := h
  exact ⟨sg 9 17, [(3, sL 9 (i + 1)), (4, sL 10 t), (15, sL 11 s), (16, iT (s : Int)), (17, iT (i : Int))], [(9, .cells true 1 (i + 1) (.fn fun _ => [.any1])), (10, .cells true 8 t (.fn fun j => elR (T j))), (11, .cells true 8 s (.fn fun j => elR (R j)))], sg_low (by omega), (eRr rfl), ⟨rgR rfl rfl (fun j _ => rfl) (fun j _ => rfl) (by omega), rgR rfl rfl (fun j _ => rfl) (fun j _ => rfl) (by omega), rgR rfl rfl (fun j _ => rfl) (fun j _ => rfl) (by omega), trivial⟩, sg_inj (by omega), rfl, rfl, rfl⟩
noncomputable abbrev ZBy := nav [1,1,1,1,0,1,0,0] (bodyOf Try.f19)
theorem lo_body : ZBy = .seq (nav [1,1,1,1,0,1,0,0,0] (bodyOf Try.f19)) (.seq (nav [1,1,1,1,0,1,0,0,1,0] (bodyOf Try.f19)) (.seq (.block 1 (.seq ZBQ ZBR)) (nav [1,1,1,1,0,1,0,0,1,1,1] (bodyOf Try.f19)))) := by kernel_rfl
theorem lo_is : (bodyOf Try.f19) = .seq (nav [0] (bodyOf Try.f19)) (.seq (nav [1,0] (bodyOf Try.f19)) (.seq (nav [1,1,0] (bodyOf Try.f19)) (.seq (nav [1,1,1,0] (bodyOf Try.f19)) (.seq (.seq (nav [1,1,1,1,0,0] (bodyOf Try.f19)) (.block 0 (.loop ZBy))) (nav [1,1,1,1,1] (bodyOf Try.f19)))))) := by kernel_rfl
theorem lo_step (t s i : Nat) (T R : tE) (ht : t ≤ 256) (hs : s ≤ 256) (hF : ∃ cl : Nat → Tx → Nat, Forest (edT T t) cl) (hi : i < s) :
  GoesB Try.prog ZBy Try.f19.ntmps 9 12 12 (frL (Z7 i t s)) (ZEJ i t T s R) (Nm [(3, sL 9 (i + 1)), (4, sL 10 t), (15, sL 11 s), (16, iT (s : Int)), (17, ZCR i)] [(9, ZCZ i), (10, ZG t T), (11, ZG s R)]) := by
 rw [lo_body]
 refine GoesB.seqN (K1 := 12) (loF 9 (by omega) t s i i T R (fun _ => []) (fun _ => []) [] [] []) (by omega) ?_
 refine GoesB.seqN (K1 := 12) (F1 := (Z7 i t s)) (H1 := [(9, ZBK i), (10, ZG t T), (11, ZG s R)]) ((loX 9 (by omega) t s i i T R (fun _ => []) (fun _ => []) [] [] [] (decide ((i : Int) < (s : Int)))).mono fun e fr' H' h => ?_) (by omega) ?_
 ·rw [decide_eq_true (by omega), cond_true] at h
  exact h
 refine GoesB.seqN (K1 := 12) (lo_blk t s i T R ht hs hF hi) (by omega) ?_
 exact GoesB.toN (loJ 9 (by omega) t s i (i + 1) T R (fun _ => []) (fun _ => []) [] [] [] (by omega)) ⟨re rfl, re rfl, re rfl, re rfl, ⟨_, rfl, AV.ge.int' _ _ _ (by omega)⟩, trivial⟩ (eHh rfl)
noncomputable abbrev ZB4 (v0 v1 : Nat) := ([(3, sL 9 v0), (4, sL 10 v1), (15, sL 11 v0), (16, iT (v0 : Int)), (17, iT (v0 : Int))] : tF)
theorem lo_end (t s : Nat) (T R : tE) :
  GoesB Try.prog ZBy Try.f19.ntmps 9 12 12 (frL (ZB4 s t)) (hpL [(9, ZBK s), (10, ZG t T), (11, ZG s R)]) (Xm 0 (ZB4 s t) [(9, ZBK s), (10, ZG t T), (11, ZG s R)]) := by
 rw [lo_body]
 refine GoesB.seqN (K1 := 12) (loF 9 (by omega) t s s s T R (fun _ => []) (fun _ => []) [] [] []) (by omega) ?_
 refine GoesB.seqX (K1 := 12) ((loX 9 (by omega) t s s s T R (fun _ => []) (fun _ => []) [] [] [] (decide ((s : Int) < (s : Int)))).mono fun e fr' H' h => ?_) (by omega)
 rw [decide_eq_false (by omega), cond_false] at h
 exact h
noncomputable abbrev Zm (v0 : tE) (v1 : Nat) (w0) := sL w0 (treeL v0 v1).length
noncomputable abbrev Zq (v0 : tE) (v1 : Nat) := (.cells true 8 (treeL v0 v1).length (.fn fun j => elR (eget (treeL v0 v1) j)) : ABk)
noncomputable abbrev ZBG (v0 : tE) (v1 : Nat) := (.cells true 8 (restL v0 v1).length (.fn fun j => elR (eget (restL v0 v1) j)) : ABk)
noncomputable abbrev ZBI (v0 : tE) (v1 : Nat) (w0) := sL w0 (restL v0 v1).length
noncomputable abbrev ZCW (v0 : tE) (v1 : Nat) := iT ((restL v0 v1).length : Int)
noncomputable abbrev ZEc (v0 : tE) (v1 : Nat) := ([(9, .cells true 1 (restL v0 v1).length (.fn fun _ => [.any1])), (2, ZC v1 v0), (3, ZK v0 v1), (4, ZL v0 v1), (5, ZM v0 v1), (6, ZB v1 v0), (7, ZD v0 v1), (8, ZE v0 v1)] : tH)
theorem lo_goes (n : Nat) (E : tE) (hn : n ≤ 256) :
  GoesB Try.prog (bodyOf Try.f19) Try.f19.ntmps 9 9 12 ZDx (hpL (ZDG n E)) (fun e fr' H' => e = .ret ∧ fr' = frL [(2, ZBI E n 9)] ∧ H' = hpL (ZEc E n)) := by
 have hq := net_q n E hn
 have lT : (treeL E n).length ≤ n := by rw [treeL_is]; exact spT_len _ E n
 have lR : (restL E n).length ≤ n := by rw [restL_is]; exact spR_len _ E n
 have hF : ∃ cl : Nat → Tx → Nat, Forest (edT (eget (treeL E n)) (treeL E n).length) cl := by rw [treeL_is]; exact tree_forest _ E n
 rw [lo_is]
 refine GoesB.seqN (K1 := 9) (loA 9 (by omega) n (ND E n).length (BR E n).length E (lget (ND E n)) (lget (BR E n)) (zipF 0 (NM E n)) (zipF 0 (ND E n)) (zipF 0 (BR E n))) (by omega) ?_
 refine GoesB.seqN (K1 := 9) (F1 := [(0, ZA 2)]) (H1 := (ZDG n E)) (GoesB.toN (loB 9 (by omega) n (ND E n).length (BR E n).length E (lget (ND E n)) (lget (BR E n)) (zipF 0 (NM E n)) (zipF 0 (ND E n)) (zipF 0 (BR E n)) hq) ⟨re rfl, trivial⟩ (eHh rfl)) (by omega) ?_
 refine GoesB.seqN (K1 := 9) (loC 9 (by omega) n (ND E n).length (BR E n).length E (lget (ND E n)) (lget (BR E n)) (zipF 0 (NM E n)) (zipF 0 (ND E n)) (zipF 0 (BR E n))) (by omega) ?_
 refine GoesB.phantom 3 1 (fun _ => [.any1]) rfl (by omega) (by omega) ?_
 refine GoesB.weakL (fl := [(0, ZA 2), (3, sL 9 0)]) (bl := [(2, ZC n E), (3, ZK E n), (4, ZL E n), (5, ZM E n), (6, ZB n E), (7, ZD E n), (8, ZE E n), (9, .cells true 1 0 (.fn fun _ => [.any1]))]) (eGg rfl) (eHh rfl) ?_
 refine GoesB.seqN (K1 := 12) (F1 := [(3, sL 9 0), (4, Zm E n 10), (5, ZBI E n 11)]) (H1 := [(9, .cells true 1 0 (.fn fun _ => [.any1])), (10, Zq E n), (11, ZBG E n), (2, ZC n E), (3, ZK E n), (4, ZL E n), (5, ZM E n), (6, ZB n E), (7, ZD E n), (8, ZE E n)]) (GoesB.toN (loD 9 (by omega) n (ND E n).length (BR E n).length E (lget (ND E n)) (lget (BR E n)) (zipF 0 (NM E n)) (zipF 0 (ND E n)) (zipF 0 (BR E n)) hq) (eGg rfl) (eHh rfl)) (by omega) ?_
 refine GoesB.seqN (K1 := 12) (F1 := [(3, ZBI E n 9), (4, Zm E n 10), (15, ZBI E n 11), (16, ZCW E n), (17, ZCW E n)]) (H1 := [(9, .cells true 1 (restL E n).length (.fn fun _ => [.any1])), (10, Zq E n), (11, ZBG E n), (2, ZC n E), (3, ZK E n), (4, ZL E n), (5, ZM E n), (6, ZB n E), (7, ZD E n), (8, ZE E n)]) ?_ (by omega) ?_
 ·have hr := GoesB.rounds (P := Try.prog) (n := Try.f19.ntmps) (B := 9) (K := 12) (id := 0) (restL E n).length (fun i => [(3, sL 9 i), (4, Zm E n 10), (15, ZBI E n 11), (16, ZCW E n), (17, iT ((i : Nat) : Int))]) (fun i => [(9, .cells true 1 i (.fn fun _ => [.any1])), (10, Zq E n), (11, ZBG E n)]) (fun i hi => lo_step (treeL E n).length (restL E n).length i (eget (treeL E n)) (eget (restL E n)) (by omega) (by omega) hF hi) (lo_end (treeL E n).length (restL E n).length (eget (treeL E n)) (eget (restL E n)))
  exact (GoesB.seqN (K1 := 12) (F1 := [(3, sL 9 0), (4, Zm E n 10), (15, ZBI E n 11), (16, ZCW E n), (17, ZBn)]) (H1 := [(9, .cells true 1 0 (.fn fun _ => [.any1])), (10, Zq E n), (11, ZBG E n)]) (GoesB.toN (loE 9 (by omega) (treeL E n).length (restL E n).length 0 (eget (treeL E n)) (eget (restL E n)) (fun _ => []) (fun _ => []) [] [] []) ⟨re rfl, re rfl, re rfl, re rfl, ⟨_, rfl, AV.ge.int _ _ _ _⟩, trivial⟩ (eHh rfl)) (by omega) hr).frameN (xl := (ZDG n E)) (by omega) ⟨⟨by omega, fun j hj v hv => List.all_eq_true.1 (show (netR 6 7 8 n (ND E n).length (BR E n).length).all (fun v => v.low 9) = true from rfl) v hv⟩, ⟨by omega, trivial⟩, ⟨by omega, trivial⟩, ⟨by omega, trivial⟩, ⟨by omega, fun j hj v hv => List.all_eq_true.1 (show (elR (E j)).all (fun v => v.low 9) = true from rfl) v hv⟩, ⟨by omega, fun j hj v hv => List.all_eq_true.1 (show (txR (lget (ND E n)) j).all (fun v => v.low 9) = true from rfl) v hv⟩, ⟨by omega, fun j hj v hv => List.all_eq_true.1 (show (txR (lget (BR E n)) j).all (fun v => v.low 9) = true from rfl) v hv⟩, trivial⟩ rfl rfl ⟨.inl rfl, .inl rfl, .inl rfl, trivial⟩
 ·refine GoesB.weakL (fl := [(3, ZBI E n 9)]) (bl := (ZEc E n)) ⟨re rfl, trivial⟩ (eHh rfl) ?_
  exact (loI 9 (by omega) (restL E n).length (fun _ => []) (fun _ => []) [] [] []).frameL (xl := (ZDG n E)) (by omega) ⟨⟨by omega, fun j hj v hv => List.all_eq_true.1 (show (netR 6 7 8 n (ND E n).length (BR E n).length).all (fun v => v.low 9) = true from rfl) v hv⟩, ⟨by omega, trivial⟩, ⟨by omega, trivial⟩, ⟨by omega, trivial⟩, ⟨by omega, fun j hj v hv => List.all_eq_true.1 (show (elR (E j)).all (fun v => v.low 9) = true from rfl) v hv⟩, ⟨by omega, fun j hj v hv => List.all_eq_true.1 (show (txR (lget (ND E n)) j).all (fun v => v.low 9) = true from rfl) v hv⟩, ⟨by omega, fun j hj v hv => List.all_eq_true.1 (show (txR (lget (BR E n)) j).all (fun v => v.low 9) = true from rfl) v hv⟩, trivial⟩ rfl (fun e fr' H0' h => by
   obtain ⟨rfl, rfl, rfl⟩ := h
   exact ⟨_, rfl, rfl, ⟨.inl rfl, trivial⟩, rfl, rfl, rfl⟩)


noncomputable def loNew (b : List El) : M Nat := M.newB (.cells true 1 b.length (.fn fun _ => [.any1]))
theorem loNew_done {b : List El} {N : Nat} {g g' : G} (h : loNew b g = .done N g') : N = g.nx ∧ g'.H = putNew g.H g.nx [.cells true 1 b.length (.fn fun _ => [.any1])] ∧ g'.nx = g.nx + 1 ∧ g'.cs = g.cs := by
 cases h
 exact ⟨rfl, rfl, rfl, rfl⟩
noncomputable def loopsS : List AV → M AV
 | [.ptr aN] => (M.okIf (flat0 aN)).andThen fun _ => (netRd aN.g).andThen fun y => (M.setB y.1.m1 (.mSI true (zipF 0 (NM y.2 y.1.n)))).andThen fun _ => (M.setB y.1.m2 (.mSI true (zipF 0 (ND y.2 y.1.n)))).andThen fun _ => (M.setB y.1.m3 (.mSI true (zipF 0 (BR y.2 y.1.n)))).andThen fun _ => (loNew (restL y.2 y.1.n)).andThen fun N => M.ret (.slc true true ⟨false, N, 0, 0⟩ (restL y.2 y.1.n).length)
 | _ => M.no
theorem loopsS_tch : ∀ args, Tch (loopsS args) := by
 intro args
 unfold loopsS
 split
 ·exact (Tch.okIf _).andThen fun _ => (Tch_netRd _).andThen fun _ => (Tch.setB _ _).andThen fun _ => (Tch.setB _ _).andThen fun _ => (Tch.setB _ _).andThen fun _ => (Tch.newB _).andThen fun _ => Tch.ret _
 ·exact Tch.no
theorem loopsS_ok : ∀ args v g g', loopsS args g = .done v g' → CallIs Try.prog 19 args v g g' := by
 intro args v g g' h
 unfold loopsS at h
 split at h
 case h_2 => exact (no_done h).elim
 rename_i aN
 obtain ⟨_, g1, a1, h⟩ := done_of h
 obtain ⟨q0, rfl⟩ := okIf_done a1
 have q0 := flat0_is q0
 obtain ⟨⟨w, E⟩, g3, a3, h⟩ := done_of h
 obtain ⟨qf, kk, ff⟩ := netRd_done a3
 dsimp only at h ff
 obtain ⟨_, g6, a6, h⟩ := done_of h
 obtain ⟨_, g7, a7, h⟩ := done_of h
 obtain ⟨_, g8, a8, h⟩ := done_of h
 obtain ⟨b1, b2, b3⟩ := setB_done a6
 obtain ⟨b4, b5, b6⟩ := setB_done a7
 obtain ⟨b7, b8, b9⟩ := setB_done a8
 have hx : g8.nx = g.nx := by rw [b8, b5, b2, kk.2.1]
 obtain ⟨N, g9, a9, h⟩ := done_of h
 obtain ⟨e1, e2, e3, e4⟩ := loNew_done a9
 obtain ⟨rfl, rfl⟩ := ret_done h
 refine netCall (K' := 12) (c := (bodyOf Try.f19)) Try.func19 (by kernel_rfl) (by kernel_rfl) (argsC := [ZA 2]) (fun hc => kk.2.2 (by rw [← b3, ← b6, ← b9, ← e4]; exact hc)) (N := aN.g) (w := w) (E := E) (fun hp => ff hp) (xl := []) (rx := fun _ => 0) (K0 := 9) (Nat.le_refl _) (fun hp M μ cs hr => ?_) (fun hp i b hb => by cases hb) (fun hp i j b b' hi => by cases hi) (bs := [.cells true 1 (restL E w.n).length (.fn fun _ => [.any1])]) (nms := [9]) rfl (by decide) (by decide) (by rw [e2, b7, b4, b1, kk.1, hx]; rfl) (by rw [e3, hx]; rfl) (fun b hb => by
   rw [List.mem_singleton.1 hb]
   exact ⟨rfl, fun i hi v hv => by rw [List.mem_singleton.1 hv]; rfl, fun i hi o v hv => by
    rw [List.mem_singleton.1 (List.mem_of_getElem? hv)]; trivial⟩) (by rw [e1, hx]; exact Nat.ble_eq_true_of_le (show Nat.succ g.nx ≤ g.nx + 1 by omega)) (by rw [e1, hx]; exact ⟨by show g.nx ≤ g.nx; omega, by show g.nx < g.nx + 1; omega⟩) (fun hp kN => ?_)
 ·simp only [Reps] at hr ⊢
  obtain ⟨c1, l1, rfl, h1, rfl⟩ := hr
  exact ⟨c1, _, rfl, rep_ptr0 h1 q0.1 q0.2 (by omega) rfl, rfl⟩
 have F := ff hp
 rw [List.append_nil, netBL_is F]
 have k0 : kaG w g.nx [9] g.nx = 9 := kN 0 (by simp)
 refine (lo_goes w.n E F.n256).mono fun e fr' H' h => ?_
 obtain ⟨rfl, rfl, rfl⟩ := h
 refine ⟨.inl rfl, _, _, res1 (t := 2) (by kernel_rfl) rfl, trivial, ?_, ⟨rfl, rfl, rfl⟩, fun j b hb => ?_⟩
 ·simp only [AV.ren, AA.ren, e1, hx, k0]
  exact AV.ge.refl _
 ·match j, hb with
  | 0, hb => cases hb; exact ⟨_, rfl, rfl, rfl, rfl, fun j hj => rfl⟩

noncomputable def gamZ : Known := kc 71 ofBits (kc 74 toBits (kc 72 smallS (kc 61 kindS (kc 58 rowOfS (kc 73 ofS (kc 59 nameS (kc 60 nodeS (kc 35 chkS (kc 12 netofS (kc 29 elsS (kc 46 alongS (kc 44 rootS (kc 41 joinS (kc 39 noneS (kc 40 ogS (kc 15 voltS (kc 45 splitS (kc 19 loopsS (kn)))))))))))))))))))
theorem gamZ_ok : KnownOk Try.prog gamZ := kc_ok ((ofBits_is Try.prog).callIs Try.func71 (by kernel_rfl) (by kernel_rfl) (by kernel_rfl) (by kernel_rfl)) (kc_ok ((toBits_is Try.prog).callIs Try.func74 (by kernel_rfl) (by kernel_rfl) (by kernel_rfl) (by kernel_rfl)) (kc_ok smallS_ok (kc_ok kindS_ok (kc_ok rowOfS_ok (kc_ok ofS_ok (kc_ok nameS_ok (kc_ok nodeS_ok (kc_ok chkS_ok (kc_ok netofS_ok (kc_ok elsS_ok (kc_ok alongS_ok (kc_ok rootS_ok (kc_ok joinS_ok (kc_ok noneS_ok (kc_ok ogS_ok (kc_ok voltS_ok (kc_ok splitS_ok (kc_ok loopsS_ok (kn_ok)))))))))))))))))))
theorem gamZ_tch : KnownT gamZ := kc_tch Tch.ofBits (kc_tch Tch.toBits (kc_tch smallS_tch (kc_tch kindS_tch (kc_tch rowOfS_tch (kc_tch ofS_tch (kc_tch nameS_tch (kc_tch nodeS_tch (kc_tch chkS_tch (kc_tch netofS_tch (kc_tch elsS_tch (kc_tch alongS_tch (kc_tch rootS_tch (kc_tch joinS_tch (kc_tch noneS_tch (kc_tch ogS_tch (kc_tch voltS_tch (kc_tch splitS_tch (kc_tch loopsS_tch (kn_tch)))))))))))))))))))
noncomputable def callZ : Calls' := Sx.runN Try.prog gamZ (regionC Try.prog) 1000 50
theorem callZ_ok : CallOk Try.prog callZ := engineC gamZ_ok gamZ_tch (by kernel_rfl) (by kernel_rfl) 1000 50
theorem callZ_reg (n : Nat) : RegionOk Try.prog (regionC Try.prog callZ n) n := runN_regionC gamZ_ok gamZ_tch (by kernel_rfl) (by kernel_rfl) 1000 50 n
noncomputable abbrev piececallZ (f : Func) (c : Code) (fr : Fr) (H : T ABk) (K : Nat) (path : List Bool) : Res (Ex × Fr) :=
 codeA Try.prog callZ (regionC Try.prog callZ f.ntmps) noLoops f.ntmps 1000 c fr ⟨H, K, [], path, True⟩


theorem rcZ {fn : Func} {K K' B : Nat} {e : Ex} {F : tF} {Hl : tH} {c : Code} {fr : Fr} {H : T ABk} {path : List Bool} (h : PieceN K' e F Hl (piececallZ fn c fr H K path)) (hB : B ≤ K) : GoesB Try.prog c fn.ntmps B K K' fr H fun e' fr' H' => e' = e ∧ fr' = frL F ∧ H' = hpL Hl := GoesB.runN callZ_ok (callZ_reg _) (LoopsIn.none _ _ _) h hB
theorem rdZ {fn : Func} {K K' B : Nat} {e : Ex} {F : tF} {Hl : tH} {c : Code} {fr : Fr} {H : T ABk} (path : List Bool) {q : Prop} (hq : q) (hB : B ≤ K) (h : pieceN K' e F Hl (piececallZ fn c fr H K path) = (e = e ∧ selfW F ∧ selfH Hl ∧ true = true ∧ q) := by kernel_rfl) : GoesB Try.prog c fn.ntmps B K K' fr H fun e' fr' H' => e' = e ∧ fr' = frL F ∧ H' = hpL Hl := rcZ (eqn h hq) hB
theorem awake_run : pureP (.bool true) (call0 9 [] (G.on [])) = (AV.bool true = AV.bool true ∧ True) := by kernel_rfl
noncomputable def awakeS : List AV → M AV
 | [] => M.ret (.bool true)
 | args => call0 9 args
theorem awakeS_ok : ∀ args v g g', awakeS args g = .done v g' → CallIs Try.prog 9 args v g g' := by
 intro args v g g' h
 unfold awakeS at h
 split at h
 ·obtain ⟨rfl, rfl⟩ := ret_done h
  refine scal call0_ok fun μ cargs ha => ?_
  have ha' : Reps 0 MM.none [] cargs.toList := by simpa only [Reps] using ha
  exact ⟨[], [], _, ha', ⟨by rw [awake_run]; exact ⟨rfl, trivial⟩⟩, rfl, fun c hc => by have := hc g.nx μ; simpa only [Rep] using this⟩
 ·exact call0_ok _ _ _ _ _ h
theorem awakeS_tch : ∀ args, Tch (awakeS args) := by
 intro args
 unfold awakeS
 split
 ·exact Tch.ret _
 ·exact call0_tch _ _


theorem trA (B : Nat) (hB : B ≤ 9) (n q r : Nat) (E : tE) (h : Nat → List UInt8) (nd br : Nat → List UInt8) (M1 M2 M3 : List (List UInt8 × Int)) : GoesB Try.prog ((nav [0] (bodyOf Try.f18))) Try.f18.ntmps B 9 9 ZDx (ZDH n q r M1 M2 M3 E nd br) (ZDf n q r M1 M2 M3 E nd br) := rdZ [] trivial hB
theorem trB (B : Nat) (hB : B ≤ 9) (n q r : Nat) (E : tE) (h : Nat → List UInt8) (nd br : Nat → List UInt8) (M1 M2 M3 : List (List UInt8 × Int)) (x0 : (NetQ n q r n q r M1 M2 M3 (Cont.row (.fn fun j => elR (E j))) (Cont.row (.fn (txR nd))) (Cont.row (.fn (txR br))))) : GoesB Try.prog ((nav [1,0] (bodyOf Try.f18))) Try.f18.ntmps B 9 9 (ZDy 0 2) (ZDH n q r M1 M2 M3 E nd br) (ZD7 n q r E nd br) := rdZ [] (I1 x0) hB
theorem trC (B : Nat) (hB : B ≤ 9) (n q r : Nat) (E : tE) (h : Nat → List UInt8) (nd br : Nat → List UInt8) (M1 M2 M3 : List (List UInt8 × Int)) : GoesB Try.prog ((nav [1,1,0] (bodyOf Try.f18))) Try.f18.ntmps B 9 9 (ZDy 0 2) (ZDH n q r M1 M2 M3 E nd br) (pP .normal [(0, ZA 2), (3, .nils)] [(2, ZX n q r), (3, Zd M1), (4, Zd M2), (5, Zd M3), (6, ZQ n E), (7, ZI q nd), (8, ZI r br)]) := rdZ [] trivial hB
theorem trD (B : Nat) (hB : B ≤ 10) (n q r : Nat) (E : tE) (h : Nat → List UInt8) (nd br : Nat → List UInt8) (M1 M2 M3 : List (List UInt8 × Int)) (x0 : (NetQ n q r n q r M1 M2 M3 (Cont.row (.fn fun j => elR (E j))) (Cont.row (.fn (txR nd))) (Cont.row (.fn (txR br))))) : GoesB Try.prog ((nav [1,1,1,0] (bodyOf Try.f18))) Try.f18.ntmps B 10 12 (frL [(0, ZA 2), (3, sL 9 0)]) (hpL [(2, ZY n q r), (3, .mSI true M1), (4, .mSI true M2), (5, .mSI true M3), (6, ZB n E), (7, ZI q nd), (8, ZI r br), (9, .cells true 1 0 (.fn (txR h)))]) (pP .normal [(3, sL 9 0), (4, ZCI E n 10)] [(2, ZX n q r), (3, Zx E n), (4, Zy E n), (5, Zz E n), (6, ZQ n E), (7, ZI q nd), (8, ZI r br), (9, .cells true 1 0 (.fn (txR h))), (10, ZBb E n)]) := rdZ [] (I1 x0) hB
theorem trE (B : Nat) (hB : B ≤ 11) (t k : Nat) (T : tE) (h : Nat → List UInt8) (nd br : Nat → List UInt8) (M1 M2 M3 : List (List UInt8 × Int)) : GoesB Try.prog ((nav [1,1,1,1,0,0] (bodyOf Try.f18))) Try.f18.ntmps B 11 11 (frL [(3, sL 9 k), (4, sL 10 t)]) (hpL [(9, ZP k h), (10, ZG t T)]) (pP .normal [(3, sL 9 k), (15, sL 10 t), (16, iT (↑t : Int)), (17, Zc)] [(9, ZP k h), (10, ZN t T)]) := rdZ [] trivial hB
noncomputable abbrev ZDC (v0 v1 v2 : Nat) := frL [(3, sL 9 v0), (15, sL 10 v1), (16, iT (v1 : Int)), (17, iT (v2 : Int))]
theorem trF (B : Nat) (hB : B ≤ 11) (t i k : Nat) (T : tE) (h : Nat → List UInt8) (nd br : Nat → List UInt8) (M1 M2 M3 : List (List UInt8 × Int)) : GoesB Try.prog ((nav [1,1,1,1,0,1,0,0,0] (bodyOf Try.f18))) Try.f18.ntmps B 11 11 (ZDC k t i) (hpL [(9, ZP k h), (10, ZG t T)]) (pP .normal [(3, sL 9 k), (15, sL 10 t), (16, iT (↑t : Int)), (17, iT (↑i : Int)), (18, .sbool (decide ((↑i : Int) < (↑t : Int))))] [(9, ZP k h), (10, ZN t T)]) := rdZ [] trivial hB
theorem trX (B : Nat) (hB : B ≤ 11) (t i k : Nat) (T : tE) (h : Nat → List UInt8) (nd br : Nat → List UInt8) (M1 M2 M3 : List (List UInt8 × Int)) (b : Bool) : GoesB Try.prog ((nav [1,1,1,1,0,1,0,0,1,0] (bodyOf Try.f18))) Try.f18.ntmps B 11 11 (frL [(3, sL 9 k), (15, sL 10 t), (16, iT (t : Int)), (17, iT (i : Int)), (18, .sbool b)]) (hpL [(9, ZP k h), (10, ZG t T)]) fun e fr' H' => (cond (b) (pP .normal [(3, sL 9 k), (15, sL 10 t), (16, iT (↑t : Int)), (17, iT (↑i : Int))] [(9, ZP k h), (10, ZN t T)] e fr' H') (pP (.exit 0) [(3, sL 9 k), (15, sL 10 t), (16, iT (↑t : Int)), (17, iT (↑i : Int))] [(9, ZP k h), (10, ZN t T)] e fr' H')) := cI (fun t0 => rdZ [tT] (I1 t0) hB) (fun t0 => rdZ [fF] (I1 t0) hB)
noncomputable abbrev ZCM := nav [1,1,1,1,0,1,0,0,1,1,0,0,0] (bodyOf Try.f18)
theorem trG (B : Nat) (hB : B ≤ 11) (t i k : Nat) (T : tE) (h : Nat → List UInt8) (nd br : Nat → List UInt8) (M1 M2 M3 : List (List UInt8 × Int)) (x0 : ((↑i : Int) < (↑t : Int))) (x1 : (0 + i < t)) : GoesB Try.prog (ZCM) Try.f18.ntmps B 11 12 (ZDC k t i) (hpL [(9, ZP k h), (10, ZG t T)]) (pP .normal [(3, sL 9 k), (15, sL 10 t), (16, iT (↑t : Int)), (17, iT (↑i : Int)), (7, ZA 11)] [(9, ZP k h), (10, ZN t T), (11, ZBJ T i)]) := rdZ [] (I3 (ai (show 0 ≤ (↑i : Int) by omega) x0) x1 (show 8 ≤ 8 by omega)) hB
noncomputable abbrev ZCN := nav [1,1,1,1,0,1,0,0,1,1,0,0,1] (bodyOf Try.f18)
theorem trH (B : Nat) (hB : B ≤ 12) (t i k : Nat) (T : tE) (h : Nat → List UInt8) (nd br : Nat → List UInt8) (M1 M2 M3 : List (List UInt8 × Int)) (x0 : ((k + 1) * 16 ≤ 140737488355328)) (x1 : (k + 1 ≤ 9223372036854775807)) : GoesB Try.prog (ZCN) Try.f18.ntmps B 12 14 (frL [(3, sL 9 k), (15, sL 10 t), (16, iT (t : Int)), (17, iT (i : Int)), (7, ZA 11)]) (hpL [(9, ZP k h), (10, ZG t T), (11, Zg T i)]) (pP .normal [(3, sL 13 (k + 1)), (15, sL 10 t), (16, iT (↑t : Int)), (17, iT (↑i : Int))] [(10, ZN t T), (13, .cells true 1 (k + 1) (.fn fun j => bif decide (j < k) then (txR h j) else [.str true (El.n (T i))]))]) := rdZ [] (I1 (ai (show k ≤ k by omega) (ai x0 x1))) hB
theorem trJ (B : Nat) (hB : B ≤ 11) (t i k : Nat) (T : tE) (h : Nat → List UInt8) (nd br : Nat → List UInt8) (M1 M2 M3 : List (List UInt8 × Int)) (x0 : ((↑i : Int) + 1 ≤ (9223372036854775807 : Int))) : GoesB Try.prog ((nav [1,1,1,1,0,1,0,0,1,1,1] (bodyOf Try.f18))) Try.f18.ntmps B 11 11 (ZDC k t i) (hpL [(9, ZP k h), (10, ZG t T)]) (pP .normal [(3, sL 9 k), (15, sL 10 t), (16, iT (↑t : Int)), (17, ZBw i)] [(9, ZP k h), (10, ZN t T)]) := rdZ [] (I1 (ai (show -9223372036854775808 ≤ (↑i : Int) + 1 by omega) x0)) hB
theorem trI (B : Nat) (hB : B ≤ 11) (k : Nat) (h : Nat → List UInt8) (nd br : Nat → List UInt8) (M1 M2 M3 : List (List UInt8 × Int)) : GoesB Try.prog ((nav [1,1,1,1,1] (bodyOf Try.f18))) Try.f18.ntmps B 11 11 (frL [(3, sL 9 k)]) (hpL [(9, ZP k h)]) (pP .ret [(2, sL 9 k)] [(9, ZP k h)]) := rdZ [] trivial hB
/-- the names of elements -/
def nmT (T : tE) (j : Nat) : Tx := (T j).n
noncomputable abbrev ZCQ (v0 v1 : Nat) := ([(3, sL 9 v0), (15, sL 10 v1), (16, iT (v1 : Int)), (17, iT (v0 : Int))] : tF)
noncomputable abbrev ZCb (v0 : Nat) (v1 : tE) := (.cells true 1 v0 (.fn (txR (nmT v1))) : ABk)
theorem tr_blk (t i : Nat) (T : tE) (ht : t ≤ 1024) (hi : i < t) :
  GoesB Try.prog (.block 1 (.seq ZCM ZCN)) Try.f18.ntmps 9 11 11 (frL (ZCQ i t)) (hpL [(9, ZCb i T), (10, ZG t T)]) (Nm [(3, sL 9 (i + 1)), (15, sL 10 t), (16, iT (t : Int)), (17, iT (i : Int))] [(9, .cells true 1 (i + 1) (.fn (txR (nmT T)))), (10, ZG t T)]) := by
 have h1 : GoesB Try.prog (.block 1 (.seq ZCM ZCN)) Try.f18.ntmps 9 11 14 (frL (ZCQ i t)) (hpL [(9, ZCb i T), (10, ZG t T)]) (Nm [(3, sL 13 (i + 1)), (15, sL 10 t), (16, iT (t : Int)), (17, iT (i : Int))] [(10, ZG t T), (13, .cells true 1 (i + 1) (.fn (txR (nmT T))))]) := by
  refine GoesB.blockN ?_
  refine GoesB.seqN (K1 := 12) (F1 := [(3, sL 9 i), (15, sL 10 t), (16, iT (t : Int)), (17, iT (i : Int)), (7, ZA 11)]) (H1 := [(9, ZCb i T), (10, ZG t T), (11, Zg T i)]) (GoesB.toN (trG 9 (by omega) t i i T (nmT T) (fun _ => []) (fun _ => []) [] [] [] (by omega) (by omega)) (eGg rfl) ⟨hs rfl, hs rfl, wk_hb rfl (by show elR (T (0 + i)) = elR (T i); rw [Nat.zero_add]), trivial⟩) (by omega) ?_
  refine GoesB.toN (trH 9 (by omega) t i i T (nmT T) (fun _ => []) (fun _ => []) [] [] [] (by omega) (by omega)) (eGg rfl) ⟨hs rfl, ⟨_, rfl, rfl, rfl, rfl, fun j hj => ?_⟩, trivial⟩
  show (bif decide (j < i) then [AV.str true (nmT T j)] else [AV.str true (T i).n]) = [AV.str true (nmT T j)]
  by_cases c : j < i
  ·rw [decide_eq_true c, cond_true]
  ·obtain rfl : j = i := by omega
   rw [decide_eq_false c, cond_false]; rfl
 exact h1.renG fun e fr' H' h => by
  obtain ⟨rfl, rfl, rfl⟩ := h
  exact ⟨sg 9 13, [(3, sL 9 (i + 1)), (15, sL 10 t), (16, iT (t : Int)), (17, iT (i : Int))], [(9, .cells true 1 (i + 1) (.fn (txR (nmT T)))), (10, ZG t T)], sg_low (by omega), (eRr rfl), ⟨rgR rfl rfl (fun j _ => rfl) (fun j _ => rfl) (by omega), rgR rfl rfl (fun j _ => rfl) (fun j _ => rfl) (by omega), trivial⟩, sg_inj (by omega), rfl, rfl, rfl⟩
noncomputable abbrev ZCl := nav [1,1,1,1,0,1,0,0] (bodyOf Try.f18)
theorem tr_body : ZCl = .seq (nav [1,1,1,1,0,1,0,0,0] (bodyOf Try.f18)) (.seq (nav [1,1,1,1,0,1,0,0,1,0] (bodyOf Try.f18)) (.seq (.block 1 (.seq ZCM ZCN)) (nav [1,1,1,1,0,1,0,0,1,1,1] (bodyOf Try.f18)))) := by kernel_rfl
theorem tr_is : (bodyOf Try.f18) = .seq (nav [0] (bodyOf Try.f18)) (.seq (nav [1,0] (bodyOf Try.f18)) (.seq (nav [1,1,0] (bodyOf Try.f18)) (.seq (nav [1,1,1,0] (bodyOf Try.f18)) (.seq (.seq (nav [1,1,1,1,0,0] (bodyOf Try.f18)) (.block 0 (.loop ZCl))) (nav [1,1,1,1,1] (bodyOf Try.f18)))))) := by kernel_rfl
theorem tr_step (t i : Nat) (T : tE) (ht : t ≤ 1024) (hi : i < t) :
  GoesB Try.prog ZCl Try.f18.ntmps 9 11 11 (frL (ZCQ i t)) (hpL [(9, ZCb i T), (10, ZG t T)]) (Nm [(3, sL 9 (i + 1)), (15, sL 10 t), (16, iT (t : Int)), (17, ZCR i)] [(9, .cells true 1 (i + 1) (.fn (txR (nmT T)))), (10, ZG t T)]) := by
 rw [tr_body]
 refine GoesB.seqN (K1 := 11) (trF 9 (by omega) t i i T (nmT T) (fun _ => []) (fun _ => []) [] [] []) (by omega) ?_
 refine GoesB.seqN (K1 := 11) (F1 := (ZCQ i t)) (H1 := [(9, ZCb i T), (10, ZG t T)]) ((trX 9 (by omega) t i i T (nmT T) (fun _ => []) (fun _ => []) [] [] [] (decide ((i : Int) < (t : Int)))).mono fun e fr' H' h => ?_) (by omega) ?_
 ·rw [decide_eq_true (by omega), cond_true] at h
  exact h
 refine GoesB.seqN (K1 := 11) (tr_blk t i T ht hi) (by omega) ?_
 exact GoesB.toN (trJ 9 (by omega) t i (i + 1) T (nmT T) (fun _ => []) (fun _ => []) [] [] [] (by omega)) ⟨re rfl, re rfl, re rfl, ⟨_, rfl, AV.ge.int' _ _ _ (by omega)⟩, trivial⟩ (eHh rfl)
theorem tr_end (t : Nat) (T : tE) :
  GoesB Try.prog ZCl Try.f18.ntmps 9 11 11 (frL [(3, sL 9 t), (15, sL 10 t), (16, iT (t : Int)), (17, iT (t : Int))]) (hpL [(9, ZCb t T), (10, ZG t T)]) (Xm 0 [(3, sL 9 t), (15, sL 10 t), (16, iT (t : Int)), (17, iT (t : Int))] [(9, ZCb t T), (10, ZG t T)]) := by
 rw [tr_body]
 refine GoesB.seqN (K1 := 11) (trF 9 (by omega) t t t T (nmT T) (fun _ => []) (fun _ => []) [] [] []) (by omega) ?_
 refine GoesB.seqX (K1 := 11) ((trX 9 (by omega) t t t T (nmT T) (fun _ => []) (fun _ => []) [] [] [] (decide ((t : Int) < (t : Int)))).mono fun e fr' H' h => ?_) (by omega)
 rw [decide_eq_false (by omega), cond_false] at h
 exact h
noncomputable abbrev ZJ (v0 : tE) (v1 : Nat) := (.cells true 1 (treeL v0 v1).length (.fn (txR (nmT (eget (treeL v0 v1))))) : ABk)
noncomputable abbrev ZC3 (v0 : tE) (v1 : Nat) := (.cells true 1 0 (.fn (txR (nmT (eget (treeL v0 v1))))) : ABk)
theorem tr_goes (n : Nat) (E : tE) (hn : n ≤ 256) :
  GoesB Try.prog (bodyOf Try.f18) Try.f18.ntmps 9 9 11 ZDx (hpL (ZDG n E)) (fun e fr' H' => e = .ret ∧ fr' = frL [(2, Zm E n 9)] ∧ H' = hpL [(9, ZJ E n), (2, ZC n E), (3, ZK E n), (4, ZL E n), (5, ZM E n), (6, ZB n E), (7, ZD E n), (8, ZE E n)]) := by
 have hq := net_q n E hn
 have lT : (treeL E n).length ≤ n := by rw [treeL_is]; exact spT_len _ E n
 rw [tr_is]
 refine GoesB.seqN (K1 := 9) (trA 9 (by omega) n (ND E n).length (BR E n).length E (nmT (eget (treeL E n))) (lget (ND E n)) (lget (BR E n)) (zipF 0 (NM E n)) (zipF 0 (ND E n)) (zipF 0 (BR E n))) (by omega) ?_
 refine GoesB.seqN (K1 := 9) (F1 := [(0, ZA 2)]) (H1 := (ZDG n E)) (GoesB.toN (trB 9 (by omega) n (ND E n).length (BR E n).length E (nmT (eget (treeL E n))) (lget (ND E n)) (lget (BR E n)) (zipF 0 (NM E n)) (zipF 0 (ND E n)) (zipF 0 (BR E n)) hq) ⟨re rfl, trivial⟩ (eHh rfl)) (by omega) ?_
 refine GoesB.seqN (K1 := 9) (trC 9 (by omega) n (ND E n).length (BR E n).length E (nmT (eget (treeL E n))) (lget (ND E n)) (lget (BR E n)) (zipF 0 (NM E n)) (zipF 0 (ND E n)) (zipF 0 (BR E n))) (by omega) ?_
 refine GoesB.phantom 3 1 (txR (nmT (eget (treeL E n)))) rfl (by omega) (by omega) ?_
 refine GoesB.weakL (fl := [(0, ZA 2), (3, sL 9 0)]) (bl := [(2, ZC n E), (3, ZK E n), (4, ZL E n), (5, ZM E n), (6, ZB n E), (7, ZD E n), (8, ZE E n), (9, ZC3 E n)]) (eGg rfl) (eHh rfl) ?_
 refine GoesB.seqN (K1 := 11) (F1 := [(3, sL 9 0), (4, Zm E n 10)]) (H1 := [(9, ZC3 E n), (10, Zq E n), (2, ZC n E), (3, ZK E n), (4, ZL E n), (5, ZM E n), (6, ZB n E), (7, ZD E n), (8, ZE E n)]) ((trD 9 (by omega) n (ND E n).length (BR E n).length E (nmT (eget (treeL E n))) (lget (ND E n)) (lget (BR E n)) (zipF 0 (NM E n)) (zipF 0 (ND E n)) (zipF 0 (BR E n)) hq).renG fun e fr' H' h => by
  obtain ⟨rfl, rfl, rfl⟩ := h
  exact ⟨id, [(3, sL 9 0), (4, Zm E n 10)], [(9, ZC3 E n), (10, Zq E n), (2, ZC n E), (3, ZK E n), (4, ZL E n), (5, ZM E n), (6, ZB n E), (7, ZD E n), (8, ZE E n)], fun g hg => rfl, (eRr rfl), ⟨rgR rfl rfl (fun j _ => rfl) (fun j _ => rfl) (by omega), rgR rfl rfl (fun j _ => rfl) (fun j _ => rfl) (by omega), rgR rfl rfl (fun j _ => rfl) (fun j _ => rfl) (by omega), rgM rfl rfl (by omega), rgM rfl rfl (by omega), rgM rfl rfl (by omega), rgR rfl rfl (fun j _ => rfl) (fun j _ => rfl) (by omega), rgR rfl rfl (fun j _ => rfl) (fun j _ => rfl) (by omega), rgR rfl rfl (fun j _ => rfl) (fun j _ => rfl) (by omega), trivial⟩, fun i j _ _ h => h, rfl, rfl, rfl⟩) (by omega) ?_
 refine GoesB.seqN (K1 := 11) (F1 := [(3, Zm E n 9), (15, Zm E n 10), (16, iT ((treeL E n).length : Int)), (17, iT ((treeL E n).length : Int))]) (H1 := [(9, ZJ E n), (10, Zq E n), (2, ZC n E), (3, ZK E n), (4, ZL E n), (5, ZM E n), (6, ZB n E), (7, ZD E n), (8, ZE E n)]) ?_ (by omega) ?_
 ·have hr := GoesB.rounds (P := Try.prog) (n := Try.f18.ntmps) (B := 9) (K := 11) (id := 0) (treeL E n).length (fun i => [(3, sL 9 i), (15, Zm E n 10), (16, iT ((treeL E n).length : Int)), (17, iT (((i : Nat)) : Int))]) (fun i => [(9, .cells true 1 i (.fn (txR (nmT (eget (treeL E n)))))), (10, Zq E n)]) (fun i hi => tr_step (treeL E n).length i (eget (treeL E n)) (by omega) hi) (tr_end (treeL E n).length (eget (treeL E n)))
  exact (GoesB.seqN (K1 := 11) (F1 := [(3, sL 9 0), (15, Zm E n 10), (16, iT ((treeL E n).length : Int)), (17, ZBn)]) (H1 := [(9, ZC3 E n), (10, Zq E n)]) (GoesB.toN (trE 9 (by omega) (treeL E n).length 0 (eget (treeL E n)) (nmT (eget (treeL E n))) (fun _ => []) (fun _ => []) [] [] []) ⟨re rfl, re rfl, re rfl, ⟨_, rfl, AV.ge.int _ _ _ _⟩, trivial⟩ (eHh rfl)) (by omega) hr).frameN (xl := (ZDG n E)) (by omega) ⟨⟨by omega, fun j hj v hv => List.all_eq_true.1 (show (netR 6 7 8 n (ND E n).length (BR E n).length).all (fun v => v.low 9) = true from rfl) v hv⟩, ⟨by omega, trivial⟩, ⟨by omega, trivial⟩, ⟨by omega, trivial⟩, ⟨by omega, fun j hj v hv => List.all_eq_true.1 (show (elR (E j)).all (fun v => v.low 9) = true from rfl) v hv⟩, ⟨by omega, fun j hj v hv => List.all_eq_true.1 (show (txR (lget (ND E n)) j).all (fun v => v.low 9) = true from rfl) v hv⟩, ⟨by omega, fun j hj v hv => List.all_eq_true.1 (show (txR (lget (BR E n)) j).all (fun v => v.low 9) = true from rfl) v hv⟩, trivial⟩ rfl rfl ⟨.inl rfl, .inl rfl, trivial⟩
 ·refine GoesB.weakL (fl := [(3, Zm E n 9)]) (bl := [(9, ZJ E n), (2, ZC n E), (3, ZK E n), (4, ZL E n), (5, ZM E n), (6, ZB n E), (7, ZD E n), (8, ZE E n)]) ⟨re rfl, trivial⟩ (eHh rfl) ?_
  exact (trI 9 (by omega) (treeL E n).length (nmT (eget (treeL E n))) (fun _ => []) (fun _ => []) [] [] []).frameL (xl := (ZDG n E)) (by omega) ⟨⟨by omega, fun j hj v hv => List.all_eq_true.1 (show (netR 6 7 8 n (ND E n).length (BR E n).length).all (fun v => v.low 9) = true from rfl) v hv⟩, ⟨by omega, trivial⟩, ⟨by omega, trivial⟩, ⟨by omega, trivial⟩, ⟨by omega, fun j hj v hv => List.all_eq_true.1 (show (elR (E j)).all (fun v => v.low 9) = true from rfl) v hv⟩, ⟨by omega, fun j hj v hv => List.all_eq_true.1 (show (txR (lget (ND E n)) j).all (fun v => v.low 9) = true from rfl) v hv⟩, ⟨by omega, fun j hj v hv => List.all_eq_true.1 (show (txR (lget (BR E n)) j).all (fun v => v.low 9) = true from rfl) v hv⟩, trivial⟩ rfl (fun e fr' H0' h => by
   obtain ⟨rfl, rfl, rfl⟩ := h
   exact ⟨_, rfl, rfl, ⟨.inl rfl, trivial⟩, rfl, rfl, rfl⟩)


noncomputable def trNew (b : List El) : M Nat := M.newB (.cells true 1 b.length (.fn (txR (nmT (eget b)))))
theorem trNew_done {b : List El} {N : Nat} {g g' : G} (h : trNew b g = .done N g') : N = g.nx ∧ g'.H = putNew g.H g.nx [.cells true 1 b.length (.fn (txR (nmT (eget b))))] ∧ g'.nx = g.nx + 1 ∧ g'.cs = g.cs := by
 cases h
 exact ⟨rfl, rfl, rfl, rfl⟩
noncomputable def treeS : List AV → M AV
 | [.ptr aN] => (M.okIf (flat0 aN)).andThen fun _ => (netRd aN.g).andThen fun y => (M.setB y.1.m1 (.mSI true (zipF 0 (NM y.2 y.1.n)))).andThen fun _ => (M.setB y.1.m2 (.mSI true (zipF 0 (ND y.2 y.1.n)))).andThen fun _ => (M.setB y.1.m3 (.mSI true (zipF 0 (BR y.2 y.1.n)))).andThen fun _ => (trNew (treeL y.2 y.1.n)).andThen fun N => M.ret (.slc true true ⟨false, N, 0, 0⟩ (treeL y.2 y.1.n).length)
 | _ => M.no
theorem treeS_tch : ∀ args, Tch (treeS args) := by
 intro args
 unfold treeS
 split
 ·exact (Tch.okIf _).andThen fun _ => (Tch_netRd _).andThen fun _ => (Tch.setB _ _).andThen fun _ => (Tch.setB _ _).andThen fun _ => (Tch.setB _ _).andThen fun _ => (Tch.newB _).andThen fun _ => Tch.ret _
 ·exact Tch.no
theorem treeS_ok : ∀ args v g g', treeS args g = .done v g' → CallIs Try.prog 18 args v g g' := by
 intro args v g g' h
 unfold treeS at h
 split at h
 case h_2 => exact (no_done h).elim
 rename_i aN
 obtain ⟨_, g1, a1, h⟩ := done_of h
 obtain ⟨q0, rfl⟩ := okIf_done a1
 have q0 := flat0_is q0
 obtain ⟨⟨w, E⟩, g3, a3, h⟩ := done_of h
 obtain ⟨qf, kk, ff⟩ := netRd_done a3
 dsimp only at h ff
 obtain ⟨_, g6, a6, h⟩ := done_of h
 obtain ⟨_, g7, a7, h⟩ := done_of h
 obtain ⟨_, g8, a8, h⟩ := done_of h
 obtain ⟨b1, b2, b3⟩ := setB_done a6
 obtain ⟨b4, b5, b6⟩ := setB_done a7
 obtain ⟨b7, b8, b9⟩ := setB_done a8
 have hx : g8.nx = g.nx := by rw [b8, b5, b2, kk.2.1]
 obtain ⟨N, g9, a9, h⟩ := done_of h
 obtain ⟨e1, e2, e3, e4⟩ := trNew_done a9
 obtain ⟨rfl, rfl⟩ := ret_done h
 refine netCall (K' := 11) (c := (bodyOf Try.f18)) Try.func18 (by kernel_rfl) (by kernel_rfl) (argsC := [ZA 2]) (fun hc => kk.2.2 (by rw [← b3, ← b6, ← b9, ← e4]; exact hc)) (N := aN.g) (w := w) (E := E) (fun hp => ff hp) (xl := []) (rx := fun _ => 0) (K0 := 9) (Nat.le_refl _) (fun hp M μ cs hr => ?_) (fun hp i b hb => by cases hb) (fun hp i j b b' hi => by cases hi) (bs := [.cells true 1 (treeL E w.n).length (.fn (txR (nmT (eget (treeL E w.n)))))]) (nms := [9]) rfl (by decide) (by decide) (by rw [e2, b7, b4, b1, kk.1, hx]; rfl) (by rw [e3, hx]; rfl) (fun b hb => by
   rw [List.mem_singleton.1 hb]
   exact ⟨rfl, fun i hi v hv => by rw [List.mem_singleton.1 hv]; rfl, fun i hi o v hv => by
    rw [List.mem_singleton.1 (List.mem_of_getElem? hv)]; trivial⟩) (by rw [e1, hx]; exact Nat.ble_eq_true_of_le (show Nat.succ g.nx ≤ g.nx + 1 by omega)) (by rw [e1, hx]; exact ⟨by show g.nx ≤ g.nx; omega, by show g.nx < g.nx + 1; omega⟩) (fun hp kN => ?_)
 ·simp only [Reps] at hr ⊢
  obtain ⟨c1, l1, rfl, h1, rfl⟩ := hr
  exact ⟨c1, _, rfl, rep_ptr0 h1 q0.1 q0.2 (by omega) rfl, rfl⟩
 have F := ff hp
 rw [List.append_nil, netBL_is F]
 have k0 : kaG w g.nx [9] g.nx = 9 := kN 0 (by simp)
 refine (tr_goes w.n E F.n256).mono fun e fr' H' h => ?_
 obtain ⟨rfl, rfl, rfl⟩ := h
 refine ⟨.inl rfl, _, _, res1 (t := 2) (by kernel_rfl) rfl, trivial, ?_, ⟨rfl, rfl, rfl⟩, fun j b hb => ?_⟩
 ·simp only [AV.ren, AA.ren, e1, hx, k0]
  exact AV.ge.refl _
 ·match j, hb with
  | 0, hb => cases hb; exact ⟨_, rfl, rfl, rfl, rfl, fun j hj => rfl⟩

noncomputable def gamT : Known := kc 71 ofBits (kc 74 toBits (kc 72 smallS (kc 61 kindS (kc 58 rowOfS (kc 73 ofS (kc 59 nameS (kc 60 nodeS (kc 35 chkS (kc 12 netofS (kc 29 elsS (kc 46 alongS (kc 44 rootS (kc 41 joinS (kc 39 noneS (kc 40 ogS (kc 15 voltS (kc 45 splitS (kc 19 loopsS (kc 18 treeS (kn))))))))))))))))))))
theorem gamT_ok : KnownOk Try.prog gamT := kc_ok ((ofBits_is Try.prog).callIs Try.func71 (by kernel_rfl) (by kernel_rfl) (by kernel_rfl) (by kernel_rfl)) (kc_ok ((toBits_is Try.prog).callIs Try.func74 (by kernel_rfl) (by kernel_rfl) (by kernel_rfl) (by kernel_rfl)) (kc_ok smallS_ok (kc_ok kindS_ok (kc_ok rowOfS_ok (kc_ok ofS_ok (kc_ok nameS_ok (kc_ok nodeS_ok (kc_ok chkS_ok (kc_ok netofS_ok (kc_ok elsS_ok (kc_ok alongS_ok (kc_ok rootS_ok (kc_ok joinS_ok (kc_ok noneS_ok (kc_ok ogS_ok (kc_ok voltS_ok (kc_ok splitS_ok (kc_ok loopsS_ok (kc_ok treeS_ok (kn_ok))))))))))))))))))))
theorem gamT_tch : KnownT gamT := kc_tch Tch.ofBits (kc_tch Tch.toBits (kc_tch smallS_tch (kc_tch kindS_tch (kc_tch rowOfS_tch (kc_tch ofS_tch (kc_tch nameS_tch (kc_tch nodeS_tch (kc_tch chkS_tch (kc_tch netofS_tch (kc_tch elsS_tch (kc_tch alongS_tch (kc_tch rootS_tch (kc_tch joinS_tch (kc_tch noneS_tch (kc_tch ogS_tch (kc_tch voltS_tch (kc_tch splitS_tch (kc_tch loopsS_tch (kc_tch treeS_tch (kn_tch))))))))))))))))))))
noncomputable def callT : Calls' := Sx.runN Try.prog gamT (regionC Try.prog) 1000 50
theorem callT_ok : CallOk Try.prog callT := engineC gamT_ok gamT_tch (by kernel_rfl) (by kernel_rfl) 1000 50
theorem callT_reg (n : Nat) : RegionOk Try.prog (regionC Try.prog callT n) n := runN_regionC gamT_ok gamT_tch (by kernel_rfl) (by kernel_rfl) 1000 50 n
noncomputable abbrev piececallT (f : Func) (c : Code) (fr : Fr) (H : T ABk) (K : Nat) (path : List Bool) : Res (Ex × Fr) :=
 codeA Try.prog callT (regionC Try.prog callT f.ntmps) noLoops f.ntmps 1000 c fr ⟨H, K, [], path, True⟩


theorem rcT {fn : Func} {K K' B : Nat} {e : Ex} {F : tF} {Hl : tH} {c : Code} {fr : Fr} {H : T ABk} {path : List Bool} (h : PieceN K' e F Hl (piececallT fn c fr H K path)) (hB : B ≤ K) : GoesB Try.prog c fn.ntmps B K K' fr H fun e' fr' H' => e' = e ∧ fr' = frL F ∧ H' = hpL Hl := GoesB.runN callT_ok (callT_reg _) (LoopsIn.none _ _ _) h hB
theorem rdT {fn : Func} {K K' B : Nat} {e : Ex} {F : tF} {Hl : tH} {c : Code} {fr : Fr} {H : T ABk} (path : List Bool) {q : Prop} (hq : q) (hB : B ≤ K) (h : pieceN K' e F Hl (piececallT fn c fr H K path) = (e = e ∧ selfW F ∧ selfH Hl ∧ true = true ∧ q) := by kernel_rfl) : GoesB Try.prog c fn.ntmps B K K' fr H fun e' fr' H' => e' = e ∧ fr' = frL F ∧ H' = hpL Hl := rcT (eqn h hq) hB
theorem lcA (B : Nat) (hB : B ≤ 9) (n q r : Nat) (E : tE) (lf : Nat → Nat → List UInt8) (nd br : Nat → List UInt8) (M1 M2 M3 : List (List UInt8 × Int)) : GoesB Try.prog ((nav [0] (bodyOf Try.f19))) Try.f19.ntmps B 9 9 ZDx (ZDH n q r M1 M2 M3 E nd br) (ZDf n q r M1 M2 M3 E nd br) := rdT [] trivial hB
theorem lcB (B : Nat) (hB : B ≤ 9) (n q r : Nat) (E : tE) (lf : Nat → Nat → List UInt8) (nd br : Nat → List UInt8) (M1 M2 M3 : List (List UInt8 × Int)) (x0 : (NetQ n q r n q r M1 M2 M3 (Cont.row (.fn fun j => elR (E j))) (Cont.row (.fn (txR nd))) (Cont.row (.fn (txR br))))) : GoesB Try.prog ((nav [1,0] (bodyOf Try.f19))) Try.f19.ntmps B 9 9 (ZDy 0 2) (ZDH n q r M1 M2 M3 E nd br) (ZD7 n q r E nd br) := rdT [] (I1 x0) hB
theorem lcC (B : Nat) (hB : B ≤ 9) (n q r : Nat) (E : tE) (lf : Nat → Nat → List UInt8) (nd br : Nat → List UInt8) (M1 M2 M3 : List (List UInt8 × Int)) : GoesB Try.prog ((nav [1,1,0] (bodyOf Try.f19))) Try.f19.ntmps B 9 9 (ZDy 0 2) (ZDH n q r M1 M2 M3 E nd br) (pP .normal [(0, ZA 2), (3, .nils)] [(2, ZX n q r), (3, Zd M1), (4, Zd M2), (5, Zd M3), (6, ZQ n E), (7, ZI q nd), (8, ZI r br)]) := rdT [] trivial hB
theorem lcD (B : Nat) (hB : B ≤ 10) (n q r : Nat) (E : tE) (ln : Nat → Nat) (lf : Nat → Nat → List UInt8) (nd br : Nat → List UInt8) (M1 M2 M3 : List (List UInt8 × Int)) (x0 : (NetQ n q r n q r M1 M2 M3 (Cont.row (.fn fun j => elR (E j))) (Cont.row (.fn (txR nd))) (Cont.row (.fn (txR br))))) : GoesB Try.prog ((nav [1,1,1,0] (bodyOf Try.f19))) Try.f19.ntmps B 10 12 (frL [(0, ZA 2), (3, sL 9 0)]) (hpL [(2, ZY n q r), (3, .mSI true M1), (4, .mSI true M2), (5, .mSI true M3), (6, ZB n E), (7, ZI q nd), (8, ZI r br), (9, .cells true 1 0 (.fn fun j => [.txs (ln j) (lf j)]))]) (pP .normal [(3, sL 9 0), (4, ZCI E n 10), (5, sL 11 (List.length (restL (rowsE (Cont.row (.fn fun j => elR (E j)))) n)))] [(2, ZX n q r), (3, Zx E n), (4, Zy E n), (5, Zz E n), (6, ZQ n E), (7, ZI q nd), (8, ZI r br), (9, .cells true 1 0 (.fn fun j => [.txs (ln j) (lf j)])), (10, ZBb E n), (11, ZCa E n)]) := rdT [] (I1 x0) hB
noncomputable abbrev Zp (v0 : Nat) (v1 : Nat → Nat) (v2 : Nat → Nat → List UInt8) := (.cells true 1 v0 (.fn fun j => [.txs (v1 j) (v2 j)]) : ABk)
theorem lcE (B : Nat) (hB : B ≤ 12) (t s k : Nat) (T R : tE) (ln : Nat → Nat) (lf : Nat → Nat → List UInt8) (nd br : Nat → List UInt8) (M1 M2 M3 : List (List UInt8 × Int)) : GoesB Try.prog ((nav [1,1,1,1,0,0] (bodyOf Try.f19))) Try.f19.ntmps B 12 12 (frL [(3, sL 9 k), (4, sL 10 t), (5, sL 11 s)]) (hpL [(9, Zp k ln lf), (10, ZG t T), (11, ZG s R)]) (pP .normal [(3, sL 9 k), (4, sL 10 t), (15, sL 11 s), (16, iT (↑s : Int)), (17, Zc)] [(9, Zp k ln lf), (10, ZN t T), (11, ZN s R)]) := rdT [] trivial hB
theorem lcF (B : Nat) (hB : B ≤ 12) (t s i k : Nat) (T R : tE) (ln : Nat → Nat) (lf : Nat → Nat → List UInt8) (nd br : Nat → List UInt8) (M1 M2 M3 : List (List UInt8 × Int)) : GoesB Try.prog ((nav [1,1,1,1,0,1,0,0,0] (bodyOf Try.f19))) Try.f19.ntmps B 12 12 (ZBV k t s i) (hpL [(9, Zp k ln lf), (10, ZG t T), (11, ZG s R)]) (pP .normal [(3, sL 9 k), (4, sL 10 t), (15, sL 11 s), (16, iT (↑s : Int)), (17, iT (↑i : Int)), (18, .sbool (decide ((↑i : Int) < (↑s : Int))))] [(9, Zp k ln lf), (10, ZN t T), (11, ZN s R)]) := rdT [] trivial hB
theorem lcX (B : Nat) (hB : B ≤ 12) (t s i k : Nat) (T R : tE) (ln : Nat → Nat) (lf : Nat → Nat → List UInt8) (nd br : Nat → List UInt8) (M1 M2 M3 : List (List UInt8 × Int)) (b : Bool) : GoesB Try.prog ((nav [1,1,1,1,0,1,0,0,1,0] (bodyOf Try.f19))) Try.f19.ntmps B 12 12 (frL [(3, sL 9 k), (4, sL 10 t), (15, sL 11 s), (16, iT (s : Int)), (17, iT (i : Int)), (18, .sbool b)]) (hpL [(9, Zp k ln lf), (10, ZG t T), (11, ZG s R)]) fun e fr' H' => (cond (b) (pP .normal (ZCE k t s i) [(9, Zp k ln lf), (10, ZN t T), (11, ZN s R)] e fr' H') (pP (.exit 0) (ZCE k t s i) [(9, Zp k ln lf), (10, ZN t T), (11, ZN s R)] e fr' H')) := cI (fun t0 => rdT [tT] (I1 t0) hB) (fun t0 => rdT [fF] (I1 t0) hB)
theorem lcG (B : Nat) (hB : B ≤ 12) (t s i k : Nat) (T R : tE) (ln : Nat → Nat) (lf : Nat → Nat → List UInt8) (nd br : Nat → List UInt8) (M1 M2 M3 : List (List UInt8 × Int)) (x0 : ((↑i : Int) < (↑s : Int))) (x1 : (0 + i < s)) : GoesB Try.prog (ZBQ) Try.f19.ntmps B 12 13 (ZBV k t s i) (hpL [(9, Zp k ln lf), (10, ZG t T), (11, ZG s R)]) (pP .normal [(3, sL 9 k), (4, sL 10 t), (15, sL 11 s), (16, iT (↑s : Int)), (17, iT (↑i : Int)), (7, ZA 12)] [(9, Zp k ln lf), (10, ZN t T), (11, ZN s R), (12, ZBJ R i)]) := rdT [] (I3 (ai (show 0 ≤ (↑i : Int) by omega) x0) x1 (show 8 ≤ 8 by omega)) hB
theorem lcH (B : Nat) (hB : B ≤ 13) (t s i k : Nat) (T R : tE) (ln : Nat → Nat) (lf : Nat → Nat → List UInt8) (nd br : Nat → List UInt8) (M1 M2 M3 : List (List UInt8 × Int)) (x0 : (t ≤ 256)) (x1 : (∀ (j : Nat), j < t → RowGe (elR (T (0 + j))) (elR (rowsE (rowsOf ⟨false, 10, 0, 0⟩ 8 8 (.fn fun j => elR (T j))) j)))) (x2 : (∃ cl, Forest (edT (rowsE (rowsOf ⟨false, 10, 0, 0⟩ 8 8 (.fn fun j => elR (T j)))) t) cl)) (x3 : (∀ (j : Nat), j < t → ∀ (u : AV), u ∈ elR (T (0 + j)) → AV.low 0 u = true)) (x4 : (∀ (i_1 : Nat), i_1 < alN (rowsE fun j => (elR (T (0 + j)))) t (El.b (R i)) (El.a (R i)) → ∀ (o : Nat) (v : AV), [.str true (alG (rowsE fun j => (elR (T (0 + j)))) t (El.b (R i)) (El.a (R i)) i_1)][o]? = Option.some v → AV.inS (fun g => inR [(0, 13), (14, 15), (14, 14), (14, 14), (14, 14), (14, 14), (14, 14)] g = true) v)) (x5 : (0 + alN (rowsE fun j => (elR (T (0 + j)))) t (El.b (R i)) (El.a (R i)) ≤ alN (rowsE (rowsOf ⟨false, 10, 0, 0⟩ 8 8 (.fn fun j => elR (T j)))) t (El.b (R i)) (El.a (R i)))) (x6 : ((1 + alN (rowsE (rowsOf ⟨false, 10, 0, 0⟩ 8 8 (.fn fun j => elR (T j)))) t (El.b (R i)) (El.a (R i))) * 16 ≤ 140737488355328)) (x7 : (1 + alN (rowsE (rowsOf ⟨false, 10, 0, 0⟩ 8 8 (.fn fun j => elR (T j)))) t (El.b (R i)) (El.a (R i)) ≤ 9223372036854775807)) (x8 : (∀ (i_1 : Nat), i_1 < 1 + alN (rowsE (rowsOf ⟨false, 10, 0, 0⟩ 8 8 (.fn fun j => elR (T j)))) t (El.b (R i)) (El.a (R i)) → ∀ (o : Nat) (v : AV), (bif decide (i_1 < 1) then [.str true (El.n (R i))] else bif Nat.beq (alN (rowsE (rowsOf ⟨false, 10, 0, 0⟩ 8 8 (.fn fun j => elR (T j)))) t (El.b (R i)) (El.a (R i))) 1 then [.str true (alG (rowsE fun j => (elR (T (0 + j)))) t (El.b (R i)) (El.a (R i)) 0)] else [.str true (alG (rowsE fun j => (elR (T (0 + j)))) t (El.b (R i)) (El.a (R i)) (0 + (i_1 - 1)))])[o]? = Option.some v → AV.inS (fun g => inR [(0, 13), (15, 16), (14, 15), (14, 14), (14, 14), (14, 14), (14, 14), (14, 14), (13, 14), (13, 13), (13, 13)] g = true) v)) (x9 : ((k + 1) * 24 ≤ 140737488355328)) (x10 : (k + 1 ≤ 9223372036854775807)) (x11 : (∀ (i_1 : Nat), i_1 < k + 1 → ∀ (o : Nat) (v : AV), (bif decide (i_1 < k) then [.txs (ln i_1) (lf i_1)] else [sL 15 (1 + alN (rowsE (rowsOf ⟨false, 10, 0, 0⟩ 8 8 (.fn fun j => elR (T j)))) t (El.b (R i)) (El.a (R i)))])[o]? = Option.some v → AV.inS (fun g => inR [(0, 13), (17, 18), (16, 17), (15, 16), (14, 15), (14, 14), (14, 14), (14, 14), (14, 14), (14, 14), (13, 14), (13, 13), (13, 13), (13, 13)] g = true) v)) : GoesB Try.prog ZBR Try.f19.ntmps B 13 18 (frL [(3, sL 9 k), (4, sL 10 t), (15, sL 11 s), (16, iT (s : Int)), (17, iT (i : Int)), (7, .ptr ⟨false, 12, 0, 0⟩)]) (hpL [(9, .cells true 1 k (.fn fun j => [.txs (ln j) (lf j)])), (10, .cells true 8 t (.fn fun j => elR (T j))), (11, .cells true 8 s (.fn fun j => elR (R j))), (12, .cells true 8 1 (.fn fun _ => elR (R i)))]) (pP .normal [(3, sL 17 (k + 1)), (4, sL 10 t), (15, sL 11 s), (16, iT (↑s : Int)), (17, iT (↑i : Int))] [(10, .cells true 8 t (.fn fun j => (elR (T j)))), (11, .cells true 8 s (.fn fun j => (elR (R j)))), (15, .cells true 1 (1 + alN (rowsE (rowsOf ⟨false, 10, 0, 0⟩ 8 8 (.fn fun j => elR (T j)))) t (El.b (R i)) (El.a (R i))) (.fn fun j => bif decide (j < 1) then [.str true (El.n (R i))] else bif Nat.beq (alN (rowsE (rowsOf ⟨false, 10, 0, 0⟩ 8 8 (.fn fun j => elR (T j)))) t (El.b (R i)) (El.a (R i))) 1 then [.str true (alG (rowsE fun j => (elR (T (0 + j)))) t (El.b (R i)) (El.a (R i)) 0)] else [.str true (alG (rowsE fun j => (elR (T (0 + j)))) t (El.b (R i)) (El.a (R i)) (0 + (j - 1)))])), (17, .cells true 1 (k + 1) (.fn fun j => bif decide (j < k) then [.txs (ln j) (lf j)] else [sL 15 (1 + alN (rowsE (rowsOf ⟨false, 10, 0, 0⟩ 8 8 (.fn fun j => elR (T j)))) t (El.b (R i)) (El.a (R i)))]))]) := rdT [] (I8 (show 0 + t ≤ t by omega) (ai (ai x0 (ai x1 x2)) x3) x4 x5 (ai (show 1 ≤ 1 by omega) (ai x6 x7)) x8 (ai (show k ≤ k by omega) (ai x9 x10)) x11) hB
theorem lcJ (B : Nat) (hB : B ≤ 12) (t s i k : Nat) (T R : tE) (ln : Nat → Nat) (lf : Nat → Nat → List UInt8) (nd br : Nat → List UInt8) (M1 M2 M3 : List (List UInt8 × Int)) (x0 : ((↑i : Int) + 1 ≤ (9223372036854775807 : Int))) : GoesB Try.prog ((nav [1,1,1,1,0,1,0,0,1,1,1] (bodyOf Try.f19))) Try.f19.ntmps B 12 12 (ZBV k t s i) (hpL [(9, Zp k ln lf), (10, ZG t T), (11, ZG s R)]) (pP .normal [(3, sL 9 k), (4, sL 10 t), (15, sL 11 s), (16, iT (↑s : Int)), (17, ZBw i)] [(9, Zp k ln lf), (10, ZN t T), (11, ZN s R)]) := rdT [] (I1 (ai (show -9223372036854775808 ≤ (↑i : Int) + 1 by omega) x0)) hB
theorem lcI (B : Nat) (hB : B ≤ 12) (k : Nat) (ln : Nat → Nat) (lf : Nat → Nat → List UInt8) (nd br : Nat → List UInt8) (M1 M2 M3 : List (List UInt8 × Int)) : GoesB Try.prog ((nav [1,1,1,1,1] (bodyOf Try.f19))) Try.f19.ntmps B 12 12 (frL [(3, sL 9 k)]) (hpL [(9, Zp k ln lf)]) (pP .ret [(2, sL 9 k)] [(9, Zp k ln lf)]) := rdT [] trivial hB
/-- how many names loop j has, and what they are -/
noncomputable def lpN (T : tE) (t : Nat) (R : tE) (j : Nat) : Nat := 1 + alN T t (R j).b (R j).a
noncomputable def lpG (T : tE) (t : Nat) (R : tE) (j i : Nat) : Tx := bif decide (i < 1) then (R j).n else alG T t (R j).b (R j).a (i - 1)
noncomputable abbrev ZBU (v0 : Nat) (v1 : tE) (v2 : Nat) (v3 : tE) := (.cells true 1 v0 (.fn fun j => [.txs ((lpN v1 v2 v3) j) ((lpG v1 v2 v3) j)]) : ABk)
noncomputable abbrev ZB2 (v0 : Nat) (v1 : tE) (v2 : Nat) (v3 : tE) := (.cells true 1 (v0 + 1) (.fn fun j => [.txs ((lpN v1 v2 v3) j) ((lpG v1 v2 v3) j)]) : ABk)
theorem lc_blk (t s i : Nat) (T R : tE) (ht : t ≤ 256) (hs : s ≤ 256) (hF : ∃ cl : Nat → Tx → Nat, Forest (edT T t) cl) (hi : i < s) :
  GoesB Try.prog (.block 1 (.seq ZBQ ZBR)) Try.f19.ntmps 9 12 12 (frL (Z7 i t s)) (hpL [(9, ZBU i T t R), (10, ZG t T), (11, ZG s R)]) (Nm (Z5 i t s 9) [(9, ZB2 i T t R), (10, ZG t T), (11, ZG s R)]) := by
 have h0 : GoesB Try.prog (.block 1 (.seq ZBQ ZBR)) Try.f19.ntmps 9 12 18 (frL (Z7 i t s)) (hpL [(9, ZBU i T t R), (10, ZG t T), (11, ZG s R)]) (Nm (Z5 i t s 17) [(15, .cells true 1 (1 + alN T t (R i).b (R i).a) (.fn (txR (lpG T t R i)))), (17, .cells true 1 (i + 1) (.fn fun j => bif decide (j < i) then [.txs (lpN T t R j) (lpG T t R j)] else [sL 15 (1 + alN T t (R i).b (R i).a)])), (10, ZG t T), (11, ZG s R)]) := by
  refine GoesB.blockN ?_
  refine GoesB.seqN (K1 := 13) (F1 := [(3, sL 9 i), (4, sL 10 t), (15, sL 11 s), (16, iT (s : Int)), (17, iT (i : Int)), (7, ZA 12)]) (H1 := [(9, ZBU i T t R), (10, ZG t T), (11, ZG s R), (12, Zg R i)]) (GoesB.toN (lcG 9 (by omega) t s i i T R (lpN T t R) (lpG T t R) (fun _ => []) (fun _ => []) [] [] [] (by omega) (by omega)) (eGg rfl) ⟨(Sx.hs rfl), (Sx.hs rfl), (Sx.hs rfl), wk_hb rfl (by show elR (R (0 + i)) = elR (R i); rw [Nat.zero_add]), trivial⟩) (by omega) ?_
  have hN := alN_le T t (R i).b (R i).a
  have hH := lcH 9 (by omega) t s i i T R (lpN T t R) (lpG T t R) (fun _ => []) (fun _ => []) [] [] []
  simp only [rowsO_el, Nat.zero_add, rowsE_el] at hH
  refine GoesB.toN (hH ht (fun j hj => RowGe_refl _ rfl) hF (fun j hj u hu => List.all_eq_true.1 (elR_low 0 _) u hu) (fun j hj o v hv => str_inS hv) (Nat.le_refl _) (by omega) (by omega) (fun j hj o v hv => ?_) (by omega) (by omega) (fun j hj o v hv => ?_)) (eGg rfl) ⟨⟨_, rfl, rfl, rfl, rfl, fun j hj => ?_⟩, eHh rfl⟩
  ·by_cases c : j < 1
   ·rw [decide_eq_true c, cond_true] at hv; exact str_inS hv
   ·rw [decide_eq_false c, cond_false] at hv
    cases q : Nat.beq (alN T t (R i).b (R i).a) 1 with
    | true => rw [q, cond_true] at hv; exact str_inS hv
    | false => rw [q, cond_false] at hv; exact str_inS hv
  ·by_cases c : j < i
   ·rw [decide_eq_true c, cond_true] at hv
    rw [List.mem_singleton.1 (List.mem_of_getElem? hv)]
    show inR _ 0 = true
    rfl
   ·rw [decide_eq_false c, cond_false] at hv
    rw [List.mem_singleton.1 (List.mem_of_getElem? hv)]
    show inR _ 15 = true
    rfl
  ·show (bif decide (j < 1) then [AV.str true (R i).n] else bif Nat.beq (alN T t (R i).b (R i).a) 1 then [AV.str true (alG T t (R i).b (R i).a 0)] else [AV.str true (alG T t (R i).b (R i).a (j - 1))]) = [AV.str true (lpG T t R i j)]
   unfold lpG
   by_cases c : j < 1
   ·rw [decide_eq_true c, cond_true, cond_true]
   ·rw [decide_eq_false c, cond_false, cond_false]
    cases q : Nat.beq (alN T t (R i).b (R i).a) 1 with
    | true =>
     have := Nat.eq_of_beq_eq_true q
     rw [cond_true, show j - 1 = 0 by omega]
    | false => rw [cond_false]
 have h1 : GoesB Try.prog (.block 1 (.seq ZBQ ZBR)) Try.f19.ntmps 9 12 18 (frL (Z7 i t s)) (hpL [(9, ZBU i T t R), (10, ZG t T), (11, ZG s R)]) (Nm (Z5 i t s 17) [(17, ZB2 i T t R), (10, ZG t T), (11, ZG s R)]) := h0.freeze fun e fr' H' h => by
  obtain ⟨rfl, rfl, rfl⟩ := h
  refine ⟨15, 1 + alN T t (R i).b (R i).a, _, lpG T t R i, (Z5 i t s 17), [(17, ZB2 i T t R), (10, ZG t T), (11, ZG s R)], by omega, rfl, fun j hj => ⟨true, rfl⟩, ⟨⟨_, rfl, .inl (AV.ge.refl _)⟩, ⟨_, rfl, .inl (AV.ge.refl _)⟩, ⟨_, rfl, .inl (AV.ge.refl _)⟩, ⟨_, rfl, .inl (AV.ge.refl _)⟩, ⟨_, rfl, .inl (AV.ge.refl _)⟩, trivial⟩, ⟨⟨show 17 ≠ 15 by decide, _, rfl, rfl, rfl, rfl, fun j hj => ?_⟩, ⟨show 10 ≠ 15 by decide, _, rfl, rfl, rfl, rfl, fun j hj => FzRow.refl _ rfl⟩, ⟨show 11 ≠ 15 by decide, _, rfl, rfl, rfl, rfl, fun j hj => FzRow.refl _ rfl⟩, trivial⟩, rfl, rfl, rfl⟩
  show FzRow 15 _ _ (bif decide (j < i) then [AV.txs (lpN T t R j) (lpG T t R j)] else [sL 15 (1 + alN T t (R i).b (R i).a)]) [AV.txs (lpN T t R j) (lpG T t R j)]
  by_cases c : j < i
  ·rw [decide_eq_true c, cond_true]; exact FzRow.refl _ rfl
  ·obtain rfl : j = i := by omega
   rw [decide_eq_false c, cond_false]
   exact ⟨.inr ⟨_, _, _, rfl, rfl, rfl, rfl, rfl⟩, rfl, trivial⟩
 exact h1.renG fun e fr' H' h => by
  obtain ⟨rfl, rfl, rfl⟩ := h
  exact ⟨sg 9 17, (Z5 i t s 9), [(9, ZB2 i T t R), (10, ZG t T), (11, ZG s R)], sg_low (by omega), (eRr rfl), ⟨rgR rfl rfl (fun j _ => rfl) (fun j _ => rfl) (by omega), rgR rfl rfl (fun j _ => rfl) (fun j _ => rfl) (by omega), rgR rfl rfl (fun j _ => rfl) (fun j _ => rfl) (by omega), trivial⟩, sg_inj (by omega), rfl, rfl, rfl⟩
theorem lc_step (t s i : Nat) (T R : tE) (ht : t ≤ 256) (hs : s ≤ 256) (hF : ∃ cl : Nat → Tx → Nat, Forest (edT T t) cl) (hi : i < s) :
  GoesB Try.prog ZBy Try.f19.ntmps 9 12 12 (frL (Z7 i t s)) (hpL [(9, ZBU i T t R), (10, ZG t T), (11, ZG s R)]) (Nm [(3, sL 9 (i + 1)), (4, sL 10 t), (15, sL 11 s), (16, iT (s : Int)), (17, ZCR i)] [(9, ZB2 i T t R), (10, ZG t T), (11, ZG s R)]) := by
 rw [lo_body]
 refine GoesB.seqN (K1 := 12) (lcF 9 (by omega) t s i i T R (lpN T t R) (lpG T t R) (fun _ => []) (fun _ => []) [] [] []) (by omega) ?_
 refine GoesB.seqN (K1 := 12) (F1 := (Z7 i t s)) (H1 := [(9, ZBU i T t R), (10, ZG t T), (11, ZG s R)]) ((lcX 9 (by omega) t s i i T R (lpN T t R) (lpG T t R) (fun _ => []) (fun _ => []) [] [] [] (decide ((i : Int) < (s : Int)))).mono fun e fr' H' h => ?_) (by omega) ?_
 ·rw [decide_eq_true (by omega), cond_true] at h
  exact h
 refine GoesB.seqN (K1 := 12) (lc_blk t s i T R ht hs hF hi) (by omega) ?_
 exact GoesB.toN (lcJ 9 (by omega) t s i (i + 1) T R (lpN T t R) (lpG T t R) (fun _ => []) (fun _ => []) [] [] [] (by omega)) ⟨re rfl, re rfl, re rfl, re rfl, ⟨_, rfl, AV.ge.int' _ _ _ (by omega)⟩, trivial⟩ (eHh rfl)
theorem lc_end (t s : Nat) (T R : tE) :
  GoesB Try.prog ZBy Try.f19.ntmps 9 12 12 (frL (ZB4 s t)) (hpL [(9, ZBU s T t R), (10, ZG t T), (11, ZG s R)]) (Xm 0 (ZB4 s t) [(9, ZBU s T t R), (10, ZG t T), (11, ZG s R)]) := by
 rw [lo_body]
 refine GoesB.seqN (K1 := 12) (lcF 9 (by omega) t s s s T R (lpN T t R) (lpG T t R) (fun _ => []) (fun _ => []) [] [] []) (by omega) ?_
 refine GoesB.seqX (K1 := 12) ((lcX 9 (by omega) t s s s T R (lpN T t R) (lpG T t R) (fun _ => []) (fun _ => []) [] [] [] (decide ((s : Int) < (s : Int)))).mono fun e fr' H' h => ?_) (by omega)
 rw [decide_eq_false (by omega), cond_false] at h
 exact h
noncomputable abbrev ZH (v0 : tE) (v1 : Nat) := (.cells true 1 (restL v0 v1).length (.fn fun j => [.txs ((lpN (eget (treeL v0 v1)) (treeL v0 v1).length (eget (restL v0 v1))) j) ((lpG (eget (treeL v0 v1)) (treeL v0 v1).length (eget (restL v0 v1))) j)]) : ABk)
noncomputable abbrev ZBc (v0 : tE) (v1 : Nat) := (.cells true 1 0 (.fn fun j => [.txs ((lpN (eget (treeL v0 v1)) (treeL v0 v1).length (eget (restL v0 v1))) j) ((lpG (eget (treeL v0 v1)) (treeL v0 v1).length (eget (restL v0 v1))) j)]) : ABk)
noncomputable abbrev ZEO (v0 : tE) (v1 : Nat) := ([(9, ZH v0 v1), (2, ZC v1 v0), (3, ZK v0 v1), (4, ZL v0 v1), (5, ZM v0 v1), (6, ZB v1 v0), (7, ZD v0 v1), (8, ZE v0 v1)] : tH)
theorem loc_goes (n : Nat) (E : tE) (hn : n ≤ 256) :
  GoesB Try.prog (bodyOf Try.f19) Try.f19.ntmps 9 9 12 ZDx (hpL (ZDG n E)) (fun e fr' H' => e = .ret ∧ fr' = frL [(2, ZBI E n 9)] ∧ H' = hpL (ZEO E n)) := by
 have hq := net_q n E hn
 have lT : (treeL E n).length ≤ n := by rw [treeL_is]; exact spT_len _ E n
 have lR : (restL E n).length ≤ n := by rw [restL_is]; exact spR_len _ E n
 have hF : ∃ cl : Nat → Tx → Nat, Forest (edT (eget (treeL E n)) (treeL E n).length) cl := by rw [treeL_is]; exact tree_forest _ E n
 rw [lo_is]
 refine GoesB.seqN (K1 := 9) (lcA 9 (by omega) n (ND E n).length (BR E n).length E (lpG (eget (treeL E n)) (treeL E n).length (eget (restL E n))) (lget (ND E n)) (lget (BR E n)) (zipF 0 (NM E n)) (zipF 0 (ND E n)) (zipF 0 (BR E n))) (by omega) ?_
 refine GoesB.seqN (K1 := 9) (F1 := [(0, ZA 2)]) (H1 := (ZDG n E)) (GoesB.toN (lcB 9 (by omega) n (ND E n).length (BR E n).length E (lpG (eget (treeL E n)) (treeL E n).length (eget (restL E n))) (lget (ND E n)) (lget (BR E n)) (zipF 0 (NM E n)) (zipF 0 (ND E n)) (zipF 0 (BR E n)) hq) ⟨re rfl, trivial⟩ (eHh rfl)) (by omega) ?_
 refine GoesB.seqN (K1 := 9) (lcC 9 (by omega) n (ND E n).length (BR E n).length E (lpG (eget (treeL E n)) (treeL E n).length (eget (restL E n))) (lget (ND E n)) (lget (BR E n)) (zipF 0 (NM E n)) (zipF 0 (ND E n)) (zipF 0 (BR E n))) (by omega) ?_
 refine GoesB.phantom 3 1 (fun j => [.txs ((lpN (eget (treeL E n)) (treeL E n).length (eget (restL E n))) j) ((lpG (eget (treeL E n)) (treeL E n).length (eget (restL E n))) j)]) rfl (by omega) (by omega) ?_
 refine GoesB.weakL (fl := [(0, ZA 2), (3, sL 9 0)]) (bl := [(2, ZC n E), (3, ZK E n), (4, ZL E n), (5, ZM E n), (6, ZB n E), (7, ZD E n), (8, ZE E n), (9, ZBc E n)]) (eGg rfl) (eHh rfl) ?_
 refine GoesB.seqN (K1 := 12) (F1 := [(3, sL 9 0), (4, Zm E n 10), (5, ZBI E n 11)]) (H1 := [(9, ZBc E n), (10, Zq E n), (11, ZBG E n), (2, ZC n E), (3, ZK E n), (4, ZL E n), (5, ZM E n), (6, ZB n E), (7, ZD E n), (8, ZE E n)]) (GoesB.toN (lcD 9 (by omega) n (ND E n).length (BR E n).length E (lpN (eget (treeL E n)) (treeL E n).length (eget (restL E n))) (lpG (eget (treeL E n)) (treeL E n).length (eget (restL E n))) (lget (ND E n)) (lget (BR E n)) (zipF 0 (NM E n)) (zipF 0 (ND E n)) (zipF 0 (BR E n)) hq) (eGg rfl) (eHh rfl)) (by omega) ?_
 refine GoesB.seqN (K1 := 12) (F1 := [(3, ZBI E n 9), (4, Zm E n 10), (15, ZBI E n 11), (16, ZCW E n), (17, ZCW E n)]) (H1 := [(9, ZH E n), (10, Zq E n), (11, ZBG E n), (2, ZC n E), (3, ZK E n), (4, ZL E n), (5, ZM E n), (6, ZB n E), (7, ZD E n), (8, ZE E n)]) ?_ (by omega) ?_
 ·have hr := GoesB.rounds (P := Try.prog) (n := Try.f19.ntmps) (B := 9) (K := 12) (id := 0) (restL E n).length (fun i => [(3, sL 9 i), (4, Zm E n 10), (15, ZBI E n 11), (16, ZCW E n), (17, iT (((i : Nat)) : Int))]) (fun i => [(9, .cells true 1 i (.fn fun j => [.txs ((lpN (eget (treeL E n)) (treeL E n).length (eget (restL E n))) j) ((lpG (eget (treeL E n)) (treeL E n).length (eget (restL E n))) j)])), (10, Zq E n), (11, ZBG E n)]) (fun i hi => lc_step (treeL E n).length (restL E n).length i (eget (treeL E n)) (eget (restL E n)) (by omega) (by omega) hF hi) (lc_end (treeL E n).length (restL E n).length (eget (treeL E n)) (eget (restL E n)))
  exact (GoesB.seqN (K1 := 12) (F1 := [(3, sL 9 0), (4, Zm E n 10), (15, ZBI E n 11), (16, ZCW E n), (17, ZBn)]) (H1 := [(9, ZBc E n), (10, Zq E n), (11, ZBG E n)]) (GoesB.toN (lcE 9 (by omega) (treeL E n).length (restL E n).length 0 (eget (treeL E n)) (eget (restL E n)) (lpN (eget (treeL E n)) (treeL E n).length (eget (restL E n))) (lpG (eget (treeL E n)) (treeL E n).length (eget (restL E n))) (fun _ => []) (fun _ => []) [] [] []) ⟨re rfl, re rfl, re rfl, re rfl, ⟨_, rfl, AV.ge.int _ _ _ _⟩, trivial⟩ (eHh rfl)) (by omega) hr).frameN (xl := (ZDG n E)) (by omega) ⟨⟨by omega, fun j hj v hv => List.all_eq_true.1 (show (netR 6 7 8 n (ND E n).length (BR E n).length).all (fun v => v.low 9) = true from rfl) v hv⟩, ⟨by omega, trivial⟩, ⟨by omega, trivial⟩, ⟨by omega, trivial⟩, ⟨by omega, fun j hj v hv => List.all_eq_true.1 (show (elR (E j)).all (fun v => v.low 9) = true from rfl) v hv⟩, ⟨by omega, fun j hj v hv => List.all_eq_true.1 (show (txR (lget (ND E n)) j).all (fun v => v.low 9) = true from rfl) v hv⟩, ⟨by omega, fun j hj v hv => List.all_eq_true.1 (show (txR (lget (BR E n)) j).all (fun v => v.low 9) = true from rfl) v hv⟩, trivial⟩ rfl rfl ⟨.inl rfl, .inl rfl, .inl rfl, trivial⟩
 ·refine GoesB.weakL (fl := [(3, ZBI E n 9)]) (bl := (ZEO E n)) ⟨re rfl, trivial⟩ (eHh rfl) ?_
  exact (lcI 9 (by omega) (restL E n).length (lpN (eget (treeL E n)) (treeL E n).length (eget (restL E n))) (lpG (eget (treeL E n)) (treeL E n).length (eget (restL E n))) (fun _ => []) (fun _ => []) [] [] []).frameL (xl := (ZDG n E)) (by omega) ⟨⟨by omega, fun j hj v hv => List.all_eq_true.1 (show (netR 6 7 8 n (ND E n).length (BR E n).length).all (fun v => v.low 9) = true from rfl) v hv⟩, ⟨by omega, trivial⟩, ⟨by omega, trivial⟩, ⟨by omega, trivial⟩, ⟨by omega, fun j hj v hv => List.all_eq_true.1 (show (elR (E j)).all (fun v => v.low 9) = true from rfl) v hv⟩, ⟨by omega, fun j hj v hv => List.all_eq_true.1 (show (txR (lget (ND E n)) j).all (fun v => v.low 9) = true from rfl) v hv⟩, ⟨by omega, fun j hj v hv => List.all_eq_true.1 (show (txR (lget (BR E n)) j).all (fun v => v.low 9) = true from rfl) v hv⟩, trivial⟩ rfl (fun e fr' H0' h => by
   obtain ⟨rfl, rfl, rfl⟩ := h
   exact ⟨_, rfl, rfl, ⟨.inl rfl, trivial⟩, rfl, rfl, rfl⟩)


theorem rnA (B : Nat) (hB : B ≤ 10) (k m : Nat) (f h g nd br : Nat → List UInt8) (M1 M2 M3 : List (List UInt8 × Int)) : GoesB Try.prog ((nav [0] (bodyOf Try.f33))) Try.f33.ntmps B 10 10 (frameOf [ZA 2, .txs k f, sL 9 m] 0 .e) (hpL []) (pP .normal [(0, ZA 2), (1, .txs k f), (2, sL 9 m)] []) := rdT [] trivial hB
noncomputable abbrev ZDO := (.cells true 8 1 (.lit [] (.n .e (some [.int false .u8 0, .str false [], .str false [], .str false [], .str false [], .str false [], .flt false 0, Zc]) .e)) : ABk)
theorem rnB (B : Nat) (hB : B ≤ 10) (n q r k m j : Nat) (E : tE) (x : List UInt8) (f h g nd br : Nat → List UInt8) (M1 M2 M3 : List (List UInt8 × Int)) (x0 : (0 < (↑k : Int))) (x1 : ((Option.isSome (lfind seq (f 0) M1)) = true → ((0 : Int) ≤ Option.getD (lfind seq (f 0) M1) (0 : Int)))) (x2 : ((Option.isSome (lfind seq (f 0) M1)) = true → (Option.getD (lfind seq (f 0) M1) 0 < (↑n : Int)))) (x3 : ((Option.isSome (lfind seq (f 0) M1)) = true → (0 + Int.toNat (Option.getD (lfind seq (f 0) M1) (0 : Int)) < n))) : GoesB Try.prog ((nav [1,0] (bodyOf Try.f33))) Try.f33.ntmps B 10 14 (frL [(0, .ptr ⟨false, 2, 0, 0⟩), (1, .txs k f), (2, sL 9 m)]) (hpL [(2, .cells false 7 1 (.fn fun _ => netR 6 7 8 n q r)), (3, .mSI true M1), (4, .mSI true M2), (5, .mSI true M3), (6, .cells false 8 n (.fn fun j => elR (E j))), (7, .cells false 1 q (.fn (txR nd))), (8, .cells false 1 r (.fn (txR br))), (9, .cells false 1 m (.fn (txR h)))]) fun e fr' H' => (cond (Option.isSome (lfind seq (f 0) M1)) (pP .normal [(0, .ptr ⟨false, 2, 0, 0⟩), (1, .txs k f), (2, sL 9 m), (7, .ptr ⟨false, 11, 0, 0⟩), (8, .bool true)] [(2, .cells false 7 1 (.fn fun x => (netR 6 7 8 n q r))), (3, ABk.mSI true M1), (4, ABk.mSI true M2), (5, ABk.mSI true M3), (6, .cells false 8 n (.fn fun j => (elR (E j)))), (7, .cells false 1 q (.fn (txR nd))), (8, .cells false 1 r (.fn (txR br))), (9, .cells false 1 m (.fn (txR h))), (10, .cells true 8 1 (.lit [] (T.n T.e (Option.some (elR (E (0 + Int.toNat (Option.getD (lfind seq (f 0) M1) (0 : Int)))))) T.e))), (11, .cells true 8 1 (.lit [] (T.n T.e (Option.some (elR (E (0 + Int.toNat (Option.getD (lfind seq (f 0) M1) (0 : Int)))))) T.e)))] e fr' H') (pP .normal [(0, .ptr ⟨false, 2, 0, 0⟩), (1, .txs k f), (2, sL 9 m), (7, .ptr ⟨false, 11, 0, 0⟩), (8, .bool false)] [(2, .cells false 7 1 (.fn fun x => (netR 6 7 8 n q r))), (3, ABk.mSI true M1), (4, ABk.mSI true M2), (5, ABk.mSI true M3), (6, .cells false 8 n (.fn fun j => (elR (E j)))), (7, .cells false 1 q (.fn (txR nd))), (8, .cells false 1 r (.fn (txR br))), (9, .cells false 1 m (.fn (txR h))), (10, .cells true 8 1 (.lit [] (.n .e (some [.int false .u8 0, .str false [], .str false [], .str false [], .str false [], .str false [], .flt false 0, .int false .i64 0]) .e))), (11, .cells true 8 1 (.lit [] (.n .e (some [.int false .u8 0, .str false [], .str false [], .str false [], .str false [], .str false [], .flt false 0, .int false .i64 0]) .e)))] e fr' H')) := cI (fun t0 => rdT [fF] (I5 (ai (show (0 : Int) ≤ 0 by omega) x0) (nt t0) (ai (x1 t0) (x2 t0)) (x3 t0) (show 8 ≤ 8 by omega)) hB) (fun t0 => rdT [tT] (I2 (ai (show (0 : Int) ≤ 0 by omega) x0) (nf t0)) hB)
noncomputable abbrev Zj (v0 : El) := (.cells true 8 1 (.fn fun x => (elR v0)) : ABk)
noncomputable abbrev ZCh := nav [1,1,0] (bodyOf Try.f33)
theorem rnC_r0 (k m : Nat) (z : El) (x : List UInt8) (f : Nat → List UInt8) (c0 : (!decide (El.k z = (4 : Int))) = false) : PieceN 12 (Ex.ret) [(0, ZA 2), (1, .txs k f), (2, sL 9 m), (6, .bool false), (7, ZA 10)] [(10, Zj z)] (piececallT Try.f33 (ZCh) (frL [(0, ZA 2), (1, .txs k f), (2, sL 9 m), (7, ZA 10), (8, .bool true)]) (hpL [(10, ZR z)]) 11 [false]) := eN (I1 c0)
theorem rnC_r1 (k m : Nat) (z : El) (x : List UInt8) (f : Nat → List UInt8) (c0 : (!decide (El.k z = (4 : Int))) = true) (c1 : (!!decide (El.k z = (6 : Int))) = true) : PieceN 12 (Ex.ret) [(0, ZA 2), (1, .txs k f), (2, sL 9 m), (6, .bool false), (7, ZA 10)] [(10, Zj z)] (piececallT Try.f33 (ZCh) (frL [(0, ZA 2), (1, .txs k f), (2, sL 9 m), (7, ZA 10), (8, .bool true)]) (hpL [(10, ZR z)]) 11 [true, true]) := eN (I2 c0 c1)
theorem rnC_r2 (k m : Nat) (z : El) (x : List UInt8) (f : Nat → List UInt8) (c0 : (!decide (El.k z = (4 : Int))) = true) (c1 : (!!decide (El.k z = (6 : Int))) = false) : PieceN 12 (Ex.normal) [(0, ZA 2), (1, .txs k f), (2, sL 9 m), (7, ZA 10)] [(10, Zj z)] (piececallT Try.f33 (ZCh) (frL [(0, ZA 2), (1, .txs k f), (2, sL 9 m), (7, ZA 10), (8, .bool true)]) (hpL [(10, ZR z)]) 11 [true, false]) := eN (I2 c0 c1)
theorem rnC (B : Nat) (hB : B ≤ 11) (k m : Nat) (z : El) (x : List UInt8) (f h g nd br : Nat → List UInt8) (M1 M2 M3 : List (List UInt8 × Int)) : GoesB Try.prog (ZCh) Try.f33.ntmps B 11 12 (frL [(0, ZA 2), (1, .txs k f), (2, .slc true true ⟨false, 9, 0, 0⟩ m), (7, ZA 10), (8, .bool true)]) (hpL [(10, ZR z)]) fun e fr' H' => (cond (decide (El.k z = (4 : Int))) (e = .ret ∧ fr' = frL [(0, ZA 2), (1, .txs k f), (2, .slc true true ⟨false, 9, 0, 0⟩ m), (6, .bool false), (7, ZA 10)] ∧ H' = hpL [(10, Zj z)]) (cond (decide (El.k z = (6 : Int))) (e = .ret ∧ fr' = frL [(0, ZA 2), (1, .txs k f), (2, .slc true true ⟨false, 9, 0, 0⟩ m), (6, .bool false), (7, ZA 10)] ∧ H' = hpL [(10, Zj z)]) (e = .normal ∧ fr' = frL [(0, ZA 2), (1, .txs k f), (2, .slc true true ⟨false, 9, 0, 0⟩ m), (7, ZA 10)] ∧ H' = hpL [(10, Zj z)]))) := by
 cases t0 : decide (El.k z = (4 : Int)) with
 | true =>
  exact (rcT (rnC_r0 k m z x f (by rw [t0]; rfl)) hB).mono fun e fr' H' h => by first | (simp only [t0, cond_true, cond_false]; exact h) | (simp only [t0, cond_true, cond_false] at h ⊢; exact h)
 | false =>
  cases t1 : decide (El.k z = (6 : Int)) with
  | true =>
   exact (rcT (rnC_r1 k m z x f (by rw [t0]; rfl) (by rw [t1]; rfl)) hB).mono fun e fr' H' h => by first | (simp only [t0, t1, cond_true, cond_false]; exact h) | (simp only [t0, t1, cond_true, cond_false] at h ⊢; exact h)
  | false =>
   exact (rcT (rnC_r2 k m z x f (by rw [t0]; rfl) (by rw [t1]; rfl)) hB).mono fun e fr' H' h => by first | (simp only [t0, t1, cond_true, cond_false]; exact h) | (simp only [t0, t1, cond_true, cond_false] at h ⊢; exact h)
theorem rnD (B : Nat) (hB : B ≤ 11) (k m : Nat) (z : El) (x : List UInt8) (f h g nd br : Nat → List UInt8) (M1 M2 M3 : List (List UInt8 × Int)) : GoesB Try.prog ((nav [1,1,1,0] (bodyOf Try.f33))) Try.f33.ntmps B 11 12 (frL [(0, ZA 2), (1, .txs k f), (2, sL 9 m), (7, ZA 10)]) (hpL [(10, ZR z)]) (pP .normal [(0, ZA 2), (1, .txs k f), (2, sL 9 m), (7, ZA 10), (9, .slc false true ⟨false, 11, 0, 0⟩ 1)] [(10, Zj z), (11, .cells true 1 1 (.lit [.str false []] (.n .e (some [.str true (El.b z)]) .e)))]) := rdT [] trivial hB
theorem rnE (B : Nat) (hB : B ≤ 12) (k m : Nat) (z : El) (x : List UInt8) (f h g nd br : Nat → List UInt8) (M1 M2 M3 : List (List UInt8 × Int)) : GoesB Try.prog ((nav [1,1,1,1,0] (bodyOf Try.f33))) Try.f33.ntmps B 12 12 (frL [(0, ZA 2), (1, .txs k f), (2, sL 9 m), (7, ZA 10), (9, sL 11 1)]) (hpL [(10, ZR z), (11, .cells true 1 1 (.fn (txR g)))]) (pP .normal [(0, ZA 2), (1, .txs k f), (2, sL 9 m), (7, ZA 10), (9, sL 11 1), (10, .str true (El.b z))] [(10, Zj z), (11, .cells true 1 1 (.fn (txR g)))]) := rdT [] trivial hB
theorem rnF (B : Nat) (hB : B ≤ 12) (k m : Nat) (z : El) (x : List UInt8) (f h g nd br : Nat → List UInt8) (M1 M2 M3 : List (List UInt8 × Int)) : GoesB Try.prog ((nav [1,1,1,1,1,0,0] (bodyOf Try.f33))) Try.f33.ntmps B 12 12 (frL [(0, ZA 2), (1, .txs k f), (2, sL 9 m), (7, ZA 10), (9, sL 11 1), (10, .str true x)]) (hpL [(10, ZR z), (11, .cells true 1 1 (.fn (txR g)))]) (pP .normal [(0, ZA 2), (1, .txs k f), (2, sL 9 m), (7, ZA 10), (9, sL 11 1), (10, .str true x), (11, .int false .i64 1)] [(10, Zj z), (11, .cells true 1 1 (.fn (txR g)))]) := rdT [] trivial hB
noncomputable abbrev ZDn (v0 : Nat) (v1 : Nat → List UInt8) (v2 v3 : Nat) (v4 : List UInt8) (v5 : Nat) := frL [(0, ZA 2), (1, .txs v0 v1), (2, sL 9 v2), (7, ZA 10), (9, sL 11 v3), (10, .str true v4), (11, iT (v5 : Int))]
theorem rnG (B : Nat) (hB : B ≤ 12) (k m l i : Nat) (z : El) (x : List UInt8) (f h g nd br : Nat → List UInt8) (M1 M2 M3 : List (List UInt8 × Int)) : GoesB Try.prog ((nav [1,1,1,1,1,0,1,0,0,0] (bodyOf Try.f33))) Try.f33.ntmps B 12 12 (ZDn k f m l x i) (hpL [(10, ZR z), (11, ZP l g)]) fun e fr' H' => (cond (decide ((↑i : Int) < (↑k : Int))) (pP .normal [(0, ZA 2), (1, .txs k f), (2, sL 9 m), (7, ZA 10), (9, sL 11 l), (10, .str true x), (11, iT (↑i : Int))] [(10, Zj z), (11, ZP l g)] e fr' H') (pP (.exit 0) [(0, ZA 2), (1, .txs k f), (2, sL 9 m), (7, ZA 10), (9, sL 11 l), (10, .str true x), (11, iT (↑i : Int))] [(10, Zj z), (11, ZP l g)] e fr' H')) := cD (fun q0 t0 => rdT [tT] (I1 t0) hB) (fun q0 t0 => rdT [fF] (I1 t0) hB)
noncomputable abbrev ZDD := nav [1,1,1,1,1,0,1,0,0,1,0,0,0] (bodyOf Try.f33)
theorem rnH (B : Nat) (hB : B ≤ 12) (n q r k m l i j : Nat) (E : tE) (x : List UInt8) (f h g nd br : Nat → List UInt8) (M1 M2 M3 : List (List UInt8 × Int)) (x0 : ((↑i : Int) < (↑k : Int))) (x1 : ((Option.isSome (lfind seq (f i) M1)) = true → ((0 : Int) ≤ Option.getD (lfind seq (f i) M1) (0 : Int)))) (x2 : ((Option.isSome (lfind seq (f i) M1)) = true → (Option.getD (lfind seq (f i) M1) 0 < (↑n : Int)))) (x3 : ((Option.isSome (lfind seq (f i) M1)) = true → (0 + Int.toNat (Option.getD (lfind seq (f i) M1) (0 : Int)) < n))) : GoesB Try.prog ZDD Try.f33.ntmps B 12 16 (frL [(0, .ptr ⟨false, 2, 0, 0⟩), (1, .txs k f), (2, sL 9 m), (7, .ptr ⟨false, 10, 0, 0⟩), (9, sL 11 l), (10, .str true x), (11, iT (i : Int))]) (hpL [(2, .cells false 7 1 (.fn fun _ => netR 6 7 8 n q r)), (3, .mSI true M1), (4, .mSI true M2), (5, .mSI true M3), (6, .cells false 8 n (.fn fun j => elR (E j))), (7, .cells false 1 q (.fn (txR nd))), (8, .cells false 1 r (.fn (txR br))), (9, .cells false 1 m (.fn (txR h))), (11, .cells true 1 l (.fn (txR g)))]) fun e fr' H' => (cond (Option.isSome (lfind seq (f i) M1)) (pP .normal [(0, .ptr ⟨false, 2, 0, 0⟩), (1, .txs k f), (2, sL 9 m), (7, .ptr ⟨false, 10, 0, 0⟩), (9, sL 11 l), (10, .str true x), (11, iT (↑i : Int)), (12, .ptr ⟨false, 13, 0, 0⟩), (13, .bool true)] [(2, .cells false 7 1 (.fn fun x => (netR 6 7 8 n q r))), (3, ABk.mSI true M1), (4, ABk.mSI true M2), (5, ABk.mSI true M3), (6, .cells false 8 n (.fn fun j => (elR (E j)))), (7, .cells false 1 q (.fn (txR nd))), (8, .cells false 1 r (.fn (txR br))), (9, .cells false 1 m (.fn (txR h))), (11, .cells true 1 l (.fn (txR g))), (12, .cells true 8 1 (.lit [] (T.n T.e (Option.some (elR (E (0 + Int.toNat (Option.getD (lfind seq (f i) M1) (0 : Int)))))) T.e))), (13, .cells true 8 1 (.lit [] (T.n T.e (Option.some (elR (E (0 + Int.toNat (Option.getD (lfind seq (f i) M1) (0 : Int)))))) T.e)))] e fr' H') (pP .normal [(0, .ptr ⟨false, 2, 0, 0⟩), (1, .txs k f), (2, sL 9 m), (7, .ptr ⟨false, 10, 0, 0⟩), (9, sL 11 l), (10, .str true x), (11, iT (↑i : Int)), (12, .ptr ⟨false, 13, 0, 0⟩), (13, .bool false)] [(2, .cells false 7 1 (.fn fun x => (netR 6 7 8 n q r))), (3, ABk.mSI true M1), (4, ABk.mSI true M2), (5, ABk.mSI true M3), (6, .cells false 8 n (.fn fun j => (elR (E j)))), (7, .cells false 1 q (.fn (txR nd))), (8, .cells false 1 r (.fn (txR br))), (9, .cells false 1 m (.fn (txR h))), (11, .cells true 1 l (.fn (txR g))), (12, .cells true 8 1 (.lit [] (.n .e (some [.int false .u8 0, .str false [], .str false [], .str false [], .str false [], .str false [], .flt false 0, .int false .i64 0]) .e))), (13, .cells true 8 1 (.lit [] (.n .e (some [.int false .u8 0, .str false [], .str false [], .str false [], .str false [], .str false [], .flt false 0, .int false .i64 0]) .e)))] e fr' H')) := cI (fun t0 => rdT [fF] (I5 (ai (show 0 ≤ (↑i : Int) by omega) x0) (nt t0) (ai (x1 t0) (x2 t0)) (x3 t0) (show 8 ≤ 8 by omega)) hB) (fun t0 => rdT [tT] (I2 (ai (show 0 ≤ (↑i : Int) by omega) x0) (nf t0)) hB)
noncomputable abbrev ZDl (v0 : Nat) (v1 : Nat → List UInt8) (v2 : Nat) (v3 : Nat → List UInt8) (v4 : El) := ([(9, ZI v0 v1), (11, ZP v2 v3), (12, Zj v4)] : tH)
noncomputable abbrev ZDv (v0 : Nat) (v1 : Nat → List UInt8) (v2 : El) (v3 : Nat) (v4 : Nat → List UInt8) := hpL [(9, ZI v0 v1), (12, ZR v2), (11, ZP v3 v4)]
theorem rnI (B : Nat) (hB : B ≤ 13) (k m l i : Nat) (y : El) (x : List UInt8) (f h g nd br : Nat → List UInt8) (M1 M2 M3 : List (List UInt8 × Int)) : GoesB Try.prog ((nav [1,1,1,1,1,0,1,0,0,1,0,0,1,0] (bodyOf Try.f33))) Try.f33.ntmps B 13 13 (frL [(0, ZA 2), (1, .txs k f), (2, sL 9 m), (7, ZA 10), (9, sL 11 l), (10, .str true x), (11, iT (i : Int)), (12, ZA 12), (13, .bool true)]) (ZDv m h y l g) (pP .normal [(0, ZA 2), (1, .txs k f), (2, sL 9 m), (7, ZA 10), (9, sL 11 l), (10, .str true x), (11, iT (↑i : Int)), (12, ZA 12), (13, .bool true), (14, .bool false)] (ZDl m h l g y)) := rdT [] trivial hB
theorem rnJ (B : Nat) (hB : B ≤ 13) (k m l i : Nat) (y : El) (x : List UInt8) (f h g nd br : Nat → List UInt8) (M1 M2 M3 : List (List UInt8 × Int)) (b : Bool) : GoesB Try.prog ((nav [1,1,1,1,1,0,1,0,0,1,0,0,1,1,0,0] (bodyOf Try.f33))) Try.f33.ntmps B 13 13 (frL [(0, ZA 2), (1, .txs k f), (2, sL 9 m), (7, ZA 10), (9, sL 11 l), (10, .str true x), (11, iT (i : Int)), (12, ZA 12), (13, .bool true), (14, .sbool b)]) (ZDv m h y l g) (pP .normal [(0, ZA 2), (1, .txs k f), (2, sL 9 m), (7, ZA 10), (9, sL 11 l), (10, .str true x), (11, iT (↑i : Int)), (12, ZA 12), (13, .bool true), (14, .sbool b), (15, Zc)] (ZDl m h l g y)) := rdT [] trivial hB
noncomputable abbrev ZD4 (v0 : Nat) (v1 : Nat → List UInt8) (v2 v3 : Nat) (v4 : List UInt8) (v5 : Nat) (v6 : Bool) (v7 : Nat) := frL [(0, ZA 2), (1, .txs v0 v1), (2, sL 9 v2), (7, ZA 10), (9, sL 11 v3), (10, .str true v4), (11, iT (v5 : Int)), (12, ZA 12), (13, .bool true), (14, .sbool v6), (15, iT (v7 : Int))]
theorem rnK (B : Nat) (hB : B ≤ 13) (k m l i j : Nat) (y : El) (x : List UInt8) (f h g nd br : Nat → List UInt8) (M1 M2 M3 : List (List UInt8 × Int)) (b : Bool) : GoesB Try.prog ((nav [1,1,1,1,1,0,1,0,0,1,0,0,1,1,0,1,0,0,0] (bodyOf Try.f33))) Try.f33.ntmps B 13 13 (ZD4 k f m l x i b j) (ZDv m h y l g) fun e fr' H' => (cond (decide ((↑j : Int) < (↑m : Int))) (pP .normal [(0, ZA 2), (1, .txs k f), (2, sL 9 m), (7, ZA 10), (9, sL 11 l), (10, .str true x), (11, iT (↑i : Int)), (12, ZA 12), (13, .bool true), (14, .sbool b), (15, iT (↑j : Int))] (ZDl m h l g y) e fr' H') (pP (.exit 2) [(0, ZA 2), (1, .txs k f), (2, sL 9 m), (7, ZA 10), (9, sL 11 l), (10, .str true x), (11, iT (↑i : Int)), (12, ZA 12), (13, .bool true), (14, .sbool b), (15, iT (↑j : Int))] (ZDl m h l g y) e fr' H')) := cD (fun q0 t0 => rdT [tT] (I1 t0) hB) (fun q0 t0 => rdT [fF] (I1 t0) hB)
theorem rnL (B : Nat) (hB : B ≤ 13) (k m l i j : Nat) (y : El) (x : List UInt8) (f h g nd br : Nat → List UInt8) (M1 M2 M3 : List (List UInt8 × Int)) (b : Bool) (x0 : ((b) = false → ((↑j : Int) < (↑m : Int)))) (x1 : ((b) = false → (0 + j < m))) (x2 : ((b) = false → ((↑i : Int) < (↑k : Int)))) : GoesB Try.prog ((nav [1,1,1,1,1,0,1,0,0,1,0,0,1,1,0,1,0,0,1,0,0] (bodyOf Try.f33))) Try.f33.ntmps B 13 13 (ZD4 k f m l x i b j) (ZDv m h y l g) fun e fr' H' => (cond (b) (pP .normal [(0, ZA 2), (1, .txs k f), (2, sL 9 m), (7, ZA 10), (9, sL 11 l), (10, .str true x), (11, iT (↑i : Int)), (12, ZA 12), (13, .bool true), (14, .bool true), (15, iT (↑j : Int))] (ZDl m h l g y) e fr' H') (pP .normal [(0, ZA 2), (1, .txs k f), (2, sL 9 m), (7, ZA 10), (9, sL 11 l), (10, .str true x), (11, iT (↑i : Int)), (12, ZA 12), (13, .bool true), (14, .sbool (h (0 + j) == f i)), (15, iT (↑j : Int))] (ZDl m h l g y) e fr' H')) := cI (fun t0 => rdT [tT] (I1 t0) hB) (fun t0 => rdT [fF] (I4 t0 (ai (show 0 ≤ (↑j : Int) by omega) (x0 t0)) (x1 t0) (ai (show 0 ≤ (↑i : Int) by omega) (x2 t0))) hB)
theorem rnM (B : Nat) (hB : B ≤ 13) (k m l i j : Nat) (y : El) (x : List UInt8) (f h g nd br : Nat → List UInt8) (M1 M2 M3 : List (List UInt8 × Int)) (b : Bool) (x0 : ((↑j : Int) + 1 ≤ (9223372036854775807 : Int))) : GoesB Try.prog ((nav [1,1,1,1,1,0,1,0,0,1,0,0,1,1,0,1,0,0,1,1] (bodyOf Try.f33))) Try.f33.ntmps B 13 13 (ZD4 k f m l x i b j) (ZDv m h y l g) (pP .normal [(0, ZA 2), (1, .txs k f), (2, sL 9 m), (7, ZA 10), (9, sL 11 l), (10, .str true x), (11, iT (↑i : Int)), (12, ZA 12), (13, .bool true), (14, .sbool b), (15, ZBw j)] (ZDl m h l g y)) := rdT [] (I1 (ai (show -9223372036854775808 ≤ (↑j : Int) + 1 by omega) x0)) hB
theorem rnN (B : Nat) (hB : B ≤ 13) (k m l i : Nat) (y : El) (x : List UInt8) (f h g nd br : Nat → List UInt8) (M1 M2 M3 : List (List UInt8 × Int)) : GoesB Try.prog ((nav [1,1,1,1,1,0,1,0,0,1,0,0,1,1,1,0] (bodyOf Try.f33))) Try.f33.ntmps B 13 13 (frL [(0, ZA 2), (1, .txs k f), (2, sL 9 m), (7, ZA 10), (9, sL 11 l), (10, .str true x), (11, iT (i : Int)), (12, ZA 12), (13, .bool true), (14, .bool true)]) (ZDv m h y l g) fun e fr' H' => (cond (El.a y == x) (pP .normal [(0, ZA 2), (1, .txs k f), (2, sL 9 m), (7, ZA 10), (9, sL 11 l), (10, .str true x), (11, iT (↑i : Int)), (12, ZA 12)] (ZDl m h l g y) e fr' H') (cond (El.b y == x) (pP .normal [(0, ZA 2), (1, .txs k f), (2, sL 9 m), (7, ZA 10), (9, sL 11 l), (10, .str true x), (11, iT (↑i : Int)), (12, ZA 12)] (ZDl m h l g y) e fr' H') (pP .ret [(0, ZA 2), (1, .txs k f), (2, sL 9 m), (7, ZA 10), (9, sL 11 l), (10, .str true x), (11, iT (↑i : Int)), (6, .bool false), (12, ZA 12)] (ZDl m h l g y) e fr' H'))) := cI (fun t0 => rdT [fF] (I1 (nt t0)) hB) (fun t0 => cI (fun t1 => rdT [tT, fF] (I2 (nf t0) (nt t1)) hB) (fun t1 => rdT [tT, tT] (I2 (nf t0) (nf t1)) hB))
theorem rnO (B : Nat) (hB : B ≤ 13) (k m l i : Nat) (y : El) (x : List UInt8) (f h g nd br : Nat → List UInt8) (M1 M2 M3 : List (List UInt8 × Int)) : GoesB Try.prog ((nav [1,1,1,1,1,0,1,0,0,1,0,0,1,1,1,1,0] (bodyOf Try.f33))) Try.f33.ntmps B 13 13 (frL [(0, ZA 2), (1, .txs k f), (2, sL 9 m), (7, ZA 10), (9, sL 11 l), (10, .str true x), (11, iT (i : Int)), (12, ZA 12)]) (ZDv m h y l g) fun e fr' H' => (cond (El.a y == x) (pP .normal [(0, ZA 2), (1, .txs k f), (2, sL 9 m), (7, ZA 10), (9, sL 11 l), (10, .str true (El.b y)), (11, iT (↑i : Int))] (ZDl m h l g y) e fr' H') (pP .normal [(0, ZA 2), (1, .txs k f), (2, sL 9 m), (7, ZA 10), (9, sL 11 l), (10, .str true (El.a y)), (11, iT (↑i : Int))] (ZDl m h l g y) e fr' H')) := cI (fun t0 => rdT [tT] (I1 t0) hB) (fun t0 => rdT [fF] (I1 t0) hB)
theorem rnP (B : Nat) (hB : B ≤ 13) (k m l i : Nat) (y : El) (x : List UInt8) (f h g nd br : Nat → List UInt8) (M1 M2 M3 : List (List UInt8 × Int)) : GoesB Try.prog ((nav [1,1,1,1,1,0,1,0,0,1,0,0,1,1,1,1,1,0,0] (bodyOf Try.f33))) Try.f33.ntmps B 13 13 (ZDn k f m l x i) (ZDv m h y l g) (pP .normal [(0, ZA 2), (1, .txs k f), (2, sL 9 m), (7, ZA 10), (9, sL 11 l), (10, .str true x), (11, iT (↑i : Int)), (16, Zc)] (ZDl m h l g y)) := rdT [] trivial hB
noncomputable abbrev ZEQ (v0 : Nat) (v1 : Nat → List UInt8) (v2 v3 : Nat) (v4 : List UInt8) (v5 v6 : Nat) := frL [(0, ZA 2), (1, .txs v0 v1), (2, sL 9 v2), (7, ZA 10), (9, sL 11 v3), (10, .str true v4), (11, iT (v5 : Int)), (16, iT (v6 : Int))]
theorem rnQ (B : Nat) (hB : B ≤ 13) (k m l i j : Nat) (y : El) (x : List UInt8) (f h g nd br : Nat → List UInt8) (M1 M2 M3 : List (List UInt8 × Int)) : GoesB Try.prog ((nav [1,1,1,1,1,0,1,0,0,1,0,0,1,1,1,1,1,0,1,0,0,0] (bodyOf Try.f33))) Try.f33.ntmps B 13 13 (ZEQ k f m l x i j) (ZDv m h y l g) fun e fr' H' => (cond (decide ((↑j : Int) < (↑l : Int))) (pP .normal [(0, ZA 2), (1, .txs k f), (2, sL 9 m), (7, ZA 10), (9, sL 11 l), (10, .str true x), (11, iT (↑i : Int)), (16, iT (↑j : Int))] (ZDl m h l g y) e fr' H') (pP (.exit 4) [(0, ZA 2), (1, .txs k f), (2, sL 9 m), (7, ZA 10), (9, sL 11 l), (10, .str true x), (11, iT (↑i : Int)), (16, iT (↑j : Int))] (ZDl m h l g y) e fr' H')) := cD (fun q0 t0 => rdT [tT] (I1 t0) hB) (fun q0 t0 => rdT [fF] (I1 t0) hB)
theorem rnR (B : Nat) (hB : B ≤ 13) (k m l i j : Nat) (y : El) (x : List UInt8) (f h g nd br : Nat → List UInt8) (M1 M2 M3 : List (List UInt8 × Int)) (x0 : ((↑j : Int) < (↑l : Int))) (x1 : (0 + j < l)) : GoesB Try.prog ((nav [1,1,1,1,1,0,1,0,0,1,0,0,1,1,1,1,1,0,1,0,0,1,0,0] (bodyOf Try.f33))) Try.f33.ntmps B 13 13 (ZEQ k f m l x i j) (ZDv m h y l g) fun e fr' H' => (cond (g (0 + j) == x) (pP .ret [(0, ZA 2), (1, .txs k f), (2, sL 9 m), (7, ZA 10), (9, sL 11 l), (10, .str true x), (11, iT (↑i : Int)), (6, .bool false), (16, iT (↑j : Int))] (ZDl m h l g y) e fr' H') (pP .normal [(0, ZA 2), (1, .txs k f), (2, sL 9 m), (7, ZA 10), (9, sL 11 l), (10, .str true x), (11, iT (↑i : Int)), (16, iT (↑j : Int))] (ZDl m h l g y) e fr' H')) := cI (fun t0 => rdT [tT] (I3 (ai (show 0 ≤ (↑j : Int) by omega) x0) x1 t0) hB) (fun t0 => rdT [fF] (I3 (ai (show 0 ≤ (↑j : Int) by omega) x0) x1 t0) hB)
theorem rnS (B : Nat) (hB : B ≤ 13) (k m l i j : Nat) (y : El) (x : List UInt8) (f h g nd br : Nat → List UInt8) (M1 M2 M3 : List (List UInt8 × Int)) (x0 : ((↑j : Int) + 1 ≤ (9223372036854775807 : Int))) : GoesB Try.prog ((nav [1,1,1,1,1,0,1,0,0,1,0,0,1,1,1,1,1,0,1,0,0,1,1] (bodyOf Try.f33))) Try.f33.ntmps B 13 13 (ZEQ k f m l x i j) (ZDv m h y l g) (pP .normal [(0, ZA 2), (1, .txs k f), (2, sL 9 m), (7, ZA 10), (9, sL 11 l), (10, .str true x), (11, iT (↑i : Int)), (16, ZBw j)] (ZDl m h l g y)) := rdT [] (I1 (ai (show -9223372036854775808 ≤ (↑j : Int) + 1 by omega) x0)) hB
noncomputable abbrev ZCo := nav [1,1,1,1,1,0,1,0,0,1,0,0,1,1,1,1,1,1] (bodyOf Try.f33)
theorem rnT (B : Nat) (hB : B ≤ 13) (k m l i j : Nat) (y : El) (x : List UInt8) (f h g nd br : Nat → List UInt8) (M1 M2 M3 : List (List UInt8 × Int)) (x0 : ((l + 1) * 16 ≤ 140737488355328)) (x1 : (l + 1 ≤ 9223372036854775807)) : GoesB Try.prog (ZCo) Try.f33.ntmps B 13 15 (ZDn k f m l x i) (ZDv m h y l g) (pP .normal [(0, ZA 2), (1, .txs k f), (2, sL 9 m), (7, ZA 10), (9, sL 14 (l + 1)), (10, .str true x), (11, iT (↑i : Int))] [(9, ZI m h), (12, Zj y), (14, .cells true 1 (l + 1) (.fn fun j => bif decide (j < l) then (txR g j) else [.str true x]))]) := rdT [] (I1 (ai (show l ≤ l by omega) (ai x0 x1))) hB
theorem rnU (B : Nat) (hB : B ≤ 12) (k m l i : Nat) (z : El) (x : List UInt8) (f h g nd br : Nat → List UInt8) (M1 M2 M3 : List (List UInt8 × Int)) (x0 : ((↑i : Int) + 1 ≤ (9223372036854775807 : Int))) : GoesB Try.prog ((nav [1,1,1,1,1,0,1,0,0,1,1] (bodyOf Try.f33))) Try.f33.ntmps B 12 12 (ZDn k f m l x i) (hpL [(10, ZR z), (11, ZP l g)]) (pP .normal [(0, ZA 2), (1, .txs k f), (2, sL 9 m), (7, ZA 10), (9, sL 11 l), (10, .str true x), (11, ZBw i)] [(10, Zj z), (11, ZP l g)]) := rdT [] (I1 (ai (show -9223372036854775808 ≤ (↑i : Int) + 1 by omega) x0)) hB
theorem rnV (B : Nat) (hB : B ≤ 12) (z : El) (x : List UInt8) (f h g nd br : Nat → List UInt8) (M1 M2 M3 : List (List UInt8 × Int)) : GoesB Try.prog ((nav [1,1,1,1,1,1] (bodyOf Try.f33))) Try.f33.ntmps B 12 12 (frL [(7, ZA 10), (10, .str true x)]) (hpL [(10, ZR z)]) (pP .ret [(6, .sbool (x == El.a z))] []) := rdT [] trivial hB
/-- is a name among the first so many? -/
def inq (h : tX) (x : Tx) : Nat → Bool
 | 0 => false
 | j + 1 => inq h x j || (h j == x)
theorem inq_true {h : tX} {x : Tx} : ∀ {m j : Nat}, j < m → h j = x → inq h x m = true
 | 0, _, hj, _ => absurd hj (Nat.not_lt_zero _)
 | m + 1, j, hj, e => by
  unfold inq
  by_cases c : j < m
  ·rw [inq_true c e]; rfl
  ·obtain rfl : j = m := by omega
   rw [e, beq_self_eq_true, Bool.or_true]
/-- what a list of names must be, that goes round: its elements' places, where one stands behind each -/
structure Rnd (n : Nat) (E : tE) (k : Nat) (f : tX) (m : Nat) (h : tX) (ix : Nat → Nat) (p : tX) : Prop where
 k1 : 1 ≤ k
 k2 : k ≤ 300
 m2 : m ≤ 256
 fi : ∀ i, i < k → ix i < n ∧ pos (f i) (NM E n) = some (ix i)
 j4 : (E (ix 0)).k ≠ 4
 j6 : (E (ix 0)).k ≠ 6
 p0 : p 0 = (E (ix 0)).b
 st : ∀ i, i + 1 < k → ((E (ix (i + 1))).a = p i ∨ (E (ix (i + 1))).b = p i) ∧ p (i + 1) = nxt E (ix (i + 1)) (p i)
 ne : ∀ i j, i < j → j < k → p i ≠ p j
 tr : ∀ i, i + 1 < k → ∃ j, j < m ∧ h j = f (i + 1)
 en : p (k - 1) = (E (ix 0)).a
theorem find_at {x : Tx} {l : List Tx} {i : Nat} (h : pos x l = some i) : lfind seq x (zipF 0 l) = some (i : Int) := by
 rw [find_zip, h, Option.map_some, Nat.zero_add]
noncomputable abbrev ZC2 := nav [1,1,1,1,1,0,1,0,0,1,0,0,1,1,0] (bodyOf Try.f33)
theorem rn_tr : ZC2 = .seq (nav [1,1,1,1,1,0,1,0,0,1,0,0,1,1,0,0] (bodyOf Try.f33)) (.block 2 (.loop (nav [1,1,1,1,1,0,1,0,0,1,0,0,1,1,0,1,0,0] (bodyOf Try.f33)))) := by kernel_rfl
theorem rn_b2 : (nav [1,1,1,1,1,0,1,0,0,1,0,0,1,1,0,1,0,0] (bodyOf Try.f33)) = .seq (nav [1,1,1,1,1,0,1,0,0,1,0,0,1,1,0,1,0,0,0] (bodyOf Try.f33)) (.seq (.block 3 (nav [1,1,1,1,1,0,1,0,0,1,0,0,1,1,0,1,0,0,1,0,0] (bodyOf Try.f33))) (nav [1,1,1,1,1,0,1,0,0,1,0,0,1,1,0,1,0,0,1,1] (bodyOf Try.f33))) := by kernel_rfl
noncomputable abbrev ZCp := nav [1,1,1,1,1,0,1,0,0,1,0,0,1,1,1,1,1,0] (bodyOf Try.f33)
theorem rn_mt : ZCp = .seq (nav [1,1,1,1,1,0,1,0,0,1,0,0,1,1,1,1,1,0,0] (bodyOf Try.f33)) (.block 4 (.loop (nav [1,1,1,1,1,0,1,0,0,1,0,0,1,1,1,1,1,0,1,0,0] (bodyOf Try.f33)))) := by kernel_rfl
theorem rn_b4 : (nav [1,1,1,1,1,0,1,0,0,1,0,0,1,1,1,1,1,0,1,0,0] (bodyOf Try.f33)) = .seq (nav [1,1,1,1,1,0,1,0,0,1,0,0,1,1,1,1,1,0,1,0,0,0] (bodyOf Try.f33)) (.seq (.block 5 (nav [1,1,1,1,1,0,1,0,0,1,0,0,1,1,1,1,1,0,1,0,0,1,0,0] (bodyOf Try.f33))) (nav [1,1,1,1,1,0,1,0,0,1,0,0,1,1,1,1,1,0,1,0,0,1,1] (bodyOf Try.f33))) := by kernel_rfl
noncomputable abbrev ZCT := nav [1,1,1,1,1,0,1,0,0,1,0,0] (bodyOf Try.f33)
noncomputable abbrev ZCg := nav [1,1,1,1,1,0,1,0,0] (bodyOf Try.f33)
theorem rn_body : ZCg = .seq (nav [1,1,1,1,1,0,1,0,0,0] (bodyOf Try.f33)) (.seq (.block 1 ZCT) (nav [1,1,1,1,1,0,1,0,0,1,1] (bodyOf Try.f33))) := by kernel_rfl
theorem rn_ir : ZCT = .seq ZDD (.seq (nav [1,1,1,1,1,0,1,0,0,1,0,0,1,0] (bodyOf Try.f33)) (.seq ZC2 (.seq (nav [1,1,1,1,1,0,1,0,0,1,0,0,1,1,1,0] (bodyOf Try.f33)) (.seq (nav [1,1,1,1,1,0,1,0,0,1,0,0,1,1,1,1,0] (bodyOf Try.f33)) (.seq ZCp ZCo))))) := by kernel_rfl
theorem rn_is : (bodyOf Try.f33) = .seq (nav [0] (bodyOf Try.f33)) (.seq (nav [1,0] (bodyOf Try.f33)) (.seq ZCh (.seq (nav [1,1,1,0] (bodyOf Try.f33)) (.seq (nav [1,1,1,1,0] (bodyOf Try.f33)) (.seq (.seq (nav [1,1,1,1,1,0,0] (bodyOf Try.f33)) (.block 0 (.loop ZCg))) (nav [1,1,1,1,1,1] (bodyOf Try.f33))))))) := by kernel_rfl
noncomputable abbrev ZD1 (v0 : Nat) (v1 : tX) (v2 : El) (v3 : Nat) (v4 : tX) := ([(9, ZS v0 v1), (12, ZR v2), (11, ZV v3 v4)] : tH)
theorem rn_trees (k m i : Nat) (y : El) (x : Tx) (f h g : tX) (hm : m ≤ 256) (hi : i < k) :
  GoesB Try.prog ZC2 Try.f33.ntmps 11 13 13 (frL [(0, ZA 2), (1, .txs k f), (2, sL 9 m), (7, ZA 10), (9, sL 11 i), (10, .str true x), (11, iT (i : Int)), (12, ZA 12), (13, .bool true), (14, .sbool (inq h (f i) 0))]) (hpL (ZD1 m h y i g)) (Nm [(0, ZA 2), (1, .txs k f), (2, sL 9 m), (7, ZA 10), (9, sL 11 i), (10, .str true x), (11, iT (i : Int)), (12, ZA 12), (13, .bool true), (14, .sbool (inq h (f i) m)), (15, iT (m : Int))] (ZD1 m h y i g)) := by
 rw [rn_tr]
 refine GoesB.seqN (K1 := 13) (F1 := [(0, ZA 2), (1, .txs k f), (2, sL 9 m), (7, ZA 10), (9, sL 11 i), (10, .str true x), (11, iT (i : Int)), (12, ZA 12), (13, .bool true), (14, .sbool (inq h (f i) 0)), (15, ZBn)]) (H1 := (ZD1 m h y i g)) (GoesB.toN (rnJ 11 (by omega) k m i i y x f h g (fun _ => []) (fun _ => []) [] [] [] (inq h (f i) 0)) ⟨re rfl, re rfl, re rfl, re rfl, re rfl, re rfl, re rfl, re rfl, re rfl, re rfl, ⟨_, rfl, AV.ge.int _ _ _ _⟩, trivial⟩ (eHh rfl)) (by omega) ?_
 refine GoesB.rounds (P := Try.prog) (n := Try.f33.ntmps) (B := 11) (K := 13) (id := 2) m (fun j => [(0, ZA 2), (1, .txs k f), (2, sL 9 m), (7, ZA 10), (9, sL 11 i), (10, .str true x), (11, iT (i : Int)), (12, ZA 12), (13, .bool true), (14, .sbool (inq h (f i) j)), (15, iT (((j : Nat)) : Int))]) (fun _ => (ZD1 m h y i g)) (fun j hj => ?_) ?_
 ·rw [rn_b2]
  refine GoesB.seqN (K1 := 13) (F1 := [(0, ZA 2), (1, .txs k f), (2, sL 9 m), (7, ZA 10), (9, sL 11 i), (10, .str true x), (11, iT (i : Int)), (12, ZA 12), (13, .bool true), (14, .sbool (inq h (f i) j)), (15, iT (j : Int))]) (H1 := (ZD1 m h y i g)) ((rnK 11 (by omega) k m i i j y x f h g (fun _ => []) (fun _ => []) [] [] [] (inq h (f i) j)).mono fun e fr' H' hh => ?_) (by omega) ?_
  ·rw [decide_eq_true (by omega), cond_true] at hh
   exact hh
  refine GoesB.seqN (K1 := 13) (F1 := [(0, ZA 2), (1, .txs k f), (2, sL 9 m), (7, ZA 10), (9, sL 11 i), (10, .str true x), (11, iT (i : Int)), (12, ZA 12), (13, .bool true), (14, .sbool (inq h (f i) (j + 1))), (15, iT (j : Int))]) (H1 := (ZD1 m h y i g)) (GoesB.blockN ((rnL 11 (by omega) k m i i j y x f h g (fun _ => []) (fun _ => []) [] [] [] (inq h (f i) j) (fun _ => by omega) (fun _ => by omega) (fun _ => by omega)).post fun e fr' H' hh => ?_)) (by omega) ?_
  ·cases q : inq h (f i) j with
   | true =>
    rw [q, cond_true] at hh
    obtain ⟨rfl, rfl, rfl⟩ := hh
    exact ⟨[(0, ZA 2), (1, .txs k f), (2, sL 9 m), (7, ZA 10), (9, sL 11 i), (10, .str true x), (11, iT (i : Int)), (12, ZA 12), (13, .bool true), (14, .sbool (inq h (f i) (j + 1))), (15, iT (j : Int))], (ZD1 m h y i g), ⟨re rfl, re rfl, re rfl, re rfl, re rfl, re rfl, re rfl, re rfl, re rfl, ⟨_, rfl, AV.ge.bool' (by unfold inq; rw [q]; rfl)⟩, re rfl, trivial⟩, (eHh rfl), rfl, rfl, rfl⟩
   | false =>
    rw [q, cond_false] at hh
    obtain ⟨rfl, rfl, rfl⟩ := hh
    exact ⟨[(0, ZA 2), (1, .txs k f), (2, sL 9 m), (7, ZA 10), (9, sL 11 i), (10, .str true x), (11, iT (i : Int)), (12, ZA 12), (13, .bool true), (14, .sbool (inq h (f i) (j + 1))), (15, iT (j : Int))], (ZD1 m h y i g), ⟨re rfl, re rfl, re rfl, re rfl, re rfl, re rfl, re rfl, re rfl, re rfl, ⟨_, rfl, AV.ge.sbool' (by (conv => rhs; unfold inq; rw [q, Bool.false_or]); rw [Nat.zero_add])⟩, re rfl, trivial⟩, (eHh rfl), rfl, rfl, rfl⟩
  exact GoesB.toN (rnM 11 (by omega) k m i i j y x f h g (fun _ => []) (fun _ => []) [] [] [] (inq h (f i) (j + 1)) (by omega)) ⟨re rfl, re rfl, re rfl, re rfl, re rfl, re rfl, re rfl, re rfl, re rfl, re rfl, ⟨_, rfl, AV.ge.int' _ _ _ (by omega)⟩, trivial⟩ (eHh rfl)
 ·rw [rn_b2]
  refine GoesB.seqX (K1 := 13) ((rnK 11 (by omega) k m i i m y x f h g (fun _ => []) (fun _ => []) [] [] [] (inq h (f i) m)).mono fun e fr' H' hh => ?_) (by omega)
  rw [decide_eq_false (by omega), cond_false] at hh
  exact hh
theorem rn_mets (k m i : Nat) (y : El) (x : Tx) (f h g : tX) (hi : i < 1024) (hg : ∀ j, j < i → g j ≠ x) :
  GoesB Try.prog ZCp Try.f33.ntmps 11 13 13 (frL [(0, ZA 2), (1, .txs k f), (2, sL 9 m), (7, ZA 10), (9, sL 11 i), (10, .str true x), (11, iT (i : Int))]) (hpL (ZD1 m h y i g)) (Nm [(0, ZA 2), (1, .txs k f), (2, sL 9 m), (7, ZA 10), (9, sL 11 i), (10, .str true x), (11, iT (i : Int)), (16, iT (i : Int))] (ZD1 m h y i g)) := by
 rw [rn_mt]
 refine GoesB.seqN (K1 := 13) (F1 := [(0, ZA 2), (1, .txs k f), (2, sL 9 m), (7, ZA 10), (9, sL 11 i), (10, .str true x), (11, iT (i : Int)), (16, ZBn)]) (H1 := (ZD1 m h y i g)) (GoesB.toN (rnP 11 (by omega) k m i i y x f h g (fun _ => []) (fun _ => []) [] [] []) ⟨re rfl, re rfl, re rfl, re rfl, re rfl, re rfl, re rfl, ⟨_, rfl, AV.ge.int _ _ _ _⟩, trivial⟩ (eHh rfl)) (by omega) ?_
 refine GoesB.rounds (P := Try.prog) (n := Try.f33.ntmps) (B := 11) (K := 13) (id := 4) i (fun j => [(0, ZA 2), (1, .txs k f), (2, sL 9 m), (7, ZA 10), (9, sL 11 i), (10, .str true x), (11, iT (i : Int)), (16, iT (((j : Nat)) : Int))]) (fun _ => (ZD1 m h y i g)) (fun j hj => ?_) ?_
 ·rw [rn_b4]
  refine GoesB.seqN (K1 := 13) (F1 := [(0, ZA 2), (1, .txs k f), (2, sL 9 m), (7, ZA 10), (9, sL 11 i), (10, .str true x), (11, iT (i : Int)), (16, iT (j : Int))]) (H1 := (ZD1 m h y i g)) ((rnQ 11 (by omega) k m i i j y x f h g (fun _ => []) (fun _ => []) [] [] []).mono fun e fr' H' hh => ?_) (by omega) ?_
  ·rw [decide_eq_true (by omega), cond_true] at hh
   exact hh
  refine GoesB.seqN (K1 := 13) (F1 := [(0, ZA 2), (1, .txs k f), (2, sL 9 m), (7, ZA 10), (9, sL 11 i), (10, .str true x), (11, iT (i : Int)), (16, iT (j : Int))]) (H1 := (ZD1 m h y i g)) (GoesB.blockN ((rnR 11 (by omega) k m i i j y x f h g (fun _ => []) (fun _ => []) [] [] [] (by omega) (by omega)).mono fun e fr' H' hh => ?_)) (by omega) ?_
  ·rw [show (g (0 + j) == x) = false by rw [Nat.zero_add]; exact beq_false_of_ne (hg j hj), cond_false] at hh
   exact hh
  exact GoesB.toN (rnS 11 (by omega) k m i i j y x f h g (fun _ => []) (fun _ => []) [] [] [] (by omega)) ⟨re rfl, re rfl, re rfl, re rfl, re rfl, re rfl, re rfl, ⟨_, rfl, AV.ge.int' _ _ _ (by omega)⟩, trivial⟩ (eHh rfl)
 ·rw [rn_b4]
  refine GoesB.seqX (K1 := 13) ((rnQ 11 (by omega) k m i i i y x f h g (fun _ => []) (fun _ => []) [] [] []).mono fun e fr' H' hh => ?_) (by omega)
  rw [decide_eq_false (by omega), cond_false] at hh
  exact hh
noncomputable abbrev ZW (v0 : tE) (v1 : Nat → Nat) := (.cells true 8 1 (.fn fun _ => elR (v0 (v1 0))) : ABk)
noncomputable abbrev Z6 (v0 : Nat) (v1 : tX) := (.cells true 1 (v0 + 1) (.fn (txR v1)) : ABk)
noncomputable abbrev ZBE (v0 : tE) (v1 : Nat → Nat) (v2 : Nat) := (.cells true 8 1 (.fn fun _ => elR (v0 (v1 (v2 + 1)))) : ABk)
noncomputable abbrev ZBv (v0 : Nat) (v1 : tX) := (.cells true 1 (v0 + 1 + 1) (.fn (txR v1)) : ABk)
noncomputable abbrev ZDz (v0 : Nat) (v1 : tX) (v2 v3 : Nat) (v4 : tX) := frL [(0, ZA 2), (1, .txs v0 v1), (2, sL 9 v2), (7, ZA 10), (9, sL 11 (v3 + 1)), (10, .str true (v4 v3)), (11, ZBj v3)]
noncomputable abbrev ZD0 (v0 : Nat) (v1 : tE) (v2 : Nat) (v3 : tX) (v4 : Nat) (v5 : tX) (v6 : Nat → Nat) (w0) := ([(2, ZC v0 v1), (3, ZK v1 v0), (4, ZL v1 v0), (5, ZM v1 v0), (6, ZB v0 v1), (7, ZD v1 v0), (8, ZE v1 v0), (9, ZS v2 v3), (11, Z6 v4 v5), (w0, ZBE v1 v6 v4)] : tH)
noncomputable abbrev ZET (v0 : Nat) (v1 : tE) (v2 : Nat) (v3 : tX) (v4 : Nat) (v5 : tX) (v6 : Nat → Nat) := ([(2, ZC v0 v1), (3, ZK v1 v0), (4, ZL v1 v0), (5, ZM v1 v0), (6, ZB v0 v1), (7, ZD v1 v0), (8, ZE v1 v0), (9, ZS v2 v3), (11, Z6 v4 v5), (10, ZW v1 v6)] : tH)
noncomputable abbrev ZEX (v0 : Nat) (v1 : tX) (v2 : Nat) (v3 : tX) (v4 : Nat) (v5 : tE) (v6 : Nat → Nat) (w0) := ([(9, ZS v0 v1), (w0, ZBv v2 v3), (2, ZC v4 v5), (3, ZK v5 v4), (4, ZL v5 v4), (5, ZM v5 v4), (6, ZB v4 v5), (7, ZD v5 v4), (8, ZE v5 v4), (10, ZW v5 v6)] : tH)
theorem rn_in (n k m : Nat) (E : tE) (f h : tX) (ix : Nat → Nat) (p : tX) (hn : n ≤ 256) (R : Rnd n E k f m h ix p) (t : Nat) (ht : t + 1 < k) :
  GoesB Try.prog ZCT Try.f33.ntmps 11 12 12 (ZDz k f m t p) (hpL (ZET n E m h t p ix)) (Nm [(0, ZA 2), (1, .txs k f), (2, sL 9 m), (7, ZA 10), (9, sL 11 (t + 1 + 1)), (10, .str true (p (t + 1))), (11, ZBj t)] (ZEX m h t p n E ix 11)) := by
 obtain ⟨hx, hpo⟩ := R.fi (t + 1) ht
 have hf := find_at hpo
 have hk := R.k2
 have hm := R.m2
 have h14 : GoesB Try.prog ZCT Try.f33.ntmps 11 12 15 (ZDz k f m t p) (hpL (ZET n E m h t p ix)) (Nm [(0, ZA 2), (1, .txs k f), (2, sL 9 m), (7, ZA 10), (9, sL 14 (t + 1 + 1)), (10, .str true (p (t + 1))), (11, ZBj t)] (ZEX m h t p n E ix 14)) := by
  rw [rn_ir]
  refine GoesB.seqN (K1 := 13) (F1 := [(0, ZA 2), (1, .txs k f), (2, sL 9 m), (7, ZA 10), (9, sL 11 (t + 1)), (10, .str true (p t)), (11, ZBj t), (12, ZA 12), (13, .bool true)]) (H1 := [(2, ZC n E), (3, ZK E n), (4, ZL E n), (5, ZM E n), (6, ZB n E), (7, ZD E n), (8, ZE E n), (9, ZS m h), (11, Z6 t p), (12, ZBE E ix t), (10, ZW E ix)]) ?_ (by omega) ?_
  ·refine GoesB.frameN (bl := [(2, ZC n E), (3, ZK E n), (4, ZL E n), (5, ZM E n), (6, ZB n E), (7, ZD E n), (8, ZE E n), (9, ZS m h), (11, Z6 t p)]) (bl' := (ZD0 n E m h t p ix 12)) (xl := [(10, ZW E ix)]) ?_ (by omega) ⟨⟨by omega, fun j hj v hv => List.all_eq_true.1 (show (elR (E (ix 0))).all (fun v => v.low 11) = true from rfl) v hv⟩, trivial⟩ rfl rfl ⟨.inr ⟨by omega, _, rfl, fun μ h => h⟩, .inr ⟨by omega, _, rfl, fun μ h => h⟩, .inr ⟨by omega, _, rfl, fun μ h => h⟩, .inr ⟨by omega, _, rfl, fun μ h => h⟩, .inr ⟨by omega, _, rfl, fun μ h => h⟩, .inr ⟨by omega, _, rfl, fun μ h => h⟩, .inr ⟨by omega, _, rfl, fun μ h => h⟩, .inr ⟨by omega, _, rfl, fun μ h => h⟩, .inl rfl, .inl rfl, trivial⟩
   have h0 : GoesB Try.prog ZDD Try.f33.ntmps 11 12 16 (ZDz k f m t p) (hpL [(2, ZC n E), (3, ZK E n), (4, ZL E n), (5, ZM E n), (6, ZB n E), (7, ZD E n), (8, ZE E n), (9, ZS m h), (11, Z6 t p)]) (Nm [(0, ZA 2), (1, .txs k f), (2, sL 9 m), (7, ZA 10), (9, sL 11 (t + 1)), (10, .str true (p t)), (11, ZBj t), (12, ZA 13), (13, .bool true)] (ZD0 n E m h t p ix 13)) := by
    refine (rnH 11 (by omega) n (ND E n).length (BR E n).length k m (t + 1) (t + 1) 0 E (p t) f h p (lget (ND E n)) (lget (BR E n)) (zipF 0 (NM E n)) (zipF 0 (ND E n)) (zipF 0 (BR E n)) (by omega) (fun _ => ?_) (fun _ => ?_) (fun _ => ?_)).post fun e fr' H' hh => ?_
    ·rw [hf]; exact Int.natCast_nonneg _
    ·rw [hf]; exact Int.ofNat_lt.2 hx
    ·rw [hf]; show 0 + Int.toNat ((ix (t + 1) : Nat) : Int) < n; rw [Int.toNat_natCast]; omega
    ·rw [hf, Option.isSome_some, cond_true] at hh
     obtain ⟨rfl, rfl, rfl⟩ := hh
     refine ⟨[(0, ZA 2), (1, .txs k f), (2, sL 9 m), (7, ZA 10), (9, sL 11 (t + 1)), (10, .str true (p t)), (11, ZBj t), (12, ZA 13), (13, .bool true)], (ZD0 n E m h t p ix 13), (eGg rfl), ⟨hs rfl, hs rfl, hs rfl, hs rfl, hs rfl, hs rfl, hs rfl, hs rfl, hs rfl, wk_hb rfl ?_, trivial⟩, rfl, rfl, rfl⟩
     show elR (E (0 + Int.toNat ((ix (t + 1) : Nat) : Int))) = elR (E (ix (t + 1)))
     rw [Int.toNat_natCast, Nat.zero_add]
   exact h0.renG fun e fr' H' hh => by
    obtain ⟨rfl, rfl, rfl⟩ := hh
    exact ⟨sg 12 13, [(0, ZA 2), (1, .txs k f), (2, sL 9 m), (7, ZA 10), (9, sL 11 (t + 1)), (10, .str true (p t)), (11, ZBj t), (12, ZA 12), (13, .bool true)], (ZD0 n E m h t p ix 12), sg_low (by omega), (eRr rfl), ⟨rgR rfl rfl (fun j _ => rfl) (fun j _ => rfl) (by omega), rgM rfl rfl (by omega), rgM rfl rfl (by omega), rgM rfl rfl (by omega), rgR rfl rfl (fun j _ => rfl) (fun j _ => rfl) (by omega), rgR rfl rfl (fun j _ => rfl) (fun j _ => rfl) (by omega), rgR rfl rfl (fun j _ => rfl) (fun j _ => rfl) (by omega), rgR rfl rfl (fun j _ => rfl) (fun j _ => rfl) (by omega), rgR rfl rfl (fun j _ => rfl) (fun j _ => rfl) (by omega), rgR rfl rfl (fun j _ => rfl) (fun j _ => rfl) (by omega), trivial⟩, sg_inj (by omega), rfl, rfl, rfl⟩
  refine GoesB.weakL (fl := [(0, ZA 2), (1, .txs k f), (2, sL 9 m), (7, ZA 10), (9, sL 11 (t + 1)), (10, .str true (p t)), (11, ZBj t), (12, ZA 12), (13, .bool true)]) (bl := [(9, ZS m h), (12, ZBE E ix t), (11, Z6 t p), (2, ZC n E), (3, ZK E n), (4, ZL E n), (5, ZM E n), (6, ZB n E), (7, ZD E n), (8, ZE E n), (10, ZW E ix)]) (eGg rfl) (eHh rfl) ?_
  refine GoesB.frameN (bl := [(9, ZS m h), (12, ZBE E ix t), (11, Z6 t p)]) (bl' := [(9, ZS m h), (14, ZBv t p)]) (xl := [(2, ZC n E), (3, ZK E n), (4, ZL E n), (5, ZM E n), (6, ZB n E), (7, ZD E n), (8, ZE E n), (10, ZW E ix)]) ?_ (by omega) ⟨⟨by omega, fun j hj v hv => List.all_eq_true.1 (show (netR 6 7 8 n (ND E n).length (BR E n).length).all (fun v => v.low 11) = true from rfl) v hv⟩, ⟨by omega, trivial⟩, ⟨by omega, trivial⟩, ⟨by omega, trivial⟩, ⟨by omega, fun j hj v hv => List.all_eq_true.1 (show (elR (E j)).all (fun v => v.low 11) = true from rfl) v hv⟩, ⟨by omega, fun j hj v hv => List.all_eq_true.1 (show (txR (lget (ND E n)) j).all (fun v => v.low 11) = true from rfl) v hv⟩, ⟨by omega, fun j hj v hv => List.all_eq_true.1 (show (txR (lget (BR E n)) j).all (fun v => v.low 11) = true from rfl) v hv⟩, ⟨by omega, fun j hj v hv => List.all_eq_true.1 (show (elR (E (ix 0))).all (fun v => v.low 11) = true from rfl) v hv⟩, trivial⟩ rfl rfl ⟨.inr ⟨by omega, _, rfl, fun μ h => h⟩, .inl rfl, trivial⟩
  refine GoesB.seqN (K1 := 13) (F1 := [(0, ZA 2), (1, .txs k f), (2, sL 9 m), (7, ZA 10), (9, sL 11 (t + 1)), (10, .str true (p t)), (11, ZBj t), (12, ZA 12), (13, .bool true), (14, .sbool (inq h (f (t + 1)) 0))]) (H1 := [(9, ZS m h), (12, ZBE E ix t), (11, Z6 t p)]) (GoesB.toN (rnI 11 (by omega) k m (t + 1) (t + 1) (E (ix (t + 1))) (p t) f h p (fun _ => []) (fun _ => []) [] [] []) ⟨re rfl, re rfl, re rfl, re rfl, re rfl, re rfl, re rfl, re rfl, re rfl, ⟨_, rfl, AV.ge.bool' rfl⟩, trivial⟩ (eHh rfl)) (by omega) ?_
  refine GoesB.seqN (K1 := 13) (F1 := [(0, ZA 2), (1, .txs k f), (2, sL 9 m), (7, ZA 10), (9, sL 11 (t + 1)), (10, .str true (p t)), (11, ZBj t), (12, ZA 12), (13, .bool true), (14, .bool true)]) (H1 := [(9, ZS m h), (12, ZBE E ix t), (11, Z6 t p)]) (GoesB.toN (rn_trees k m (t + 1) (E (ix (t + 1))) (p t) f h p hm ht) ⟨re rfl, re rfl, re rfl, re rfl, re rfl, re rfl, re rfl, re rfl, re rfl, ⟨_, rfl, AV.ge.sboolb (by obtain ⟨j, hj, e⟩ := R.tr t ht; exact inq_true hj e)⟩, trivial⟩ (eHh rfl)) (by omega) ?_
  obtain ⟨s1, s2⟩ := R.st t ht
  refine GoesB.seqN (K1 := 13) (F1 := [(0, ZA 2), (1, .txs k f), (2, sL 9 m), (7, ZA 10), (9, sL 11 (t + 1)), (10, .str true (p t)), (11, ZBj t), (12, ZA 12)]) (H1 := [(9, ZS m h), (12, ZBE E ix t), (11, Z6 t p)]) ((rnN 11 (by omega) k m (t + 1) (t + 1) (E (ix (t + 1))) (p t) f h p (fun _ => []) (fun _ => []) [] [] []).mono fun e fr' H' hh => ?_) (by omega) ?_
  ·by_cases c : ((E (ix (t + 1))).a == p t) = true
   ·rw [c, cond_true] at hh; exact hh
   ·rw [Bool.eq_false_iff.2 c, cond_false, show ((E (ix (t + 1))).b == p t) = true from beq_iff_eq.2 (s1.resolve_left fun q => c (beq_iff_eq.2 q)), cond_true] at hh
    exact hh
  refine GoesB.seqN (K1 := 13) (F1 := [(0, ZA 2), (1, .txs k f), (2, sL 9 m), (7, ZA 10), (9, sL 11 (t + 1)), (10, .str true (p (t + 1))), (11, ZBj t)]) (H1 := [(9, ZS m h), (12, ZBE E ix t), (11, Z6 t p)]) ((rnO 11 (by omega) k m (t + 1) (t + 1) (E (ix (t + 1))) (p t) f h p (fun _ => []) (fun _ => []) [] [] []).mono fun e fr' H' hh => ?_) (by omega) ?_
  ·rw [s2]
   unfold nxt
   by_cases c : ((E (ix (t + 1))).a == p t) = true
   ·rw [c, cond_true] at hh ⊢; exact hh
   ·rw [Bool.eq_false_iff.2 c, cond_false] at hh ⊢; exact hh
  refine GoesB.seqN (K1 := 13) (F1 := [(0, ZA 2), (1, .txs k f), (2, sL 9 m), (7, ZA 10), (9, sL 11 (t + 1)), (10, .str true (p (t + 1))), (11, ZBj t)]) (H1 := [(9, ZS m h), (12, ZBE E ix t), (11, Z6 t p)]) (GoesB.toN (rn_mets k m (t + 1) (E (ix (t + 1))) (p (t + 1)) f h p (by omega) fun j hj => R.ne j (t + 1) hj ht) (eGg rfl) (eHh rfl)) (by omega) ?_
  have h9 : GoesB Try.prog ZCo Try.f33.ntmps 11 13 15 (frL [(0, ZA 2), (1, .txs k f), (2, sL 9 m), (7, ZA 10), (9, sL 11 (t + 1)), (10, .str true (p (t + 1))), (11, ZBj t)]) (hpL [(9, ZS m h), (12, ZBE E ix t), (11, Z6 t p)]) (Nm [(0, ZA 2), (1, .txs k f), (2, sL 9 m), (7, ZA 10), (9, sL 14 (t + 1 + 1)), (10, .str true (p (t + 1))), (11, ZBj t)] [(9, ZS m h), (14, ZBv t p)]) := by
   refine GoesB.toN (rnT 11 (by omega) k m (t + 1) (t + 1) 0 (E (ix (t + 1))) (p (t + 1)) f h p (fun _ => []) (fun _ => []) [] [] [] (by omega) (by omega)) (eGg rfl) ⟨hs rfl, ⟨_, rfl, rfl, rfl, rfl, fun j hj => ?_⟩, trivial⟩
   show (bif decide (j < t + 1) then [AV.str true (p j)] else [AV.str true (p (t + 1))]) = [AV.str true (p j)]
   by_cases c : j < t + 1
   ·rw [decide_eq_true c, cond_true]
   ·obtain rfl : j = t + 1 := by omega
    rw [decide_eq_false c, cond_false]
  exact h9
 exact h14.renG fun e fr' H' hh => by
  obtain ⟨rfl, rfl, rfl⟩ := hh
  exact ⟨sg 11 14, [(0, ZA 2), (1, .txs k f), (2, sL 9 m), (7, ZA 10), (9, sL 11 (t + 1 + 1)), (10, .str true (p (t + 1))), (11, ZBj t)], (ZEX m h t p n E ix 11), sg_low (by omega), (eRr rfl), ⟨rgR rfl rfl (fun j _ => rfl) (fun j _ => rfl) (by omega), rgR rfl rfl (fun j _ => rfl) (fun j _ => rfl) (by omega), rgR rfl rfl (fun j _ => rfl) (fun j _ => rfl) (by omega), rgM rfl rfl (by omega), rgM rfl rfl (by omega), rgM rfl rfl (by omega), rgR rfl rfl (fun j _ => rfl) (fun j _ => rfl) (by omega), rgR rfl rfl (fun j _ => rfl) (fun j _ => rfl) (by omega), rgR rfl rfl (fun j _ => rfl) (fun j _ => rfl) (by omega), rgR rfl rfl (fun j _ => rfl) (fun j _ => rfl) (by omega), trivial⟩, sg_inj (by omega), rfl, rfl, rfl⟩
noncomputable abbrev ZDJ (v0 : Nat) (v1 : tE) (v2 : Nat) (v3 : tX) := ([(2, ZC v0 v1), (3, ZK v1 v0), (4, ZL v1 v0), (5, ZM v1 v0), (6, ZB v0 v1), (7, ZD v1 v0), (8, ZE v1 v0), (9, ZS v2 v3)] : tH)
theorem rn_step (n k m : Nat) (E : tE) (f h : tX) (ix : Nat → Nat) (p : tX) (hn : n ≤ 256) (R : Rnd n E k f m h ix p) (t : Nat) (ht : t < k - 1) :
  GoesB Try.prog ZCg Try.f33.ntmps 11 12 12 (ZDz k f m t p) (hpL [(10, ZW E ix), (11, Z6 t p), (2, ZC n E), (3, ZK E n), (4, ZL E n), (5, ZM E n), (6, ZB n E), (7, ZD E n), (8, ZE E n), (9, ZS m h)]) (Nm [(0, ZA 2), (1, .txs k f), (2, sL 9 m), (7, ZA 10), (9, sL 11 (t + 1 + 1)), (10, .str true (p (t + 1))), (11, iT ((t + 1 + 1 : Nat) : Int))] [(10, ZW E ix), (11, ZBv t p), (2, ZC n E), (3, ZK E n), (4, ZL E n), (5, ZM E n), (6, ZB n E), (7, ZD E n), (8, ZE E n), (9, ZS m h)]) := by
 have hk := R.k2
 rw [rn_body]
 refine GoesB.seqN (K1 := 12) (F1 := [(0, ZA 2), (1, .txs k f), (2, sL 9 m), (7, ZA 10), (9, sL 11 (t + 1)), (10, .str true (p t)), (11, ZBj t)]) (H1 := [(10, ZW E ix), (11, Z6 t p), (2, ZC n E), (3, ZK E n), (4, ZL E n), (5, ZM E n), (6, ZB n E), (7, ZD E n), (8, ZE E n), (9, ZS m h)]) (GoesB.frameN (bl := [(10, ZW E ix), (11, Z6 t p)]) (bl' := [(10, ZW E ix), (11, Z6 t p)]) (xl := (ZDJ n E m h)) ((rnG 11 (by omega) k m (t + 1) (t + 1) (E (ix 0)) (p t) f h p (fun _ => []) (fun _ => []) [] [] []).mono fun e fr' H' hh => ?_) (by omega) ⟨⟨by omega, fun j hj v hv => List.all_eq_true.1 (show (netR 6 7 8 n (ND E n).length (BR E n).length).all (fun v => v.low 11) = true from rfl) v hv⟩, ⟨by omega, trivial⟩, ⟨by omega, trivial⟩, ⟨by omega, trivial⟩, ⟨by omega, fun j hj v hv => List.all_eq_true.1 (show (elR (E j)).all (fun v => v.low 11) = true from rfl) v hv⟩, ⟨by omega, fun j hj v hv => List.all_eq_true.1 (show (txR (lget (ND E n)) j).all (fun v => v.low 11) = true from rfl) v hv⟩, ⟨by omega, fun j hj v hv => List.all_eq_true.1 (show (txR (lget (BR E n)) j).all (fun v => v.low 11) = true from rfl) v hv⟩, ⟨by omega, fun j hj v hv => List.all_eq_true.1 (show (txR h j).all (fun v => v.low 11) = true from rfl) v hv⟩, trivial⟩ rfl rfl ⟨.inl rfl, .inl rfl, trivial⟩) (by omega) ?_
 ·rw [decide_eq_true (by omega), cond_true] at hh
  exact hh
 refine GoesB.seqN (K1 := 12) (F1 := [(0, ZA 2), (1, .txs k f), (2, sL 9 m), (7, ZA 10), (9, sL 11 (t + 1 + 1)), (10, .str true (p (t + 1))), (11, ZBj t)]) (H1 := [(10, ZW E ix), (11, ZBv t p), (2, ZC n E), (3, ZK E n), (4, ZL E n), (5, ZM E n), (6, ZB n E), (7, ZD E n), (8, ZE E n), (9, ZS m h)]) ?_ (by omega) ?_
 ·refine GoesB.blockN ?_
  refine GoesB.weakL (fl := [(0, ZA 2), (1, .txs k f), (2, sL 9 m), (7, ZA 10), (9, sL 11 (t + 1)), (10, .str true (p t)), (11, ZBj t)]) (bl := (ZET n E m h t p ix)) (eGg rfl) (eHh rfl) ?_
  exact GoesB.toN (rn_in n k m E f h ix p hn R t (by omega)) (eGg rfl) (eHh rfl)
 exact GoesB.frameN (bl := [(10, ZW E ix), (11, ZBv t p)]) (bl' := [(10, ZW E ix), (11, ZBv t p)]) (xl := (ZDJ n E m h)) (GoesB.toN (rnU 11 (by omega) k m (t + 1 + 1) (t + 1) (E (ix 0)) (p (t + 1)) f h p (fun _ => []) (fun _ => []) [] [] [] (by omega)) ⟨re rfl, re rfl, re rfl, re rfl, re rfl, re rfl, ⟨_, rfl, AV.ge.int' _ _ _ (by omega)⟩, trivial⟩ (eHh rfl)) (by omega) ⟨⟨by omega, fun j hj v hv => List.all_eq_true.1 (show (netR 6 7 8 n (ND E n).length (BR E n).length).all (fun v => v.low 11) = true from rfl) v hv⟩, ⟨by omega, trivial⟩, ⟨by omega, trivial⟩, ⟨by omega, trivial⟩, ⟨by omega, fun j hj v hv => List.all_eq_true.1 (show (elR (E j)).all (fun v => v.low 11) = true from rfl) v hv⟩, ⟨by omega, fun j hj v hv => List.all_eq_true.1 (show (txR (lget (ND E n)) j).all (fun v => v.low 11) = true from rfl) v hv⟩, ⟨by omega, fun j hj v hv => List.all_eq_true.1 (show (txR (lget (BR E n)) j).all (fun v => v.low 11) = true from rfl) v hv⟩, ⟨by omega, fun j hj v hv => List.all_eq_true.1 (show (txR h j).all (fun v => v.low 11) = true from rfl) v hv⟩, trivial⟩ rfl rfl ⟨.inl rfl, .inl rfl, trivial⟩
noncomputable abbrev ZEC (v0 : tE) (v1 : Nat → Nat) (v2 : Nat) (v3 : tX) (v4 v5 : Nat) (v6 : tX) := ([(10, ZW v0 v1), (11, .cells true 1 (v2 - 1 + 1) (.fn (txR v3))), (2, ZC v4 v0), (3, ZK v0 v4), (4, ZL v0 v4), (5, ZM v0 v4), (6, ZB v4 v0), (7, ZD v0 v4), (8, ZE v0 v4), (9, ZS v5 v6)] : tH)
theorem rn_end (n k m : Nat) (E : tE) (f h : tX) (ix : Nat → Nat) (p : tX) (hn : n ≤ 256) (R : Rnd n E k f m h ix p) :
  GoesB Try.prog ZCg Try.f33.ntmps 11 12 12 (frL [(0, ZA 2), (1, .txs k f), (2, sL 9 m), (7, ZA 10), (9, sL 11 (k - 1 + 1)), (10, .str true (p (k - 1))), (11, iT ((k - 1 + 1 : Nat) : Int))]) (hpL (ZEC E ix k p n m h)) (Xm 0 [(0, ZA 2), (1, .txs k f), (2, sL 9 m), (7, ZA 10), (9, sL 11 (k - 1 + 1)), (10, .str true (p (k - 1))), (11, iT ((k - 1 + 1 : Nat) : Int))] (ZEC E ix k p n m h)) := by
 have hk := R.k1
 rw [rn_body]
 refine GoesB.seqX (K1 := 12) ((rnG 11 (by omega) k m (k - 1 + 1) (k - 1 + 1) (E (ix 0)) (p (k - 1)) f h p (fun _ => []) (fun _ => []) [] [] []).frameL (bl := [(10, ZW E ix), (11, .cells true 1 (k - 1 + 1) (.fn (txR p)))]) (xl := (ZDJ n E m h)) (by omega) ⟨⟨by omega, fun j hj v hv => List.all_eq_true.1 (show (netR 6 7 8 n (ND E n).length (BR E n).length).all (fun v => v.low 11) = true from rfl) v hv⟩, ⟨by omega, trivial⟩, ⟨by omega, trivial⟩, ⟨by omega, trivial⟩, ⟨by omega, fun j hj v hv => List.all_eq_true.1 (show (elR (E j)).all (fun v => v.low 11) = true from rfl) v hv⟩, ⟨by omega, fun j hj v hv => List.all_eq_true.1 (show (txR (lget (ND E n)) j).all (fun v => v.low 11) = true from rfl) v hv⟩, ⟨by omega, fun j hj v hv => List.all_eq_true.1 (show (txR (lget (BR E n)) j).all (fun v => v.low 11) = true from rfl) v hv⟩, ⟨by omega, fun j hj v hv => List.all_eq_true.1 (show (txR h j).all (fun v => v.low 11) = true from rfl) v hv⟩, trivial⟩ rfl fun e fr' H' hh => ?_) (by omega)
 rw [decide_eq_false (by omega), cond_false] at hh
 obtain ⟨rfl, rfl, rfl⟩ := hh
 exact ⟨[(10, ZW E ix), (11, .cells true 1 (k - 1 + 1) (.fn (txR p)))], rfl, rfl, ⟨.inl rfl, .inl rfl, trivial⟩, rfl, rfl, rfl⟩
noncomputable abbrev ZDT (v0 : tE) (v1 : Nat → Nat) (v2 v3 : Nat) (v4 : tX) (w0) := ([(w0, ZW v0 v1), (2, ZC v2 v0), (3, ZK v0 v2), (4, ZL v0 v2), (5, ZM v0 v2), (6, ZB v2 v0), (7, ZD v0 v2), (8, ZE v0 v2), (9, ZS v3 v4)] : tH)
theorem rnd_goes (n k m : Nat) (E : tE) (f h : tX) (ix : Nat → Nat) (p : tX) (hn : n ≤ 256) (R : Rnd n E k f m h ix p) :
  GoesB Try.prog (bodyOf Try.f33) Try.f33.ntmps 10 10 16 (frameOf [ZA 2, .txs k f, sL 9 m] 0 .e) (hpL (ZDJ n E m h)) (fun e fr' H' => e = .ret ∧ fr' = frL [(6, .bool true)] ∧ H' = hpL (ZDJ n E m h)) := by
 have hk := R.k1
 have hk2 := R.k2
 obtain ⟨hx, hpo⟩ := R.fi 0 (by omega)
 have hf := find_at hpo
 rw [rn_is]
 refine GoesB.seqN (K1 := 10) (F1 := [(0, ZA 2), (1, .txs k f), (2, sL 9 m)]) (H1 := (ZDJ n E m h)) ((rnA 10 (by omega) k m f h (fun _ => []) (fun _ => []) (fun _ => []) [] [] []).idleN (by omega) ⟨⟨by omega, fun j hj v hv => List.all_eq_true.1 (show (netR 6 7 8 n (ND E n).length (BR E n).length).all (fun v => v.low 10) = true from rfl) v hv⟩, ⟨by omega, trivial⟩, ⟨by omega, trivial⟩, ⟨by omega, trivial⟩, ⟨by omega, fun j hj v hv => List.all_eq_true.1 (show (elR (E j)).all (fun v => v.low 10) = true from rfl) v hv⟩, ⟨by omega, fun j hj v hv => List.all_eq_true.1 (show (txR (lget (ND E n)) j).all (fun v => v.low 10) = true from rfl) v hv⟩, ⟨by omega, fun j hj v hv => List.all_eq_true.1 (show (txR (lget (BR E n)) j).all (fun v => v.low 10) = true from rfl) v hv⟩, ⟨by omega, fun j hj v hv => List.all_eq_true.1 (show (txR h j).all (fun v => v.low 10) = true from rfl) v hv⟩, trivial⟩) (by omega) ?_
 refine GoesB.seqN (K1 := 11) (F1 := [(0, ZA 2), (1, .txs k f), (2, sL 9 m), (7, ZA 10), (8, .bool true)]) (H1 := (ZDT E ix n m h 10)) ?_ (by omega) ?_
 ·have h0 : GoesB Try.prog (nav [1,0] (bodyOf Try.f33)) Try.f33.ntmps 10 10 14 (frL [(0, ZA 2), (1, .txs k f), (2, sL 9 m)]) (hpL (ZDJ n E m h)) (Nm [(0, ZA 2), (1, .txs k f), (2, sL 9 m), (7, ZA 11), (8, .bool true)] (ZDT E ix n m h 11)) := by
   refine (rnB 10 (by omega) n (ND E n).length (BR E n).length k m 0 E [] f h (fun _ => []) (lget (ND E n)) (lget (BR E n)) (zipF 0 (NM E n)) (zipF 0 (ND E n)) (zipF 0 (BR E n)) (by omega) (fun _ => ?_) (fun _ => ?_) (fun _ => ?_)).post fun e fr' H' hh => ?_
   ·rw [hf]; exact Int.natCast_nonneg _
   ·rw [hf]; exact Int.ofNat_lt.2 hx
   ·rw [hf]; show 0 + Int.toNat ((ix 0 : Nat) : Int) < n; rw [Int.toNat_natCast]; omega
   ·rw [hf, Option.isSome_some, cond_true] at hh
    obtain ⟨rfl, rfl, rfl⟩ := hh
    refine ⟨[(0, ZA 2), (1, .txs k f), (2, sL 9 m), (7, ZA 11), (8, .bool true)], (ZDT E ix n m h 11), (eGg rfl), ⟨wk_hb rfl ?_, eHh rfl⟩, rfl, rfl, rfl⟩
    show elR (E (0 + Int.toNat ((ix 0 : Nat) : Int))) = elR (E (ix 0))
    rw [Int.toNat_natCast, Nat.zero_add]
  exact h0.renG fun e fr' H' hh => by
   obtain ⟨rfl, rfl, rfl⟩ := hh
   exact ⟨sg 10 11, [(0, ZA 2), (1, .txs k f), (2, sL 9 m), (7, ZA 10), (8, .bool true)], (ZDT E ix n m h 10), sg_low (by omega), (eRr rfl), ⟨rgR rfl rfl (fun j _ => rfl) (fun j _ => rfl) (by omega), rgR rfl rfl (fun j _ => rfl) (fun j _ => rfl) (by omega), rgM rfl rfl (by omega), rgM rfl rfl (by omega), rgM rfl rfl (by omega), rgR rfl rfl (fun j _ => rfl) (fun j _ => rfl) (by omega), rgR rfl rfl (fun j _ => rfl) (fun j _ => rfl) (by omega), rgR rfl rfl (fun j _ => rfl) (fun j _ => rfl) (by omega), rgR rfl rfl (fun j _ => rfl) (fun j _ => rfl) (by omega), trivial⟩, sg_inj (by omega), rfl, rfl, rfl⟩
 refine GoesB.seqN (K1 := 11) (F1 := [(0, ZA 2), (1, .txs k f), (2, sL 9 m), (7, ZA 10)]) (H1 := (ZDT E ix n m h 10)) (GoesB.frameN (bl := [(10, ZW E ix)]) (bl' := [(10, ZW E ix)]) (xl := (ZDJ n E m h)) ?_ (by omega) ⟨⟨by omega, fun j hj v hv => List.all_eq_true.1 (show (netR 6 7 8 n (ND E n).length (BR E n).length).all (fun v => v.low 10) = true from rfl) v hv⟩, ⟨by omega, trivial⟩, ⟨by omega, trivial⟩, ⟨by omega, trivial⟩, ⟨by omega, fun j hj v hv => List.all_eq_true.1 (show (elR (E j)).all (fun v => v.low 10) = true from rfl) v hv⟩, ⟨by omega, fun j hj v hv => List.all_eq_true.1 (show (txR (lget (ND E n)) j).all (fun v => v.low 10) = true from rfl) v hv⟩, ⟨by omega, fun j hj v hv => List.all_eq_true.1 (show (txR (lget (BR E n)) j).all (fun v => v.low 10) = true from rfl) v hv⟩, ⟨by omega, fun j hj v hv => List.all_eq_true.1 (show (txR h j).all (fun v => v.low 10) = true from rfl) v hv⟩, trivial⟩ rfl rfl ⟨.inl rfl, trivial⟩) (by omega) ?_
 ·exact (rnC 10 (by omega) k m (E (ix 0)) [] f h (fun _ => []) (fun _ => []) (fun _ => []) [] [] []).renG fun e fr' H' hh => by
   rw [decide_eq_false R.j4, cond_false, decide_eq_false R.j6, cond_false] at hh
   obtain ⟨rfl, rfl, rfl⟩ := hh
   exact ⟨id, [(0, ZA 2), (1, .txs k f), (2, sL 9 m), (7, ZA 10)], [(10, ZW E ix)], fun g hg => rfl, (eRr rfl), ⟨rgR rfl rfl (fun j _ => rfl) (fun j _ => rfl) (by omega), trivial⟩, fun i j _ _ h => h, rfl, rfl, rfl⟩
 refine GoesB.seqN (K1 := 12) (F1 := [(0, ZA 2), (1, .txs k f), (2, sL 9 m), (7, ZA 10), (9, sL 11 1)]) (H1 := [(10, ZW E ix), (11, ZBz p 1), (2, ZC n E), (3, ZK E n), (4, ZL E n), (5, ZM E n), (6, ZB n E), (7, ZD E n), (8, ZE E n), (9, ZS m h)]) (GoesB.frameN (bl := [(10, ZW E ix)]) (bl' := [(10, ZW E ix), (11, ZBz p 1)]) (xl := (ZDJ n E m h)) (GoesB.toN (rnD 10 (by omega) k m (E (ix 0)) [] f h (fun _ => []) (fun _ => []) (fun _ => []) [] [] []) ⟨re rfl, re rfl, re rfl, re rfl, ⟨_, rfl, AV.ge.slc _ _ _ rfl⟩, trivial⟩ ⟨hs rfl, wk_hb rfl (by show [AV.str true (E (ix 0)).b] = [AV.str true (p 0)]; rw [R.p0]), trivial⟩) (by omega) ⟨⟨by omega, fun j hj v hv => List.all_eq_true.1 (show (netR 6 7 8 n (ND E n).length (BR E n).length).all (fun v => v.low 10) = true from rfl) v hv⟩, ⟨by omega, trivial⟩, ⟨by omega, trivial⟩, ⟨by omega, trivial⟩, ⟨by omega, fun j hj v hv => List.all_eq_true.1 (show (elR (E j)).all (fun v => v.low 10) = true from rfl) v hv⟩, ⟨by omega, fun j hj v hv => List.all_eq_true.1 (show (txR (lget (ND E n)) j).all (fun v => v.low 10) = true from rfl) v hv⟩, ⟨by omega, fun j hj v hv => List.all_eq_true.1 (show (txR (lget (BR E n)) j).all (fun v => v.low 10) = true from rfl) v hv⟩, ⟨by omega, fun j hj v hv => List.all_eq_true.1 (show (txR h j).all (fun v => v.low 10) = true from rfl) v hv⟩, trivial⟩ rfl rfl ⟨.inl rfl, .inl rfl, trivial⟩) (by omega) ?_
 refine GoesB.seqN (K1 := 12) (F1 := [(0, ZA 2), (1, .txs k f), (2, sL 9 m), (7, ZA 10), (9, sL 11 1), (10, .str true (p 0))]) (H1 := [(10, ZW E ix), (11, ZBz p 1), (2, ZC n E), (3, ZK E n), (4, ZL E n), (5, ZM E n), (6, ZB n E), (7, ZD E n), (8, ZE E n), (9, ZS m h)]) (GoesB.frameN (bl := [(10, ZW E ix), (11, ZBz p 1)]) (bl' := [(10, ZW E ix), (11, ZBz p 1)]) (xl := (ZDJ n E m h)) (GoesB.toN (rnE 10 (by omega) k m (E (ix 0)) [] f h p (fun _ => []) (fun _ => []) [] [] []) ⟨re rfl, re rfl, re rfl, re rfl, re rfl, ⟨_, rfl, by rw [R.p0]; exact AV.ge.refl _⟩, trivial⟩ (eHh rfl)) (by omega) ⟨⟨by omega, fun j hj v hv => List.all_eq_true.1 (show (netR 6 7 8 n (ND E n).length (BR E n).length).all (fun v => v.low 10) = true from rfl) v hv⟩, ⟨by omega, trivial⟩, ⟨by omega, trivial⟩, ⟨by omega, trivial⟩, ⟨by omega, fun j hj v hv => List.all_eq_true.1 (show (elR (E j)).all (fun v => v.low 10) = true from rfl) v hv⟩, ⟨by omega, fun j hj v hv => List.all_eq_true.1 (show (txR (lget (ND E n)) j).all (fun v => v.low 10) = true from rfl) v hv⟩, ⟨by omega, fun j hj v hv => List.all_eq_true.1 (show (txR (lget (BR E n)) j).all (fun v => v.low 10) = true from rfl) v hv⟩, ⟨by omega, fun j hj v hv => List.all_eq_true.1 (show (txR h j).all (fun v => v.low 10) = true from rfl) v hv⟩, trivial⟩ rfl rfl ⟨.inl rfl, .inl rfl, trivial⟩) (by omega) ?_
 refine GoesB.seqN (K1 := 12) (F1 := [(0, ZA 2), (1, .txs k f), (2, sL 9 m), (7, ZA 10), (9, sL 11 (k - 1 + 1)), (10, .str true (p (k - 1))), (11, iT ((k - 1 + 1 : Nat) : Int))]) (H1 := (ZEC E ix k p n m h)) ?_ (by omega) ?_
 ·have hr := GoesB.rounds (P := Try.prog) (n := Try.f33.ntmps) (B := 11) (K := 12) (id := 0) (k - 1) (fun t => [(0, ZA 2), (1, .txs k f), (2, sL 9 m), (7, ZA 10), (9, sL 11 (t + 1)), (10, .str true (p t)), (11, iT (((t + 1 : Nat)) : Int))]) (fun t => [(10, ZW E ix), (11, .cells true 1 (t + 1) (.fn (txR p))), (2, ZC n E), (3, ZK E n), (4, ZL E n), (5, ZM E n), (6, ZB n E), (7, ZD E n), (8, ZE E n), (9, ZS m h)]) (fun t ht => rn_step n k m E f h ix p hn R t ht) (rn_end n k m E f h ix p hn R)
  refine GoesB.seqN (K1 := 12) (F1 := [(0, ZA 2), (1, .txs k f), (2, sL 9 m), (7, ZA 10), (9, sL 11 (0 + 1)), (10, .str true (p 0)), (11, iT ((0 + 1 : Nat) : Int))]) (H1 := [(10, ZW E ix), (11, .cells true 1 (0 + 1) (.fn (txR p))), (2, ZC n E), (3, ZK E n), (4, ZL E n), (5, ZM E n), (6, ZB n E), (7, ZD E n), (8, ZE E n), (9, ZS m h)]) ?_ (by omega) (hr.lower (by omega))
  exact GoesB.frameN (bl := [(10, ZW E ix), (11, ZBz p 1)]) (bl' := [(10, ZW E ix), (11, .cells true 1 (0 + 1) (.fn (txR p)))]) (xl := (ZDJ n E m h)) (GoesB.toN (rnF 10 (by omega) k m (E (ix 0)) (p 0) f h p (fun _ => []) (fun _ => []) [] [] []) ⟨re rfl, re rfl, re rfl, re rfl, re rfl, re rfl, ⟨_, rfl, AV.ge.int _ _ _ _⟩, trivial⟩ (eHh rfl)) (by omega) ⟨⟨by omega, fun j hj v hv => List.all_eq_true.1 (show (netR 6 7 8 n (ND E n).length (BR E n).length).all (fun v => v.low 10) = true from rfl) v hv⟩, ⟨by omega, trivial⟩, ⟨by omega, trivial⟩, ⟨by omega, trivial⟩, ⟨by omega, fun j hj v hv => List.all_eq_true.1 (show (elR (E j)).all (fun v => v.low 10) = true from rfl) v hv⟩, ⟨by omega, fun j hj v hv => List.all_eq_true.1 (show (txR (lget (ND E n)) j).all (fun v => v.low 10) = true from rfl) v hv⟩, ⟨by omega, fun j hj v hv => List.all_eq_true.1 (show (txR (lget (BR E n)) j).all (fun v => v.low 10) = true from rfl) v hv⟩, ⟨by omega, fun j hj v hv => List.all_eq_true.1 (show (txR h j).all (fun v => v.low 10) = true from rfl) v hv⟩, trivial⟩ rfl rfl ⟨.inl rfl, .inl rfl, trivial⟩
 refine GoesB.weakL (fl := [(7, ZA 10), (10, .str true (p (k - 1)))]) (bl := (ZDT E ix n m h 10)) (eGg rfl) (eHh rfl) ?_
 have hv : GoesB Try.prog (nav [1,1,1,1,1,1] (bodyOf Try.f33)) Try.f33.ntmps 10 12 16 (frL [(7, ZA 10), (10, .str true (p (k - 1)))]) (hpL (ZDT E ix n m h 10)) (fun e fr' H' => e = .ret ∧ fr' = frL [(6, .sbool (p (k - 1) == (E (ix 0)).a))] ∧ H' = hpL (ZDJ n E m h)) := by
  refine GoesB.frameL (bl := [(10, ZW E ix)]) (xl := (ZDJ n E m h)) ((rnV 10 (by omega) (E (ix 0)) (p (k - 1)) f h (fun _ => []) (fun _ => []) (fun _ => []) [] [] []).up (by omega)) (by omega) ⟨⟨by omega, fun j hj v hv => List.all_eq_true.1 (show (netR 6 7 8 n (ND E n).length (BR E n).length).all (fun v => v.low 10) = true from rfl) v hv⟩, ⟨by omega, trivial⟩, ⟨by omega, trivial⟩, ⟨by omega, trivial⟩, ⟨by omega, fun j hj v hv => List.all_eq_true.1 (show (elR (E j)).all (fun v => v.low 10) = true from rfl) v hv⟩, ⟨by omega, fun j hj v hv => List.all_eq_true.1 (show (txR (lget (ND E n)) j).all (fun v => v.low 10) = true from rfl) v hv⟩, ⟨by omega, fun j hj v hv => List.all_eq_true.1 (show (txR (lget (BR E n)) j).all (fun v => v.low 10) = true from rfl) v hv⟩, ⟨by omega, fun j hj v hv => List.all_eq_true.1 (show (txR h j).all (fun v => v.low 10) = true from rfl) v hv⟩, trivial⟩ rfl (fun e fr' H0' hh => ?_)
  obtain ⟨rfl, rfl, rfl⟩ := hh
  exact ⟨[], rfl, rfl, trivial, rfl, rfl, rfl⟩
 refine hv.post fun e fr' H' hh => ?_
 obtain ⟨rfl, rfl, rfl⟩ := hh
 exact ⟨[(6, .bool true)], (ZDJ n E m h), ⟨⟨_, rfl, AV.ge.sboolb (by rw [R.en]; exact beq_self_eq_true _)⟩, trivial⟩, (eHh rfl), rfl, rfl, rfl⟩


/-- the text of a row -/
def txO (c : Nat → List AV) (j : Nat) : Tx := match c j with
 | [.str _ x] => x
 | _ => []
/-- what round asks of what it is handed -/
structure RndQ (n : Nat) (E : tE) (k : Nat) (f : tX) (m mm : Nat) (c : Nat → List AV) : Prop where
 lm : mm = m
 rt : ∀ j, j < m → RowGe (c j) (txR (txO c) j)
 go : ∃ (ix : Nat → Nat) (p : tX), Rnd n E k f m (txO c) ix p
noncomputable def roundS : List AV → M AV
 | [.ptr aN, .txs k f, .slc _ true aT m] => (M.okIf (flat0 aN && flat0 aT)).andThen fun _ => (netRd aN.g).andThen fun y => (M.okIf (nodupB [aT.g, aN.g, y.1.m1, y.1.m2, y.1.m3, y.1.l.g, y.1.nd.g, y.1.bg.g])).andThen fun _ => (getC aT.g).andThen fun b => (M.okIf (Nat.beq b.2.1 1)).andThen fun _ => (M.req (RndQ y.1.n y.2 k f m b.2.2.1 b.2.2.2.row)).andThen fun _ => (M.setB y.1.m1 (.mSI true (zipF 0 (NM y.2 y.1.n)))).andThen fun _ => (M.setB y.1.m2 (.mSI true (zipF 0 (ND y.2 y.1.n)))).andThen fun _ => (M.setB y.1.m3 (.mSI true (zipF 0 (BR y.2 y.1.n)))).andThen fun _ => M.ret (.bool true)
 | _ => M.no
theorem roundS_tch : ∀ args, Tch (roundS args) := by
 intro args
 unfold roundS
 split
 ·exact (Tch.okIf _).andThen fun _ => (Tch_netRd _).andThen fun _ => (Tch.okIf _).andThen fun _ => (Tch.getC _).andThen fun _ => (Tch.okIf _).andThen fun _ => (Tch.req _).andThen fun _ => (Tch.setB _ _).andThen fun _ => (Tch.setB _ _).andThen fun _ => (Tch.setB _ _).andThen fun _ => Tch.ret _
 ·exact Tch.no
theorem roundS_ok : ∀ args v g g', roundS args g = .done v g' → CallIs Try.prog 33 args v g g' := by
 intro args v g g' h
 unfold roundS at h
 split at h
 case h_2 => exact (no_done h).elim
 rename_i aN k f sT aT m
 obtain ⟨_, g1, a1, h⟩ := done_of h
 obtain ⟨q0, rfl⟩ := okIf_done a1
 rw [Bool.and_eq_true] at q0
 obtain ⟨q0, q1⟩ := q0
 have q0 := flat0_is q0
 have q1 := flat0_is q1
 obtain ⟨⟨w, E⟩, g3, a3, h⟩ := done_of h
 obtain ⟨qf, kk0, ff⟩ := netRd_done a3
 dsimp only at h ff
 obtain ⟨_, g4, a4, h⟩ := done_of h
 obtain ⟨q2, rfl⟩ := okIf_done a4
 have dup := nodup_of q2
 obtain ⟨⟨oT', z1, mm, c⟩, g5, a5, h5⟩ := done_of h
 clear h
 obtain ⟨hT, rfl⟩ := getC_done a5
 obtain ⟨_, g6, a6, h6⟩ := done_of h5
 clear h5
 obtain ⟨q3, rfl⟩ := okIf_done a6
 dsimp only at h6 hT q3
 obtain rfl := Nat.eq_of_beq_eq_true q3
 obtain ⟨_, g7, a7, h⟩ := done_of h6
 clear h6
 have kk := kk0.trans (req_done a7)
 obtain ⟨_, g8, a8, h⟩ := done_of h
 obtain ⟨_, g9, a9, h⟩ := done_of h
 obtain ⟨_, g10, a10, h⟩ := done_of h
 obtain ⟨b1, b2, b3⟩ := setB_done a8
 obtain ⟨b4, b5, b6⟩ := setB_done a9
 obtain ⟨b7, b8, b9⟩ := setB_done a10
 have hx : g10.nx = g.nx := by rw [b8, b5, b2, kk.2.1]
 obtain ⟨rfl, rfl⟩ := ret_done h
 have hT0 : (qf ∧ RndQ w.n E k f m mm c.row) → ∃ o, g.H.get aT.g = some (.cells o 1 m c) := fun hp => by
  have e := hT
  rw [kk0.1] at e
  exact ⟨_, by rw [← hp.2.lm]; exact e⟩
 have r9 : roG aN.g w (fun _ => aT.g) 9 = aT.g := rfl
 refine netCall (K' := 16) (c := (bodyOf Try.f33)) Try.func33 (by kernel_rfl) (by kernel_rfl) (argsC := [ZA 2, .txs k f, sL 9 m]) (fun hc => kk.2.2 (by rw [← b3, ← b6, ← b9]; exact hc)) (N := aN.g) (w := w) (E := E) (fun hp => ff hp.1) (xl := [(9, .cells false 1 m (.fn (txR (txO c.row))))]) (rx := fun _ => aT.g) (K0 := 10) (by omega) (fun hp M μ cs hr => ?_) (fun hp i b hb => ?_) (fun hp i j b b' hi hj e => ?_) (bs := []) (nms := []) rfl (fun nm hn => by cases hn) List.nodup_nil (by rw [b7, b4, b1, kk.1]; rfl) hx (fun b hb => by cases hb) rfl trivial (fun hp kN => ?_)
 ·simp only [Reps] at hr ⊢
  obtain ⟨c1, l1, rfl, h1, c2, l2, rfl, h2, c3, l3, rfl, h3, rfl⟩ := hr
  refine ⟨c1, _, rfl, rep_ptr0 h1 q0.1 q0.2 (by omega) rfl, c2, _, rfl, ?_, c3, _, rfl, ?_, rfl⟩
  ·simp only [Rep] at h2 ⊢
   obtain ⟨_, k1⟩ := h2
   exact ⟨by omega, k1⟩
  ·exact AV.ge.slc _ _ _ rfl _ _ _ (rep_slc0 h3 q1.1 q1.2 (by omega) r9)
 ·have hm := hpL_get hb
  rw [List.mem_singleton] at hm
  cases hm
  obtain ⟨o, e1⟩ := hT0 hp
  exact ⟨by omega, ⟨by omega, fun i hi v hv => by rw [List.mem_singleton.1 hv]; rfl, _, e1, fun N μ hpp k => viewW k hp.2.rt, fun h => (by cases h), fun μ m hr => hr.elim .inl fun c => by cases c.1⟩, rfl⟩
 ·have d := dup
  simp only [List.nodup_cons, List.mem_cons, List.not_mem_nil, or_false, not_or, not_false_eq_true, List.nodup_nil, and_true] at d
  obtain ⟨⟨d1, d2, d3, d4, d5, d6, d7⟩, _⟩ := d
  have hm1 := hpL_get hi
  have hm2 := hpL_get hj
  simp only [netBL, List.mem_append, List.mem_cons, List.not_mem_nil, or_false] at hm1 hm2
  cases hm1
  rcases hm2 with (h | h | h | h | h | h | h) | h <;> cases h <;> first | rfl | exact absurd e (by assumption) | exact absurd e.symm (by assumption)
 have F := ff hp.1
 obtain ⟨ix, p, R⟩ := hp.2.go
 rw [netBL_is F]
 refine (rnd_goes w.n k m E f (txO c.row) ix p F.n256 R).mono fun e fr' H' hh => ?_
 obtain ⟨rfl, rfl, rfl⟩ := hh
 exact ⟨.inl rfl, _, _, res1 (t := 6) (by kernel_rfl) rfl, trivial, AV.ge.refl _, ⟨rfl, rfl, rfl⟩, fun j b hb => by cases hb⟩
noncomputable def gamO : Known := kc 71 ofBits (kc 74 toBits (kc 72 smallS (kc 61 kindS (kc 58 rowOfS (kc 73 ofS (kc 59 nameS (kc 60 nodeS (kc 35 chkS (kc 12 netofS (kc 29 elsS (kc 46 alongS (kc 44 rootS (kc 41 joinS (kc 39 noneS (kc 40 ogS (kc 15 voltS (kc 45 splitS (kc 19 loopsS (kc 18 treeS (kc 9 awakeS (kc 33 roundS (kn))))))))))))))))))))))
theorem gamO_ok : KnownOk Try.prog gamO := kc_ok ((ofBits_is Try.prog).callIs Try.func71 (by kernel_rfl) (by kernel_rfl) (by kernel_rfl) (by kernel_rfl)) (kc_ok ((toBits_is Try.prog).callIs Try.func74 (by kernel_rfl) (by kernel_rfl) (by kernel_rfl) (by kernel_rfl)) (kc_ok smallS_ok (kc_ok kindS_ok (kc_ok rowOfS_ok (kc_ok ofS_ok (kc_ok nameS_ok (kc_ok nodeS_ok (kc_ok chkS_ok (kc_ok netofS_ok (kc_ok elsS_ok (kc_ok alongS_ok (kc_ok rootS_ok (kc_ok joinS_ok (kc_ok noneS_ok (kc_ok ogS_ok (kc_ok voltS_ok (kc_ok splitS_ok (kc_ok loopsS_ok (kc_ok treeS_ok (kc_ok awakeS_ok (kc_ok roundS_ok (kn_ok))))))))))))))))))))))
theorem gamO_tch : KnownT gamO := kc_tch Tch.ofBits (kc_tch Tch.toBits (kc_tch smallS_tch (kc_tch kindS_tch (kc_tch rowOfS_tch (kc_tch ofS_tch (kc_tch nameS_tch (kc_tch nodeS_tch (kc_tch chkS_tch (kc_tch netofS_tch (kc_tch elsS_tch (kc_tch alongS_tch (kc_tch rootS_tch (kc_tch joinS_tch (kc_tch noneS_tch (kc_tch ogS_tch (kc_tch voltS_tch (kc_tch splitS_tch (kc_tch loopsS_tch (kc_tch treeS_tch (kc_tch awakeS_tch (kc_tch roundS_tch (kn_tch))))))))))))))))))))))
noncomputable def callO : Calls' := Sx.runN Try.prog gamO (regionC Try.prog) 1000 50
theorem callO_ok : CallOk Try.prog callO := engineC gamO_ok gamO_tch (by kernel_rfl) (by kernel_rfl) 1000 50
theorem callO_reg (n : Nat) : RegionOk Try.prog (regionC Try.prog callO n) n := runN_regionC gamO_ok gamO_tch (by kernel_rfl) (by kernel_rfl) 1000 50 n
noncomputable abbrev piececallO (f : Func) (c : Code) (fr : Fr) (H : T ABk) (K : Nat) (path : List Bool) : Res (Ex × Fr) :=
 codeA Try.prog callO (regionC Try.prog callO f.ntmps) noLoops f.ntmps 1000 c fr ⟨H, K, [], path, True⟩


theorem rcO {fn : Func} {K K' B : Nat} {e : Ex} {F : tF} {Hl : tH} {c : Code} {fr : Fr} {H : T ABk} {path : List Bool} (h : PieceN K' e F Hl (piececallO fn c fr H K path)) (hB : B ≤ K) : GoesB Try.prog c fn.ntmps B K K' fr H fun e' fr' H' => e' = e ∧ fr' = frL F ∧ H' = hpL Hl := GoesB.runN callO_ok (callO_reg _) (LoopsIn.none _ _ _) h hB
theorem rdO {fn : Func} {K K' B : Nat} {e : Ex} {F : tF} {Hl : tH} {c : Code} {fr : Fr} {H : T ABk} (path : List Bool) {q : Prop} (hq : q) (hB : B ≤ K) (h : pieceN K' e F Hl (piececallO fn c fr H K path) = (e = e ∧ selfW F ∧ selfH Hl ∧ true = true ∧ q) := by kernel_rfl) : GoesB Try.prog c fn.ntmps B K K' fr H fun e' fr' H' => e' = e ∧ fr' = frL F ∧ H' = hpL Hl := rcO (eqn h hq) hB
theorem zrA (B : Nat) (hB : B ≤ 1) (n j : Nat) (G : tE) (h : Nat → List UInt8) (lf : Nat → Nat → List UInt8) (M1 M2 M3 M4 M5 M6 : List (List UInt8 × Int)) (nd br nd2 br2 : Nat → List UInt8) : GoesB Try.prog ((nav [0] (bodyOf Try.f8))) Try.f8.ntmps B 1 1 (frameOf [ZF n 0] 0 .e) (hpL [(0, Zt n G)]) (pP .normal [(0, ZF n 0)] [(0, Za n G)]) := rdO [] trivial hB
theorem zrB (B : Nat) (hB : B ≤ 1) (n j : Nat) (G : tE) (h : Nat → List UInt8) (lf : Nat → Nat → List UInt8) (M1 M2 M3 M4 M5 M6 : List (List UInt8 × Int)) (nd br nd2 br2 : Nat → List UInt8) : GoesB Try.prog ((nav [1,0] (bodyOf Try.f8))) Try.f8.ntmps B 1 1 (frL [(0, ZF n 0)]) (hpL [(0, Zt n G)]) (pP .normal [(0, ZF n 0), (3, .bool true)] [(0, Za n G)]) := rdO [] trivial hB
noncomputable abbrev ZEV := ([(3, .bool true), (4, ZA 8), (5, ZA 9)] : tF)
theorem zrC (B : Nat) (hB : B ≤ 1) (n j : Nat) (G : tE) (h : Nat → List UInt8) (lf : Nat → Nat → List UInt8) (M1 M2 M3 M4 M5 M6 : List (List UInt8 × Int)) (nd br nd2 br2 : Nat → List UInt8) (x0 : (n * 104 ≤ 140737488355328)) (x1 : (∀ (j : Nat), j < n → RowGe (zR (G (0 + j))) (zR (rowsZ (rowsOf ⟨false, 0, 0, 0⟩ 8 8 (.fn fun j => zR (G j))) j)) ∧ El.v (G (0 + j)) < 18446744073709551616)) (x2 : (∀ (j : Nat), j < n → ∀ (u : AV), u ∈ zR (G (0 + j)) → AV.low 0 u = true)) (x3 : (PEQ n fun j => (elR (G (0 + (0 + j)))))) : GoesB Try.prog ((nav [1,1,0] (bodyOf Try.f8))) Try.f8.ntmps B 1 10 (frL [(0, .slc true false ⟨false, 0, 0, 0⟩ n), (3, .bool true)]) (hpL [(0, .cells false 8 n (.fn fun j => zR (G j)))]) fun e fr' H' => (cond (decide (Prod.fst (ofX (rowsE fun j => (elR (G (0 + (0 + j))))) n) = (0 : Int))) (pP .normal [(3, .bool true), (4, .ptr ⟨false, 8, 0, 0⟩), (5, .ptr ⟨false, 9, 0, 0⟩)] [(2, ABk.mSI true (zipF 0 (NM (rowsE (rowsOf ⟨false, 1, 0, 0⟩ 8 8 (.fn fun j => elR (rowsZ (rowsOf ⟨false, 0, 0, 0⟩ 8 8 (.fn fun j => zR (G j))) j)))) n))), (3, ABk.mSI true (zipF 0 (ND (rowsE (rowsOf ⟨false, 1, 0, 0⟩ 8 8 (.fn fun j => elR (rowsZ (rowsOf ⟨false, 0, 0, 0⟩ 8 8 (.fn fun j => zR (G j))) j)))) n))), (4, ABk.mSI true (zipF 0 (BR (rowsE (rowsOf ⟨false, 1, 0, 0⟩ 8 8 (.fn fun j => elR (rowsZ (rowsOf ⟨false, 0, 0, 0⟩ 8 8 (.fn fun j => zR (G j))) j)))) n))), (5, .cells true 8 n (.fn fun j => (elR (G (0 + (0 + j)))))), (6, .cells true 1 (List.length (ND (rowsE fun j => (elR (G (0 + (0 + j))))) n)) (.fn fun j => [.str true (lget (ND (rowsE fun j => (elR (G (0 + (0 + j))))) n) j)])), (7, .cells true 1 (List.length (BR (rowsE fun j => (elR (G (0 + (0 + j))))) n)) (.fn fun j => [.str true (lget (BR (rowsE fun j => (elR (G (0 + (0 + j))))) n) j)])), (8, .cells true 7 1 (.fn fun x => [.bool true, sL 5 n, AV.mp 2, sL 6 (List.length (ND (rowsE fun j => (elR (G (0 + (0 + j))))) n)), AV.mp 3, sL 7 (List.length (BR (rowsE fun j => (elR (G (0 + (0 + j))))) n)), AV.mp 4])), (9, .cells true 2 1 (.lit [] (.n .e (some [.int false .i64 0, .int false .i64 0]) .e)))] e fr' H') (pP .normal [(3, .bool true), (4, .nilp), (5, .ptr ⟨false, 2, 0, 0⟩)] [(2, .cells true 2 1 (.lit [] (.n .e (some [iT (Prod.fst (ofX (rowsE (rowsOf ⟨false, 1, 0, 0⟩ 8 8 (.fn fun j => elR (rowsZ (rowsOf ⟨false, 0, 0, 0⟩ 8 8 (.fn fun j => zR (G j))) j)))) n)), iT (Prod.snd (ofX (rowsE (rowsOf ⟨false, 1, 0, 0⟩ 8 8 (.fn fun j => elR (rowsZ (rowsOf ⟨false, 0, 0, 0⟩ 8 8 (.fn fun j => zR (G j))) j)))) n))]) .e)))] e fr' H')) := cD (fun q0 t0 => rdO [tT] (I5 (show 0 + n ≤ n by omega) (ai (ai x0 x1) x2) (show 0 + n ≤ n by omega) x3 t0) hB) (fun q0 t0 => rdO [fF] (I5 (show 0 + n ≤ n by omega) (ai (ai x0 x1) x2) (show 0 + n ≤ n by omega) x3 t0) hB)
noncomputable abbrev ZDh := (.cells true 2 1 (.fn fun _ => [Zc, Zc]) : ABk)
theorem zrD (B : Nat) (hB : B ≤ 10) (h : Nat → List UInt8) (lf : Nat → Nat → List UInt8) (M1 M2 M3 M4 M5 M6 : List (List UInt8 × Int)) (nd br nd2 br2 : Nat → List UInt8) : GoesB Try.prog ((nav [1,1,1,0] (bodyOf Try.f8))) Try.f8.ntmps B 10 10 (frL ZEV) (hpL [(9, ZDh)]) (pP .normal [(3, .bool true), (4, ZA 8)] []) := rdO [] trivial hB
theorem zrDf (B : Nat) (hB : B ≤ 10) (h : Nat → List UInt8) (lf : Nat → Nat → List UInt8) (M1 M2 M3 M4 M5 M6 : List (List UInt8 × Int)) (nd br nd2 br2 : Nat → List UInt8) (er at_ : Int) : GoesB Try.prog ((nav [1,1,1,0] (bodyOf Try.f8))) Try.f8.ntmps B 10 10 (frL [(3, .bool true), (4, .nilp), (5, ZA 2)]) (hpL [(2, .cells true 2 1 (.fn fun _ => [iT er, iT at_]))]) fun e fr' H' => (cond (decide (er = (0 : Int)) && (decide (at_ = (0 : Int)) && true)) (pP .ret [(2, .bool true), (3, .bool true), (4, .nilp)] [] e fr' H') (pP .ret [(2, .bool true), (3, .bool true), (4, .nilp)] [] e fr' H')) := cI (fun t0 => rdO [fF] (I1 (nt t0)) hB) (fun t0 => rdO [tT] (I1 (nf t0)) hB)
theorem zrE (B : Nat) (hB : B ≤ 9) (n q r j : Nat) (E : tE) (h : Nat → List UInt8) (lf : Nat → Nat → List UInt8) (M1 M2 M3 M4 M5 M6 : List (List UInt8 × Int)) (nd br nd2 br2 : Nat → List UInt8) (x0 : (NetQ n q r n q r M1 M2 M3 (Cont.row (.fn fun j => elR (E j))) (Cont.row (.fn (txR nd))) (Cont.row (.fn (txR br))))) : GoesB Try.prog ((nav [1,1,1,1,0] (bodyOf Try.f8))) Try.f8.ntmps B 9 10 (frL [(3, .bool true), (4, ZA 2)]) (ZDH n q r M1 M2 M3 E nd br) (pP .normal [(3, .bool true), (4, ZA 2), (6, ZCI E n 9)] [(2, ZX n q r), (3, Zx E n), (4, Zy E n), (5, Zz E n), (6, ZQ n E), (7, ZI q nd), (8, ZI r br), (9, .cells true 1 (List.length (treeL (rowsE (Cont.row (.fn fun j => elR (E j)))) n)) (.fn fun j => [.str true (nmT (eget (treeL (rowsE (Cont.row (.fn fun j => elR (E j)))) n)) j)]))]) := rdO [] (I1 x0) hB
noncomputable abbrev ZCU := nav [1,1,1,1,1,0] (bodyOf Try.f8)
theorem zrF_r0 (n q r t j : Nat) (E : tE) (h : Nat → List UInt8) (M1 M2 M3 : List (List UInt8 × Int)) (nd br : Nat → List UInt8) : PieceN 9 (Ex.normal) [(3, .bool true), (4, ZA 2), (6, sL 1 t), (33, ZA 2)] [(2, ZX n q r), (3, Zd M1), (4, Zd M2), (5, Zd M3), (6, ZQ n E), (7, ZI q nd), (8, ZI r br), (1, ZP t h)] (piececallO Try.f8 ((regPre 1 ZCU)) (frL [(3, .bool true), (4, ZA 2), (6, sL 1 t)]) (hpL [(2, ZY n q r), (3, .mSI true M1), (4, .mSI true M2), (5, .mSI true M3), (6, ZB n E), (7, ZI q nd), (8, ZI r br), (1, ZP t h)]) 9 []) := eN trivial
theorem zrFq_r0 (n q r t s j : Nat) (E : tE) (h : Nat → List UInt8) (ln : Nat → Nat) (lf : Nat → Nat → List UInt8) (M1 M2 M3 : List (List UInt8 × Int)) (nd br : Nat → List UInt8) : PieceN 12 (Ex.normal) [(3, .bool true), (4, ZA 2), (6, sL 1 t), (7, sL 9 s)] [(2, ZX n q r), (3, Zd M1), (4, Zd M2), (5, Zd M3), (6, ZQ n E), (7, ZI q nd), (8, ZI r br), (1, ZP t h), (9, Zp s ln lf)] (piececallO Try.f8 ((regPost 2 ZCU)) (frL [(34, sL 9 s), (3, .bool true), (4, ZA 2), (6, sL 1 t)]) (hpL [(9, Zp s ln lf), (2, ZY n q r), (3, .mSI true M1), (4, .mSI true M2), (5, .mSI true M3), (6, ZB n E), (7, ZI q nd), (8, ZI r br), (1, ZP t h)]) 12 []) := eN trivial
end Go.Proofs.Ytgjdeclenlgaeaa
