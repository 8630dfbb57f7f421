/- SourceRights: a part: summaries of functions that the statement reaches, printed by program, checked by the kernel. -/
import Derived.ProofKit
import Derived.OpenShut
import Derived.KernelRfl
import Derived.SizedLaws
import Derived.Test.YtdagokpedjfepaaProg
import Derived.Test.YtdagokpedjfepaaSourceRightsPC
namespace Go.Proofs.Ytdagokpedjfepaa
open Go.ChangeShapes Go.WideShapes Go.ChangeAt Go.RowKit Go.Sx
set_option linter.unusedVariables false
set_option linter.unusedSimpArgs false
set_option maxRecDepth 100000

theorem XM (n : Nat) (E : tE) (hn : n * 104 ≤ 140737488355328) (hv : ∀ j, j < n → (E j).v < 18446744073709551616) : aj Try.prog (ak Try.f24) Try.f24.ntmps 1 1 8 (bJ [.slc true false ⟨false, 0, 0, 0⟩ n] 0 .e) (hpL [(0, .cells false 8 n (.fn fun j => bI (E j)))]) (fun e fr' H' => e = .ret ∧ (((ofR bU E n).1 ≠ 0 ∧ (∃ s s', fr' = aQ [(2, .bG), (3, .ptr ⟨false, 1, 0, 0⟩)] ∧ H' = hpL [(1, .cells true 2 1 (.fn fun _ => [.int s .i64 (ofR bU E n).1, .int s' .i64 (ofR bU E n).2]))])) ∨ ((ofR bU E n).1 = 0 ∧ fr' = aQ [(2, .ptr ⟨false, 3, 0, 0⟩), (3, .ptr ⟨false, 1, 0, 0⟩)] ∧ H' = hpL [(1, .cells true 2 1 (.fn fun _ => [.int false .i64 0, .int false .i64 0])), (2, .cells true 8 n (.fn fun j => bI (E j))), (3, .cells true 2 1 (.fn fun _ => [sL 2 n, .bool true]))]))) := by
 rw [show (ak Try.f24) = .seq (aT [0] (ak Try.f24)) (.seq (aT [1,0] (ak Try.f24)) (.seq (.seq (aT [1,1,0,0] (ak Try.f24)) (.block 0 (.loop (aT [1,1,0,1,0,0] (ak Try.f24))))) (.seq (aT [1,1,1,0] (ak Try.f24)) (.seq (aT [1,1,1,1,0] (ak Try.f24)) (.seq (aT [1,1,1,1,1,0] (ak Try.f24)) (aT [1,1,1,1,1,1] (ak Try.f24))))))) by kernel_rfl]
 refine aj.aV (K1 := 2) (F1 := [(0, .slc true false ⟨false, 0, 0, 0⟩ n), (2, .bG), (3, .ptr ⟨false, 1, 0, 0⟩)]) (H1 := [(0, .cells false 8 n (.fn fun j => bI (E j))), (1, .cells true 2 1 (.fn fun _ => [.int false .i64 0, .int false .i64 0]))]) (aj.toN (oqA 1 (by omega) n E) (dJ rfl) ⟨hs rfl, jI rfl rfl, trivial⟩) (by omega) ?_
 have hB := oqB 1 (by omega) n E
 by_cases h256 : 256 < n
 ·refine aj.seq (K1 := 2) (by omega) (hB.post fun e fr' H' h => ?_)
  rw [decide_eq_true (by omega), cond_true] at h
  obtain ⟨rfl, rfl, rfl⟩ := h
  have e : (ofR bU E n) = (3, -1) := by unfold ofR; rw [decide_eq_true h256]; rfl
  exact ⟨[(2, .bG), (3, .ptr ⟨false, 1, 0, 0⟩)], [(1, .cells true 2 1 (.fn fun _ => [.int false .i64 3, .int false .i64 (-1)]))], (dJ rfl), ⟨⟨_, rfl, ⟨rfl, rfl, rfl, zO (p := fun j => _ = _) rfl⟩⟩, trivial⟩, rfl, .inl ⟨by rw [e]; decide, false, false, rfl, by rw [e]⟩⟩
 have hn2 : n ≤ 256 := by omega
 refine aj.aV (K1 := 2) (F1 := [(0, .slc true false ⟨false, 0, 0, 0⟩ n), (3, .ptr ⟨false, 1, 0, 0⟩)]) (H1 := [(0, .cells false 8 n (.fn fun j => bI (E j))), (1, .cells true 2 1 (.fn fun _ => [.int false .i64 0, .int false .i64 0]))]) (aj.toN (hB.mono fun e fr' H' h => by rw [decide_eq_false (by omega), cond_false] at h; exact h) (dJ rfl) (fG rfl)) (by omega) ?_
 refine aj.seq (K1 := 2) (by omega) ?_
 refine (show aj Try.prog _ Try.f24.ntmps 1 2 2 _ _ (fun e fr' H' => (e = .ret ∧ (ofR bU E n).1 ≠ 0 ∧ (∃ s s', fr' = aQ [(2, .bG), (3, .ptr ⟨false, 1, 0, 0⟩)] ∧ H' = hpL [(1, .cells true 2 1 (.fn fun _ => [.int s .i64 (ofR bU E n).1, .int s' .i64 (ofR bU E n).2]))])) ∨ (e = .normal ∧ (∀ j, j < n → eU bU E j = 0) ∧ fr' = aQ [(0, .slc true false ⟨false, 0, 0, 0⟩ n), (3, .ptr ⟨false, 1, 0, 0⟩)] ∧ H' = hpL [(0, .cells false 8 n (.fn fun j => bI (E j))), (1, .cells true 2 1 (.fn fun _ => [.int false .i64 0, .int false .i64 0]))])) from ?_).mono fun e fr' H' h => ?_
 ·have hC : aj Try.prog (aT [1,1,0,0] (ak Try.f24)) Try.f24.ntmps 2 2 2 (aQ [(0, .slc true false ⟨false, 0, 0, 0⟩ n), (3, .ptr ⟨false, 1, 0, 0⟩)]) (hpL []) (Nm [(0, .slc true false ⟨false, 0, 0, 0⟩ n), (3, .ptr ⟨false, 1, 0, 0⟩), (4, iT ((0 : Nat) : Int))] []) := aj.toN (oqC 2 (by omega) n) ⟨re rfl, re rfl, ⟨_, rfl, AV.ge.int _ _ _ _⟩, trivial⟩ trivial
  refine aj.aV (K1 := 2) (aj.lower (aj.fP (xl := [(0, .cells false 8 n (.fn fun j => bI (E j))), (1, .cells true 2 1 (.fn fun _ => [.int false .i64 0, .int false .i64 0]))]) hC (by omega) (sO (by omega) (nU (by omega) trivial))) (by omega)) (by omega) ?_
  refine (aj.count n (fun i => [(0, .slc true false ⟨false, 0, 0, 0⟩ n), (3, .ptr ⟨false, 1, 0, 0⟩), (4, iT ((i : Nat) : Int))]) (fun _ => [(0, .cells false 8 n (.fn fun j => bI (E j))), (1, .cells true 2 1 (.fn fun _ => [.int false .i64 0, .int false .i64 0]))]) [(0, .slc true false ⟨false, 0, 0, 0⟩ n), (3, .ptr ⟨false, 1, 0, 0⟩)] [(0, .cells false 8 n (.fn fun j => bI (E j))), (1, .cells true 2 1 (.fn fun _ => [.int false .i64 0, .int false .i64 0]))] (fun i => ∀ j, j < i → eU bU E j = 0) (fun fr' H' => (ofR bU E n).1 ≠ 0 ∧ (∃ s s', fr' = aQ [(2, .bG), (3, .ptr ⟨false, 1, 0, 0⟩)] ∧ H' = hpL [(1, .cells true 2 1 (.fn fun _ => [.int s .i64 (ofR bU E n).1, .int s' .i64 (ofR bU E n).2]))])) (fun j hj => absurd hj (Nat.not_lt_zero j)) (fun i hi hI => ?_)).mono fun e fr' H' h => ?_
  ·by_cases c : i < n
   ·refine (abg n i E hn2 hv c).mono fun e fr' H' h => ?_
    rcases h with ⟨h1, rfl, rfl, rfl⟩ | ⟨h1, rfl, s, s', rfl, rfl⟩
    ·refine .inl ⟨rfl, c, fun j hj => ?_, rfl, rfl⟩
     by_cases d : j < i
     ·exact hI j d
     ·obtain rfl : j = i := by omega
      exact h1
    ·have e := VF n i E hn2 c h1 hI
     exact .inr (.inr ⟨rfl, by rw [e]; exact h1, s, s', rfl, by rw [e]⟩)
   ·obtain rfl : n = i := by omega
    rw [show (aT [1,1,0,1,0,0] (ak Try.f24)) = .seq (aT [1,1,0,1,0,0,0] (ak Try.f24)) (.seq (.block 1 (.seq (aT [1,1,0,1,0,0,1,0,0,0] (ak Try.f24)) (.seq (aT [1,1,0,1,0,0,1,0,0,1,0] (ak Try.f24)) (.seq (aT [1,1,0,1,0,0,1,0,0,1,1,0] (ak Try.f24)) (.block 2 (.loop ZDB)))))) (aT [1,1,0,1,0,0,1,1] (ak Try.f24))) by kernel_rfl]
    have hD : aj Try.prog (aT [1,1,0,1,0,0,0] (ak Try.f24)) Try.f24.ntmps 2 2 2 (aQ [(0, .slc true false ⟨false, 0, 0, 0⟩ n), (3, .ptr ⟨false, 1, 0, 0⟩), (4, iT ((n : Nat) : Int))]) (hpL []) (Xm 0 [(0, .slc true false ⟨false, 0, 0, 0⟩ n), (3, .ptr ⟨false, 1, 0, 0⟩)] []) := (oqD 2 (by omega) n n).post fun e fr' H' h => by
     rw [decide_eq_false (by omega), cond_false] at h
     obtain ⟨rfl, rfl, rfl⟩ := h
     exact ⟨[(0, .slc true false ⟨false, 0, 0, 0⟩ n), (3, .ptr ⟨false, 1, 0, 0⟩)], [], (dJ rfl), trivial, rfl, rfl, rfl⟩
    refine aj.seq (K1 := 2) (by omega) ((aj.lower (aj.LU (xl := [(0, .cells false 8 n (.fn fun j => bI (E j))), (1, .cells true 2 1 (.fn fun _ => [.int false .i64 0, .int false .i64 0]))]) hD (by omega) (sO (by omega) (nU (by omega) trivial))) (by omega)).mono fun e fr' H' h => ?_)
    obtain ⟨rfl, rfl, rfl⟩ := h
    exact .inr (.inl ⟨rfl, hI, rfl, rfl⟩)
  ·rcases h with ⟨rfl, hI, rfl, rfl⟩ | ⟨rfl, hx⟩
   ·exact .inr ⟨rfl, hI, rfl, rfl⟩
   ·exact .inl ⟨rfl, hx⟩
 rcases h with ⟨rfl, hx⟩ | ⟨rfl, hall, rfl, rfl⟩
 ·exact ⟨rfl, .inl hx⟩
 have eR : (ofR bU E n) = bif decide (32 < (ND E n).length) || decide (64 < (ND E n).length + (BR E n).length) then (3, -1) else (0, 0) := by
  unfold ofR
  rw [decide_eq_false h256, cond_false, MC hall]; rfl
 have hJ : aj Try.prog (aT [1,1,1,0] (ak Try.f24)) Try.f24.ntmps 2 2 2 (aQ [(0, .slc true false ⟨false, 0, 0, 0⟩ n), (3, .ptr ⟨false, 1, 0, 0⟩)]) (hpL []) (Nm [(0, .slc true false ⟨false, 0, 0, 0⟩ n), (3, .ptr ⟨false, 1, 0, 0⟩), (7, .aX)] []) := aj.toN (oqJ 2 (by omega) n) (dJ rfl) trivial
 refine aj.aV (K1 := 2) (aj.lower (aj.fP (xl := [(0, .cells false 8 n (.fn fun j => bI (E j))), (1, .cells true 2 1 (.fn fun _ => [.int false .i64 0, .int false .i64 0]))]) hJ (by omega) (sO (by omega) (nU (by omega) trivial))) (by omega)) (by omega) ?_
 have hK : aj Try.prog (aT [1,1,1,1,0] (ak Try.f24)) Try.f24.ntmps 2 2 4 (aQ [(0, .slc true false ⟨false, 0, 0, 0⟩ n), (3, .ptr ⟨false, 1, 0, 0⟩), (7, .aX)]) (hpL [(0, .cells false 8 n (.fn fun j => bI (E j)))]) (Nm [(3, .ptr ⟨false, 1, 0, 0⟩), (8, .ptr ⟨false, 3, 0, 0⟩)] [(2, .cells true 8 n (.fn fun j => bI (E j))), (3, .cells true 2 1 (.fn fun _ => [sL 2 n, .bool true]))]) := aj.toN (oqK 2 (by omega) n E (by omega) (by omega)) (dJ rfl) ⟨⟨_, rfl, ⟨rfl, rfl, rfl, fun j hj => by simp only [Cont.row, Nat.zero_add]⟩⟩, jI rfl rfl, trivial⟩
 refine aj.aV (K1 := 4) (F1 := [(3, .ptr ⟨false, 1, 0, 0⟩), (8, .ptr ⟨false, 3, 0, 0⟩)]) (H1 := [(1, .cells true 2 1 (.fn fun _ => [.int false .i64 0, .int false .i64 0])), (2, .cells true 8 n (.fn fun j => bI (E j))), (3, .cells true 2 1 (.fn fun _ => [sL 2 n, .bool true]))]) (aj.toN (aj.lower (aj.dB (bl := [(0, .cells false 8 n (.fn fun j => bI (E j)))]) (iL := [(2, .cells true 8 n (.fn fun j => bI (E j))), (3, .cells true 2 1 (.fn fun _ => [sL 2 n, .bool true]))]) (xl := [(1, .cells true 2 1 (.fn fun _ => [.int false .i64 0, .int false .i64 0]))]) hK (by omega) (nU (by omega) trivial) rfl rfl ⟨.inl rfl, .inl rfl, trivial⟩) (by omega)) (dJ rfl) (fG rfl)) (by omega) ?_
 have e1 : jE (ND E n) = (ND E n).length := oU _
 have e2 : jE (BR E n) = (BR E n).length := oU _
 have hL := oqL 1 (by omega) n E ⟨hn2, rfl, fun j _ => ay _ rfl, hv⟩
 have bad : (ofR bU E n) = (3, -1) → ∀ {e : Ex}, e = .ret → (e = .ret ∧ (((ofR bU E n).1 ≠ 0 ∧ (∃ s s', aQ [(2, .bG), (3, .ptr ⟨false, 1, 0, 0⟩)] = aQ [(2, .bG), (3, .ptr ⟨false, 1, 0, 0⟩)] ∧ hpL [(1, .cells true 2 1 (.fn fun _ => [.int false .i64 3, .int false .i64 (-1)]))] = hpL [(1, .cells true 2 1 (.fn fun _ => [.int s .i64 (ofR bU E n).1, .int s' .i64 (ofR bU E n).2]))])))) := fun q e he => ⟨he, by rw [q]; decide, false, false, rfl, by rw [q]⟩
 by_cases h32 : 32 < (ND E n).length
 ·refine aj.seq (K1 := 8) (by omega) (hL.post fun e fr' H' h => ?_)
  rw [decide_eq_true (by rw [e1]; omega), cond_true] at h
  obtain ⟨rfl, rfl, rfl⟩ := h
  have q := bad (by rw [eR, decide_eq_true h32]; rfl) (e := .ret) rfl
  exact ⟨[(2, .bG), (3, .ptr ⟨false, 1, 0, 0⟩)], [(1, .cells true 2 1 (.fn fun _ => [.int false .i64 3, .int false .i64 (-1)]))], (dJ rfl), ⟨⟨_, rfl, ⟨rfl, rfl, rfl, zO (p := fun j => _ = _) rfl⟩⟩, trivial⟩, rfl, .inl q.2⟩
 by_cases h64 : 64 < (ND E n).length + (BR E n).length
 ·refine aj.seq (K1 := 8) (by omega) (hL.post fun e fr' H' h => ?_)
  rw [decide_eq_false (by rw [e1]; omega), cond_false, decide_eq_true (by rw [e1, e2]; omega), cond_true] at h
  obtain ⟨rfl, rfl, rfl⟩ := h
  have q := bad (by rw [eR, decide_eq_true h64, Bool.or_true]; rfl) (e := .ret) rfl
  exact ⟨[(2, .bG), (3, .ptr ⟨false, 1, 0, 0⟩)], [(1, .cells true 2 1 (.fn fun _ => [.int false .i64 3, .int false .i64 (-1)]))], (dJ rfl), ⟨⟨_, rfl, ⟨rfl, rfl, rfl, zO (p := fun j => _ = _) rfl⟩⟩, trivial⟩, rfl, .inl q.2⟩
 refine aj.aV (K1 := 4) (F1 := [(3, .ptr ⟨false, 1, 0, 0⟩), (8, .ptr ⟨false, 3, 0, 0⟩)]) (H1 := [(1, .cells true 2 1 (.fn fun _ => [.int false .i64 0, .int false .i64 0])), (2, .cells true 8 n (.fn fun j => bI (E j))), (3, .cells true 2 1 (.fn fun _ => [sL 2 n, .bool true]))]) (hL.renG fun e fr' H' h => ?_) (by omega) ?_
 ·rw [decide_eq_false (by rw [e1]; omega), cond_false, decide_eq_false (by rw [e1, e2]; omega), cond_false] at h
  obtain ⟨rfl, rfl, rfl⟩ := h
  exact ⟨id, [(3, .ptr ⟨false, 1, 0, 0⟩), (8, .ptr ⟨false, 3, 0, 0⟩)], [(1, .cells true 2 1 (.fn fun _ => [.int false .i64 0, .int false .i64 0])), (2, .cells true 8 n (.fn fun j => bI (E j))), (3, .cells true 2 1 (.fn fun _ => [sL 2 n, .bool true]))], fun g hg => rfl, (vk rfl), ⟨jk rfl rfl rfl (by omega), fD rfl rfl (fun j _ => rfl) (fun j _ => rfl) (by omega), jk rfl rfl rfl (by omega), trivial⟩, fun i j _ _ h => h, rfl, rfl, rfl⟩
 have hM : aj Try.prog (aT [1,1,1,1,1,1] (ak Try.f24)) Try.f24.ntmps 4 4 4 (aQ [(3, .ptr ⟨false, 1, 0, 0⟩), (8, .ptr ⟨false, 3, 0, 0⟩)]) (hpL [(1, .cells true 2 1 (.fn fun _ => [.int false .i64 0, .int false .i64 0]))]) (fun e fr' H' => e = .ret ∧ fr' = aQ [(2, .ptr ⟨false, 3, 0, 0⟩), (3, .ptr ⟨false, 1, 0, 0⟩)] ∧ H' = hpL [(1, .cells true 2 1 (.fn fun _ => [.int false .i64 0, .int false .i64 0]))]) := (oqM 4 (by omega)).post fun e fr' H' h => by
  obtain ⟨rfl, rfl, rfl⟩ := h
  exact ⟨[(2, .ptr ⟨false, 3, 0, 0⟩), (3, .ptr ⟨false, 1, 0, 0⟩)], [(1, .cells true 2 1 (.fn fun _ => [.int false .i64 0, .int false .i64 0]))], (dJ rfl), ⟨⟨_, rfl, ⟨rfl, rfl, rfl, zO (p := fun j => _ = _) rfl⟩⟩, trivial⟩, rfl, rfl, rfl⟩
 refine ((aj.lower (aj.xR (bl := [(1, .cells true 2 1 (.fn fun _ => [.int false .i64 0, .int false .i64 0]))]) (xl := [(2, .cells true 8 n (.fn fun j => bI (E j))), (3, .cells true 2 1 (.fn fun _ => [sL 2 n, .bool true]))]) hM (by omega) (sO (by omega) ⟨⟨by omega, fun j hj v hv => List.all_eq_true.1 (show [sL 2 n, .bool true].all (fun v => v.low 4) = true from rfl) v hv⟩, trivial⟩) rfl (fun e fr' H' h => ?_)) (by omega)).up (by omega))
 obtain ⟨rfl, rfl, rfl⟩ := h
 exact ⟨[(1, .cells true 2 1 (.fn fun _ => [.int false .i64 0, .int false .i64 0]))], rfl, rfl, ⟨.inl rfl, trivial⟩, rfl, .inr ⟨by rw [eR, decide_eq_false h32, decide_eq_false h64]; rfl, rfl, rfl⟩⟩


noncomputable def rfB (N : Nat) (E : tE) (n : Nat) : List aF := [ZD n E, .cells true 2 1 (.fn fun _ => [ZCp N n, .bool true])]
noncomputable def acu (E : tE) (n : Nat) : M Nat := (M.iR (ZD n E)).andThen fun L => M.iR (.cells true 2 1 (.fn fun _ => [.slc true true ⟨false, L, 0, 0⟩ n, .bool true]))
theorem PO {E : tE} {n : Nat} {N : Nat} {g g' : G} (h : acu E n g = .done N g') : N = g.nx + 1 ∧ g'.H = oq g.H g.nx (rfB g.nx E n) ∧ g'.nx = g.nx + 2 ∧ g'.cs = g.cs := by
 cases h
 exact ⟨rfl, rfl, rfl, rfl⟩
structure OfQ (n : Nat) (f : Nat → List AV) : Prop where
 of : PEQ n f
 n4 : n * 104 ≤ 140737488355328
 v64 : ∀ j, j < n → (bW f j).v < 18446744073709551616
noncomputable def XO : List AV → M AV
 | [x] => (rdQ 8 x OfQ).andThen fun y => (M.dec (decide ((uF (bW y.2) y.1).1 = 0))).andThen fun d => bif d then (acu (bW y.2) y.1).andThen fun N => M.ret (.iD [.ptr ⟨false, N, 0, 0⟩, .agg [ZC 0, ZC 0]]) else M.ret (.iD [.bG, .agg [iT (uF (bW y.2) y.1).1, iT (uF (bW y.2) y.1).2]])
 | _ => M.no
theorem XP : ∀ args, aC (XO args) := by
 intro args
 unfold XO
 split
 ·exact (QV _ _ _).andThen fun _ => (aC.dec _).andThen fun d => aC.cond (((aC.iR _).andThen fun _ => aC.iR _).andThen fun _ => aC.ret _) (aC.ret _)
 ·exact aC.no
theorem Nl (n : Nat) (f : Nat → List AV) (h : OfQ n f) : aj Try.prog (ak Try.f24) Try.f24.ntmps 1 1 8 (bJ [ZG n] 0 .e) (hpL [(0, .cells false 8 n (.fn f))]) (fun e fr' H' => e = .ret ∧ (((ofR bU (bW f) n).1 ≠ 0 ∧ (∃ s s', fr' = aQ [(2, .bG), (3, ZA 1)] ∧ H' = hpL [(1, .cells true 2 1 (.fn fun _ => [.int s .i64 (ofR bU (bW f) n).1, .int s' .i64 (ofR bU (bW f) n).2]))])) ∨ ((ofR bU (bW f) n).1 = 0 ∧ fr' = aQ (uw 2 3 3 1) ∧ H' = hpL [(1, ZB), (2, .cells true 8 n (.fn fun j => bI (bW f j))), (3, ZR n 2)]))) :=
 aj.LG (H0 := hpL [(0, .cells false 8 n (.fn fun j => bI (bW f j)))]) (fun t v ht => ⟨v, ht, AV.ge.refl _⟩) (fun i b hb => by
  have hm := bC hb
  simp only [List.mem_cons, List.not_mem_nil, or_false] at hm
  cases hm
  exact ⟨_, rfl, rfl, rfl, rfl, h.of.of.of⟩) (XM n (bW f) h.n4 h.v64)
theorem abh : ∀ args v g g', XO args g = .done v g' → bf Try.prog 24 args v g g' := by
 intro args v g g' h
 unfold XO at h
 simp only [Js] at h
 split at h
 case h_2 => exact (aY h).elim
 rename_i x
 obtain ⟨⟨n, f⟩, g1, a1, h1⟩ := au h
 clear h
 obtain ⟨qv, kv, fv⟩ := MH a1 (by omega) (fun h => h.of.low)
 dsimp only at fv
 obtain ⟨d, g2, a2, h2⟩ := au h1
 clear h1
 dsimp only at a2 h2
 have kk := kv.trans (jc a2)
 have hrep : qv → ∀ N μ (cs : List Value), aI N μ [x] cs → aI 1 (Cc μ [⟨x, 8, n, f⟩]) [gU 0 n] cs := fun hp N μ cs hcs => by
  simp only [aI] at hcs ⊢
  obtain ⟨c, r, rfl, hc, rfl⟩ := hcs
  exact ⟨c, [], rfl, Ag (l := [⟨x, 8, n, f⟩]) (fv hp).1 rfl hc, rfl⟩
 have hvs : qv → ∀ v ∈ [(⟨x, 8, n, f⟩ : Vw)], v.Ok g := fun hp v hv => by
  rw [List.mem_singleton.1 hv]; exact (fv hp).1
 cases d with
 | true =>
  rw [cond_true] at h2
  obtain ⟨N, g3, a3, h3⟩ := au h2
  obtain ⟨rfl, rfl⟩ := aA h3
  obtain ⟨rfl, e1, e2, e3⟩ := PO a3
  rw [kk.1, kk.2.1] at e1
  rw [kk.2.1] at e2 ⊢
  refine Ak (c := (ak Try.f24)) Try.func24 (by kernel_rfl) (by kernel_rfl) kk [⟨x, 8, n, f⟩] (fun hp => hvs hp.1) (dY := [gU 0 n]) (fun hp => hrep hp.1) (nms := [2, 3]) (bs := rfB g.nx (bW f) n) (K' := 8) (fun hp => ?_) ?_ ?_ e1 e2 (fun hc => by rw [← e3]; exact hc)
  ·refine (Nl n f (fv hp.1).2).mono fun e fr' H' h => ?_
   have he := of_decide_eq_true hp.2
   obtain ⟨rfl, ⟨c0, _⟩ | ⟨_, rfl, rfl⟩⟩ := h
   ·exact (c0 he).elim
   ·refine ⟨.inl rfl, [uz false 3, .agg [NJ false, NJ false]], _, rfl, trivial, ?_, rfl, ?_, by decide⟩
    ·simp only [AV.ren, lD, AA.ren, EW]
     exact AV.ge.refl _
    ·intro i b hb
     match i, hb with
     | 0, hb => cases hb; exact ⟨2, _, rfl, rfl, ⟨rfl, rfl, rfl, fun j hj => rfl⟩, rfl, fun j hj v hv => List.all_eq_true.1 (jY _ (bW f j)) v hv, fun j hj o v hv => wI hv⟩
     | 1, hb =>
      cases hb
      refine ⟨3, _, rfl, rfl, ⟨rfl, rfl, rfl, fun j hj => ?_⟩, rfl, fun j hj v hv => ?_, fun j hj o v hv => ?_⟩
      ·simp only [Cont.row, lD, AV.ren, AA.ren, mZ]
       rfl
      ·rcases List.mem_cons.1 hv with rfl | hv
       ·exact Nat.ble_eq_true_of_le (show Nat.succ g.nx ≤ g.nx + 2 by omega)
       ·rw [List.mem_singleton.1 hv]; rfl
      ·match o, hv with
       | 0, hv => cases hv; show g.nx ≤ g.nx; omega
       | 1, hv => cases hv; trivial
  ·simp only [AV.low, jw, rfB, List.length_cons, List.length_nil]
   simp
  ·simp only [AV.ji, jg]
   exact ⟨by omega, ⟨trivial, trivial, trivial⟩, trivial⟩
 | false =>
  rw [cond_false] at h2
  obtain ⟨rfl, rfl⟩ := aA h2
  refine Ak (c := (ak Try.f24)) Try.func24 (by kernel_rfl) (by kernel_rfl) kk [⟨x, 8, n, f⟩] (fun hp => hvs hp.1) (dY := [gU 0 n]) (fun hp => hrep hp.1) (nms := []) (bs := []) (K' := 8) (fun hp => ?_) ?_ ?_ (show g2.H = g.H from kk.1) (show g2.nx = g.nx from kk.2.1) id
  ·refine (Nl n f (fv hp.1).2).mono fun e fr' H' h => ?_
   have he := of_decide_eq_false hp.2
   obtain ⟨rfl, ⟨c0, s, s', rfl, rfl⟩ | ⟨c0, _⟩⟩ := h
   ·refine ⟨.inl rfl, [.bG, .agg [.int s .i64 (ofR bU (bW f) n).1, .int s' .i64 (ofR bU (bW f) n).2]], _, rfl, trivial, ?_, rfl, fun i b hb => (by cases hb), List.nodup_nil⟩
    exact AV.ge.ac3 (AV.ge.refl _) (QX (AV.ge.int _ _ _ _) (AV.ge.int _ _ _ _))
   ·exact (he c0).elim
  ·simp [AV.low, jw]
  ·simp [AV.ji, jg]


noncomputable def Ub (x y : Nat) : Bool := (bif decide ((↑x : Int) = (↑y : Int)) then (true) else (bif vP (cn x) (cn x) then (false) else (!vP (cn y) (cn y))))
noncomputable def srS : List AV → M AV
 | [.raw s0 x, .raw s1 y] => M.ret (dH (Bool.or s0 s1) (Ub x y))
 | args => iM 41 args
theorem aeG : ∀ args v g g', srS args g = .done v g' → bf Try.prog 41 args v g g' := by
  intro args v g g' h
  unfold srS at h
  split at h
  · rename_i s0 x s1 y
    obtain ⟨rfl, rfl⟩ := aA h
    refine LZ iO (a' := [.raw true x, .raw true y]) (R := dH (Bool.or true true) (Ub x y)) ?_ (fun N μ l ha => by simpa only [aI, Rep] using ha) (fun N μ c hc => by simpa only [Rep, aI, cZ] using hc)
    unfold Ub
    cases t0 : decide ((↑x : Int) = (↑y : Int))
    ·cases t1 : vP (cn x) (cn x)
     ·exact ⟨[fF, tT], lF (I2 t0 (nf t1))⟩
     ·exact ⟨[fF, fF], lF (I2 t0 (nt t1))⟩
    ·exact ⟨[tT], lF (I1 t0)⟩
  · exact iO _ _ _ _ _ h
noncomputable def Ic : List AV → M AV
 | [.int s0 .i64 k, .int s1 .i64 i] => (M.req (((-9223372036854775808 : Int) ≤ -1000 * k) ∧ ((-1000 : Int) * k ≤ (9223372036854775807 : Int)) ∧ ((-9223372036854775808 : Int) ≤ -1000 * k - i) ∧ ((-1000 : Int) * k - i ≤ (9223372036854775807 : Int)))).andThen fun _ => M.ret (AV.dD (Bool.or s0 s1) (jo (ofInt ((-1000 : Int) * k - i)) 4620130267728707584) (ofInt k))
 | args => iM 61 args
theorem Np : ∀ args v g g', Ic args g = .done v g' → bf Try.prog 61 args v g g' := by
 intro args v g g' h
 unfold Ic at h
 split at h
 ·rename_i s0 k s1 i
  obtain ⟨_, g1, a1, h1⟩ := au h
  obtain ⟨rfl, rfl⟩ := aA h1
  refine SY iO (dR a1) (a' := [iT k, iT i]) (R := AV.dD (Bool.or true true) (jo (ofInt ((-1000 : Int) * k - i)) 4620130267728707584) (ofInt k)) (fun hp => ?_) (fun N μ l ha => by simpa only [aI, Rep] using ha) (fun N μ c hc => by simpa only [Rep, aI, cZ] using hc)
  exact ⟨[], lF (I2 (ai (hp.1) (hp.2.1)) (ai (hp.2.2.1) (hp.2.2.2)))⟩
 ·exact iO _ _ _ _ _ h
theorem Ie : ∀ args, aC (Ic args) := by
 intro args
 unfold Ic
 split
 ·exact (aC.req _).andThen fun _ => aC.ret _
 ·exact Az _ _
theorem agN (x y : Nat) (hx : x < 18446744073709551616) (hy : y < 18446744073709551616) : Ub x y = decide (cn x = cn y) := by
 unfold Ub
 simp only [GV hx, GV hy]
 have e : decide ((x : Int) = (y : Int)) = decide (x = y) := decide_eq_decide.2 (by omega)
 simp only [e]
 cases h1 : isnan x <;> cases h2 : isnan y
 ·rw [iC h1, iC h2]; by_cases h : x = y <;> simp [h]
 ·rw [iC h1, gu h2]
  have n1 : x ≠ qn := fun h => by rw [h] at h1; exact absurd h1 (by decide)
  have n2 : x ≠ y := fun h => by rw [h, h2] at h1; cases h1
  simp [n1, n2]
 ·rw [gu h1, iC h2]
  have n1 : qn ≠ y := fun h => by rw [← h] at h2; exact absurd h2 (by decide)
  have n2 : x ≠ y := fun h => by rw [h, h2] at h1; cases h1
  simp [n1, n2]
 ·rw [gu h1, gu h2]; simp
noncomputable def PS (x y : AV) : M AV :=
 match x, y with
 | .flt s a, .flt s' b => M.ret (dH (s || s') (decide (a = b)))
 | _, _ => M.no
noncomputable def FM : List AV → M AV
 | [x, y] => PS x.fl y.fl
 | _ => M.no
theorem Uc : ∀ args v g g', FM args g = .done v g' → bf Try.prog 41 args v g g' := by
 intro args v g g' h
 unfold FM at h
 split at h
 ·rename_i x y
  generalize hx : x.fl = xf at h
  generalize hy : y.fl = yf at h
  unfold PS at h
  split at h
  ·rename_i s a s' b
   obtain ⟨rfl, rfl⟩ := aA h
   refine ⟨id, fun hc μ w bT hg ha => ?_⟩
   simp only [aI] at ha
   obtain ⟨c1, _, e1, r1, c2, _, rfl, r2, rfl⟩ := ha
   have r1 := r1.fl
   have r2 := r2.fl
   rw [hx] at r1
   rw [hy] at r2
   simp only [Rep] at r1 r2
   obtain ⟨b1, rfl, q1, l1⟩ := r1
   obtain ⟨b2, rfl, q2, l2⟩ := r2
   have hS := aeG [.raw true b1, .raw true b2] (dH true (Ub b1 b2)) g g rfl
   refine (hS.2 hc μ w bT hg (by rw [e1]; simp only [aI]; exact ⟨_, _, rfl, by simp only [Rep]; exact ⟨trivial, l1⟩, _, _, rfl, by simp only [Rep]; exact ⟨trivial, l2⟩, rfl⟩)).mono fun cv w' hA => ?_
   obtain ⟨μ', k1, k2, k3⟩ := hA
   refine ⟨μ', ?_, k2, k3⟩
   rw [agN _ _ l1 l2, q1, q2] at k1
   rw [cZ] at k1 ⊢
   exact k1
  ·exact (aY h).elim
 ·exact (aY h).elim
theorem PU : ∀ args, aC (FM args) := by
 intro args
 unfold FM
 split
 ·unfold PS
  split
  ·exact aC.ret _
  ·exact aC.no
 ·exact aC.no
noncomputable def XQ : Known := kc 41 FM (kc 61 Ic (kn))
theorem Nq : eY Try.prog XQ := aO Uc (aO Np (mJ))
theorem AQ : gG XQ := aG PU (aG Ie (jH))
noncomputable def AU : Calls' := Sx.runN Try.prog XQ (bY Try.prog) 1000 50
theorem AX : cO Try.prog AU := gK Nq AQ (by kernel_rfl) (by kernel_rfl) 1000 50
theorem PV : iq AU := jO AQ (fun _ _ _ h => by cases h) (fun call hc n l fr => gV hc n l fr) 50
theorem PW (n : Nat) : gq Try.prog (bY Try.prog AU n) n := gQ Nq AQ (by kernel_rfl) (by kernel_rfl) 1000 50 n


noncomputable def oC (k : Int) (j : Nat) : Nat := jo (ofInt (-1000 * k - (j : Int))) 4620130267728707584
noncomputable abbrev m10 (o : Bool) (n : Nat) : aF := .cells o 1 n (.fn fun j => [.dD true (oC 10 j) 4621819117588971520])
noncomputable abbrev m11 (o : Bool) (n : Nat) : aF := .cells o 1 n (.fn fun j => [.dD true (oC 11 j) 4622382067542392832])
noncomputable abbrev m12 (o : Bool) (n : Nat) : aF := .cells o 1 n (.fn fun j => [.dD true (oC 12 j) 4622945017495814144])
theorem YQ {x y : Nat} (h1 : Fw x) (h2 : Fw y) : zB [.dD true x y] := ⟨⟨true, rfl⟩, h1, h2⟩
noncomputable def FN (a b c d : Nat) : Bool := (bif decide (a = c) then (decide (b = d)) else (false))
noncomputable def snS : List AV → M AV
 | [.dD s0 a b, .dD s1 c d] => M.ret (dH (Bool.or s0 s1) (FN a b c d))
 | args => AU 12 args
theorem aeH : ∀ args v g g', snS args g = .done v g' → bf Try.prog 12 args v g g' := by
 intro args v g g' h
 unfold snS at h
 split at h
 ·rename_i s0 a b s1 c d
  obtain ⟨rfl, rfl⟩ := aA h
  refine LZ AX (a' := [.dD true a b, .dD true c d]) (R := dH (Bool.or true true) (FN a b c d)) ?_ (fun N μ l ha => by simpa only [aI, Rep] using ha) (fun N μ c hc => by simpa only [Rep, aI, cZ] using hc)
  unfold FN
  cases t0 : decide (a = c)
  ·exact ⟨[fF], lF (I1 t0)⟩
  ·exact ⟨[tT], lF (I1 t0)⟩
 ·exact AX _ _ _ _ _ h
theorem abj : ∀ args, aC (snS args) := by
 intro args
 unfold snS
 split
 ·exact aC.ret _
 ·exact PV _ _
noncomputable def aeI : List AV → M AV := Vt snS
theorem abk : ∀ args v g g', aeI args g = .done v g' → bf Try.prog 12 args v g g' := QA aeH
theorem XR : ∀ args, aC (aeI args) := LW abj
noncomputable def XT : Known := kc 12 aeI (kc 61 Ic (kn))
theorem Nr : eY Try.prog XT := aO abk (aO Np (mJ))
theorem Ig : gG XT := aG XR (aG Ie (jH))
noncomputable def JY : Calls' := Sx.runN Try.prog XT (bY Try.prog) 1000 50
theorem wM : cO Try.prog JY := gK Nr Ig (by kernel_rfl) (by kernel_rfl) 1000 50
theorem PX (n : Nat) : gq Try.prog (bY Try.prog JY n) n := gQ Nr Ig (by kernel_rfl) (by kernel_rfl) 1000 50 n
noncomputable abbrev jm (f : Func) (c : Code) (fr : Fr) (H : T aF) (K : Nat) (path : List Bool) : BU (Ex × Fr) :=
 cu Try.prog JY (bY Try.prog JY f.ntmps) lQ f.ntmps 1000 c fr ⟨H, K, [], path, True⟩
theorem aiU {fn : Func} {K K' B : Nat} {e : Ex} {F : tF} {Hl : tH} {c : Code} {fr : Fr} {H : T aF} {path : List Bool} (h : bV K' e F Hl (jm fn c fr H K path)) (hB : B ≤ K) : aj Try.prog c fn.ntmps B K K' fr H fun e' fr' H' => e' = e ∧ fr' = aQ F ∧ H' = hpL Hl := aj.runN wM (PX _) (iI.none _ _ _) h hB
theorem iP {fn : Func} {K K' B : Nat} {e : Ex} {F : tF} {Hl : tH} {c : Code} {fr : Fr} {H : T aF} (path : List Bool) {q : Prop} (hq : q) (hB : B ≤ K) (h : jP K' e F Hl (jm fn c fr H K path) = (e = e ∧ uh F ∧ uj Hl ∧ true = true ∧ q) := by kernel_rfl) : aj Try.prog c fn.ntmps B K K' fr H fun e' fr' H' => e' = e ∧ fr' = aQ F ∧ H' = hpL Hl := aiU (eqn h hq) hB
noncomputable def sK (m : Nat) : Code → Code
 | .region i ops d => .region i (ops.toList.take m).toArray d
 | c => c
theorem AY {a b : Nat} (h : a < b) : Nat.blt a b = true := by simpa [Nat.blt] using Nat.ble_eq_true_of_le h
noncomputable def XU (n0 n1 n2 : Nat) : Nat → List AV := fun x => bif Nat.beq x 0 then [sL 1 n0] else bif Nat.beq x 1 then [sL 2 n1] else bif Nat.beq x 2 then [sL 3 n2] else []
noncomputable def NK (n0 n1 n2 : Nat) : Nat → List AV := fun x => bif Nat.beq x 0 then [sL 4 (n0 + 6)] else bif Nat.beq x 1 then [sL 5 (n1 + 6)] else bif Nat.beq x 2 then [sL 6 (n2 + 6)] else []
theorem dV (n0 n1 n2 N : Nat) (hN : 4 ≤ N) : (aF.cells false 1 3 (.fn (XU n0 n1 n2))).kM N := fun i hi v hv => by
 match i, hi, hv with
 | 0, _, hv => rw [List.mem_singleton.1 hv]; show Nat.blt 1 N = true; exact AY (by omega)
 | 1, _, hv => rw [List.mem_singleton.1 hv]; show Nat.blt 2 N = true; exact AY (by omega)
 | 2, _, hv => rw [List.mem_singleton.1 hv]; show Nat.blt 3 N = true; exact AY (by omega)
theorem nC (n0 n1 n2 N m : Nat) (own : Bool) (hm : m ≤ 3) (hN : 7 ≤ N) : (aF.cells own 1 m (.fn (NK n0 n1 n2))).kM N := fun i hi v hv => by
 have hi : i < 3 := by omega
 match i, hi, hv with
 | 0, _, hv => rw [List.mem_singleton.1 hv]; show Nat.blt 4 N = true; exact AY (by omega)
 | 1, _, hv => rw [List.mem_singleton.1 hv]; show Nat.blt 5 N = true; exact AY (by omega)
 | 2, _, hv => rw [List.mem_singleton.1 hv]; show Nat.blt 6 N = true; exact AY (by omega)


theorem aiV (B : Nat) (hB : B ≤ 7) : aj Try.prog ((aT [0] (ak Try.f29))) Try.f29.ntmps B 7 7 (aQ [(0, sF 0 3)]) (hpL []) (pP .normal [(0, sF 0 3)] []) := iP [] trivial hB
theorem aiW (B : Nat) (hB : B ≤ 7) : aj Try.prog ((aT [1,0,0] (ak Try.f29))) Try.f29.ntmps B 7 7 (aQ [(0, sF 0 3)]) (hpL []) (pP .normal [(0, sF 0 3), (3, ZC 0)] []) := iP [] trivial hB
theorem abl (B : Nat) (hB : B ≤ 7) (k : Nat) : aj Try.prog ((aT [1,0,1,0,0,0] (ak Try.f29))) Try.f29.ntmps B 7 7 (aQ [(0, sF 0 3), (3, ZS k)]) (hpL []) fun e fr' H' => (cond (decide ((↑k : Int) < 3)) (pP .normal [(0, sF 0 3), (3, iT (↑k : Int))] [] e fr' H') (pP (.exit 0) [(0, sF 0 3), (3, iT (↑k : Int))] [] e fr' H')) := cD (fun q0 t0 => iP [tT] (I1 t0) hB) (fun q0 t0 => iP [fF] (I1 t0) hB)
theorem aeJ (B : Nat) (hB : B ≤ 7) (k : Nat) : aj Try.prog ((aT [1,0,1,0,0,1,0,0,0] (ak Try.f29))) Try.f29.ntmps B 7 7 (aQ [(0, sF 0 3), (3, ZS k)]) (hpL []) (pP .normal [(0, sF 0 3), (3, iT (↑k : Int)), (4, ZC 0)] []) := iP [] trivial hB
theorem aeK (B : Nat) (hB : B ≤ 7) (k : Nat) (x0 : ((↑k : Int) + 1 ≤ (9223372036854775807 : Int))) : aj Try.prog ((aT [1,0,1,0,0,1,1] (ak Try.f29))) Try.f29.ntmps B 7 7 (aQ [(0, sF 0 3), (3, ZS k)]) (hpL []) (pP .normal [(0, sF 0 3), (3, Ap k)] []) := iP [] (I1 (ai (show -9223372036854775808 ≤ (↑k : Int) + 1 by omega) x0)) hB
noncomputable abbrev ZO (v0 v1 v2 : Nat) := (.cells false 1 3 (.fn (XU v0 v1 v2)) : aF)
noncomputable abbrev ZBm := aT [1,0,1,0,0,1,0,0,1,0,0] (ak Try.f29)
noncomputable abbrev ZCH (v0 v1 : Nat) (v2 v3 : Nat → Nat) (w0 w1) := (.cells true 1 v0 (.fn fun j => bif Nat.beq j (0 + v1) then [.dD true (jo (ofInt ((-1000 : Int) * w0 - (↑v1 : Int))) 4620130267728707584) w1] else [.dD true (v2 j) (v3 j)]) : aF)
theorem aiY (B : Nat) (hB : B ≤ 7) (n0 n1 n2 i : Nat) (ra rb : Nat → Nat) (x0 : ((decide ((↑i : Int) < (↑n0 : Int))) = true → ((-9223372036854775808 : Int) ≤ -1000 * 10 - (↑i : Int)))) (x1 : ((decide ((↑i : Int) < (↑n0 : Int))) = true → ((↑i : Int) + 1 ≤ (9223372036854775807 : Int)))) : aj Try.prog (ZBm) Try.f29.ntmps B 7 7 (aQ [(0, sF 0 3), (3, iT 0), (4, ZS i)]) (hpL [(0, ZO n0 n1 n2), (1, cK true n0 ra rb)]) fun e fr' H' => (cond (decide ((↑i : Int) < (↑n0 : Int))) (pP .normal [(0, sF 0 3), (3, iT 0), (4, Ap i)] [(0, ZO n0 n1 n2), (1, ZCH n0 i ra rb 10 4621819117588971520)] e fr' H') (pP (.exit 2) [(0, sF 0 3), (3, iT 0), (4, iT (↑i : Int))] [(0, ZO n0 n1 n2), (1, cK true n0 ra rb)] e fr' H')) := cD (fun q0 t0 => iP [tT] (I11 (ai (show (0 : Int) ≤ 0 by omega) (show (0 : Int) < 3 by omega)) (show 0 < 3 by omega) t0 (ai (show (0 : Int) ≤ 0 by omega) (show (0 : Int) < 3 by omega)) (show 0 < 3 by omega) (ai (show (-9223372036854775808 : Int) ≤ 10 by omega) (show (10 : Int) ≤ 9223372036854775807 by omega)) (ai (show (-9223372036854775808 : Int) ≤ -1000 * (10 : Int) by omega) (ai (show (-1000 : Int) * 10 ≤ (9223372036854775807 : Int) by omega) (ai (x0 t0) (show (-1000 : Int) * 10 - (↑i : Int) ≤ 9223372036854775807 by omega)))) (ai (show 0 ≤ (↑i : Int) by omega) (show (↑i : Int) < (↑n0 : Int) by omega)) (show 0 + i < n0 by omega) (show 1 ≤ 1 by omega) (ai (show -9223372036854775808 ≤ (↑i : Int) + 1 by omega) (x1 t0))) hB) (fun q0 t0 => iP [fF] (I3 (ai (show (0 : Int) ≤ 0 by omega) (show (0 : Int) < 3 by omega)) (show 0 < 3 by omega) t0) hB)
theorem aiZ (B : Nat) (hB : B ≤ 7) (n0 n1 n2 i : Nat) (ra rb : Nat → Nat) (x0 : ((decide ((↑i : Int) < (↑n1 : Int))) = true → ((-9223372036854775808 : Int) ≤ -1000 * 11 - (↑i : Int)))) (x1 : ((decide ((↑i : Int) < (↑n1 : Int))) = true → ((↑i : Int) + 1 ≤ (9223372036854775807 : Int)))) : aj Try.prog (ZBm) Try.f29.ntmps B 7 7 (aQ [(0, sF 0 3), (3, iT 1), (4, ZS i)]) (hpL [(0, ZO n0 n1 n2), (2, cK true n1 ra rb)]) fun e fr' H' => (cond (decide ((↑i : Int) < (↑n1 : Int))) (pP .normal [(0, sF 0 3), (3, iT 1), (4, Ap i)] [(0, ZO n0 n1 n2), (2, ZCH n1 i ra rb 11 4622382067542392832)] e fr' H') (pP (.exit 2) [(0, sF 0 3), (3, iT 1), (4, iT (↑i : Int))] [(0, ZO n0 n1 n2), (2, cK true n1 ra rb)] e fr' H')) := cD (fun q0 t0 => iP [tT] (I11 (ai (show (0 : Int) ≤ 1 by omega) (show (1 : Int) < 3 by omega)) (show 1 < 3 by omega) t0 (ai (show (0 : Int) ≤ 1 by omega) (show (1 : Int) < 3 by omega)) (show 1 < 3 by omega) (ai (show (-9223372036854775808 : Int) ≤ 11 by omega) (show (11 : Int) ≤ 9223372036854775807 by omega)) (ai (show (-9223372036854775808 : Int) ≤ -1000 * (11 : Int) by omega) (ai (show (-1000 : Int) * 11 ≤ (9223372036854775807 : Int) by omega) (ai (x0 t0) (show (-1000 : Int) * 11 - (↑i : Int) ≤ 9223372036854775807 by omega)))) (ai (show 0 ≤ (↑i : Int) by omega) (show (↑i : Int) < (↑n1 : Int) by omega)) (show 0 + i < n1 by omega) (show 1 ≤ 1 by omega) (ai (show -9223372036854775808 ≤ (↑i : Int) + 1 by omega) (x1 t0))) hB) (fun q0 t0 => iP [fF] (I3 (ai (show (0 : Int) ≤ 1 by omega) (show (1 : Int) < 3 by omega)) (show 1 < 3 by omega) t0) hB)
theorem ai0 (B : Nat) (hB : B ≤ 7) (n0 n1 n2 i : Nat) (ra rb : Nat → Nat) (x0 : ((decide ((↑i : Int) < (↑n2 : Int))) = true → ((-9223372036854775808 : Int) ≤ -1000 * 12 - (↑i : Int)))) (x1 : ((decide ((↑i : Int) < (↑n2 : Int))) = true → ((↑i : Int) + 1 ≤ (9223372036854775807 : Int)))) : aj Try.prog (ZBm) Try.f29.ntmps B 7 7 (aQ [(0, sF 0 3), (3, iT 2), (4, ZS i)]) (hpL [(0, ZO n0 n1 n2), (3, cK true n2 ra rb)]) fun e fr' H' => (cond (decide ((↑i : Int) < (↑n2 : Int))) (pP .normal [(0, sF 0 3), (3, iT 2), (4, Ap i)] [(0, ZO n0 n1 n2), (3, ZCH n2 i ra rb 12 4622945017495814144)] e fr' H') (pP (.exit 2) [(0, sF 0 3), (3, iT 2), (4, iT (↑i : Int))] [(0, ZO n0 n1 n2), (3, cK true n2 ra rb)] e fr' H')) := cD (fun q0 t0 => iP [tT] (I11 (ai (show (0 : Int) ≤ 2 by omega) (show (2 : Int) < 3 by omega)) (show 2 < 3 by omega) t0 (ai (show (0 : Int) ≤ 2 by omega) (show (2 : Int) < 3 by omega)) (show 2 < 3 by omega) (ai (show (-9223372036854775808 : Int) ≤ 12 by omega) (show (12 : Int) ≤ 9223372036854775807 by omega)) (ai (show (-9223372036854775808 : Int) ≤ -1000 * (12 : Int) by omega) (ai (show (-1000 : Int) * 12 ≤ (9223372036854775807 : Int) by omega) (ai (x0 t0) (show (-1000 : Int) * 12 - (↑i : Int) ≤ 9223372036854775807 by omega)))) (ai (show 0 ≤ (↑i : Int) by omega) (show (↑i : Int) < (↑n2 : Int) by omega)) (show 0 + i < n2 by omega) (show 1 ≤ 1 by omega) (ai (show -9223372036854775808 ≤ (↑i : Int) + 1 by omega) (x1 t0))) hB) (fun q0 t0 => iP [fF] (I3 (ai (show (0 : Int) ≤ 2 by omega) (show (2 : Int) < 3 by omega)) (show 2 < 3 by omega) t0) hB)
theorem ai1 (B : Nat) (hB : B ≤ 7) : aj Try.prog ((aT [1,1,0] (ak Try.f29))) Try.f29.ntmps B 7 7 (aQ [(0, sF 0 3)]) (hpL []) (pP .normal [(0, sF 0 3), (5, .aX)] []) := iP [] trivial hB
theorem ai2 (B : Nat) (hB : B ≤ 8) (g : Nat) : aj Try.prog ((aT [1,1,1,0,0] (ak Try.f29))) Try.f29.ntmps B 8 8 (aQ [(0, sF 0 3), (5, sL 7 g)]) (hpL []) (pP .normal [(0, sF 0 3), (5, sL 7 g), (6, ZC 0)] []) := iP [] trivial hB
theorem RU (B : Nat) (hB : B ≤ 8) (k g : Nat) : aj Try.prog ((aT [1,1,1,0,1,0,0,0] (ak Try.f29))) Try.f29.ntmps B 8 8 (aQ [(0, sF 0 3), (5, sL 7 g), (6, ZS k)]) (hpL []) fun e fr' H' => (cond (decide ((↑k : Int) < 3)) (pP .normal [(0, sF 0 3), (5, sL 7 g), (6, iT (↑k : Int))] [] e fr' H') (pP (.exit 4) [(0, sF 0 3), (5, sL 7 g), (6, iT (↑k : Int))] [] e fr' H')) := cD (fun q0 t0 => iP [tT] (I1 t0) hB) (fun q0 t0 => iP [fF] (I1 t0) hB)
noncomputable abbrev ZBn := aT [1,1,1,0,1,0,0,1,0,0,0] (ak Try.f29)
noncomputable abbrev ZCv (v0 v1 : Nat) (w0 w1) := ([(0, sF 0 3), (5, sL 7 v0), (6, iT w0), (7, sL w1 v1)] : tF)
theorem ai3 (B : Nat) (hB : B ≤ 8) (n0 n1 n2 g : Nat) : aj Try.prog (ZBn) Try.f29.ntmps B 8 8 (aQ [(0, sF 0 3), (5, sL 7 g), (6, iT 0)]) (hpL [(0, ZO n0 n1 n2)]) (pP .normal (ZCv g n0 0 1) [(0, ZO n0 n1 n2)]) := iP [] (I2 (ai (show (0 : Int) ≤ 0 by omega) (show (0 : Int) < 3 by omega)) (show 0 < 3 by omega)) hB
theorem ai4 (B : Nat) (hB : B ≤ 8) (n0 n1 n2 g : Nat) : aj Try.prog (ZBn) Try.f29.ntmps B 8 8 (aQ [(0, sF 0 3), (5, sL 7 g), (6, iT 1)]) (hpL [(0, ZO n0 n1 n2)]) (pP .normal (ZCv g n1 1 2) [(0, ZO n0 n1 n2)]) := iP [] (I2 (ai (show (0 : Int) ≤ 1 by omega) (show (1 : Int) < 3 by omega)) (show 1 < 3 by omega)) hB
theorem ai5 (B : Nat) (hB : B ≤ 8) (n0 n1 n2 g : Nat) : aj Try.prog (ZBn) Try.f29.ntmps B 8 8 (aQ [(0, sF 0 3), (5, sL 7 g), (6, iT 2)]) (hpL [(0, ZO n0 n1 n2)]) (pP .normal (ZCv g n2 2 3) [(0, ZO n0 n1 n2)]) := iP [] (I2 (ai (show (0 : Int) ≤ 2 by omega) (show (2 : Int) < 3 by omega)) (show 2 < 3 by omega)) hB
noncomputable abbrev ZBf := aT [1,1,1,0,1,0,0,1,0,0,1,0,0] (ak Try.f29)
theorem ai6 (B : Nat) (hB : B ≤ 8) (n0 g : Nat) : aj Try.prog (ZBf) Try.f29.ntmps B 8 8 (aQ (ZCv g n0 0 1)) (hpL []) (pP .normal [(0, sF 0 3), (5, sL 7 g), (6, iT 0), (7, sL 1 n0), (8, ZC 0)] []) := iP [] trivial hB
theorem ai7 (B : Nat) (hB : B ≤ 8) (n1 g : Nat) : aj Try.prog (ZBf) Try.f29.ntmps B 8 8 (aQ (ZCv g n1 1 2)) (hpL []) (pP .normal [(0, sF 0 3), (5, sL 7 g), (6, iT 1), (7, sL 2 n1), (8, ZC 0)] []) := iP [] trivial hB
theorem ai8 (B : Nat) (hB : B ≤ 8) (n2 g : Nat) : aj Try.prog (ZBf) Try.f29.ntmps B 8 8 (aQ (ZCv g n2 2 3)) (hpL []) (pP .normal [(0, sF 0 3), (5, sL 7 g), (6, iT 2), (7, sL 3 n2), (8, ZC 0)] []) := iP [] trivial hB
noncomputable abbrev ZBR := aT [1,1,1,0,1,0,0,1,0,0,1,0,1,0,0,0] (ak Try.f29)
theorem Ih (B : Nat) (hB : B ≤ 9) (k i g t : Nat) : aj Try.prog (ZBR) Try.f29.ntmps B 9 9 (aQ [(0, sF 0 3), (5, sL 7 i), (6, ZS k), (7, sL 8 g), (8, ZS t)]) (hpL []) fun e fr' H' => (cond (decide ((↑t : Int) < 6)) (pP .normal [(0, sF 0 3), (5, sL 7 i), (6, iT (↑k : Int)), (7, sL 8 g), (8, iT (↑t : Int))] [] e fr' H') (pP (.exit 6) [(0, sF 0 3), (5, sL 7 i), (6, iT (↑k : Int)), (7, sL 8 g), (8, iT (↑t : Int))] [] e fr' H')) := cD (fun q0 t0 => iP [tT] (I1 t0) hB) (fun q0 t0 => iP [fF] (I1 t0) hB)
noncomputable abbrev Zl := aT [1,1,1,0,1,0,0,1,0,0,1,0,1,0,0,1,0,0] (ak Try.f29)
noncomputable abbrev ZCg (v0 v1 v2 : Nat) (w0) := ([(0, sF 0 3), (5, sL 7 v0), (6, iT w0), (8, iT (↑v1 : Int)), (50, sL 8 (v2 + v1)), (61, ZE7 9 1)] : tF)
theorem abn (n0 n1 n2 g t : Nat) (c0 : (-9223372036854775808 : Int) ≤ 10) (c1 : (10 : Int) ≤ 9223372036854775807) (c2 : (0 : Int) ≤ 0) (c3 : (0 : Int) < 3) (c4 : 0 < 3) (c5 : -9223372036854775808 ≤ (↑n0 : Int) + (↑t : Int)) (c6 : (↑n0 : Int) + (↑t : Int) ≤ 9223372036854775807) (c7 : (-9223372036854775808 : Int) ≤ -1000 * (10 : Int)) (c8 : (-1000 : Int) * 10 ≤ (9223372036854775807 : Int)) (c9 : (-9223372036854775808 : Int) ≤ -1000 * (10 : Int) - ((↑n0 : Int) + (↑t : Int))) (c10 : (-1000 : Int) * 10 - ((↑n0 : Int) + (↑t : Int)) ≤ (9223372036854775807 : Int)) : bV 10 (Ex.normal) (ZCg g t n0 0) [(0, ZO n0 n1 n2), (9, .cells true 1 1 (.lit (AV.cells (gZ (Go.Value.complex Go.FloatKind.f64 0 0))) (T.upd T.e 0 (some [.dD true (oC 10 (n0 + t)) 4621819117588971520]))))] (jm Try.f29 ((sK 12 Zl)) (aQ [(0, sF 0 3), (5, sL 7 g), (6, iT 0), (7, sL 8 (n0 + t)), (8, ZS t)]) (hpL [(0, ZO n0 n1 n2)]) 9 []) := eN (I5 (ai c0 c1) (ai c2 c3) c4 (ai c5 c6) (ai c7 (ai c8 (ai c9 c10))))
theorem abo (n0 n1 n2 g t : Nat) (c0 : (-9223372036854775808 : Int) ≤ 11) (c1 : (11 : Int) ≤ 9223372036854775807) (c2 : (0 : Int) ≤ 1) (c3 : (1 : Int) < 3) (c4 : 1 < 3) (c5 : -9223372036854775808 ≤ (↑n1 : Int) + (↑t : Int)) (c6 : (↑n1 : Int) + (↑t : Int) ≤ 9223372036854775807) (c7 : (-9223372036854775808 : Int) ≤ -1000 * (11 : Int)) (c8 : (-1000 : Int) * 11 ≤ (9223372036854775807 : Int)) (c9 : (-9223372036854775808 : Int) ≤ -1000 * (11 : Int) - ((↑n1 : Int) + (↑t : Int))) (c10 : (-1000 : Int) * 11 - ((↑n1 : Int) + (↑t : Int)) ≤ (9223372036854775807 : Int)) : bV 10 (Ex.normal) (ZCg g t n1 1) [(0, ZO n0 n1 n2), (9, .cells true 1 1 (.lit (AV.cells (gZ (Go.Value.complex Go.FloatKind.f64 0 0))) (T.upd T.e 0 (some [.dD true (oC 11 (n1 + t)) 4622382067542392832]))))] (jm Try.f29 ((sK 12 Zl)) (aQ [(0, sF 0 3), (5, sL 7 g), (6, iT 1), (7, sL 8 (n1 + t)), (8, ZS t)]) (hpL [(0, ZO n0 n1 n2)]) 9 []) := eN (I5 (ai c0 c1) (ai c2 c3) c4 (ai c5 c6) (ai c7 (ai c8 (ai c9 c10))))
theorem abp (n0 n1 n2 g t : Nat) (c0 : (-9223372036854775808 : Int) ≤ 12) (c1 : (12 : Int) ≤ 9223372036854775807) (c2 : (0 : Int) ≤ 2) (c3 : (2 : Int) < 3) (c4 : 2 < 3) (c5 : -9223372036854775808 ≤ (↑n2 : Int) + (↑t : Int)) (c6 : (↑n2 : Int) + (↑t : Int) ≤ 9223372036854775807) (c7 : (-9223372036854775808 : Int) ≤ -1000 * (12 : Int)) (c8 : (-1000 : Int) * 12 ≤ (9223372036854775807 : Int)) (c9 : (-9223372036854775808 : Int) ≤ -1000 * (12 : Int) - ((↑n2 : Int) + (↑t : Int))) (c10 : (-1000 : Int) * 12 - ((↑n2 : Int) + (↑t : Int)) ≤ (9223372036854775807 : Int)) : bV 10 (Ex.normal) (ZCg g t n2 2) [(0, ZO n0 n1 n2), (9, .cells true 1 1 (.lit (AV.cells (gZ (Go.Value.complex Go.FloatKind.f64 0 0))) (T.upd T.e 0 (some [.dD true (oC 12 (n2 + t)) 4622945017495814144]))))] (jm Try.f29 ((sK 12 Zl)) (aQ [(0, sF 0 3), (5, sL 7 g), (6, iT 2), (7, sL 8 (n2 + t)), (8, ZS t)]) (hpL [(0, ZO n0 n1 n2)]) 9 []) := eN (I5 (ai c0 c1) (ai c2 c3) c4 (ai c5 c6) (ai c7 (ai c8 (ai c9 c10))))
noncomputable abbrev ZBN := aT [1,1,1,0,1,0,0,1,0,0,1,0,1,0,0,1,1] (ak Try.f29)
theorem XV (B : Nat) (hB : B ≤ 9) (k i g t : Nat) (x0 : ((↑t : Int) + 1 ≤ (9223372036854775807 : Int))) : aj Try.prog (ZBN) Try.f29.ntmps B 9 9 (aQ [(0, sF 0 3), (5, sL 7 i), (6, ZS k), (7, sL 8 g), (8, ZS t)]) (hpL []) (pP .normal [(0, sF 0 3), (5, sL 7 i), (6, iT (↑k : Int)), (7, sL 8 g), (8, Ap t)] []) := iP [] (I1 (ai (show -9223372036854775808 ≤ (↑t : Int) + 1 by omega) x0)) hB
noncomputable abbrev Zo (v0 v1 v2 : Nat) (w0) := (.cells true 1 (w0) (.fn (NK v0 v1 v2)) : aF)
noncomputable abbrev Gm (w0 w1 w2 w3) := ([(0, sF 0 3), (5, sL w0 w1), (w2, iT w3)] : tF)
noncomputable abbrev ZBk := aT [1,1,1,0,1,0,0,1,0,0,1,1] (ak Try.f29)
noncomputable abbrev ZCT (v0 : Nat) (w0) := ([(0, sF 0 3), (5, sL 7 w0), (6, iT w0), (7, sL 8 (v0 + 6))] : tF)
theorem aja (B : Nat) (hB : B ≤ 9) (n0 n1 n2 : Nat) : aj Try.prog (ZBk) Try.f29.ntmps B 9 11 (aQ (ZCT n0 0)) (hpL [(7, Zo n0 n1 n2 0)]) (pP .normal (Gm 10 1 6 0) [(10, .cells true 1 1 (.fn fun j => [sL 8 (n0 + 6)]))]) := iP [] (I1 (ai (show 0 ≤ 0 by omega) (ai (show 24 ≤ 140737488355328 by omega) (show 1 ≤ 9223372036854775807 by omega)))) hB
theorem ajb (B : Nat) (hB : B ≤ 9) (n0 n1 n2 : Nat) : aj Try.prog (ZBk) Try.f29.ntmps B 9 11 (aQ (ZCT n1 1)) (hpL [(7, Zo n0 n1 n2 1)]) (pP .normal (Gm 10 2 6 1) [(10, .cells true 1 2 (.fn fun j => bif decide (j < 1) then (NK n0 n1 n2 j) else [sL 8 (n1 + 6)]))]) := iP [] (I1 (ai (show 1 ≤ 1 by omega) (ai (show 48 ≤ 140737488355328 by omega) (show 2 ≤ 9223372036854775807 by omega)))) hB
theorem ajc (B : Nat) (hB : B ≤ 9) (n0 n1 n2 : Nat) : aj Try.prog (ZBk) Try.f29.ntmps B 9 11 (aQ (ZCT n2 2)) (hpL [(7, Zo n0 n1 n2 2)]) (pP .normal (Gm 10 3 6 2) [(10, .cells true 1 3 (.fn fun j => bif decide (j < 2) then (NK n0 n1 n2 j) else [sL 8 (n2 + 6)]))]) := iP [] (I1 (ai (show 2 ≤ 2 by omega) (ai (show 72 ≤ 140737488355328 by omega) (show 3 ≤ 9223372036854775807 by omega)))) hB
theorem XW (B : Nat) (hB : B ≤ 8) (k g : Nat) (x0 : ((↑k : Int) + 1 ≤ (9223372036854775807 : Int))) : aj Try.prog ((aT [1,1,1,0,1,0,0,1,1] (ak Try.f29))) Try.f29.ntmps B 8 8 (aQ [(0, sF 0 3), (5, sL 7 g), (6, ZS k)]) (hpL []) (pP .normal [(0, sF 0 3), (5, sL 7 g), (6, Ap k)] []) := iP [] (I1 (ai (show -9223372036854775808 ≤ (↑k : Int) + 1 by omega) x0)) hB
theorem agQ (B : Nat) (hB : B ≤ 8) : aj Try.prog ((aT [1,1,1,1,0,0] (ak Try.f29))) Try.f29.ntmps B 8 8 (aQ [(0, sF 0 3), (5, sL 7 3)]) (hpL []) (pP .normal [(0, sF 0 3), (5, sL 7 3), (9, ZC 0)] []) := iP [] trivial hB
theorem RV (B : Nat) (hB : B ≤ 8) (k : Nat) : aj Try.prog ((aT [1,1,1,1,0,1,0,0,0] (ak Try.f29))) Try.f29.ntmps B 8 8 (aQ [(0, sF 0 3), (5, sL 7 3), (9, ZS k)]) (hpL []) fun e fr' H' => (cond (decide ((↑k : Int) < 3)) (pP .normal [(0, sF 0 3), (5, sL 7 3), (9, iT (↑k : Int))] [] e fr' H') (pP (.exit 8) [(0, sF 0 3), (5, sL 7 3), (9, iT (↑k : Int))] [] e fr' H')) := cD (fun q0 t0 => iP [tT] (I1 t0) hB) (fun q0 t0 => iP [fF] (I1 t0) hB)
theorem XY (B : Nat) (hB : B ≤ 8) (k : Nat) : aj Try.prog ((aT [1,1,1,1,0,1,0,0,1,0,0,0] (ak Try.f29))) Try.f29.ntmps B 8 8 (aQ [(0, sF 0 3), (5, sL 7 3), (9, ZS k)]) (hpL []) (pP .normal [(0, sF 0 3), (5, sL 7 3), (9, iT (↑k : Int)), (10, ZC 0)] []) := iP [] trivial hB
noncomputable abbrev AZ (v0 : Nat) := m10 false (v0 + 6)
noncomputable abbrev ZBc := aT [1,1,1,1,0,1,0,0,1,0,0,1,0,0] (ak Try.f29)
noncomputable abbrev ZCr (v0 v1 v2 : Nat) := (.cells true 1 3 (.fn (NK v0 v1 v2)) : aF)
noncomputable abbrev ZDm (v0 v1 v2 : Nat) := ([(0, ZO v0 v1 v2), (7, Zo v0 v1 v2 3), (1, m10 false v0), (4, AZ v0)] : tH)
noncomputable abbrev ZEZ (v0 : Nat) (w0) := ([(0, sF 0 3), (5, sL 7 3), (9, iT w0), (10, Ap v0)] : tF)
theorem ajd (B : Nat) (hB : B ≤ 8) (n0 n1 n2 i : Nat) (x0 : ((decide ((↑i : Int) < (↑(n0 + 6) : Int))) = true → ((-9223372036854775808 : Int) ≤ -1000 * 10 - (↑i : Int)))) (x1 : ((decide ((↑i : Int) < (↑(n0 + 6) : Int))) = true → (FN (oC (10 : Int) (0 + i)) 4621819117588971520 (jo (ofInt ((-1000 : Int) * 10 - (↑i : Int))) 4620130267728707584) 4621819117588971520 = true))) (x2 : ((decide ((↑i : Int) < (↑(n0 + 6) : Int))) = true → ((decide ((↑i : Int) < (↑n0 : Int))) = true → (FN (oC (10 : Int) (0 + i)) 4621819117588971520 (oC (10 : Int) (0 + i)) 4621819117588971520 = true)))) (x3 : ((decide ((↑i : Int) < (↑(n0 + 6) : Int))) = true → ((↑i : Int) + 1 ≤ (9223372036854775807 : Int)))) : aj Try.prog (ZBc) Try.f29.ntmps B 8 8 (aQ [(0, sF 0 3), (5, sL 7 3), (9, iT 0), (10, ZS i)]) (hpL (ZDm n0 n1 n2)) fun e fr' H' => (cond (decide ((↑i : Int) < (↑(n0 + 6) : Int))) (cond (decide ((↑i : Int) < (↑n0 : Int))) (pP .normal (ZEZ i 0) [(0, ZO n0 n1 n2), (7, ZCr n0 n1 n2), (1, m10 false n0), (4, AZ n0)] e fr' H') (pP .normal (ZEZ i 0) [(0, ZO n0 n1 n2), (7, ZCr n0 n1 n2), (1, m10 false n0), (4, AZ n0)] e fr' H')) (pP (.exit 10) [(0, sF 0 3), (5, sL 7 3), (9, iT 0), (10, iT (↑i : Int))] [(0, ZO n0 n1 n2), (7, ZCr n0 n1 n2), (1, m10 false n0), (4, AZ n0)] e fr' H')) := cD (fun q0 t0 => cD (fun q1 t1 => iP [tT, tT] (I23 (ai (show (0 : Int) ≤ 0 by omega) (show (0 : Int) < 3 by omega)) (show 0 < 3 by omega) t0 (ai (show (0 : Int) ≤ 0 by omega) (show (0 : Int) < 3 by omega)) (show 0 < 3 by omega) (ai (show 0 ≤ (↑i : Int) by omega) (show (↑i : Int) < (↑(n0 + 6) : Int) by omega)) (show 0 + i < n0 + 6 by omega) (ai (show (-9223372036854775808 : Int) ≤ 10 by omega) (show (10 : Int) ≤ 9223372036854775807 by omega)) (ai (show (-9223372036854775808 : Int) ≤ -1000 * (10 : Int) by omega) (ai (show (-1000 : Int) * 10 ≤ (9223372036854775807 : Int) by omega) (ai (x0 t0) (show (-1000 : Int) * 10 - (↑i : Int) ≤ 9223372036854775807 by omega)))) (x1 t0) (ai (show (0 : Int) ≤ 0 by omega) (show (0 : Int) < 3 by omega)) (show 0 < 3 by omega) t1 (ai (show (0 : Int) ≤ 0 by omega) (show (0 : Int) < 3 by omega)) (show 0 < 3 by omega) (ai (show 0 ≤ (↑i : Int) by omega) (show (↑i : Int) < (↑n0 : Int) by omega)) (show 0 + i < n0 by omega) (ai (show (0 : Int) ≤ 0 by omega) (show (0 : Int) < 3 by omega)) (show 0 < 3 by omega) (ai (show 0 ≤ (↑i : Int) by omega) (show (↑i : Int) < (↑(n0 + 6) : Int) by omega)) (show 0 + i < n0 + 6 by omega) (x2 t0 t1) (ai (show -9223372036854775808 ≤ (↑i : Int) + 1 by omega) (x3 t0))) hB) (fun q1 t1 => iP [tT, fF] (OQ (ai (show (0 : Int) ≤ 0 by omega) (show (0 : Int) < 3 by omega)) (show 0 < 3 by omega) t0 (ai (show (0 : Int) ≤ 0 by omega) (show (0 : Int) < 3 by omega)) (show 0 < 3 by omega) (ai (show 0 ≤ (↑i : Int) by omega) (show (↑i : Int) < (↑(n0 + 6) : Int) by omega)) (show 0 + i < n0 + 6 by omega) (ai (show (-9223372036854775808 : Int) ≤ 10 by omega) (show (10 : Int) ≤ 9223372036854775807 by omega)) (ai (show (-9223372036854775808 : Int) ≤ -1000 * (10 : Int) by omega) (ai (show (-1000 : Int) * 10 ≤ (9223372036854775807 : Int) by omega) (ai (x0 t0) (show (-1000 : Int) * 10 - (↑i : Int) ≤ 9223372036854775807 by omega)))) (x1 t0) (ai (show (0 : Int) ≤ 0 by omega) (show (0 : Int) < 3 by omega)) (show 0 < 3 by omega) t1 (ai (show -9223372036854775808 ≤ (↑i : Int) + 1 by omega) (x3 t0))) hB)) (fun q0 t0 => iP [fF] (I3 (ai (show (0 : Int) ≤ 0 by omega) (show (0 : Int) < 3 by omega)) (show 0 < 3 by omega) t0) hB)
noncomputable abbrev J8 (v0 : Nat) := m11 false (v0 + 6)
noncomputable abbrev ZDn (v0 v1 v2 : Nat) := ([(0, ZO v0 v1 v2), (7, Zo v0 v1 v2 3), (2, m11 false v1), (5, J8 v1)] : tH)
theorem aje (B : Nat) (hB : B ≤ 8) (n0 n1 n2 i : Nat) (x0 : ((decide ((↑i : Int) < (↑(n1 + 6) : Int))) = true → ((-9223372036854775808 : Int) ≤ -1000 * 11 - (↑i : Int)))) (x1 : ((decide ((↑i : Int) < (↑(n1 + 6) : Int))) = true → (FN (oC (11 : Int) (0 + i)) 4622382067542392832 (jo (ofInt ((-1000 : Int) * 11 - (↑i : Int))) 4620130267728707584) 4622382067542392832 = true))) (x2 : ((decide ((↑i : Int) < (↑(n1 + 6) : Int))) = true → ((decide ((↑i : Int) < (↑n1 : Int))) = true → (FN (oC (11 : Int) (0 + i)) 4622382067542392832 (oC (11 : Int) (0 + i)) 4622382067542392832 = true)))) (x3 : ((decide ((↑i : Int) < (↑(n1 + 6) : Int))) = true → ((↑i : Int) + 1 ≤ (9223372036854775807 : Int)))) : aj Try.prog (ZBc) Try.f29.ntmps B 8 8 (aQ [(0, sF 0 3), (5, sL 7 3), (9, iT 1), (10, ZS i)]) (hpL (ZDn n0 n1 n2)) fun e fr' H' => (cond (decide ((↑i : Int) < (↑(n1 + 6) : Int))) (cond (decide ((↑i : Int) < (↑n1 : Int))) (pP .normal (ZEZ i 1) [(0, ZO n0 n1 n2), (7, ZCr n0 n1 n2), (2, m11 false n1), (5, J8 n1)] e fr' H') (pP .normal (ZEZ i 1) [(0, ZO n0 n1 n2), (7, ZCr n0 n1 n2), (2, m11 false n1), (5, J8 n1)] e fr' H')) (pP (.exit 10) [(0, sF 0 3), (5, sL 7 3), (9, iT 1), (10, iT (↑i : Int))] [(0, ZO n0 n1 n2), (7, ZCr n0 n1 n2), (2, m11 false n1), (5, J8 n1)] e fr' H')) := cD (fun q0 t0 => cD (fun q1 t1 => iP [tT, tT] (I23 (ai (show (0 : Int) ≤ 1 by omega) (show (1 : Int) < 3 by omega)) (show 1 < 3 by omega) t0 (ai (show (0 : Int) ≤ 1 by omega) (show (1 : Int) < 3 by omega)) (show 1 < 3 by omega) (ai (show 0 ≤ (↑i : Int) by omega) (show (↑i : Int) < (↑(n1 + 6) : Int) by omega)) (show 0 + i < n1 + 6 by omega) (ai (show (-9223372036854775808 : Int) ≤ 11 by omega) (show (11 : Int) ≤ 9223372036854775807 by omega)) (ai (show (-9223372036854775808 : Int) ≤ -1000 * (11 : Int) by omega) (ai (show (-1000 : Int) * 11 ≤ (9223372036854775807 : Int) by omega) (ai (x0 t0) (show (-1000 : Int) * 11 - (↑i : Int) ≤ 9223372036854775807 by omega)))) (x1 t0) (ai (show (0 : Int) ≤ 1 by omega) (show (1 : Int) < 3 by omega)) (show 1 < 3 by omega) t1 (ai (show (0 : Int) ≤ 1 by omega) (show (1 : Int) < 3 by omega)) (show 1 < 3 by omega) (ai (show 0 ≤ (↑i : Int) by omega) (show (↑i : Int) < (↑n1 : Int) by omega)) (show 0 + i < n1 by omega) (ai (show (0 : Int) ≤ 1 by omega) (show (1 : Int) < 3 by omega)) (show 1 < 3 by omega) (ai (show 0 ≤ (↑i : Int) by omega) (show (↑i : Int) < (↑(n1 + 6) : Int) by omega)) (show 0 + i < n1 + 6 by omega) (x2 t0 t1) (ai (show -9223372036854775808 ≤ (↑i : Int) + 1 by omega) (x3 t0))) hB) (fun q1 t1 => iP [tT, fF] (OQ (ai (show (0 : Int) ≤ 1 by omega) (show (1 : Int) < 3 by omega)) (show 1 < 3 by omega) t0 (ai (show (0 : Int) ≤ 1 by omega) (show (1 : Int) < 3 by omega)) (show 1 < 3 by omega) (ai (show 0 ≤ (↑i : Int) by omega) (show (↑i : Int) < (↑(n1 + 6) : Int) by omega)) (show 0 + i < n1 + 6 by omega) (ai (show (-9223372036854775808 : Int) ≤ 11 by omega) (show (11 : Int) ≤ 9223372036854775807 by omega)) (ai (show (-9223372036854775808 : Int) ≤ -1000 * (11 : Int) by omega) (ai (show (-1000 : Int) * 11 ≤ (9223372036854775807 : Int) by omega) (ai (x0 t0) (show (-1000 : Int) * 11 - (↑i : Int) ≤ 9223372036854775807 by omega)))) (x1 t0) (ai (show (0 : Int) ≤ 1 by omega) (show (1 : Int) < 3 by omega)) (show 1 < 3 by omega) t1 (ai (show -9223372036854775808 ≤ (↑i : Int) + 1 by omega) (x3 t0))) hB)) (fun q0 t0 => iP [fF] (I3 (ai (show (0 : Int) ≤ 1 by omega) (show (1 : Int) < 3 by omega)) (show 1 < 3 by omega) t0) hB)
noncomputable abbrev XZ (v0 : Nat) := m12 false (v0 + 6)
noncomputable abbrev ZDo (v0 v1 v2 : Nat) := ([(0, ZO v0 v1 v2), (7, Zo v0 v1 v2 3), (3, m12 false v2), (6, XZ v2)] : tH)
theorem ajf (B : Nat) (hB : B ≤ 8) (n0 n1 n2 i : Nat) (x0 : ((decide ((↑i : Int) < (↑(n2 + 6) : Int))) = true → ((-9223372036854775808 : Int) ≤ -1000 * 12 - (↑i : Int)))) (x1 : ((decide ((↑i : Int) < (↑(n2 + 6) : Int))) = true → (FN (oC (12 : Int) (0 + i)) 4622945017495814144 (jo (ofInt ((-1000 : Int) * 12 - (↑i : Int))) 4620130267728707584) 4622945017495814144 = true))) (x2 : ((decide ((↑i : Int) < (↑(n2 + 6) : Int))) = true → ((decide ((↑i : Int) < (↑n2 : Int))) = true → (FN (oC (12 : Int) (0 + i)) 4622945017495814144 (oC (12 : Int) (0 + i)) 4622945017495814144 = true)))) (x3 : ((decide ((↑i : Int) < (↑(n2 + 6) : Int))) = true → ((↑i : Int) + 1 ≤ (9223372036854775807 : Int)))) : aj Try.prog (ZBc) Try.f29.ntmps B 8 8 (aQ [(0, sF 0 3), (5, sL 7 3), (9, iT 2), (10, ZS i)]) (hpL (ZDo n0 n1 n2)) fun e fr' H' => (cond (decide ((↑i : Int) < (↑(n2 + 6) : Int))) (cond (decide ((↑i : Int) < (↑n2 : Int))) (pP .normal (ZEZ i 2) [(0, ZO n0 n1 n2), (7, ZCr n0 n1 n2), (3, m12 false n2), (6, XZ n2)] e fr' H') (pP .normal (ZEZ i 2) [(0, ZO n0 n1 n2), (7, ZCr n0 n1 n2), (3, m12 false n2), (6, XZ n2)] e fr' H')) (pP (.exit 10) [(0, sF 0 3), (5, sL 7 3), (9, iT 2), (10, iT (↑i : Int))] [(0, ZO n0 n1 n2), (7, ZCr n0 n1 n2), (3, m12 false n2), (6, XZ n2)] e fr' H')) := cD (fun q0 t0 => cD (fun q1 t1 => iP [tT, tT] (I23 (ai (show (0 : Int) ≤ 2 by omega) (show (2 : Int) < 3 by omega)) (show 2 < 3 by omega) t0 (ai (show (0 : Int) ≤ 2 by omega) (show (2 : Int) < 3 by omega)) (show 2 < 3 by omega) (ai (show 0 ≤ (↑i : Int) by omega) (show (↑i : Int) < (↑(n2 + 6) : Int) by omega)) (show 0 + i < n2 + 6 by omega) (ai (show (-9223372036854775808 : Int) ≤ 12 by omega) (show (12 : Int) ≤ 9223372036854775807 by omega)) (ai (show (-9223372036854775808 : Int) ≤ -1000 * (12 : Int) by omega) (ai (show (-1000 : Int) * 12 ≤ (9223372036854775807 : Int) by omega) (ai (x0 t0) (show (-1000 : Int) * 12 - (↑i : Int) ≤ 9223372036854775807 by omega)))) (x1 t0) (ai (show (0 : Int) ≤ 2 by omega) (show (2 : Int) < 3 by omega)) (show 2 < 3 by omega) t1 (ai (show (0 : Int) ≤ 2 by omega) (show (2 : Int) < 3 by omega)) (show 2 < 3 by omega) (ai (show 0 ≤ (↑i : Int) by omega) (show (↑i : Int) < (↑n2 : Int) by omega)) (show 0 + i < n2 by omega) (ai (show (0 : Int) ≤ 2 by omega) (show (2 : Int) < 3 by omega)) (show 2 < 3 by omega) (ai (show 0 ≤ (↑i : Int) by omega) (show (↑i : Int) < (↑(n2 + 6) : Int) by omega)) (show 0 + i < n2 + 6 by omega) (x2 t0 t1) (ai (show -9223372036854775808 ≤ (↑i : Int) + 1 by omega) (x3 t0))) hB) (fun q1 t1 => iP [tT, fF] (OQ (ai (show (0 : Int) ≤ 2 by omega) (show (2 : Int) < 3 by omega)) (show 2 < 3 by omega) t0 (ai (show (0 : Int) ≤ 2 by omega) (show (2 : Int) < 3 by omega)) (show 2 < 3 by omega) (ai (show 0 ≤ (↑i : Int) by omega) (show (↑i : Int) < (↑(n2 + 6) : Int) by omega)) (show 0 + i < n2 + 6 by omega) (ai (show (-9223372036854775808 : Int) ≤ 12 by omega) (show (12 : Int) ≤ 9223372036854775807 by omega)) (ai (show (-9223372036854775808 : Int) ≤ -1000 * (12 : Int) by omega) (ai (show (-1000 : Int) * 12 ≤ (9223372036854775807 : Int) by omega) (ai (x0 t0) (show (-1000 : Int) * 12 - (↑i : Int) ≤ 9223372036854775807 by omega)))) (x1 t0) (ai (show (0 : Int) ≤ 2 by omega) (show (2 : Int) < 3 by omega)) (show 2 < 3 by omega) t1 (ai (show -9223372036854775808 ≤ (↑i : Int) + 1 by omega) (x3 t0))) hB)) (fun q0 t0 => iP [fF] (I3 (ai (show (0 : Int) ≤ 2 by omega) (show (2 : Int) < 3 by omega)) (show 2 < 3 by omega) t0) hB)
theorem X3 (B : Nat) (hB : B ≤ 8) (k : Nat) (x0 : ((↑k : Int) + 1 ≤ (9223372036854775807 : Int))) : aj Try.prog ((aT [1,1,1,1,0,1,0,0,1,1] (ak Try.f29))) Try.f29.ntmps B 8 8 (aQ [(0, sF 0 3), (5, sL 7 3), (9, ZS k)]) (hpL []) (pP .normal [(0, sF 0 3), (5, sL 7 3), (9, Ap k)] []) := iP [] (I1 (ai (show -9223372036854775808 ≤ (↑k : Int) + 1 by omega) x0)) hB
theorem apZ (B : Nat) (hB : B ≤ 8) : aj Try.prog ((aT [1,1,1,1,1] (ak Try.f29))) Try.f29.ntmps B 8 8 (aQ [(0, sF 0 3)]) (hpL []) (pP .ret [(2, .bool true)] []) := iP [] trivial hB
theorem wO (a b : Nat) : FN a b a b = true := by unfold FN; simp
theorem mk_low {N m : Nat} {own : Bool} {a b : Nat → Nat} : (aF.cells own 1 m (.fn fun j => [.dD true (a j) (b j)])).kM N := fun i hi v hv => by rw [List.mem_singleton.1 hv]; rfl
theorem X4 (a a' b b' : Nat → Nat) (i j : Nat) : (bif Nat.beq j (0 + i) then [AV.dD true (a i) (b i)] else [AV.dD true (bif decide (j < i) then a j else a' j) (bif decide (j < i) then b j else b' j)]) = [AV.dD true (bif decide (j < i + 1) then a j else a' j) (bif decide (j < i + 1) then b j else b' j)] := by
 rw [Nat.zero_add, Jh]
 by_cases h : j = i
 ·subst h; simp
 ·by_cases h2 : j < i
  ·simp [h, h2, show j < i + 1 by omega]
  ·simp [h, h2, show ¬ j < i + 1 by omega]
noncomputable abbrev UC (w0) := ([(0, sF 0 3), (3, iT w0)] : tF)
noncomputable abbrev ZCq (v0 : Nat) (v1) (v2 v3 : Nat → Nat) (w0 w1) := (.cells true 1 (v0) (.fn fun j => [.dD true (bif decide (j < v1 + 1) then oC w0 j else v2 j) (bif decide (j < v1 + 1) then w1 else v3 j)]) : aF)
noncomputable abbrev ZCu (v0 : Nat) (v1 v2 : Nat → Nat) (w0 w1) := (.cells true 1 (v0) (.fn fun j => [.dD true (bif decide (j < 0) then oC w0 j else v1 j) (bif decide (j < 0) then w1 else v2 j)]) : aF)
noncomputable abbrev ZCx (v0 : Nat) (v1) (v2 v3 : Nat → Nat) (w0 w1) := (.cells true 1 (v0) (.fn fun j => [.dD true (bif decide (j < v1) then oC w0 j else v2 j) (bif decide (j < v1) then w1 else v3 j)]) : aF)
noncomputable abbrev ZES (w0) := ([(0, sF 0 3), (3, iT w0), (4, Zc 0)] : tF)
theorem Ud (n0 n1 n2 : Nat) (ra rb : Nat → Nat) (h0 : n0 * 16 + 192 ≤ 140737488355328) : aj Try.prog (.block 2 (.loop ZBm)) Try.f29.ntmps 4 7 7 (aQ (ZES 0)) (hpL [(0, ZO n0 n1 n2), (1, cK true n0 ra rb)]) (Nm (UC 0) [(0, ZO n0 n1 n2), (1, m10 true n0)]) := by
 refine aj.dW (fl := (ZES 0)) (bl := [(0, ZO n0 n1 n2), (1, ZCu n0 ra rb 10 4621819117588971520)]) (dJ rfl) ⟨hs rfl, ⟨_, rfl, ⟨rfl, rfl, rfl, fun j hj => by simp [Cont.row]⟩⟩, trivial⟩ ?_
 refine (aj.count n0 (fun i => [(0, sF 0 3), (3, iT 0), (4, iT ((i : Nat) : Int))]) (fun i => [(0, ZO n0 n1 n2), (1, ZCx n0 i ra rb 10 4621819117588971520)]) (UC 0) [(0, ZO n0 n1 n2), (1, m10 true n0)] (fun _ => True) (fun _ _ => False) trivial (fun i hi _ => ?_)).mono fun e fr' H' h => ?_
 ·have hB := aiY 4 (by omega) n0 n1 n2 i (fun j => bif decide (j < i) then oC 10 j else ra j) (fun j => bif decide (j < i) then 4621819117588971520 else rb j) (fun t => by have := of_decide_eq_true t; omega) (fun t => by have := of_decide_eq_true t; omega)
  refine hB.post fun e fr' H' h => ?_
  refine bD h (fun t h => ?_) (fun t h => ?_)
  ·have hlt : i < n0 := by have := of_decide_eq_true t; omega
   obtain ⟨rfl, rfl, rfl⟩ := h
   exact ⟨[(0, sF 0 3), (3, iT 0), (4, iT ((i + 1 : Nat) : Int))], [(0, ZO n0 n1 n2), (1, ZCq n0 i ra rb 10 4621819117588971520)], ⟨re rfl, re rfl, ri rfl, trivial⟩, ⟨hs rfl, ⟨_, rfl, ⟨rfl, rfl, rfl, fun j hj => X4 (oC 10) ra (fun _ => 4621819117588971520) rb i j⟩⟩, trivial⟩, .inl ⟨rfl, hlt, trivial, rfl, rfl⟩⟩
  ·obtain rfl : n0 = i := by have := of_decide_eq_false t; omega
   obtain ⟨rfl, rfl, rfl⟩ := h
   exact ⟨(UC 0), [(0, ZO n0 n1 n2), (1, m10 true n0)], (dJ rfl), ⟨hs rfl, ⟨_, rfl, ⟨rfl, rfl, rfl, fun j hj => by simp [Cont.row, hj]⟩⟩, trivial⟩, .inr (.inl ⟨rfl, trivial, rfl, rfl⟩)⟩
 ·rcases h with ⟨e1, _, e2, e3⟩ | ⟨_, h⟩
  ·exact ⟨e1, e2, e3⟩
  ·exact h.elim
theorem Ue (n0 n1 n2 : Nat) (ra rb : Nat → Nat) (h1 : n1 * 16 + 192 ≤ 140737488355328) : aj Try.prog (.block 2 (.loop ZBm)) Try.f29.ntmps 4 7 7 (aQ (ZES 1)) (hpL [(0, ZO n0 n1 n2), (2, cK true n1 ra rb)]) (Nm (UC 1) [(0, ZO n0 n1 n2), (2, m11 true n1)]) := by
 refine aj.dW (fl := (ZES 1)) (bl := [(0, ZO n0 n1 n2), (2, ZCu n1 ra rb 11 4622382067542392832)]) (dJ rfl) ⟨hs rfl, ⟨_, rfl, ⟨rfl, rfl, rfl, fun j hj => by simp [Cont.row]⟩⟩, trivial⟩ ?_
 refine (aj.count n1 (fun i => [(0, sF 0 3), (3, iT 1), (4, iT ((i : Nat) : Int))]) (fun i => [(0, ZO n0 n1 n2), (2, ZCx n1 i ra rb 11 4622382067542392832)]) (UC 1) [(0, ZO n0 n1 n2), (2, m11 true n1)] (fun _ => True) (fun _ _ => False) trivial (fun i hi _ => ?_)).mono fun e fr' H' h => ?_
 ·have hB := aiZ 4 (by omega) n0 n1 n2 i (fun j => bif decide (j < i) then oC 11 j else ra j) (fun j => bif decide (j < i) then 4622382067542392832 else rb j) (fun t => by have := of_decide_eq_true t; omega) (fun t => by have := of_decide_eq_true t; omega)
  refine hB.post fun e fr' H' h => ?_
  refine bD h (fun t h => ?_) (fun t h => ?_)
  ·have hlt : i < n1 := by have := of_decide_eq_true t; omega
   obtain ⟨rfl, rfl, rfl⟩ := h
   exact ⟨[(0, sF 0 3), (3, iT 1), (4, iT ((i + 1 : Nat) : Int))], [(0, ZO n0 n1 n2), (2, ZCq n1 i ra rb 11 4622382067542392832)], ⟨re rfl, re rfl, ri rfl, trivial⟩, ⟨hs rfl, ⟨_, rfl, ⟨rfl, rfl, rfl, fun j hj => X4 (oC 11) ra (fun _ => 4622382067542392832) rb i j⟩⟩, trivial⟩, .inl ⟨rfl, hlt, trivial, rfl, rfl⟩⟩
  ·obtain rfl : n1 = i := by have := of_decide_eq_false t; omega
   obtain ⟨rfl, rfl, rfl⟩ := h
   exact ⟨(UC 1), [(0, ZO n0 n1 n2), (2, m11 true n1)], (dJ rfl), ⟨hs rfl, ⟨_, rfl, ⟨rfl, rfl, rfl, fun j hj => by simp [Cont.row, hj]⟩⟩, trivial⟩, .inr (.inl ⟨rfl, trivial, rfl, rfl⟩)⟩
 ·rcases h with ⟨e1, _, e2, e3⟩ | ⟨_, h⟩
  ·exact ⟨e1, e2, e3⟩
  ·exact h.elim
theorem Uf (n0 n1 n2 : Nat) (ra rb : Nat → Nat) (h2 : n2 * 16 + 192 ≤ 140737488355328) : aj Try.prog (.block 2 (.loop ZBm)) Try.f29.ntmps 4 7 7 (aQ (ZES 2)) (hpL [(0, ZO n0 n1 n2), (3, cK true n2 ra rb)]) (Nm (UC 2) [(0, ZO n0 n1 n2), (3, m12 true n2)]) := by
 refine aj.dW (fl := (ZES 2)) (bl := [(0, ZO n0 n1 n2), (3, ZCu n2 ra rb 12 4622945017495814144)]) (dJ rfl) ⟨hs rfl, ⟨_, rfl, ⟨rfl, rfl, rfl, fun j hj => by simp [Cont.row]⟩⟩, trivial⟩ ?_
 refine (aj.count n2 (fun i => [(0, sF 0 3), (3, iT 2), (4, iT ((i : Nat) : Int))]) (fun i => [(0, ZO n0 n1 n2), (3, ZCx n2 i ra rb 12 4622945017495814144)]) (UC 2) [(0, ZO n0 n1 n2), (3, m12 true n2)] (fun _ => True) (fun _ _ => False) trivial (fun i hi _ => ?_)).mono fun e fr' H' h => ?_
 ·have hB := ai0 4 (by omega) n0 n1 n2 i (fun j => bif decide (j < i) then oC 12 j else ra j) (fun j => bif decide (j < i) then 4622945017495814144 else rb j) (fun t => by have := of_decide_eq_true t; omega) (fun t => by have := of_decide_eq_true t; omega)
  refine hB.post fun e fr' H' h => ?_
  refine bD h (fun t h => ?_) (fun t h => ?_)
  ·have hlt : i < n2 := by have := of_decide_eq_true t; omega
   obtain ⟨rfl, rfl, rfl⟩ := h
   exact ⟨[(0, sF 0 3), (3, iT 2), (4, iT ((i + 1 : Nat) : Int))], [(0, ZO n0 n1 n2), (3, ZCq n2 i ra rb 12 4622945017495814144)], ⟨re rfl, re rfl, ri rfl, trivial⟩, ⟨hs rfl, ⟨_, rfl, ⟨rfl, rfl, rfl, fun j hj => X4 (oC 12) ra (fun _ => 4622945017495814144) rb i j⟩⟩, trivial⟩, .inl ⟨rfl, hlt, trivial, rfl, rfl⟩⟩
  ·obtain rfl : n2 = i := by have := of_decide_eq_false t; omega
   obtain ⟨rfl, rfl, rfl⟩ := h
   exact ⟨(UC 2), [(0, ZO n0 n1 n2), (3, m12 true n2)], (dJ rfl), ⟨hs rfl, ⟨_, rfl, ⟨rfl, rfl, rfl, fun j hj => by simp [Cont.row, hj]⟩⟩, trivial⟩, .inr (.inl ⟨rfl, trivial, rfl, rfl⟩)⟩
 ·rcases h with ⟨e1, _, e2, e3⟩ | ⟨_, h⟩
  ·exact ⟨e1, e2, e3⟩
  ·exact h.elim
noncomputable abbrev hA0 (n0 n1 n2 : Nat) (oD oG : Nat → Nat) (nM nN : Nat → Nat) (mD mF : Nat → Nat) : List (Nat × aF) := [(0, ZO n0 n1 n2), (1, cK true n0 oD oG), (2, cK true n1 nM nN), (3, cK true n2 mD mF)]
theorem lA0 (n0 n1 n2 : Nat) (oD oG : Nat → Nat) (nM nN : Nat → Nat) (mD mF : Nat → Nat) (N : Nat) (hN : 4 ≤ N) : jy N (hA0 n0 n1 n2 oD oG nM nN mD mF) := ⟨⟨by omega, dV n0 n1 n2 _ (by omega)⟩, ⟨by omega, mk_low⟩, ⟨by omega, mk_low⟩, ⟨by omega, mk_low⟩, trivial⟩
noncomputable abbrev hA1 (n0 n1 n2 : Nat) (oD oG : Nat → Nat) (nM nN : Nat → Nat) (mD mF : Nat → Nat) : List (Nat × aF) := [(0, ZO n0 n1 n2), (1, m10 true n0), (2, cK true n1 nM nN), (3, cK true n2 mD mF)]
theorem lA1 (n0 n1 n2 : Nat) (oD oG : Nat → Nat) (nM nN : Nat → Nat) (mD mF : Nat → Nat) (N : Nat) (hN : 4 ≤ N) : jy N (hA1 n0 n1 n2 oD oG nM nN mD mF) := ⟨⟨by omega, dV n0 n1 n2 _ (by omega)⟩, ⟨by omega, mk_low⟩, ⟨by omega, mk_low⟩, ⟨by omega, mk_low⟩, trivial⟩
noncomputable abbrev hA2 (n0 n1 n2 : Nat) (oD oG : Nat → Nat) (nM nN : Nat → Nat) (mD mF : Nat → Nat) : List (Nat × aF) := [(0, ZO n0 n1 n2), (1, m10 true n0), (2, m11 true n1), (3, cK true n2 mD mF)]
theorem lA2 (n0 n1 n2 : Nat) (oD oG : Nat → Nat) (nM nN : Nat → Nat) (mD mF : Nat → Nat) (N : Nat) (hN : 4 ≤ N) : jy N (hA2 n0 n1 n2 oD oG nM nN mD mF) := ⟨⟨by omega, dV n0 n1 n2 _ (by omega)⟩, ⟨by omega, mk_low⟩, ⟨by omega, mk_low⟩, ⟨by omega, mk_low⟩, trivial⟩
noncomputable abbrev hA3 (n0 n1 n2 : Nat) (oD oG : Nat → Nat) (nM nN : Nat → Nat) (mD mF : Nat → Nat) : List (Nat × aF) := [(0, ZO n0 n1 n2), (1, m10 true n0), (2, m11 true n1), (3, m12 true n2)]
theorem lA3 (n0 n1 n2 : Nat) (oD oG : Nat → Nat) (nM nN : Nat → Nat) (mD mF : Nat → Nat) (N : Nat) (hN : 4 ≤ N) : jy N (hA3 n0 n1 n2 oD oG nM nN mD mF) := ⟨⟨by omega, dV n0 n1 n2 _ (by omega)⟩, ⟨by omega, mk_low⟩, ⟨by omega, mk_low⟩, ⟨by omega, mk_low⟩, trivial⟩
noncomputable abbrev ZC4 (v0 v1 v2) := (.cells false 1 3 (.fn (XU v0 v1 v2)) : aF)
noncomputable abbrev PY (w0) := ([(0, sF 0 3), (3, Zc w0)] : tF)
theorem agR (n0 n1 n2 : Nat) (oD oG : Nat → Nat) (nM nN : Nat → Nat) (mD mF : Nat → Nat) (h0 : n0 * 16 + 192 ≤ 140737488355328) (h1 : n1 * 16 + 192 ≤ 140737488355328) (h2 : n2 * 16 + 192 ≤ 140737488355328) : aj Try.prog (.seq (aT [1,0,0] (ak Try.f29)) (.block 0 (.loop (.seq (aT [1,0,1,0,0,0] (ak Try.f29)) (.seq (.block 1 (.seq (aT [1,0,1,0,0,1,0,0,0] (ak Try.f29)) (.block 2 (.loop ZBm)))) (aT [1,0,1,0,0,1,1] (ak Try.f29))))))) Try.f29.ntmps 4 7 7 (aQ [(0, sF 0 3)]) (hpL (hA0 n0 n1 n2 oD oG nM nN mD mF)) (Nm [(0, sF 0 3)] (hA3 n0 n1 n2 oD oG nM nN mD mF)) := by
 refine aj.aV (aj.toN (F' := (PY 0)) (YN := (hA0 n0 n1 n2 oD oG nM nN mD mF)) (aj.fP (F := [(0, sF 0 3), (3, ZC 0)]) (aiW 4 (by omega)) (by omega) (lA0 n0 n1 n2 oD oG nM nN mD mF _ (by omega))) ⟨re rfl, ri rfl, trivial⟩ (fG rfl)) (by omega) ?_
 refine aj.rounds 3 (fun k => [(0, sF 0 3), (3, iT ((k : Nat) : Int))]) (fun k => match k with | 0 => (hA0 n0 n1 n2 oD oG nM nN mD mF) | 1 => (hA1 n0 n1 n2 oD oG nM nN mD mF) | 2 => (hA2 n0 n1 n2 oD oG nM nN mD mF) | _ => (hA3 n0 n1 n2 oD oG nM nN mD mF)) (fun k hk => ?_) ?_
 ·match k, hk with
  | 0, _ =>
   show aj Try.prog _ _ _ _ _ (aQ (PY 0)) (hpL (hA0 n0 n1 n2 oD oG nM nN mD mF)) (Nm (PY 1) (hA1 n0 n1 n2 oD oG nM nN mD mF))
   refine aj.aV (aj.fP (F := (PY 0)) ((abl 4 (by omega) 0).mono fun e fr' H' h => by rw [decide_eq_true (by decide), cond_true] at h; exact h) (by omega) (lA0 n0 n1 n2 oD oG nM nN mD mF _ (by omega))) (by omega) ?_
   refine aj.aV (K1 := 7) (F1 := (PY 0)) (H1 := (hA1 n0 n1 n2 oD oG nM nN mD mF)) (aj.jQ (aj.aV (K1 := 7) (aj.fP (F := [(0, sF 0 3), (3, Zc 0), (4, ZC 0)]) (aeJ 4 (by omega) 0) (by omega) (lA0 n0 n1 n2 oD oG nM nN mD mF _ (by omega))) (by omega) ?_)) (by omega) ?_
   ·refine aj.dW (fl := (ZES 0)) (bl := (hA0 n0 n1 n2 oD oG nM nN mD mF)) ⟨re rfl, re rfl, ri rfl, trivial⟩ (fG rfl) ?_
    exact aj.toN (aj.dB (F := (UC 0)) (iL := [(0, ZC4 n0 n1 n2), (1, m10 true n0)]) (xl := [(2, cK true n1 nM nN), (3, cK true n2 mD mF)]) (Ud n0 n1 n2 oD oG h0) (by omega) ⟨⟨by omega, mk_low⟩, ⟨by omega, mk_low⟩, trivial⟩ (by rfl) (by rfl) ⟨.inr ⟨by omega, _, rfl, fun _ h => h⟩, .inl rfl, trivial⟩) (dJ rfl) (fG rfl)
   ·exact aj.toN (aj.fP (F := [(0, sF 0 3), (3, iT (((0 : Nat) : Int) + 1))]) (aeK 4 (by omega) 0 (by decide)) (by omega) (lA1 n0 n1 n2 oD oG nM nN mD mF _ (by omega))) ⟨re rfl, ri rfl, trivial⟩ (fG rfl)
  | 1, _ =>
   show aj Try.prog _ _ _ _ _ (aQ (PY 1)) (hpL (hA1 n0 n1 n2 oD oG nM nN mD mF)) (Nm (PY 2) (hA2 n0 n1 n2 oD oG nM nN mD mF))
   refine aj.aV (aj.fP (F := (PY 1)) ((abl 4 (by omega) 1).mono fun e fr' H' h => by rw [decide_eq_true (by decide), cond_true] at h; exact h) (by omega) (lA1 n0 n1 n2 oD oG nM nN mD mF _ (by omega))) (by omega) ?_
   refine aj.aV (K1 := 7) (F1 := (PY 1)) (H1 := (hA2 n0 n1 n2 oD oG nM nN mD mF)) (aj.jQ (aj.aV (K1 := 7) (aj.fP (F := [(0, sF 0 3), (3, Zc 1), (4, ZC 0)]) (aeJ 4 (by omega) 1) (by omega) (lA1 n0 n1 n2 oD oG nM nN mD mF _ (by omega))) (by omega) ?_)) (by omega) ?_
   ·refine aj.dW (fl := (ZES 1)) (bl := [(0, ZC4 n0 n1 n2), (2, cK true n1 nM nN), (1, m10 true n0), (3, cK true n2 mD mF)]) ⟨re rfl, re rfl, ri rfl, trivial⟩ (fG rfl) ?_
    exact aj.toN (aj.dB (F := (UC 1)) (iL := [(0, ZC4 n0 n1 n2), (2, m11 true n1)]) (xl := [(1, m10 true n0), (3, cK true n2 mD mF)]) (Ue n0 n1 n2 nM nN h1) (by omega) ⟨⟨by omega, mk_low⟩, ⟨by omega, mk_low⟩, trivial⟩ (by rfl) (by rfl) ⟨.inr ⟨by omega, _, rfl, fun _ h => h⟩, .inl rfl, trivial⟩) (dJ rfl) (fG rfl)
   ·exact aj.toN (aj.fP (F := [(0, sF 0 3), (3, iT (((1 : Nat) : Int) + 1))]) (aeK 4 (by omega) 1 (by decide)) (by omega) (lA2 n0 n1 n2 oD oG nM nN mD mF _ (by omega))) ⟨re rfl, ri rfl, trivial⟩ (fG rfl)
  | 2, _ =>
   show aj Try.prog _ _ _ _ _ (aQ (PY 2)) (hpL (hA2 n0 n1 n2 oD oG nM nN mD mF)) (Nm (PY 3) (hA3 n0 n1 n2 oD oG nM nN mD mF))
   refine aj.aV (aj.fP (F := (PY 2)) ((abl 4 (by omega) 2).mono fun e fr' H' h => by rw [decide_eq_true (by decide), cond_true] at h; exact h) (by omega) (lA2 n0 n1 n2 oD oG nM nN mD mF _ (by omega))) (by omega) ?_
   refine aj.aV (K1 := 7) (F1 := (PY 2)) (H1 := (hA3 n0 n1 n2 oD oG nM nN mD mF)) (aj.jQ (aj.aV (K1 := 7) (aj.fP (F := [(0, sF 0 3), (3, Zc 2), (4, ZC 0)]) (aeJ 4 (by omega) 2) (by omega) (lA2 n0 n1 n2 oD oG nM nN mD mF _ (by omega))) (by omega) ?_)) (by omega) ?_
   ·refine aj.dW (fl := (ZES 2)) (bl := [(0, ZC4 n0 n1 n2), (3, cK true n2 mD mF), (1, m10 true n0), (2, m11 true n1)]) ⟨re rfl, re rfl, ri rfl, trivial⟩ (fG rfl) ?_
    exact aj.toN (aj.dB (F := (UC 2)) (iL := [(0, ZC4 n0 n1 n2), (3, m12 true n2)]) (xl := [(1, m10 true n0), (2, m11 true n1)]) (Uf n0 n1 n2 mD mF h2) (by omega) ⟨⟨by omega, mk_low⟩, ⟨by omega, mk_low⟩, trivial⟩ (by rfl) (by rfl) ⟨.inr ⟨by omega, _, rfl, fun _ h => h⟩, .inl rfl, trivial⟩) (dJ rfl) (fG rfl)
   ·exact aj.toN (aj.fP (F := [(0, sF 0 3), (3, iT (((2 : Nat) : Int) + 1))]) (aeK 4 (by omega) 2 (by decide)) (by omega) (lA3 n0 n1 n2 oD oG nM nN mD mF _ (by omega))) ⟨re rfl, ri rfl, trivial⟩ (fG rfl)
  | k + 3, hk => omega
 ·show aj Try.prog _ _ _ _ _ (aQ (PY 3)) (hpL (hA3 n0 n1 n2 oD oG nM nN mD mF)) (Xm 0 [(0, sF 0 3)] (hA3 n0 n1 n2 oD oG nM nN mD mF))
  exact aj.Jl (K1 := 7) (aj.post (aj.LU (id := 0) (F := (PY 3)) ((abl 4 (by omega) 3).mono fun e fr' H' h => by rw [decide_eq_false (by decide), cond_false] at h; exact h) (by omega) (lA3 n0 n1 n2 oD oG nM nN mD mF _ (by omega))) fun e fr' H' ⟨e1, e2, e3⟩ => by
   subst e1 e2 e3
   exact ⟨[(0, sF 0 3)], (hA3 n0 n1 n2 oD oG nM nN mD mF), ⟨re rfl, trivial⟩, (fG rfl), rfl, rfl, rfl⟩) (by omega)
noncomputable abbrev hB0 (n0 n1 n2 : Nat) : List (Nat × aF) := [(0, ZO n0 n1 n2), (1, m10 true n0), (2, m11 true n1), (3, m12 true n2), (7, Zo n0 n1 n2 0)]
theorem lB0 (n0 n1 n2 : Nat) (N : Nat) (hN : 8 ≤ N) : jy N (hB0 n0 n1 n2) := ⟨⟨by omega, dV n0 n1 n2 _ (by omega)⟩, ⟨by omega, mk_low⟩, ⟨by omega, mk_low⟩, ⟨by omega, mk_low⟩, ⟨by omega, nC n0 n1 n2 _ _ _ (by omega) (by omega)⟩, trivial⟩
noncomputable abbrev hB1 (n0 n1 n2 : Nat) : List (Nat × aF) := [(0, ZO n0 n1 n2), (1, m10 false n0), (2, m11 true n1), (3, m12 true n2), (4, AZ n0), (7, Zo n0 n1 n2 1)]
theorem lB1 (n0 n1 n2 : Nat) (N : Nat) (hN : 8 ≤ N) : jy N (hB1 n0 n1 n2) := ⟨⟨by omega, dV n0 n1 n2 _ (by omega)⟩, ⟨by omega, mk_low⟩, ⟨by omega, mk_low⟩, ⟨by omega, mk_low⟩, ⟨by omega, mk_low⟩, ⟨by omega, nC n0 n1 n2 _ _ _ (by omega) (by omega)⟩, trivial⟩
noncomputable abbrev hB2 (n0 n1 n2 : Nat) : List (Nat × aF) := [(0, ZO n0 n1 n2), (1, m10 false n0), (2, m11 false n1), (3, m12 true n2), (4, AZ n0), (5, J8 n1), (7, Zo n0 n1 n2 2)]
theorem lB2 (n0 n1 n2 : Nat) (N : Nat) (hN : 8 ≤ N) : jy N (hB2 n0 n1 n2) := ⟨⟨by omega, dV n0 n1 n2 _ (by omega)⟩, ⟨by omega, mk_low⟩, ⟨by omega, mk_low⟩, ⟨by omega, mk_low⟩, ⟨by omega, mk_low⟩, ⟨by omega, mk_low⟩, ⟨by omega, nC n0 n1 n2 _ _ _ (by omega) (by omega)⟩, trivial⟩
noncomputable abbrev hB3 (n0 n1 n2 : Nat) : List (Nat × aF) := [(0, ZO n0 n1 n2), (1, m10 false n0), (2, m11 false n1), (3, m12 false n2), (4, AZ n0), (5, J8 n1), (6, XZ n2), (7, Zo n0 n1 n2 3)]
theorem lB3 (n0 n1 n2 : Nat) (N : Nat) (hN : 8 ≤ N) : jy N (hB3 n0 n1 n2) := ⟨⟨by omega, dV n0 n1 n2 _ (by omega)⟩, ⟨by omega, mk_low⟩, ⟨by omega, mk_low⟩, ⟨by omega, mk_low⟩, ⟨by omega, mk_low⟩, ⟨by omega, mk_low⟩, ⟨by omega, mk_low⟩, ⟨by omega, nC n0 n1 n2 _ _ _ (by omega) (by omega)⟩, trivial⟩
theorem oH (n0 n1 n2 : Nat) (σ : Nat → Nat) (h : ∀ g, g < 4 → σ g = g) : ∀ i, i < 3 → XU n0 n1 n2 i = lD σ (XU n0 n1 n2 i) := fun i hi => by
 match i, hi with
 | 0, _ => show [sL 1 n0] = [AV.slc true true ⟨false, σ 1, 0, 0⟩ n0]; rw [h 1 (by omega)]
 | 1, _ => show [sL 2 n1] = [AV.slc true true ⟨false, σ 2, 0, 0⟩ n1]; rw [h 2 (by omega)]
 | 2, _ => show [sL 3 n2] = [AV.slc true true ⟨false, σ 3, 0, 0⟩ n2]; rw [h 3 (by omega)]
noncomputable def iy : Code → Array Oper
 | .region _ o _ => o
 | _ => #[]
noncomputable def xg : Code → Nat
 | .region i _ _ => i
 | _ => 0
theorem P5 : Zl = .region (xg Zl) (iy Zl) false := by kernel_rfl
theorem JZ : sK 12 Zl = .region (xg Zl) ((iy Zl).toList.take 12).toArray false := by kernel_rfl
theorem P6 : ∃ o1 o2 : Oper, (iy Zl).toList = (iy Zl).toList.take 12 ++ [o1, o2] ∧ o1.guard = none ∧ o2.guard = none ∧ o1.op = .call ⟨.builtin .append, #[.tmp 50, .tmp 61], #[45, 45]⟩ ∧ o1.dst = some 62 ∧ o2.op = .assign (.tmp 62) ∧ o2.dst = some 7 :=
 ⟨(iy Zl).toList[12]'(of_decide_eq_true (by kernel_rfl)), (iy Zl).toList[13]'(of_decide_eq_true (by kernel_rfl)), by kernel_rfl, by kernel_rfl, by kernel_rfl, by kernel_rfl, by kernel_rfl, by kernel_rfl, by kernel_rfl⟩
theorem ug : ∀ o ∈ (iy Zl).toList.take 12, o.guard = none := by
 have h : ((iy Zl).toList.take 12).all (fun o => o.guard.isNone) = true := by kernel_rfl
 intro o ho
 have := List.all_eq_true.1 h o ho
 simpa using this
theorem inj2 (a b m : Nat) (hb : m ≤ b) (i j : Nat) (hi : i < m) (hj : j < m) (h : (if i = a then b else i) = if j = a then b else j) : i = j := by
 split at h <;> split at h <;> omega
theorem aeM (a b c d m : Nat) (hb : m ≤ b) (hd : m ≤ d) (hbd : b ≠ d) (i j : Nat) (hi : i < m) (hj : j < m) (h : (if i = a then b else if i = c then d else i) = if j = a then b else if j = c then d else j) : i = j := by
 split at h <;> split at h <;> first | omega | (split at h <;> first | omega | (split at h <;> omega))
noncomputable abbrev X5 (v0 : Nat) (w0) := ([(0, sF 0 3), (5, sL 7 w0), (6, Zc w0), (7, sL 8 (v0 + 6))] : tF)
noncomputable abbrev ZDy (v0 : Nat) (v1) (w0) := ([(0, sF 0 3), (5, sL 7 w0), (6, Zc w0), (7, sL 8 (v0 + v1)), (8, iT ((v1 : Nat) : Int))] : tF)
noncomputable abbrev ZEG (v0 : Nat) (w0 w1) := ([(0, sF 0 3), (5, sL 7 w0), (6, Zc w0), (7, sL 8 (v0 + w1)), (8, Zc w1)] : tF)
noncomputable abbrev ZEM (v0 : Nat) (w0 w1) := ([(0, sF 0 3), (5, sL 7 w0), (6, Zc w0), (7, sL w1 v0), (8, Zc 0)] : tF)
noncomputable abbrev ZEr (v0 : Nat) (v1) (w0) := ([(0, sF 0 3), (5, sL 7 w0), (6, Zc w0), (7, sL 8 (v0 + (v1 + 1))), (8, iT (((v1 : Nat) : Int) + 1))] : tF)
noncomputable abbrev ZE0 (v0 : Nat) (v1) (w0) := ([(0, sF 0 3), (5, sL 7 w0), (6, Zc w0), (7, sL 8 (v0 + (v1 + 1))), (8, iT ((v1 : Nat) : Int))] : tF)
theorem ajl (n0 n1 n2 : Nat) (h0 : n0 * 16 + 192 ≤ 140737488355328) : aj Try.prog (.block 6 (.loop (.seq ZBR (.seq (.block 7 Zl) ZBN)))) Try.f29.ntmps 8 8 9 (aQ (ZEM n0 0 1)) (hpL ((1, m10 true n0) :: [(0, ZO n0 n1 n2), (2, m11 true n1), (3, m12 true n2), (7, Zo n0 n1 n2 0)])) (Nm (X5 n0 0) ((1, m10 false n0) :: (8, AZ n0) :: [(0, ZO n0 n1 n2), (2, m11 true n1), (3, m12 true n2), (7, Zo n0 n1 n2 0)])) := by
 refine aj.fork (B := 8) (vl := [(0, ZO n0 n1 n2)]) (fl0 := (ZEG n0 0 0)) (LQ := Nm (X5 n0 0) ([(0, ZO n0 n1 n2)] ++ [(8, m10 true (n0 + 6))])) (by omega) (by omega) mk_low ⟨⟨by omega, dV n0 n1 n2 _ (by omega)⟩, ⟨by omega, mk_low⟩, ⟨by omega, mk_low⟩, ⟨by omega, nC n0 n1 n2 _ _ _ (by omega) (by omega)⟩, trivial⟩ (by rfl) (fun p hp => by rw [List.mem_singleton.1 hp]; exact ⟨rfl, rfl⟩) ⟨(rn rfl rfl), (rn rfl rfl), (rn rfl rfl), (rn rfl rfl), (rn rfl rfl), trivial⟩ ?_ (fun e fr' H' ⟨e1, e2, e3⟩ => by subst e1 e2 e3; exact ⟨n0 + 6, _, rfl, rfl, rfl, rfl⟩)
 refine bM.rounds 6 (fun t => (ZDy n0 t 0)) (fun t => [(0, ZO n0 n1 n2)] ++ [(8, m10 true (n0 + t))]) (fun t ht => ?_) ?_
 ·refine bM.aV (K1 := 9) (bM.G7 (B' := 9) (F := (ZDy n0 t 0)) (bl := []) (xl := [(0, ZO n0 n1 n2), (8, m10 true (n0 + t))]) (by omega) mk_low (by omega) ((Ih 9 (by omega) 0 0 (n0 + t) t).mono fun e fr' H' h => by rw [decide_eq_true (show ((t : Nat) : Int) < 6 by omega), cond_true] at h; exact h) (by omega) (fun p hp => by cases hp) ⟨⟨by omega, dV n0 n1 n2 _ (by omega)⟩, ⟨by omega, mk_low⟩, trivial⟩ (by rfl) trivial) (by omega) ?_
  refine bM.aV (K1 := 9) (F1 := (ZE0 n0 t 0)) (H1 := [(0, ZO n0 n1 n2)] ++ [(8, m10 true (n0 + (t + 1)))]) (bM.jQ ?_) (by omega) ?_
  ·have h0 := abn n0 n1 n2 0 t (by omega) (by omega) (by omega) (by omega) (by omega) (by omega) (by omega) (by omega) (by omega) (by omega) (by omega)
   unfold jm at h0
   rw [JZ] at h0
   obtain ⟨o1, o2, k1, k2, k3, k4, k5, k6, k7⟩ := P6
   rw [P5]
   refine bM.toN (fun i => if i = 8 then 10 else i) (by omega) mk_low (bM.app wM k1 ug k2 k3 k4 k5 k6 k7 (of_decide_eq_true (by kernel_rfl)) (of_decide_eq_true (by kernel_rfl)) (B' := 9) (xl := [(8, m10 true (n0 + t))]) h0 (by omega) mk_low (by omega) (by omega) (fun p hp => by rw [List.mem_singleton.1 hp]; rfl) ⟨⟨by omega, mk_low⟩, trivial⟩ (by rfl) (by rfl) ⟨.inr ⟨by omega, _, rfl, fun _ h => h⟩, .inl rfl, trivial⟩ (s := true) (q := 8) (len := n0 + t) (vy := ZE7 9 1) (v := (sL 10 (n0 + t + 1))) (c := (.fn fun j => [.dD true (oC 10 j) 4621819117588971520])) rfl rfl rfl rfl (by omega) (g2' := ⟨((hpL ([(0, ZO n0 n1 n2), (9, .cells true 1 1 (.lit (AV.cells (gZ (Go.Value.complex Go.FloatKind.f64 0 0))) (T.upd T.e 0 (some [.dD true (oC 10 (n0 + t)) 4621819117588971520]))))] ++ [(8, m10 true (n0 + t))])).upd 8 none).upd 10 (some (.cells true 1 (n0 + t + 1) (.fn fun j => bif decide (j < n0 + t) then (Cont.fn fun j => [.dD true (oC 10 j) 4621819117588971520]).row j else (bif Nat.beq 1 1 then rowsOf ⟨false, 9, 0, 0⟩ 1 1 (.lit (AV.cells (gZ (Go.Value.complex Go.FloatKind.f64 0 0))) (T.upd T.e 0 (some [.dD true (oC 10 (n0 + t)) 4621819117588971520]))) 0 else rowsOf ⟨false, 9, 0, 0⟩ 1 1 (.lit (AV.cells (gZ (Go.Value.complex Go.FloatKind.f64 0 0))) (T.upd T.e 0 (some [.dD true (oC 10 (n0 + t)) 4621819117588971520]))) (j - (n0 + t)))))), 11, [8], [], True ∧ (n0 + t ≤ n0 + t ∧ (n0 + t + 1) * 16 ≤ 140737488355328 ∧ n0 + t + 1 ≤ 9223372036854775807)⟩) (by kernel_rfl) ⟨trivial, by omega, by omega, by omega⟩) (fun g hg => if_neg (by omega)) (inj2 _ _ _ (by omega)) (fun e fr' H' ⟨e1, e2, e3⟩ => by
    subst e1 e2 e3
    refine ⟨rfl, ⟨(rn rfl rfl), (rn rfl rfl), (rn rfl rfl), (rn rfl rfl), (rn rfl rfl), trivial⟩, ⟨_, rfl, ⟨rfl, rfl, rfl, oH n0 n1 n2 _ (fun g hg => if_neg (by omega))⟩, dV n0 n1 n2 _ (by omega), by omega⟩, ⟨_, rfl, ⟨rfl, rfl, rfl, fun j hj => ?_⟩, mk_low, by omega⟩, trivial⟩
    show (bif decide (j < n0 + t) then [AV.dD true (oC 10 j) 4621819117588971520] else [AV.dD true (oC 10 (n0 + t)) 4621819117588971520]) = [AV.dD true (oC 10 j) 4621819117588971520]
    by_cases hc : j < n0 + t
    ·rw [decide_eq_true hc, cond_true]
    ·obtain rfl : j = n0 + t := by omega
     rw [decide_eq_false hc, cond_false])
  ·exact bM.toN id (by omega) mk_low (bM.G7 (B' := 9) (F := (ZEr n0 t 0)) (bl := []) (xl := [(0, ZO n0 n1 n2), (8, m10 true (n0 + (t + 1)))]) (by omega) mk_low (by omega) (XV 9 (by omega) 0 0 (n0 + (t + 1)) t (by omega)) (by omega) (fun p hp => by cases hp) ⟨⟨by omega, dV n0 n1 n2 _ (by omega)⟩, ⟨by omega, mk_low⟩, trivial⟩ (by rfl) trivial) (fun g hg => rfl) (fun i j _ _ h => h) (fun e fr' H' ⟨e1, e2, e3⟩ => by
    subst e1 e2 e3
    exact ⟨rfl, ⟨(rn rfl rfl), (rn rfl rfl), (rn rfl rfl), (rn rfl rfl), ⟨_, rfl, AV.ge.int _ _ _ _, rfl⟩, trivial⟩, ⟨_, rfl, ⟨rfl, rfl, rfl, oH n0 n1 n2 _ (fun g hg => rfl)⟩, dV n0 n1 n2 _ (by omega), by omega⟩, ⟨_, rfl, ⟨rfl, rfl, rfl, fun j hj => rfl⟩, mk_low, by omega⟩, trivial⟩)
 ·exact bM.Jl (bM.renG (K'' := 9) (by omega) mk_low (bM.Vs (B' := 9) (id := 6) (F := (ZEG n0 0 6)) (bl := []) (xl := [(0, ZO n0 n1 n2), (8, m10 true (n0 + 6))]) (by omega) mk_low (by omega) ((Ih 9 (by omega) 0 0 (n0 + 6) 6).mono fun e fr' H' h => by rw [decide_eq_false (by decide), cond_false] at h; exact h) (by omega) (fun p hp => by cases hp) ⟨⟨by omega, dV n0 n1 n2 _ (by omega)⟩, ⟨by omega, mk_low⟩, trivial⟩ (by rfl) trivial) fun e fr' H' ⟨e1, e2, e3⟩ => by
    subst e1 e2 e3
    exact ⟨id, (X5 n0 0), [(0, ZO n0 n1 n2), (8, m10 true (n0 + 6))], fun g hg => rfl, ⟨(rn rfl rfl), (rn rfl rfl), (rn rfl rfl), (rn rfl rfl), trivial⟩, ⟨⟨_, rfl, ⟨rfl, rfl, rfl, oH n0 n1 n2 _ (fun g hg => rfl)⟩, dV n0 n1 n2 _ (by omega), by omega⟩, ⟨_, rfl, ⟨rfl, rfl, rfl, fun j hj => rfl⟩, mk_low, by omega⟩, trivial⟩, fun i j _ _ h => h, rfl, rfl, rfl⟩) (by omega)
theorem ajm (n0 n1 n2 : Nat) (h1 : n1 * 16 + 192 ≤ 140737488355328) : aj Try.prog (.block 6 (.loop (.seq ZBR (.seq (.block 7 Zl) ZBN)))) Try.f29.ntmps 8 8 9 (aQ (ZEM n1 1 2)) (hpL ((2, m11 true n1) :: [(0, ZO n0 n1 n2), (1, m10 false n0), (3, m12 true n2), (4, AZ n0), (7, Zo n0 n1 n2 1)])) (Nm (X5 n1 1) ((2, m11 false n1) :: (8, J8 n1) :: [(0, ZO n0 n1 n2), (1, m10 false n0), (3, m12 true n2), (4, AZ n0), (7, Zo n0 n1 n2 1)])) := by
 refine aj.fork (B := 8) (vl := [(0, ZO n0 n1 n2)]) (fl0 := (ZEG n1 1 0)) (LQ := Nm (X5 n1 1) ([(0, ZO n0 n1 n2)] ++ [(8, m11 true (n1 + 6))])) (by omega) (by omega) mk_low ⟨⟨by omega, dV n0 n1 n2 _ (by omega)⟩, ⟨by omega, mk_low⟩, ⟨by omega, mk_low⟩, ⟨by omega, mk_low⟩, ⟨by omega, nC n0 n1 n2 _ _ _ (by omega) (by omega)⟩, trivial⟩ (by rfl) (fun p hp => by rw [List.mem_singleton.1 hp]; exact ⟨rfl, rfl⟩) ⟨(rn rfl rfl), (rn rfl rfl), (rn rfl rfl), (rn rfl rfl), (rn rfl rfl), trivial⟩ ?_ (fun e fr' H' ⟨e1, e2, e3⟩ => by subst e1 e2 e3; exact ⟨n1 + 6, _, rfl, rfl, rfl, rfl⟩)
 refine bM.rounds 6 (fun t => (ZDy n1 t 1)) (fun t => [(0, ZO n0 n1 n2)] ++ [(8, m11 true (n1 + t))]) (fun t ht => ?_) ?_
 ·refine bM.aV (K1 := 9) (bM.G7 (B' := 9) (F := (ZDy n1 t 1)) (bl := []) (xl := [(0, ZO n0 n1 n2), (8, m11 true (n1 + t))]) (by omega) mk_low (by omega) ((Ih 9 (by omega) 1 1 (n1 + t) t).mono fun e fr' H' h => by rw [decide_eq_true (show ((t : Nat) : Int) < 6 by omega), cond_true] at h; exact h) (by omega) (fun p hp => by cases hp) ⟨⟨by omega, dV n0 n1 n2 _ (by omega)⟩, ⟨by omega, mk_low⟩, trivial⟩ (by rfl) trivial) (by omega) ?_
  refine bM.aV (K1 := 9) (F1 := (ZE0 n1 t 1)) (H1 := [(0, ZO n0 n1 n2)] ++ [(8, m11 true (n1 + (t + 1)))]) (bM.jQ ?_) (by omega) ?_
  ·have h0 := abo n0 n1 n2 1 t (by omega) (by omega) (by omega) (by omega) (by omega) (by omega) (by omega) (by omega) (by omega) (by omega) (by omega)
   unfold jm at h0
   rw [JZ] at h0
   obtain ⟨o1, o2, k1, k2, k3, k4, k5, k6, k7⟩ := P6
   rw [P5]
   refine bM.toN (fun i => if i = 8 then 10 else i) (by omega) mk_low (bM.app wM k1 ug k2 k3 k4 k5 k6 k7 (of_decide_eq_true (by kernel_rfl)) (of_decide_eq_true (by kernel_rfl)) (B' := 9) (xl := [(8, m11 true (n1 + t))]) h0 (by omega) mk_low (by omega) (by omega) (fun p hp => by rw [List.mem_singleton.1 hp]; rfl) ⟨⟨by omega, mk_low⟩, trivial⟩ (by rfl) (by rfl) ⟨.inr ⟨by omega, _, rfl, fun _ h => h⟩, .inl rfl, trivial⟩ (s := true) (q := 8) (len := n1 + t) (vy := ZE7 9 1) (v := (sL 10 (n1 + t + 1))) (c := (.fn fun j => [.dD true (oC 11 j) 4622382067542392832])) rfl rfl rfl rfl (by omega) (g2' := ⟨((hpL ([(0, ZO n0 n1 n2), (9, .cells true 1 1 (.lit (AV.cells (gZ (Go.Value.complex Go.FloatKind.f64 0 0))) (T.upd T.e 0 (some [.dD true (oC 11 (n1 + t)) 4622382067542392832]))))] ++ [(8, m11 true (n1 + t))])).upd 8 none).upd 10 (some (.cells true 1 (n1 + t + 1) (.fn fun j => bif decide (j < n1 + t) then (Cont.fn fun j => [.dD true (oC 11 j) 4622382067542392832]).row j else (bif Nat.beq 1 1 then rowsOf ⟨false, 9, 0, 0⟩ 1 1 (.lit (AV.cells (gZ (Go.Value.complex Go.FloatKind.f64 0 0))) (T.upd T.e 0 (some [.dD true (oC 11 (n1 + t)) 4622382067542392832]))) 0 else rowsOf ⟨false, 9, 0, 0⟩ 1 1 (.lit (AV.cells (gZ (Go.Value.complex Go.FloatKind.f64 0 0))) (T.upd T.e 0 (some [.dD true (oC 11 (n1 + t)) 4622382067542392832]))) (j - (n1 + t)))))), 11, [8], [], True ∧ (n1 + t ≤ n1 + t ∧ (n1 + t + 1) * 16 ≤ 140737488355328 ∧ n1 + t + 1 ≤ 9223372036854775807)⟩) (by kernel_rfl) ⟨trivial, by omega, by omega, by omega⟩) (fun g hg => if_neg (by omega)) (inj2 _ _ _ (by omega)) (fun e fr' H' ⟨e1, e2, e3⟩ => by
    subst e1 e2 e3
    refine ⟨rfl, ⟨(rn rfl rfl), (rn rfl rfl), (rn rfl rfl), (rn rfl rfl), (rn rfl rfl), trivial⟩, ⟨_, rfl, ⟨rfl, rfl, rfl, oH n0 n1 n2 _ (fun g hg => if_neg (by omega))⟩, dV n0 n1 n2 _ (by omega), by omega⟩, ⟨_, rfl, ⟨rfl, rfl, rfl, fun j hj => ?_⟩, mk_low, by omega⟩, trivial⟩
    show (bif decide (j < n1 + t) then [AV.dD true (oC 11 j) 4622382067542392832] else [AV.dD true (oC 11 (n1 + t)) 4622382067542392832]) = [AV.dD true (oC 11 j) 4622382067542392832]
    by_cases hc : j < n1 + t
    ·rw [decide_eq_true hc, cond_true]
    ·obtain rfl : j = n1 + t := by omega
     rw [decide_eq_false hc, cond_false])
  ·exact bM.toN id (by omega) mk_low (bM.G7 (B' := 9) (F := (ZEr n1 t 1)) (bl := []) (xl := [(0, ZO n0 n1 n2), (8, m11 true (n1 + (t + 1)))]) (by omega) mk_low (by omega) (XV 9 (by omega) 1 1 (n1 + (t + 1)) t (by omega)) (by omega) (fun p hp => by cases hp) ⟨⟨by omega, dV n0 n1 n2 _ (by omega)⟩, ⟨by omega, mk_low⟩, trivial⟩ (by rfl) trivial) (fun g hg => rfl) (fun i j _ _ h => h) (fun e fr' H' ⟨e1, e2, e3⟩ => by
    subst e1 e2 e3
    exact ⟨rfl, ⟨(rn rfl rfl), (rn rfl rfl), (rn rfl rfl), (rn rfl rfl), ⟨_, rfl, AV.ge.int _ _ _ _, rfl⟩, trivial⟩, ⟨_, rfl, ⟨rfl, rfl, rfl, oH n0 n1 n2 _ (fun g hg => rfl)⟩, dV n0 n1 n2 _ (by omega), by omega⟩, ⟨_, rfl, ⟨rfl, rfl, rfl, fun j hj => rfl⟩, mk_low, by omega⟩, trivial⟩)
 ·exact bM.Jl (bM.renG (K'' := 9) (by omega) mk_low (bM.Vs (B' := 9) (id := 6) (F := (ZEG n1 1 6)) (bl := []) (xl := [(0, ZO n0 n1 n2), (8, m11 true (n1 + 6))]) (by omega) mk_low (by omega) ((Ih 9 (by omega) 1 1 (n1 + 6) 6).mono fun e fr' H' h => by rw [decide_eq_false (by decide), cond_false] at h; exact h) (by omega) (fun p hp => by cases hp) ⟨⟨by omega, dV n0 n1 n2 _ (by omega)⟩, ⟨by omega, mk_low⟩, trivial⟩ (by rfl) trivial) fun e fr' H' ⟨e1, e2, e3⟩ => by
    subst e1 e2 e3
    exact ⟨id, (X5 n1 1), [(0, ZO n0 n1 n2), (8, m11 true (n1 + 6))], fun g hg => rfl, ⟨(rn rfl rfl), (rn rfl rfl), (rn rfl rfl), (rn rfl rfl), trivial⟩, ⟨⟨_, rfl, ⟨rfl, rfl, rfl, oH n0 n1 n2 _ (fun g hg => rfl)⟩, dV n0 n1 n2 _ (by omega), by omega⟩, ⟨_, rfl, ⟨rfl, rfl, rfl, fun j hj => rfl⟩, mk_low, by omega⟩, trivial⟩, fun i j _ _ h => h, rfl, rfl, rfl⟩) (by omega)
theorem ajn (n0 n1 n2 : Nat) (h2 : n2 * 16 + 192 ≤ 140737488355328) : aj Try.prog (.block 6 (.loop (.seq ZBR (.seq (.block 7 Zl) ZBN)))) Try.f29.ntmps 8 8 9 (aQ (ZEM n2 2 3)) (hpL ((3, m12 true n2) :: [(0, ZO n0 n1 n2), (1, m10 false n0), (2, m11 false n1), (4, AZ n0), (5, J8 n1), (7, Zo n0 n1 n2 2)])) (Nm (X5 n2 2) ((3, m12 false n2) :: (8, XZ n2) :: [(0, ZO n0 n1 n2), (1, m10 false n0), (2, m11 false n1), (4, AZ n0), (5, J8 n1), (7, Zo n0 n1 n2 2)])) := by
 refine aj.fork (B := 8) (vl := [(0, ZO n0 n1 n2)]) (fl0 := (ZEG n2 2 0)) (LQ := Nm (X5 n2 2) ([(0, ZO n0 n1 n2)] ++ [(8, m12 true (n2 + 6))])) (by omega) (by omega) mk_low ⟨⟨by omega, dV n0 n1 n2 _ (by omega)⟩, ⟨by omega, mk_low⟩, ⟨by omega, mk_low⟩, ⟨by omega, mk_low⟩, ⟨by omega, mk_low⟩, ⟨by omega, nC n0 n1 n2 _ _ _ (by omega) (by omega)⟩, trivial⟩ (by rfl) (fun p hp => by rw [List.mem_singleton.1 hp]; exact ⟨rfl, rfl⟩) ⟨(rn rfl rfl), (rn rfl rfl), (rn rfl rfl), (rn rfl rfl), (rn rfl rfl), trivial⟩ ?_ (fun e fr' H' ⟨e1, e2, e3⟩ => by subst e1 e2 e3; exact ⟨n2 + 6, _, rfl, rfl, rfl, rfl⟩)
 refine bM.rounds 6 (fun t => (ZDy n2 t 2)) (fun t => [(0, ZO n0 n1 n2)] ++ [(8, m12 true (n2 + t))]) (fun t ht => ?_) ?_
 ·refine bM.aV (K1 := 9) (bM.G7 (B' := 9) (F := (ZDy n2 t 2)) (bl := []) (xl := [(0, ZO n0 n1 n2), (8, m12 true (n2 + t))]) (by omega) mk_low (by omega) ((Ih 9 (by omega) 2 2 (n2 + t) t).mono fun e fr' H' h => by rw [decide_eq_true (show ((t : Nat) : Int) < 6 by omega), cond_true] at h; exact h) (by omega) (fun p hp => by cases hp) ⟨⟨by omega, dV n0 n1 n2 _ (by omega)⟩, ⟨by omega, mk_low⟩, trivial⟩ (by rfl) trivial) (by omega) ?_
  refine bM.aV (K1 := 9) (F1 := (ZE0 n2 t 2)) (H1 := [(0, ZO n0 n1 n2)] ++ [(8, m12 true (n2 + (t + 1)))]) (bM.jQ ?_) (by omega) ?_
  ·have h0 := abp n0 n1 n2 2 t (by omega) (by omega) (by omega) (by omega) (by omega) (by omega) (by omega) (by omega) (by omega) (by omega) (by omega)
   unfold jm at h0
   rw [JZ] at h0
   obtain ⟨o1, o2, k1, k2, k3, k4, k5, k6, k7⟩ := P6
   rw [P5]
   refine bM.toN (fun i => if i = 8 then 10 else i) (by omega) mk_low (bM.app wM k1 ug k2 k3 k4 k5 k6 k7 (of_decide_eq_true (by kernel_rfl)) (of_decide_eq_true (by kernel_rfl)) (B' := 9) (xl := [(8, m12 true (n2 + t))]) h0 (by omega) mk_low (by omega) (by omega) (fun p hp => by rw [List.mem_singleton.1 hp]; rfl) ⟨⟨by omega, mk_low⟩, trivial⟩ (by rfl) (by rfl) ⟨.inr ⟨by omega, _, rfl, fun _ h => h⟩, .inl rfl, trivial⟩ (s := true) (q := 8) (len := n2 + t) (vy := ZE7 9 1) (v := (sL 10 (n2 + t + 1))) (c := (.fn fun j => [.dD true (oC 12 j) 4622945017495814144])) rfl rfl rfl rfl (by omega) (g2' := ⟨((hpL ([(0, ZO n0 n1 n2), (9, .cells true 1 1 (.lit (AV.cells (gZ (Go.Value.complex Go.FloatKind.f64 0 0))) (T.upd T.e 0 (some [.dD true (oC 12 (n2 + t)) 4622945017495814144]))))] ++ [(8, m12 true (n2 + t))])).upd 8 none).upd 10 (some (.cells true 1 (n2 + t + 1) (.fn fun j => bif decide (j < n2 + t) then (Cont.fn fun j => [.dD true (oC 12 j) 4622945017495814144]).row j else (bif Nat.beq 1 1 then rowsOf ⟨false, 9, 0, 0⟩ 1 1 (.lit (AV.cells (gZ (Go.Value.complex Go.FloatKind.f64 0 0))) (T.upd T.e 0 (some [.dD true (oC 12 (n2 + t)) 4622945017495814144]))) 0 else rowsOf ⟨false, 9, 0, 0⟩ 1 1 (.lit (AV.cells (gZ (Go.Value.complex Go.FloatKind.f64 0 0))) (T.upd T.e 0 (some [.dD true (oC 12 (n2 + t)) 4622945017495814144]))) (j - (n2 + t)))))), 11, [8], [], True ∧ (n2 + t ≤ n2 + t ∧ (n2 + t + 1) * 16 ≤ 140737488355328 ∧ n2 + t + 1 ≤ 9223372036854775807)⟩) (by kernel_rfl) ⟨trivial, by omega, by omega, by omega⟩) (fun g hg => if_neg (by omega)) (inj2 _ _ _ (by omega)) (fun e fr' H' ⟨e1, e2, e3⟩ => by
    subst e1 e2 e3
    refine ⟨rfl, ⟨(rn rfl rfl), (rn rfl rfl), (rn rfl rfl), (rn rfl rfl), (rn rfl rfl), trivial⟩, ⟨_, rfl, ⟨rfl, rfl, rfl, oH n0 n1 n2 _ (fun g hg => if_neg (by omega))⟩, dV n0 n1 n2 _ (by omega), by omega⟩, ⟨_, rfl, ⟨rfl, rfl, rfl, fun j hj => ?_⟩, mk_low, by omega⟩, trivial⟩
    show (bif decide (j < n2 + t) then [AV.dD true (oC 12 j) 4622945017495814144] else [AV.dD true (oC 12 (n2 + t)) 4622945017495814144]) = [AV.dD true (oC 12 j) 4622945017495814144]
    by_cases hc : j < n2 + t
    ·rw [decide_eq_true hc, cond_true]
    ·obtain rfl : j = n2 + t := by omega
     rw [decide_eq_false hc, cond_false])
  ·exact bM.toN id (by omega) mk_low (bM.G7 (B' := 9) (F := (ZEr n2 t 2)) (bl := []) (xl := [(0, ZO n0 n1 n2), (8, m12 true (n2 + (t + 1)))]) (by omega) mk_low (by omega) (XV 9 (by omega) 2 2 (n2 + (t + 1)) t (by omega)) (by omega) (fun p hp => by cases hp) ⟨⟨by omega, dV n0 n1 n2 _ (by omega)⟩, ⟨by omega, mk_low⟩, trivial⟩ (by rfl) trivial) (fun g hg => rfl) (fun i j _ _ h => h) (fun e fr' H' ⟨e1, e2, e3⟩ => by
    subst e1 e2 e3
    exact ⟨rfl, ⟨(rn rfl rfl), (rn rfl rfl), (rn rfl rfl), (rn rfl rfl), ⟨_, rfl, AV.ge.int _ _ _ _, rfl⟩, trivial⟩, ⟨_, rfl, ⟨rfl, rfl, rfl, oH n0 n1 n2 _ (fun g hg => rfl)⟩, dV n0 n1 n2 _ (by omega), by omega⟩, ⟨_, rfl, ⟨rfl, rfl, rfl, fun j hj => rfl⟩, mk_low, by omega⟩, trivial⟩)
 ·exact bM.Jl (bM.renG (K'' := 9) (by omega) mk_low (bM.Vs (B' := 9) (id := 6) (F := (ZEG n2 2 6)) (bl := []) (xl := [(0, ZO n0 n1 n2), (8, m12 true (n2 + 6))]) (by omega) mk_low (by omega) ((Ih 9 (by omega) 2 2 (n2 + 6) 6).mono fun e fr' H' h => by rw [decide_eq_false (by decide), cond_false] at h; exact h) (by omega) (fun p hp => by cases hp) ⟨⟨by omega, dV n0 n1 n2 _ (by omega)⟩, ⟨by omega, mk_low⟩, trivial⟩ (by rfl) trivial) fun e fr' H' ⟨e1, e2, e3⟩ => by
    subst e1 e2 e3
    exact ⟨id, (X5 n2 2), [(0, ZO n0 n1 n2), (8, m12 true (n2 + 6))], fun g hg => rfl, ⟨(rn rfl rfl), (rn rfl rfl), (rn rfl rfl), (rn rfl rfl), trivial⟩, ⟨⟨_, rfl, ⟨rfl, rfl, rfl, oH n0 n1 n2 _ (fun g hg => rfl)⟩, dV n0 n1 n2 _ (by omega), by omega⟩, ⟨_, rfl, ⟨rfl, rfl, rfl, fun j hj => rfl⟩, mk_low, by omega⟩, trivial⟩, fun i j _ _ h => h, rfl, rfl, rfl⟩) (by omega)
noncomputable abbrev ZCk (v0 : Nat) (w0 w1) := ([(0, sF 0 3), (5, sL 7 w0), (6, iT w0), (7, sL w1 v0)] : tF)
noncomputable abbrev J3 (w0 w1 w2) := ([(0, sF 0 3), (5, sL 7 w0), (w1, Zc w2)] : tF)
theorem ajo (n0 n1 n2 : Nat) (h0 : n0 * 16 + 192 ≤ 140737488355328) : aj Try.prog (.seq ZBn (.seq (.seq ZBf (.block 6 (.loop (.seq ZBR (.seq (.block 7 Zl) ZBN))))) ZBk)) Try.f29.ntmps 4 8 8 (aQ (J3 0 6 0)) (hpL (hB0 n0 n1 n2)) (Nm (J3 1 6 0) (hB1 n0 n1 n2)) := by
 refine aj.aV (K1 := 8) (F1 := [(0, sF 0 3), (5, sL 7 0), (6, Zc 0), (7, sL 1 n0)]) (H1 := (hB0 n0 n1 n2)) ?_ (by omega) ?_
 ·refine aj.dW (fl := (Gm 7 0 6 0)) (bl := (hB0 n0 n1 n2)) ⟨re rfl, re rfl, ri rfl, trivial⟩ (fG rfl) ?_
  exact aj.toN (aj.dB (F := (ZCk n0 0 1)) (iL := [(0, ZO n0 n1 n2)]) (xl := [(1, m10 true n0), (2, m11 true n1), (3, m12 true n2), (7, Zo n0 n1 n2 0)]) (ai3 8 (by omega) n0 n1 n2 0) (by omega) ⟨⟨by omega, mk_low⟩, ⟨by omega, mk_low⟩, ⟨by omega, mk_low⟩, ⟨by omega, nC n0 n1 n2 _ _ _ (by omega) (by omega)⟩, trivial⟩ (by rfl) (by rfl) ⟨.inr ⟨by omega, _, rfl, fun _ h => h⟩, trivial⟩ |>.lower (by omega)) ⟨re rfl, re rfl, ri rfl, re rfl, trivial⟩ (fG rfl)
 refine aj.ac7 (K' := 11) (F0 := (Gm 10 1 6 0)) (H0 := [(10, .cells true 1 (1) (.fn fun j => bif decide (j < 0) then NK n0 n1 n2 j else [sL 8 (n0 + 6)])), (1, m10 false n0), (8, AZ n0), (0, ZO n0 n1 n2), (2, m11 true n1), (3, m12 true n2)]) (fun i => if i = 4 then 8 else if i = 7 then 10 else i) (aj.lower (B' := 8) ?_ (by omega)) (fun g hg => by show (if g = 4 then 8 else if g = 7 then 10 else g) = g; rw [if_neg (by omega), if_neg (by omega)]) (aeM _ _ _ _ _ (by omega) (by omega) (by omega)) ⟨⟨_, rfl, AV.ge.refl _, rfl⟩, ⟨_, rfl, AV.ge.refl _, rfl⟩, ⟨_, rfl, AV.ge.int _ _ _ _, rfl⟩, trivial⟩ ⟨⟨_, rfl, ⟨rfl, rfl, rfl, oH n0 n1 n2 _ (fun g hg => by show (if g = 4 then 8 else if g = 7 then 10 else g) = g; rw [if_neg (by omega), if_neg (by omega)])⟩, dV n0 n1 n2 _ (by omega), by omega⟩, ⟨_, rfl, ⟨rfl, rfl, rfl, fun j hj => rfl⟩, mk_low, by omega⟩, ⟨_, rfl, ⟨rfl, rfl, rfl, fun j hj => rfl⟩, mk_low, by omega⟩, ⟨_, rfl, ⟨rfl, rfl, rfl, fun j hj => rfl⟩, mk_low, by omega⟩, ⟨_, rfl, ⟨rfl, rfl, rfl, fun j hj => rfl⟩, mk_low, by omega⟩, ⟨_, rfl, ⟨rfl, rfl, rfl, fun i hi => by
     match i, hi with
     | 0, _ => rfl
     | i + 1, hi => omega⟩, nC n0 n1 n2 _ _ _ (by omega) (by omega), by omega⟩, trivial⟩
 refine aj.aV (K1 := 9) (F1 := (X5 n0 0)) (H1 := [(1, m10 false n0), (8, AZ n0), (0, ZO n0 n1 n2), (2, m11 true n1), (3, m12 true n2), (7, Zo n0 n1 n2 0)]) (aj.aV (K1 := 8) (F1 := (ZEM n0 0 1)) (H1 := [(1, m10 true n0), (0, ZO n0 n1 n2), (2, m11 true n1), (3, m12 true n2), (7, Zo n0 n1 n2 0)]) ?_ (by omega) (ajl n0 n1 n2 h0)) (by omega) ?_
 ·refine aj.dW (fl := (ZCk n0 0 1)) (bl := (hB0 n0 n1 n2)) ⟨re rfl, re rfl, ri rfl, re rfl, trivial⟩ (fG rfl) ?_
  exact aj.toN (aj.fP (F := [(0, sF 0 3), (5, sL 7 0), (6, iT 0), (7, sL 1 n0), (8, ZC 0)]) (ai6 8 (by omega) n0 0) (by omega) (lB0 n0 n1 n2 _ (by omega))) ⟨re rfl, re rfl, ri rfl, re rfl, ri rfl, trivial⟩ (fG rfl)
 ·refine aj.dW (fl := (ZCT n0 0)) (bl := [(7, Zo n0 n1 n2 0), (1, m10 false n0), (8, AZ n0), (0, ZO n0 n1 n2), (2, m11 true n1), (3, m12 true n2)]) ⟨re rfl, re rfl, ri rfl, re rfl, trivial⟩ (fG rfl) ?_
  exact aj.lower (B' := 9) (aj.dB (F := (Gm 10 1 6 0)) (iL := [(10, .cells true 1 (1) (.fn fun j => bif decide (j < 0) then NK n0 n1 n2 j else [sL 8 (n0 + 6)]))]) (xl := [(1, m10 false n0), (8, AZ n0), (0, ZO n0 n1 n2), (2, m11 true n1), (3, m12 true n2)]) (aja 9 (by omega) n0 n1 n2) (by omega) ⟨⟨by omega, mk_low⟩, ⟨by omega, mk_low⟩, ⟨by omega, dV n0 n1 n2 _ (by omega)⟩, ⟨by omega, mk_low⟩, ⟨by omega, mk_low⟩, trivial⟩ (by rfl) (by rfl) ⟨.inl rfl, trivial⟩) (by omega)
theorem ajp (n0 n1 n2 : Nat) (h1 : n1 * 16 + 192 ≤ 140737488355328) : aj Try.prog (.seq ZBn (.seq (.seq ZBf (.block 6 (.loop (.seq ZBR (.seq (.block 7 Zl) ZBN))))) ZBk)) Try.f29.ntmps 4 8 8 (aQ (J3 1 6 1)) (hpL (hB1 n0 n1 n2)) (Nm (J3 2 6 1) (hB2 n0 n1 n2)) := by
 refine aj.aV (K1 := 8) (F1 := [(0, sF 0 3), (5, sL 7 1), (6, Zc 1), (7, sL 2 n1)]) (H1 := (hB1 n0 n1 n2)) ?_ (by omega) ?_
 ·refine aj.dW (fl := (Gm 7 1 6 1)) (bl := (hB1 n0 n1 n2)) ⟨re rfl, re rfl, ri rfl, trivial⟩ (fG rfl) ?_
  exact aj.toN (aj.dB (F := (ZCk n1 1 2)) (iL := [(0, ZO n0 n1 n2)]) (xl := [(1, m10 false n0), (2, m11 true n1), (3, m12 true n2), (4, AZ n0), (7, Zo n0 n1 n2 1)]) (ai4 8 (by omega) n0 n1 n2 1) (by omega) ⟨⟨by omega, mk_low⟩, ⟨by omega, mk_low⟩, ⟨by omega, mk_low⟩, ⟨by omega, mk_low⟩, ⟨by omega, nC n0 n1 n2 _ _ _ (by omega) (by omega)⟩, trivial⟩ (by rfl) (by rfl) ⟨.inr ⟨by omega, _, rfl, fun _ h => h⟩, trivial⟩ |>.lower (by omega)) ⟨re rfl, re rfl, ri rfl, re rfl, trivial⟩ (fG rfl)
 refine aj.ac7 (K' := 11) (F0 := (Gm 10 2 6 1)) (H0 := [(10, .cells true 1 (2) (.fn fun j => bif decide (j < 1) then NK n0 n1 n2 j else [sL 8 (n1 + 6)])), (2, m11 false n1), (8, J8 n1), (0, ZO n0 n1 n2), (1, m10 false n0), (3, m12 true n2), (4, AZ n0)]) (fun i => if i = 5 then 8 else if i = 7 then 10 else i) (aj.lower (B' := 8) ?_ (by omega)) (fun g hg => by show (if g = 5 then 8 else if g = 7 then 10 else g) = g; rw [if_neg (by omega), if_neg (by omega)]) (aeM _ _ _ _ _ (by omega) (by omega) (by omega)) ⟨⟨_, rfl, AV.ge.refl _, rfl⟩, ⟨_, rfl, AV.ge.refl _, rfl⟩, ⟨_, rfl, AV.ge.int _ _ _ _, rfl⟩, trivial⟩ ⟨⟨_, rfl, ⟨rfl, rfl, rfl, oH n0 n1 n2 _ (fun g hg => by show (if g = 5 then 8 else if g = 7 then 10 else g) = g; rw [if_neg (by omega), if_neg (by omega)])⟩, dV n0 n1 n2 _ (by omega), by omega⟩, ⟨_, rfl, ⟨rfl, rfl, rfl, fun j hj => rfl⟩, mk_low, by omega⟩, ⟨_, rfl, ⟨rfl, rfl, rfl, fun j hj => rfl⟩, mk_low, by omega⟩, ⟨_, rfl, ⟨rfl, rfl, rfl, fun j hj => rfl⟩, mk_low, by omega⟩, ⟨_, rfl, ⟨rfl, rfl, rfl, fun j hj => rfl⟩, mk_low, by omega⟩, ⟨_, rfl, ⟨rfl, rfl, rfl, fun j hj => rfl⟩, mk_low, by omega⟩, ⟨_, rfl, ⟨rfl, rfl, rfl, fun i hi => by
     match i, hi with
     | 0, _ => rfl
     | 1, _ => rfl
     | i + 2, hi => omega⟩, nC n0 n1 n2 _ _ _ (by omega) (by omega), by omega⟩, trivial⟩
 refine aj.aV (K1 := 9) (F1 := (X5 n1 1)) (H1 := [(2, m11 false n1), (8, J8 n1), (0, ZO n0 n1 n2), (1, m10 false n0), (3, m12 true n2), (4, AZ n0), (7, Zo n0 n1 n2 1)]) (aj.aV (K1 := 8) (F1 := (ZEM n1 1 2)) (H1 := [(2, m11 true n1), (0, ZO n0 n1 n2), (1, m10 false n0), (3, m12 true n2), (4, AZ n0), (7, Zo n0 n1 n2 1)]) ?_ (by omega) (ajm n0 n1 n2 h1)) (by omega) ?_
 ·refine aj.dW (fl := (ZCk n1 1 2)) (bl := (hB1 n0 n1 n2)) ⟨re rfl, re rfl, ri rfl, re rfl, trivial⟩ (fG rfl) ?_
  exact aj.toN (aj.fP (F := [(0, sF 0 3), (5, sL 7 1), (6, iT 1), (7, sL 2 n1), (8, ZC 0)]) (ai7 8 (by omega) n1 1) (by omega) (lB1 n0 n1 n2 _ (by omega))) ⟨re rfl, re rfl, ri rfl, re rfl, ri rfl, trivial⟩ (fG rfl)
 ·refine aj.dW (fl := (ZCT n1 1)) (bl := [(7, Zo n0 n1 n2 1), (2, m11 false n1), (8, J8 n1), (0, ZO n0 n1 n2), (1, m10 false n0), (3, m12 true n2), (4, AZ n0)]) ⟨re rfl, re rfl, ri rfl, re rfl, trivial⟩ (fG rfl) ?_
  exact aj.lower (B' := 9) (aj.dB (F := (Gm 10 2 6 1)) (iL := [(10, .cells true 1 (2) (.fn fun j => bif decide (j < 1) then NK n0 n1 n2 j else [sL 8 (n1 + 6)]))]) (xl := [(2, m11 false n1), (8, J8 n1), (0, ZO n0 n1 n2), (1, m10 false n0), (3, m12 true n2), (4, AZ n0)]) (ajb 9 (by omega) n0 n1 n2) (by omega) ⟨⟨by omega, mk_low⟩, ⟨by omega, mk_low⟩, ⟨by omega, dV n0 n1 n2 _ (by omega)⟩, ⟨by omega, mk_low⟩, ⟨by omega, mk_low⟩, ⟨by omega, mk_low⟩, trivial⟩ (by rfl) (by rfl) ⟨.inl rfl, trivial⟩) (by omega)
theorem ajq (n0 n1 n2 : Nat) (h2 : n2 * 16 + 192 ≤ 140737488355328) : aj Try.prog (.seq ZBn (.seq (.seq ZBf (.block 6 (.loop (.seq ZBR (.seq (.block 7 Zl) ZBN))))) ZBk)) Try.f29.ntmps 4 8 8 (aQ [(0, sF 0 3), (5, sL 7 2), (6, iT ((2 : Nat) : Int))]) (hpL (hB2 n0 n1 n2)) (Nm [(0, sF 0 3), (5, sL 7 3), (6, iT ((2 : Nat) : Int))] (hB3 n0 n1 n2)) := by
 refine aj.aV (K1 := 8) (F1 := [(0, sF 0 3), (5, sL 7 2), (6, iT ((2 : Nat) : Int)), (7, sL 3 n2)]) (H1 := (hB2 n0 n1 n2)) ?_ (by omega) ?_
 ·refine aj.dW (fl := [(0, sF 0 3), (5, sL 7 2), (6, iT 2)]) (bl := (hB2 n0 n1 n2)) ⟨re rfl, re rfl, ri rfl, trivial⟩ (fG rfl) ?_
  exact aj.toN (aj.dB (F := [(0, sF 0 3), (5, sL 7 2), (6, iT 2), (7, sL 3 n2)]) (iL := [(0, .cells false 1 3 (.fn (XU n0 n1 n2)))]) (xl := [(1, m10 false n0), (2, m11 false n1), (3, m12 true n2), (4, m10 false (n0 + 6)), (5, m11 false (n1 + 6)), (7, .cells true 1 (2) (.fn (NK n0 n1 n2)))]) (ai5 8 (by omega) n0 n1 n2 2) (by omega) ⟨⟨by omega, mk_low⟩, ⟨by omega, mk_low⟩, ⟨by omega, mk_low⟩, ⟨by omega, mk_low⟩, ⟨by omega, mk_low⟩, ⟨by omega, nC n0 n1 n2 _ _ _ (by omega) (by omega)⟩, trivial⟩ (by rfl) (by rfl) ⟨.inr ⟨by omega, _, rfl, fun _ h => h⟩, trivial⟩ |>.lower (by omega)) ⟨re rfl, re rfl, ri rfl, re rfl, trivial⟩ (fG rfl)
 refine aj.ac7 (K' := 11) (F0 := [(0, sF 0 3), (5, sL 10 3), (6, iT 2)]) (H0 := [(10, .cells true 1 (3) (.fn fun j => bif decide (j < 2) then NK n0 n1 n2 j else [sL 8 (n2 + 6)])), (3, m12 false n2), (8, m12 false (n2 + 6)), (0, .cells false 1 3 (.fn (XU n0 n1 n2))), (1, m10 false n0), (2, m11 false n1), (4, m10 false (n0 + 6)), (5, m11 false (n1 + 6))]) (fun i => if i = 6 then 8 else if i = 7 then 10 else i) (aj.lower (B' := 8) ?_ (by omega)) (fun g hg => by show (if g = 6 then 8 else if g = 7 then 10 else g) = g; rw [if_neg (by omega), if_neg (by omega)]) (aeM _ _ _ _ _ (by omega) (by omega) (by omega)) ⟨⟨_, rfl, AV.ge.refl _, rfl⟩, ⟨_, rfl, AV.ge.refl _, rfl⟩, ⟨_, rfl, AV.ge.int _ _ _ _, rfl⟩, trivial⟩ ⟨⟨_, rfl, ⟨rfl, rfl, rfl, oH n0 n1 n2 _ (fun g hg => by show (if g = 6 then 8 else if g = 7 then 10 else g) = g; rw [if_neg (by omega), if_neg (by omega)])⟩, dV n0 n1 n2 _ (by omega), by omega⟩, ⟨_, rfl, ⟨rfl, rfl, rfl, fun j hj => rfl⟩, mk_low, by omega⟩, ⟨_, rfl, ⟨rfl, rfl, rfl, fun j hj => rfl⟩, mk_low, by omega⟩, ⟨_, rfl, ⟨rfl, rfl, rfl, fun j hj => rfl⟩, mk_low, by omega⟩, ⟨_, rfl, ⟨rfl, rfl, rfl, fun j hj => rfl⟩, mk_low, by omega⟩, ⟨_, rfl, ⟨rfl, rfl, rfl, fun j hj => rfl⟩, mk_low, by omega⟩, ⟨_, rfl, ⟨rfl, rfl, rfl, fun j hj => rfl⟩, mk_low, by omega⟩, ⟨_, rfl, ⟨rfl, rfl, rfl, fun i hi => by
     match i, hi with
     | 0, _ => rfl
     | 1, _ => rfl
     | 2, _ => rfl
     | i + 3, hi => omega⟩, nC n0 n1 n2 _ _ _ (by omega) (by omega), by omega⟩, trivial⟩
 refine aj.aV (K1 := 9) (F1 := [(0, sF 0 3), (5, sL 7 2), (6, iT ((2 : Nat) : Int)), (7, sL 8 (n2 + 6))]) (H1 := [(3, m12 false n2), (8, m12 false (n2 + 6)), (0, .cells false 1 3 (.fn (XU n0 n1 n2))), (1, m10 false n0), (2, m11 false n1), (4, m10 false (n0 + 6)), (5, m11 false (n1 + 6)), (7, .cells true 1 (2) (.fn (NK n0 n1 n2)))]) (aj.aV (K1 := 8) (F1 := [(0, sF 0 3), (5, sL 7 2), (6, iT ((2 : Nat) : Int)), (7, sL 3 n2), (8, iT ((0 : Nat) : Int))]) (H1 := [(3, m12 true n2), (0, .cells false 1 3 (.fn (XU n0 n1 n2))), (1, m10 false n0), (2, m11 false n1), (4, m10 false (n0 + 6)), (5, m11 false (n1 + 6)), (7, .cells true 1 (2) (.fn (NK n0 n1 n2)))]) ?_ (by omega) (ajn n0 n1 n2 h2)) (by omega) ?_
 ·refine aj.dW (fl := [(0, sF 0 3), (5, sL 7 2), (6, iT 2), (7, sL 3 n2)]) (bl := (hB2 n0 n1 n2)) ⟨re rfl, re rfl, ri rfl, re rfl, trivial⟩ (fG rfl) ?_
  exact aj.toN (aj.fP (F := [(0, sF 0 3), (5, sL 7 2), (6, iT 2), (7, sL 3 n2), (8, .int false .i64 0)]) (ai8 8 (by omega) n2 2) (by omega) (lB2 n0 n1 n2 _ (by omega))) ⟨re rfl, re rfl, ri rfl, re rfl, ri rfl, trivial⟩ (fG rfl)
 ·refine aj.dW (fl := [(0, sF 0 3), (5, sL 7 2), (6, iT 2), (7, sL 8 (n2 + 6))]) (bl := [(7, .cells true 1 (2) (.fn (NK n0 n1 n2))), (3, m12 false n2), (8, m12 false (n2 + 6)), (0, .cells false 1 3 (.fn (XU n0 n1 n2))), (1, m10 false n0), (2, m11 false n1), (4, m10 false (n0 + 6)), (5, m11 false (n1 + 6))]) ⟨re rfl, re rfl, ri rfl, re rfl, trivial⟩ (fG rfl) ?_
  exact aj.lower (B' := 9) (aj.dB (F := [(0, sF 0 3), (5, sL 10 3), (6, iT 2)]) (iL := [(10, .cells true 1 (3) (.fn fun j => bif decide (j < 2) then NK n0 n1 n2 j else [sL 8 (n2 + 6)]))]) (xl := [(3, m12 false n2), (8, m12 false (n2 + 6)), (0, .cells false 1 3 (.fn (XU n0 n1 n2))), (1, m10 false n0), (2, m11 false n1), (4, m10 false (n0 + 6)), (5, m11 false (n1 + 6))]) (ajc 9 (by omega) n0 n1 n2) (by omega) ⟨⟨by omega, mk_low⟩, ⟨by omega, mk_low⟩, ⟨by omega, dV n0 n1 n2 _ (by omega)⟩, ⟨by omega, mk_low⟩, ⟨by omega, mk_low⟩, ⟨by omega, mk_low⟩, ⟨by omega, mk_low⟩, trivial⟩ (by rfl) (by rfl) ⟨.inl rfl, trivial⟩) (by omega)
noncomputable abbrev ZCQ (w0 w1 w2) := ([(0, sF 0 3), (5, sL 7 w0), (w1, iT (((w2 : Nat) : Int) + 1))] : tF)
theorem agT (n0 n1 n2 : Nat) (h0 : n0 * 16 + 192 ≤ 140737488355328) (h1 : n1 * 16 + 192 ≤ 140737488355328) (h2 : n2 * 16 + 192 ≤ 140737488355328) : aj Try.prog (.seq (aT [1,1,1,0,0] (ak Try.f29)) (.block 4 (.loop (.seq (aT [1,1,1,0,1,0,0,0] (ak Try.f29)) (.seq (.block 5 (.seq ZBn (.seq (.seq ZBf (.block 6 (.loop (.seq ZBR (.seq (.block 7 Zl) ZBN))))) ZBk))) (aT [1,1,1,0,1,0,0,1,1] (ak Try.f29))))))) Try.f29.ntmps 4 8 8 (aQ [(0, sF 0 3), (5, sL 7 0)]) (hpL (hB0 n0 n1 n2)) (Nm [(0, sF 0 3), (5, sL 7 3)] (hB3 n0 n1 n2)) := by
 refine aj.aV (K1 := 8) (aj.toN (F' := [(0, sF 0 3), (5, sL 7 0), (6, iT ((0 : Nat) : Int))]) (YN := (hB0 n0 n1 n2)) (aj.lower (B' := 8) (aj.fP (F := [(0, sF 0 3), (5, sL 7 0), (6, .int false .i64 0)]) (ai2 8 (by omega) 0) (by omega) (lB0 n0 n1 n2 _ (by omega))) (by omega)) ⟨re rfl, re rfl, ri rfl, trivial⟩ (fG rfl)) (by omega) ?_
 refine aj.rounds 3 (fun k => match k with | 0 => [(0, sF 0 3), (5, sL 7 0), (6, iT ((0 : Nat) : Int))] | 1 => [(0, sF 0 3), (5, sL 7 1), (6, iT ((1 : Nat) : Int))] | 2 => [(0, sF 0 3), (5, sL 7 2), (6, iT ((2 : Nat) : Int))] | _ => [(0, sF 0 3), (5, sL 7 3), (6, iT ((3 : Nat) : Int))]) (fun k => match k with | 0 => (hB0 n0 n1 n2) | 1 => (hB1 n0 n1 n2) | 2 => (hB2 n0 n1 n2) | _ => (hB3 n0 n1 n2)) (fun k hk => ?_) ?_
 ·match k, hk with
  | 0, _ =>
   show aj Try.prog _ _ _ _ _ (aQ [(0, sF 0 3), (5, sL 7 0), (6, iT ((0 : Nat) : Int))]) (hpL (hB0 n0 n1 n2)) (Nm [(0, sF 0 3), (5, sL 7 1), (6, iT ((1 : Nat) : Int))] (hB1 n0 n1 n2))
   refine aj.aV (K1 := 8) (aj.lower (B' := 8) (aj.fP (F := [(0, sF 0 3), (5, sL 7 0), (6, iT ((0 : Nat) : Int))]) ((RU 8 (by omega) 0 0).mono fun e fr' H' h => by rw [decide_eq_true (by decide), cond_true] at h; exact h) (by omega) (lB0 n0 n1 n2 _ (by omega))) (by omega)) (by omega) ?_
   refine aj.aV (K1 := 8) (aj.jQ (ajo n0 n1 n2 h0)) (by omega) ?_
   exact aj.toN (aj.lower (B' := 8) (aj.fP (F := [(0, sF 0 3), (5, sL 7 1), (6, iT (((0 : Nat) : Int) + 1))]) (XW 8 (by omega) 0 1 (by decide)) (by omega) (lB1 n0 n1 n2 _ (by omega))) (by omega)) ⟨re rfl, re rfl, ri rfl, trivial⟩ (fG rfl)
  | 1, _ =>
   show aj Try.prog _ _ _ _ _ (aQ [(0, sF 0 3), (5, sL 7 1), (6, iT ((1 : Nat) : Int))]) (hpL (hB1 n0 n1 n2)) (Nm [(0, sF 0 3), (5, sL 7 2), (6, iT ((2 : Nat) : Int))] (hB2 n0 n1 n2))
   refine aj.aV (K1 := 8) (aj.lower (B' := 8) (aj.fP (F := [(0, sF 0 3), (5, sL 7 1), (6, iT ((1 : Nat) : Int))]) ((RU 8 (by omega) 1 1).mono fun e fr' H' h => by rw [decide_eq_true (by decide), cond_true] at h; exact h) (by omega) (lB1 n0 n1 n2 _ (by omega))) (by omega)) (by omega) ?_
   refine aj.aV (K1 := 8) (aj.jQ (ajp n0 n1 n2 h1)) (by omega) ?_
   exact aj.toN (aj.lower (B' := 8) (aj.fP (F := [(0, sF 0 3), (5, sL 7 2), (6, iT (((1 : Nat) : Int) + 1))]) (XW 8 (by omega) 1 2 (by decide)) (by omega) (lB2 n0 n1 n2 _ (by omega))) (by omega)) ⟨re rfl, re rfl, ri rfl, trivial⟩ (fG rfl)
  | 2, _ =>
   show aj Try.prog _ _ _ _ _ (aQ [(0, sF 0 3), (5, sL 7 2), (6, iT ((2 : Nat) : Int))]) (hpL (hB2 n0 n1 n2)) (Nm [(0, sF 0 3), (5, sL 7 3), (6, iT ((3 : Nat) : Int))] (hB3 n0 n1 n2))
   refine aj.aV (K1 := 8) (aj.lower (B' := 8) (aj.fP (F := [(0, sF 0 3), (5, sL 7 2), (6, iT ((2 : Nat) : Int))]) ((RU 8 (by omega) 2 2).mono fun e fr' H' h => by rw [decide_eq_true (by decide), cond_true] at h; exact h) (by omega) (lB2 n0 n1 n2 _ (by omega))) (by omega)) (by omega) ?_
   refine aj.aV (K1 := 8) (aj.jQ (ajq n0 n1 n2 h2)) (by omega) ?_
   exact aj.toN (aj.lower (B' := 8) (aj.fP (F := [(0, sF 0 3), (5, sL 7 3), (6, iT (((2 : Nat) : Int) + 1))]) (XW 8 (by omega) 2 3 (by decide)) (by omega) (lB3 n0 n1 n2 _ (by omega))) (by omega)) ⟨re rfl, re rfl, ri rfl, trivial⟩ (fG rfl)
  | k + 3, hk => omega
 ·show aj Try.prog _ _ _ _ _ (aQ [(0, sF 0 3), (5, sL 7 3), (6, iT ((3 : Nat) : Int))]) (hpL (hB3 n0 n1 n2)) (Xm 4 [(0, sF 0 3), (5, sL 7 3)] (hB3 n0 n1 n2))
  exact aj.Jl (K1 := 8) (aj.post (aj.lower (B' := 8) (aj.LU (id := 4) (F := [(0, sF 0 3), (5, sL 7 3), (6, iT ((3 : Nat) : Int))]) ((RU 8 (by omega) 3 3).mono fun e fr' H' h => by rw [decide_eq_false (by decide), cond_false] at h; exact h) (by omega) (lB3 n0 n1 n2 _ (by omega))) (by omega)) fun e fr' H' ⟨e1, e2, e3⟩ => by
   subst e1 e2 e3
   exact ⟨[(0, sF 0 3), (5, sL 7 3)], (hB3 n0 n1 n2), (dJ rfl), (fG rfl), rfl, rfl, rfl⟩) (by omega)
noncomputable abbrev ZDF (v0) (w0) := ([(0, sF 0 3), (5, sL 7 3), (9, iT w0), (10, iT ((v0 + 1 : Nat) : Int))] : tF)
noncomputable abbrev ZEU (w0) := ([(0, sF 0 3), (5, sL 7 3), (9, iT w0), (10, Zc 0)] : tF)
theorem Ug (n0 n1 n2 : Nat) (h0 : n0 * 16 + 192 ≤ 140737488355328) : aj Try.prog (.block 10 (.loop ZBc)) Try.f29.ntmps 8 8 8 (aQ (ZEU 0)) (hpL (ZDm n0 n1 n2)) (Nm (Gm 7 3 9 0) (ZDm n0 n1 n2)) := by
 refine (aj.count (n0 + 6) (fun i => [(0, sF 0 3), (5, sL 7 3), (9, iT 0), (10, iT ((i : Nat) : Int))]) (fun i => (ZDm n0 n1 n2)) (Gm 7 3 9 0) (ZDm n0 n1 n2) (fun _ => True) (fun _ _ => False) trivial (fun i hi _ => ?_)).mono fun e fr' H' h => ?_
 ·have hB := ajd 8 (by omega) n0 n1 n2 i (fun t => by have := of_decide_eq_true t; omega) (fun _ => by rw [Nat.zero_add]; exact wO (oC 10 i) _) (fun _ _ => wO _ _) (fun t => by have := of_decide_eq_true t; omega)
  refine hB.post fun e fr' H' h => ?_
  refine bD h (fun t h => ?_) (fun t h => ?_)
  ·have hlt : i < n0 + 6 := by have := of_decide_eq_true t; omega
   have h : e = .normal ∧ fr' = aQ [(0, sF 0 3), (5, sL 7 3), (9, iT 0), (10, iT ((i : Int) + 1))] ∧ H' = hpL (ZDm n0 n1 n2) := by
    refine bD h (fun t2 h => ?_) (fun t2 h => ?_)
    ·exact h
    ·exact h
   obtain ⟨rfl, rfl, rfl⟩ := h
   exact ⟨(ZDF i 0), (ZDm n0 n1 n2), ⟨re rfl, re rfl, re rfl, ri rfl, trivial⟩, (fG rfl), .inl ⟨rfl, hlt, trivial, rfl, rfl⟩⟩
  ·obtain rfl : i = n0 + 6 := by have := of_decide_eq_false t; omega
   obtain ⟨rfl, rfl, rfl⟩ := h
   exact ⟨(Gm 7 3 9 0), (ZDm n0 n1 n2), (dJ rfl), (fG rfl), .inr (.inl ⟨rfl, trivial, rfl, rfl⟩)⟩
 ·rcases h with ⟨e1, _, e2, e3⟩ | ⟨_, h⟩
  ·exact ⟨e1, e2, e3⟩
  ·exact h.elim
theorem Uh (n0 n1 n2 : Nat) (h1 : n1 * 16 + 192 ≤ 140737488355328) : aj Try.prog (.block 10 (.loop ZBc)) Try.f29.ntmps 8 8 8 (aQ (ZEU 1)) (hpL (ZDn n0 n1 n2)) (Nm (Gm 7 3 9 1) (ZDn n0 n1 n2)) := by
 refine (aj.count (n1 + 6) (fun i => [(0, sF 0 3), (5, sL 7 3), (9, iT 1), (10, iT ((i : Nat) : Int))]) (fun i => (ZDn n0 n1 n2)) (Gm 7 3 9 1) (ZDn n0 n1 n2) (fun _ => True) (fun _ _ => False) trivial (fun i hi _ => ?_)).mono fun e fr' H' h => ?_
 ·have hB := aje 8 (by omega) n0 n1 n2 i (fun t => by have := of_decide_eq_true t; omega) (fun _ => by rw [Nat.zero_add]; exact wO (oC 11 i) _) (fun _ _ => wO _ _) (fun t => by have := of_decide_eq_true t; omega)
  refine hB.post fun e fr' H' h => ?_
  refine bD h (fun t h => ?_) (fun t h => ?_)
  ·have hlt : i < n1 + 6 := by have := of_decide_eq_true t; omega
   have h : e = .normal ∧ fr' = aQ [(0, sF 0 3), (5, sL 7 3), (9, iT 1), (10, iT ((i : Int) + 1))] ∧ H' = hpL (ZDn n0 n1 n2) := by
    refine bD h (fun t2 h => ?_) (fun t2 h => ?_)
    ·exact h
    ·exact h
   obtain ⟨rfl, rfl, rfl⟩ := h
   exact ⟨(ZDF i 1), (ZDn n0 n1 n2), ⟨re rfl, re rfl, re rfl, ri rfl, trivial⟩, (fG rfl), .inl ⟨rfl, hlt, trivial, rfl, rfl⟩⟩
  ·obtain rfl : i = n1 + 6 := by have := of_decide_eq_false t; omega
   obtain ⟨rfl, rfl, rfl⟩ := h
   exact ⟨(Gm 7 3 9 1), (ZDn n0 n1 n2), (dJ rfl), (fG rfl), .inr (.inl ⟨rfl, trivial, rfl, rfl⟩)⟩
 ·rcases h with ⟨e1, _, e2, e3⟩ | ⟨_, h⟩
  ·exact ⟨e1, e2, e3⟩
  ·exact h.elim
theorem Ui (n0 n1 n2 : Nat) (h2 : n2 * 16 + 192 ≤ 140737488355328) : aj Try.prog (.block 10 (.loop ZBc)) Try.f29.ntmps 8 8 8 (aQ (ZEU 2)) (hpL (ZDo n0 n1 n2)) (Nm (Gm 7 3 9 2) (ZDo n0 n1 n2)) := by
 refine (aj.count (n2 + 6) (fun i => [(0, sF 0 3), (5, sL 7 3), (9, iT 2), (10, iT ((i : Nat) : Int))]) (fun i => (ZDo n0 n1 n2)) (Gm 7 3 9 2) (ZDo n0 n1 n2) (fun _ => True) (fun _ _ => False) trivial (fun i hi _ => ?_)).mono fun e fr' H' h => ?_
 ·have hB := ajf 8 (by omega) n0 n1 n2 i (fun t => by have := of_decide_eq_true t; omega) (fun _ => by rw [Nat.zero_add]; exact wO (oC 12 i) _) (fun _ _ => wO _ _) (fun t => by have := of_decide_eq_true t; omega)
  refine hB.post fun e fr' H' h => ?_
  refine bD h (fun t h => ?_) (fun t h => ?_)
  ·have hlt : i < n2 + 6 := by have := of_decide_eq_true t; omega
   have h : e = .normal ∧ fr' = aQ [(0, sF 0 3), (5, sL 7 3), (9, iT 2), (10, iT ((i : Int) + 1))] ∧ H' = hpL (ZDo n0 n1 n2) := by
    refine bD h (fun t2 h => ?_) (fun t2 h => ?_)
    ·exact h
    ·exact h
   obtain ⟨rfl, rfl, rfl⟩ := h
   exact ⟨(ZDF i 2), (ZDo n0 n1 n2), ⟨re rfl, re rfl, re rfl, ri rfl, trivial⟩, (fG rfl), .inl ⟨rfl, hlt, trivial, rfl, rfl⟩⟩
  ·obtain rfl : i = n2 + 6 := by have := of_decide_eq_false t; omega
   obtain ⟨rfl, rfl, rfl⟩ := h
   exact ⟨(Gm 7 3 9 2), (ZDo n0 n1 n2), (dJ rfl), (fG rfl), .inr (.inl ⟨rfl, trivial, rfl, rfl⟩)⟩
 ·rcases h with ⟨e1, _, e2, e3⟩ | ⟨_, h⟩
  ·exact ⟨e1, e2, e3⟩
  ·exact h.elim
theorem agU (n0 n1 n2 : Nat) (h0 : n0 * 16 + 192 ≤ 140737488355328) (h1 : n1 * 16 + 192 ≤ 140737488355328) (h2 : n2 * 16 + 192 ≤ 140737488355328) : aj Try.prog (.seq (aT [1,1,1,1,0,0] (ak Try.f29)) (.block 8 (.loop (.seq (aT [1,1,1,1,0,1,0,0,0] (ak Try.f29)) (.seq (.block 9 (.seq (aT [1,1,1,1,0,1,0,0,1,0,0,0] (ak Try.f29)) (.block 10 (.loop ZBc)))) (aT [1,1,1,1,0,1,0,0,1,1] (ak Try.f29))))))) Try.f29.ntmps 4 8 8 (aQ [(0, sF 0 3), (5, sL 7 3)]) (hpL (hB3 n0 n1 n2)) (Nm [(0, sF 0 3)] (hB3 n0 n1 n2)) := by
 refine aj.lower (B' := 8) ?_ (by omega)
 refine aj.aV (K1 := 8) (aj.toN (F' := (J3 3 9 0)) (YN := (hB3 n0 n1 n2)) (aj.fP (F := [(0, sF 0 3), (5, sL 7 3), (9, ZC 0)]) (agQ 8 (by omega)) (by omega) (lB3 n0 n1 n2 _ (by omega))) ⟨re rfl, re rfl, ri rfl, trivial⟩ (fG rfl)) (by omega) ?_
 refine aj.rounds 3 (fun k => [(0, sF 0 3), (5, sL 7 3), (9, iT ((k : Nat) : Int))]) (fun _ => (hB3 n0 n1 n2)) (fun k hk => ?_) ?_
 ·match k, hk with
  | 0, _ =>
   show aj Try.prog _ _ _ _ _ (aQ (J3 3 9 0)) (hpL (hB3 n0 n1 n2)) (Nm (J3 3 9 1) (hB3 n0 n1 n2))
   refine aj.aV (K1 := 8) (aj.fP (F := (J3 3 9 0)) ((RV 8 (by omega) 0).mono fun e fr' H' h => by rw [decide_eq_true (by decide), cond_true] at h; exact h) (by omega) (lB3 n0 n1 n2 _ (by omega))) (by omega) ?_
   refine aj.aV (K1 := 8) (F1 := (J3 3 9 0)) (H1 := (hB3 n0 n1 n2)) (aj.jQ (aj.aV (K1 := 8) (aj.fP (F := [(0, sF 0 3), (5, sL 7 3), (9, Zc 0), (10, ZC 0)]) (XY 8 (by omega) 0) (by omega) (lB3 n0 n1 n2 _ (by omega))) (by omega) ?_)) (by omega) ?_
   ·refine aj.dW (fl := (ZEU 0)) (bl := [(0, ZO n0 n1 n2), (7, Zo n0 n1 n2 3), (1, m10 false n0), (4, AZ n0), (2, m11 false n1), (3, m12 false n2), (5, J8 n1), (6, XZ n2)]) ⟨re rfl, re rfl, re rfl, ri rfl, trivial⟩ (fG rfl) ?_
    exact aj.toN (aj.dB (F := (Gm 7 3 9 0)) (iL := (ZDm n0 n1 n2)) (xl := [(2, m11 false n1), (3, m12 false n2), (5, J8 n1), (6, XZ n2)]) (Ug n0 n1 n2 h0) (by omega) ⟨⟨by omega, mk_low⟩, ⟨by omega, mk_low⟩, ⟨by omega, mk_low⟩, ⟨by omega, mk_low⟩, trivial⟩ (by rfl) (by rfl) ⟨.inr ⟨by omega, _, rfl, fun _ h => h⟩, .inl rfl, .inr ⟨by omega, _, rfl, fun _ h => h⟩, .inr ⟨by omega, _, rfl, fun _ h => h⟩, trivial⟩) ⟨re rfl, re rfl, ri rfl, trivial⟩ (fG rfl)
   ·exact aj.toN (aj.fP (F := (ZCQ 3 9 0)) (X3 8 (by omega) 0 (by decide)) (by omega) (lB3 n0 n1 n2 _ (by omega))) ⟨re rfl, re rfl, ri rfl, trivial⟩ (fG rfl)
  | 1, _ =>
   show aj Try.prog _ _ _ _ _ (aQ (J3 3 9 1)) (hpL (hB3 n0 n1 n2)) (Nm (J3 3 9 2) (hB3 n0 n1 n2))
   refine aj.aV (K1 := 8) (aj.fP (F := (J3 3 9 1)) ((RV 8 (by omega) 1).mono fun e fr' H' h => by rw [decide_eq_true (by decide), cond_true] at h; exact h) (by omega) (lB3 n0 n1 n2 _ (by omega))) (by omega) ?_
   refine aj.aV (K1 := 8) (F1 := (J3 3 9 1)) (H1 := (hB3 n0 n1 n2)) (aj.jQ (aj.aV (K1 := 8) (aj.fP (F := [(0, sF 0 3), (5, sL 7 3), (9, Zc 1), (10, ZC 0)]) (XY 8 (by omega) 1) (by omega) (lB3 n0 n1 n2 _ (by omega))) (by omega) ?_)) (by omega) ?_
   ·refine aj.dW (fl := (ZEU 1)) (bl := [(0, ZO n0 n1 n2), (7, Zo n0 n1 n2 3), (2, m11 false n1), (5, J8 n1), (1, m10 false n0), (3, m12 false n2), (4, AZ n0), (6, XZ n2)]) ⟨re rfl, re rfl, re rfl, ri rfl, trivial⟩ (fG rfl) ?_
    exact aj.toN (aj.dB (F := (Gm 7 3 9 1)) (iL := (ZDn n0 n1 n2)) (xl := [(1, m10 false n0), (3, m12 false n2), (4, AZ n0), (6, XZ n2)]) (Uh n0 n1 n2 h1) (by omega) ⟨⟨by omega, mk_low⟩, ⟨by omega, mk_low⟩, ⟨by omega, mk_low⟩, ⟨by omega, mk_low⟩, trivial⟩ (by rfl) (by rfl) ⟨.inr ⟨by omega, _, rfl, fun _ h => h⟩, .inl rfl, .inr ⟨by omega, _, rfl, fun _ h => h⟩, .inr ⟨by omega, _, rfl, fun _ h => h⟩, trivial⟩) ⟨re rfl, re rfl, ri rfl, trivial⟩ (fG rfl)
   ·exact aj.toN (aj.fP (F := (ZCQ 3 9 1)) (X3 8 (by omega) 1 (by decide)) (by omega) (lB3 n0 n1 n2 _ (by omega))) ⟨re rfl, re rfl, ri rfl, trivial⟩ (fG rfl)
  | 2, _ =>
   show aj Try.prog _ _ _ _ _ (aQ (J3 3 9 2)) (hpL (hB3 n0 n1 n2)) (Nm (J3 3 9 3) (hB3 n0 n1 n2))
   refine aj.aV (K1 := 8) (aj.fP (F := (J3 3 9 2)) ((RV 8 (by omega) 2).mono fun e fr' H' h => by rw [decide_eq_true (by decide), cond_true] at h; exact h) (by omega) (lB3 n0 n1 n2 _ (by omega))) (by omega) ?_
   refine aj.aV (K1 := 8) (F1 := (J3 3 9 2)) (H1 := (hB3 n0 n1 n2)) (aj.jQ (aj.aV (K1 := 8) (aj.fP (F := [(0, sF 0 3), (5, sL 7 3), (9, Zc 2), (10, ZC 0)]) (XY 8 (by omega) 2) (by omega) (lB3 n0 n1 n2 _ (by omega))) (by omega) ?_)) (by omega) ?_
   ·refine aj.dW (fl := (ZEU 2)) (bl := [(0, ZO n0 n1 n2), (7, Zo n0 n1 n2 3), (3, m12 false n2), (6, XZ n2), (1, m10 false n0), (2, m11 false n1), (4, AZ n0), (5, J8 n1)]) ⟨re rfl, re rfl, re rfl, ri rfl, trivial⟩ (fG rfl) ?_
    exact aj.toN (aj.dB (F := (Gm 7 3 9 2)) (iL := (ZDo n0 n1 n2)) (xl := [(1, m10 false n0), (2, m11 false n1), (4, AZ n0), (5, J8 n1)]) (Ui n0 n1 n2 h2) (by omega) ⟨⟨by omega, mk_low⟩, ⟨by omega, mk_low⟩, ⟨by omega, mk_low⟩, ⟨by omega, mk_low⟩, trivial⟩ (by rfl) (by rfl) ⟨.inr ⟨by omega, _, rfl, fun _ h => h⟩, .inl rfl, .inr ⟨by omega, _, rfl, fun _ h => h⟩, .inr ⟨by omega, _, rfl, fun _ h => h⟩, trivial⟩) ⟨re rfl, re rfl, ri rfl, trivial⟩ (fG rfl)
   ·exact aj.toN (aj.fP (F := (ZCQ 3 9 2)) (X3 8 (by omega) 2 (by decide)) (by omega) (lB3 n0 n1 n2 _ (by omega))) ⟨re rfl, re rfl, ri rfl, trivial⟩ (fG rfl)
  | k + 3, hk => omega
 ·show aj Try.prog _ _ _ _ _ (aQ (J3 3 9 3)) (hpL (hB3 n0 n1 n2)) (Xm 8 [(0, sF 0 3)] (hB3 n0 n1 n2))
  exact aj.Jl (K1 := 8) (aj.post (aj.LU (id := 8) (F := (J3 3 9 3)) ((RV 8 (by omega) 3).mono fun e fr' H' h => by rw [decide_eq_false (by decide), cond_false] at h; exact h) (by omega) (lB3 n0 n1 n2 _ (by omega))) fun e fr' H' ⟨e1, e2, e3⟩ => by
   subst e1 e2 e3
   exact ⟨[(0, sF 0 3)], (hB3 n0 n1 n2), ⟨re rfl, trivial⟩, (fG rfl), rfl, rfl, rfl⟩) (by omega)
theorem agV : (ak Try.f29) = .seq (aT [0] (ak Try.f29)) (.seq (.seq (aT [1,0,0] (ak Try.f29)) (.block 0 (.loop (.seq (aT [1,0,1,0,0,0] (ak Try.f29)) (.seq (.block 1 (.seq (aT [1,0,1,0,0,1,0,0,0] (ak Try.f29)) (.block 2 (.loop ZBm)))) (aT [1,0,1,0,0,1,1] (ak Try.f29))))))) (.seq (aT [1,1,0] (ak Try.f29)) (.seq (.seq (aT [1,1,1,0,0] (ak Try.f29)) (.block 4 (.loop (.seq (aT [1,1,1,0,1,0,0,0] (ak Try.f29)) (.seq (.block 5 (.seq ZBn (.seq (.seq ZBf (.block 6 (.loop (.seq ZBR (.seq (.block 7 Zl) ZBN))))) ZBk))) (aT [1,1,1,0,1,0,0,1,1] (ak Try.f29))))))) (.seq (.seq (aT [1,1,1,1,0,0] (ak Try.f29)) (.block 8 (.loop (.seq (aT [1,1,1,1,0,1,0,0,0] (ak Try.f29)) (.seq (.block 9 (.seq (aT [1,1,1,1,0,1,0,0,1,0,0,0] (ak Try.f29)) (.block 10 (.loop ZBc)))) (aT [1,1,1,1,0,1,0,0,1,1] (ak Try.f29))))))) (aT [1,1,1,1,1] (ak Try.f29)))))) := by kernel_rfl
theorem abx (n0 n1 n2 : Nat) (oD oG : Nat → Nat) (nM nN : Nat → Nat) (mD mF : Nat → Nat) (h0 : n0 * 16 + 192 ≤ 140737488355328) (h1 : n1 * 16 + 192 ≤ 140737488355328) (h2 : n2 * 16 + 192 ≤ 140737488355328) : aj Try.prog (ak Try.f29) Try.f29.ntmps 4 7 8 (bJ [sF 0 3] 0 .e) (hpL (hA0 n0 n1 n2 oD oG nM nN mD mF)) fun e fr' H' => e = .ret ∧ fr'.get 2 = some (.bool true) := by
 rw [agV]
 refine aj.dW (fl := [(0, sF 0 3)]) (bl := (hA0 n0 n1 n2 oD oG nM nN mD mF)) ⟨re rfl, trivial⟩ (fG rfl) ?_
 refine aj.aV (K1 := 7) (aj.fP (F := [(0, sF 0 3)]) (aiV 4 (by omega)) (by omega) (lA0 n0 n1 n2 oD oG nM nN mD mF _ (by omega))) (by omega) ?_
 refine aj.aV (K1 := 7) (agR n0 n1 n2 oD oG nM nN mD mF h0 h1 h2) (by omega) ?_
 refine aj.aV (K1 := 7) (aj.fP (F := [(0, sF 0 3), (5, .aX)]) (ai1 4 (by omega)) (by omega) (lA3 n0 n1 n2 oD oG nM nN mD mF _ (by omega))) (by omega) ?_
 refine aj.phantom 5 1 (NK n0 n1 n2) rfl (by omega) (by omega) ?_
 refine aj.dW (fl := [(0, sF 0 3), (5, sL 7 0)]) (bl := (hB0 n0 n1 n2)) (dJ rfl) (fG rfl) ?_
 refine aj.aV (K1 := 8) (agT n0 n1 n2 h0 h1 h2) (by omega) ?_
 refine aj.aV (K1 := 8) (agU n0 n1 n2 h0 h1 h2) (by omega) ?_
 refine aj.lower (B' := 8) (aj.dW (fl := [(0, sF 0 3)]) (bl := []) ⟨re rfl, trivial⟩ trivial ((apZ 8 (by omega)).mono fun e fr' H' ⟨e1, e2, e3⟩ => ?_)) (by omega)
 subst e1 e2 e3
 exact ⟨rfl, rfl⟩


/-- a list that is handed in whole: its name, its length, its rows -/
noncomputable def apH (x : List AV) : M (Nat × Nat × Cont) :=
 match x with
 | [.slc _ true a n] => (jU a.g).andThen fun b => (M.dn (b.1 && Nat.beq b.2.1 1 && Nat.beq a.i 0 && Nat.beq a.o 0)).andThen fun _ => (M.req (n = b.2.2.1 ∧ n * 16 + 192 ≤ 140737488355328 ∧ GX n b.2.2.2.row)).andThen fun _ => M.ret (a.g, n, b.2.2.2)
 | _ => M.no
theorem J4 (x : List AV) : aC (apH x) := by
 unfold apH
 split
 ·exact (aC.jU _).andThen fun _ => (aC.dn _).andThen fun _ => (aC.req _).andThen fun _ => aC.ret _
 ·exact aC.no
theorem FP {x : List AV} {y : Nat × Nat × Cont} {g g' : G} (h : apH x g = .done y g') : ∃ s a, x = [.slc s true a y.2.1] ∧ a.g = y.1 ∧ a.i = 0 ∧ a.o = 0 ∧ ∃ m, g.H.get y.1 = some (.cells true 1 m y.2.2) ∧ Keep g g' (y.2.1 = m ∧ y.2.1 * 16 + 192 ≤ 140737488355328 ∧ GX y.2.1 y.2.2.row) := by
 unfold apH at h
 split at h
 ·rename_i s a n
  obtain ⟨⟨bo, sz, m, c⟩, g1, a1, h1⟩ := au h
  obtain ⟨hb, rfl⟩ := fK a1
  obtain ⟨_, g2, a2, h2⟩ := au h1
  obtain ⟨hq, rfl⟩ := aU a2
  simp only [Bool.and_eq_true] at hq
  obtain ⟨⟨⟨rfl, q1⟩, q2⟩, q3⟩ := hq
  obtain rfl := Nat.eq_of_beq_eq_true q1
  obtain ⟨_, g3, a3, h3⟩ := au h2
  obtain ⟨rfl, rfl⟩ := aA h3
  exact ⟨s, a, rfl, rfl, Nat.eq_of_beq_eq_true q2, Nat.eq_of_beq_eq_true q3, m, hb, dR a3⟩
 ·exact (aY h).elim
/-- such a block, told by what its numbers are -/
theorem J5 {m : Nat} {c : Cont} (h : GX m c.row) (ρ : Nat → Nat) {N : Nat} {μ : MM} {hp : Array Obj} {i : Nat} (k : dw N μ hp i (.cells true 1 m c)) : dw N μ hp i ((aF.cells true 1 m (.fn fun j => [.dD true (Et (c.row j)) (Eu (c.row j))])).ren ρ) := by
 have k1 : dw N μ hp i (.cells true 1 m (.fn fun j => [.dD true (Et (c.row j)) (Eu (c.row j))])) := pV.ok (b := .cells true 1 m c) ⟨rfl, rfl, rfl, fun j hj => (h j hj).ge⟩ k
 exact k1
noncomputable def FQ : List AV → M AV
 | [.slc false own a 3] => (jU a.g).andThen fun b => (M.dn (Nat.beq b.2.1 1 && Nat.beq a.i 0 && Nat.beq a.o 0 && Nat.ble 3 b.2.2.1)).andThen fun _ =>
  (apH (b.2.2.2.row 0)).andThen fun x0 => (apH (b.2.2.2.row 1)).andThen fun x1 => (apH (b.2.2.2.row 2)).andThen fun x2 =>
  (M.dn (nodupB [a.g, x0.1, x1.1, x2.1])).andThen fun _ => (M.yC x0.1).andThen fun _ => (M.yC x1.1).andThen fun _ => (M.yC x2.1).andThen fun _ => M.ret (.bool true)
 | _ => M.no
theorem P7 : ∀ args, aC (FQ args) := by
 intro args
 unfold FQ
 split
 ·exact (aC.jU _).andThen fun _ => (aC.dn _).andThen fun _ => (J4 _).andThen fun _ => (J4 _).andThen fun _ => (J4 _).andThen fun _ => (aC.dn _).andThen fun _ => (aC.yC _).andThen fun _ => (aC.yC _).andThen fun _ => (aC.yC _).andThen fun _ => aC.ret _
 ·exact aC.no
theorem Uj : ∀ args v g g', FQ args g = .done v g' → bf Try.prog 29 args v g g' := by
 intro args v g g' h
 unfold FQ at h
 split at h
 ·rename_i own a
  obtain ⟨⟨bo, sz, m, c⟩, g1, b1, h⟩ := au h
  obtain ⟨hb, rfl⟩ := fK b1
  obtain ⟨_, g2, b2, h⟩ := au h
  obtain ⟨hq, rfl⟩ := aU b2
  simp only [Bool.and_eq_true] at hq
  dsimp only at hb hq
  obtain ⟨⟨⟨z1, z2⟩, z3⟩, z4⟩ := hq
  obtain rfl := Nat.eq_of_beq_eq_true z1
  have z2 := Nat.eq_of_beq_eq_true z2
  have z3 := Nat.eq_of_beq_eq_true z3
  have z4 := Nat.le_of_ble_eq_true z4
  obtain ⟨⟨q0, n0, c0⟩, e0, d0, h⟩ := au h
  obtain ⟨s0, a0, r0, u0, v0, w0, m0, t0, k0⟩ := FP d0
  obtain ⟨⟨q1, n1, c1⟩, e1, d1, h⟩ := au h
  obtain ⟨s1, a1, r1, u1, v1, w1, m1, t1, k1⟩ := FP d1
  obtain ⟨⟨q2, n2, c2⟩, e2, d2, h⟩ := au h
  obtain ⟨s2, a2, r2, u2, v2, w2, m2, t2, k2⟩ := FP d2
  dsimp only at r0 u0 t0 k0 r1 u1 t1 k1 r2 u2 t2 k2
  obtain ⟨_, f0, j0, h⟩ := au h
  obtain ⟨hn, rfl⟩ := aU j0
  have hn := EH hn
  obtain ⟨_, x0, y0, h⟩ := au h
  obtain ⟨H0, X0, C0⟩ := mO y0
  obtain ⟨_, x1, y1, h⟩ := au h
  obtain ⟨H1, X1, C1⟩ := mO y1
  obtain ⟨_, x2, y2, h⟩ := au h
  obtain ⟨H2, X2, C2⟩ := mO y2
  obtain ⟨rfl, rfl⟩ := aA h
  have kq := ((k0.trans k1).trans k2)
  rw [k0.1] at t1
  rw [(k0.trans k1).1] at t2
  have eH : ∀ i b, x2.H.get i = some b → g.H.get i = some b ∧ i ≠ q0 ∧ i ≠ q1 ∧ i ≠ q2 := fun i b hi => by
   rw [H2, H1, H0] at hi
   simp only [T.bP] at hi
   split at hi
   ·cases hi
   split at hi
   ·cases hi
   split at hi
   ·cases hi
   rw [kq.1] at hi
   exact ⟨hi, ‹_›, ‹_›, ‹_›⟩
  refine G8 (c := ak Try.f29) Try.func29 (by kernel_rfl) (by kernel_rfl) (dY := [sF 0 3]) (bl := [(0, ZC4 n0 n1 n2), (1, .cells true 1 n0 (.fn fun j => [.dD true (Et (c0.row j)) (Eu (c0.row j))])), (2, .cells true 1 n1 (.fn fun j => [.dD true (Et (c1.row j)) (Eu (c1.row j))])), (3, .cells true 1 n2 (.fn fun j => [.dD true (Et (c2.row j)) (Eu (c2.row j))]))]) (iL := []) (B0 := 4) (K0 := 7) (K' := 8) (p := _) (fun hc => kq.2.2 (by rw [C2, C1, C0] at hc; exact hc)) (by rw [X2, X1, X0]; exact kq.2.1) (fun i => nmL [a.g, q0, q1, q2] i) ?_ ?_ ?_ ?_ rfl ?_
  ·intro hp N μ cs hr
   simp only [aI] at hr ⊢
   obtain ⟨cv, r, rfl, h1, h2⟩ := hr
   refine ⟨cv, r, rfl, ?_, h2⟩
   have := LV (K0 := 7) (ρ := fun i => nmL [a.g, q0, q1, q2] i) (i := 0) h1 z2 z3 (by omega) rfl
   simp only [Rep, yH] at this ⊢
   obtain ⟨p0, A, C, p1, p2, p3, p4, _⟩ := this
   exact ⟨p0, A, C, p1, p2, p3, p4, fun h => by cases h⟩
  ·intro hp i b hi
   have hm := bC hi
   simp only [List.mem_cons, List.not_mem_nil, or_false] at hm
   rcases hm with hm | hm | hm | hm
   ·cases hm
    refine ⟨by omega, dV n0 n1 n2 _ (by omega), _, hb, fun N μ hpp k => ?_, fun h => (by cases h), fun μ j hr => ?_⟩
    ·refine ⟨k.1, k.2.1, fun hr => ?_⟩
     obtain ⟨cur, ty, fz, p1, p2, p3, p4⟩ := k.2.2 (.inl (by omega))
     refine ⟨cur, ty, fz, p1, by omega, fun h => (by cases h), fun i hi => ?_⟩
     refine jv.ge (p4 i (by omega)) ?_
     match i, hi with
     | 0, _ => rw [r0]; exact ⟨AV.ge.hdr u0 v0 w0, rfl, trivial⟩
     | 1, _ => rw [r1]; exact ⟨AV.ge.hdr u1 v1 w1, rfl, trivial⟩
     | 2, _ => rw [r2]; exact ⟨AV.ge.hdr u2 v2 w2, rfl, trivial⟩
    ·exact .inl (by omega)
   ·cases hm
    obtain ⟨rfl, l1, l2⟩ := hp.1.1
    exact ⟨by omega, mk_low, _, t0, fun N μ hpp kk => J5 l2 _ kk, fun _ => rfl, fun μ j hr => hr⟩
   ·cases hm
    obtain ⟨rfl, l1, l2⟩ := hp.1.2
    exact ⟨by omega, mk_low, _, t1, fun N μ hpp kk => J5 l2 _ kk, fun _ => rfl, fun μ j hr => hr⟩
   ·cases hm
    obtain ⟨rfl, l1, l2⟩ := hp.2
    exact ⟨by omega, mk_low, _, t2, fun N μ hpp kk => J5 l2 _ kk, fun _ => rfl, fun μ j hr => hr⟩
  ·intro hp i j b b' hi hj e
   have lt : ∀ {i b}, (hpL [(0, ZC4 n0 n1 n2), (1, .cells true 1 n0 (.fn fun j => [.dD true (Et (c0.row j)) (Eu (c0.row j))])), (2, .cells true 1 n1 (.fn fun j => [.dD true (Et (c1.row j)) (Eu (c1.row j))])), (3, .cells true 1 n2 (.fn fun j => [.dD true (Et (c2.row j)) (Eu (c2.row j))]))]).get i = some b → i < 4 := fun hb => by
    have hm := bC hb
    simp only [List.mem_cons, List.not_mem_nil, or_false] at hm
    rcases hm with hm | hm | hm | hm <;> cases hm <;> omega
   exact YO hn (lt hi) (lt hj) e
  ·intro hp
   refine (abx n0 n1 n2 (fun j => Et (c0.row j)) (fun j => Eu (c0.row j)) (fun j => Et (c1.row j)) (fun j => Eu (c1.row j)) (fun j => Et (c2.row j)) (fun j => Eu (c2.row j)) hp.1.1.2.1 hp.1.2.2.1 hp.2.2.1).mono fun e fr' H' ⟨e1, e2⟩ => ?_
   exact ⟨.inl e1, _, _, res1 (t := 2) (by kernel_rfl) e2, trivial, AV.ge.refl _, trivial⟩
  ·intro hp i b hi
   obtain ⟨h1, h0, h1, h2⟩ := eH i b hi
   refine .inl ⟨by assumption, fun j bj hj ho => ?_⟩
   have hm := bC hj
   simp only [List.mem_cons, List.not_mem_nil, or_false] at hm
   rcases hm with hm | hm | hm | hm
   ·cases hm; cases ho
   ·cases hm; exact fun e => absurd e.symm (by assumption)
   ·cases hm; exact fun e => absurd e.symm (by assumption)
   ·cases hm; exact fun e => absurd e.symm (by assumption)
 ·exact (aY h).elim


noncomputable abbrev vO (f : Func) (c : Code) (fr : Fr) (H : T aF) (K : Nat) (path : List Bool) : BU (Ex × Fr) :=
 cu Try.prog AU (bY Try.prog AU f.ntmps) lQ f.ntmps 1000 c fr ⟨H, K, [], path, True⟩


theorem agW {fn : Func} {K K' B : Nat} {e : Ex} {F : tF} {Hl : tH} {c : Code} {fr : Fr} {H : T aF} {path : List Bool} (h : bV K' e F Hl (vO fn c fr H K path)) (hB : B ≤ K) : aj Try.prog c fn.ntmps B K K' fr H fun e' fr' H' => e' = e ∧ fr' = aQ F ∧ H' = hpL Hl := aj.runN AX (PW _) (iI.none _ _ _) h hB
theorem Ns {fn : Func} {K K' B : Nat} {e : Ex} {F : tF} {Hl : tH} {c : Code} {fr : Fr} {H : T aF} (path : List Bool) {q : Prop} (hq : q) (hB : B ≤ K) (h : jP K' e F Hl (vO fn c fr H K path) = (e = e ∧ uh F ∧ uj Hl ∧ true = true ∧ q) := by kernel_rfl) : aj Try.prog c fn.ntmps B K K' fr H fun e' fr' H' => e' = e ∧ fr' = aQ F ∧ H' = hpL Hl := agW (eqn h hq) hB
noncomputable abbrev P8 (v0 : Nat) (v1 v2 : Nat → Nat) (v3 : Nat) (v4 v5 : Nat → Nat) := ([(0, cK false v0 v1 v2), (1, cK false v3 v4 v5)] : tH)
noncomputable abbrev ZCa (v0 : Nat) := (.slc true false ⟨false, 1, 0, 0⟩ v0 : AV)
theorem saA (B : Nat) (hB : B ≤ 2) (la lb : Nat) (ra ia rb ib : Nat → Nat) : aj Try.prog (aT [0] (ak Try.f28)) Try.f28.ntmps B 2 2 (bJ [gU 0 la, gU 1 lb] 0 .e) (hpL (P8 la ra ia lb rb ib)) (pP .normal [(0, ZG la), (1, ZCa lb)] (P8 la ra ia lb rb ib)) := Ns [] trivial hB
theorem saC (B : Nat) (hB : B ≤ 2) (la lb : Nat) (ra ia rb ib : Nat → Nat) : aj Try.prog (aT [1,0] (ak Try.f28)) Try.f28.ntmps B 2 2 (aQ [(0, gU 0 la), (1, gU 1 lb)]) (hpL (P8 la ra ia lb rb ib)) fun e fr' H' => (cond (decide ((↑la : Int) = (↑lb : Int))) (pP .normal [(0, ZG la), (1, ZCa lb)] (P8 la ra ia lb rb ib) e fr' H') (pP .ret [(0, ZG la), (1, ZCa lb), (4, .bool false)] (P8 la ra ia lb rb ib) e fr' H')) := cD (fun q0 t0 => Ns [fF] (I1 (nt t0)) hB) (fun q0 t0 => Ns [tT] (I1 (nf t0)) hB)
theorem saD (B : Nat) (hB : B ≤ 2) (la lb : Nat) (ra ia rb ib : Nat → Nat) : aj Try.prog (aT [1,1,0,0] (ak Try.f28)) Try.f28.ntmps B 2 2 (aQ [(0, gU 0 la), (1, gU 1 lb)]) (hpL (P8 la ra ia lb rb ib)) (pP .normal [(0, ZG la), (1, ZCa lb), (5, ZC 0)] (P8 la ra ia lb rb ib)) := Ns [] trivial hB
theorem saB (B : Nat) (hB : B ≤ 2) (la lb i : Nat) (ra ia rb ib : Nat → Nat) (x0 : ((decide ((↑i : Int) < (↑la : Int))) = true → ((↑i : Int) < (↑lb : Int)))) (x1 : ((decide ((↑i : Int) < (↑la : Int))) = true → (0 + i < lb))) (x2 : ((decide ((↑i : Int) < (↑la : Int))) = true → ((decide (ra (0 + i) = rb (0 + i))) = true → ((decide (ia (0 + i) = ib (0 + i))) = true → ((↑i : Int) + 1 ≤ (9223372036854775807 : Int)))))) : aj Try.prog (aT [1,1,0,1,0,0] (ak Try.f28)) Try.f28.ntmps B 2 2 (aQ [(0, gU 0 la), (1, gU 1 lb), (5, iT i)]) (hpL (P8 la ra ia lb rb ib)) fun e fr' H' => (cond (decide ((↑i : Int) < (↑la : Int))) (cond (decide (ra (0 + i) = rb (0 + i))) (cond (decide (ia (0 + i) = ib (0 + i))) (pP .normal [(0, ZG la), (1, ZCa lb), (5, Ap i)] (P8 la ra ia lb rb ib) e fr' H') (pP .ret [(0, ZG la), (1, ZCa lb), (4, .bool false), (5, iT (↑i : Int))] (P8 la ra ia lb rb ib) e fr' H')) (pP .ret [(0, ZG la), (1, ZCa lb), (4, .bool false), (5, iT (↑i : Int))] (P8 la ra ia lb rb ib) e fr' H')) (pP (.exit 0) [(0, ZG la), (1, ZCa lb), (5, iT (↑i : Int))] (P8 la ra ia lb rb ib) e fr' H')) := cD (fun q0 t0 => cD (fun q1 t1 => cD (fun q2 t2 => Ns [tT, tT, fF] (I8 t0 (ai (show 0 ≤ (↑i : Int) by omega) (show (↑i : Int) < (↑la : Int) by omega)) (show 0 + i < la by omega) (ai (show 0 ≤ (↑i : Int) by omega) (x0 t0)) (x1 t0) t1 (nt t2) (ai (show -9223372036854775808 ≤ (↑i : Int) + 1 by omega) (x2 t0 t1 t2))) hB) (fun q2 t2 => Ns [tT, tT, tT] (I7 t0 (ai (show 0 ≤ (↑i : Int) by omega) (show (↑i : Int) < (↑la : Int) by omega)) (show 0 + i < la by omega) (ai (show 0 ≤ (↑i : Int) by omega) (x0 t0)) (x1 t0) t1 (nf t2)) hB)) (fun q1 t1 => Ns [tT, fF] (I6 t0 (ai (show 0 ≤ (↑i : Int) by omega) (show (↑i : Int) < (↑la : Int) by omega)) (show 0 + i < la by omega) (ai (show 0 ≤ (↑i : Int) by omega) (x0 t0)) (x1 t0) t1) hB)) (fun q0 t0 => Ns [fF] (I1 t0) hB)
theorem aeO  : bV 2 (Ex.ret) [(4, .bool true)] [] (vO Try.f28 (aT [1,1,1] (ak Try.f28)) (aQ []) (hpL []) 2 []) := eN trivial
theorem saZ (B : Nat) (hB : B ≤ 2)  : aj Try.prog (aT [1,1,1] (ak Try.f28)) Try.f28.ntmps B 2 2 (aQ []) (hpL []) fun e fr' H' => (e = .ret ∧ fr' = aQ [(4, .bool true)] ∧ H' = hpL []) := agW (aeO ) hB
def saI (la lb : Nat) (ra ia rb ib : Nat → Nat) (k : Nat) (fr : Fr) (H : T aF) : Prop :=
 ∃ i : Nat, k = la - i ∧ i ≤ la ∧ (∀ j, j < i → ra j = rb j ∧ ia j = ib j) ∧ fr = aQ [(0, gU 0 la), (1, gU 1 lb), (5, iT i)] ∧ H = hpL [(0, cK false la ra ia), (1, cK false lb rb ib)]
def saP (la lb : Nat) (ra ia rb ib : Nat → Nat) : Po := fun e fr H => (e = .exit 0 ∧ ∀ j, j < la → ra j = rb j ∧ ia j = ib j) ∨ (e = .ret ∧ ¬ (∀ j, j < la → ra j = rb j ∧ ia j = ib j) ∧ fr.get 4 = some (.bool false))
theorem aby (la lb : Nat) (ra ia rb ib : Nat → Nat) (hl : la = lb) (hm : la ≤ 9223372036854775807) (k : Nat) (fr : Fr) (H : T aF) (hI : saI la lb ra ia rb ib k fr H) :
  aj Try.prog (aT [1,1,0,1,0,0] (ak Try.f28)) Try.f28.ntmps 2 2 2 fr H fun e fr' H' => match e with
   | .normal => ∃ k', k' < k ∧ saI la lb ra ia rb ib k' fr' H'
   | e => saP la lb ra ia rb ib e fr' H' := by
 obtain ⟨i, rfl, hi, hs, rfl, rfl⟩ := hI
 have hx : decide ((i : Int) < (la : Int)) = true → i < la := fun t => by have := of_decide_eq_true t; omega
 have hB := saB 2 (by omega) la lb i ra ia rb ib (fun t => by have := hx t; omega) (fun t => by have := hx t; simp; omega) (fun t _ _ => by have := hx t; omega)
 simp only [Nat.zero_add, Int.toNat_natCast] at hB
 refine hB.mono fun e fr' H' h => ?_
 refine bD h (fun t h => ?_) (fun t h => ?_)
 ·have hlt := hx t
  refine bD h (fun t1 h => ?_) (fun t1 h => ?_)
  ·refine bD h (fun t2 h => ?_) (fun t2 h => ?_)
   ·obtain ⟨rfl, rfl, rfl⟩ := h
    refine ⟨la - (i + 1), by omega, i + 1, rfl, by omega, fun j hj => ?_, rfl, rfl⟩
    by_cases hji : j < i
    ·exact hs j hji
    ·have e : j = i := by omega
     subst e
     exact ⟨of_decide_eq_true t1, of_decide_eq_true t2⟩
   ·obtain ⟨rfl, rfl, rfl⟩ := h
    exact .inr ⟨rfl, fun hh => absurd (hh i hlt).2 (of_decide_eq_false t2), rfl⟩
  ·obtain ⟨rfl, rfl, rfl⟩ := h
   exact .inr ⟨rfl, fun hh => absurd (hh i hlt).1 (of_decide_eq_false t1), rfl⟩
 ·obtain ⟨rfl, rfl, rfl⟩ := h
  exact .inl ⟨rfl, fun j hj => hs j (by have := of_decide_eq_false t; omega)⟩
theorem agX : (ak Try.f28) = .seq (aT [0] (ak Try.f28)) (.seq (aT [1,0] (ak Try.f28)) (.seq (.seq (aT [1,1,0,0] (ak Try.f28)) (.block 0 (.loop (aT [1,1,0,1,0,0] (ak Try.f28))))) (aT [1,1,1] (ak Try.f28)))) := by kernel_rfl
theorem abz (la lb : Nat) (ra ia rb ib : Nat → Nat) (hm : la ≤ 9223372036854775807) :
  aj Try.prog (ak Try.f28) Try.f28.ntmps 2 2 2 (bJ [gU 0 la, gU 1 lb] 0 .e) (hpL (P8 la ra ia lb rb ib)) fun e fr' H' => (e = .ret ∨ e = .normal) ∧ fr'.get 4 = some (.bool (cd (la = lb ∧ ∀ j, j < la → ra j = rb j ∧ ia j = ib j))) := by
 rw [agX]
 refine aj.seq (K1 := 2) (by omega) ((saA 2 (by omega) la lb ra ia rb ib).mono fun e fr' H' ⟨e1, e2, e3⟩ => ?_)
 subst e1 e2 e3
 refine aj.seq (K1 := 2) (by omega) ((saC 2 (by omega) la lb ra ia rb ib).mono fun e fr' H' h => ?_)
 refine bD h (fun t h => ?_) (fun t h => ?_)
 case refine_2 =>
  obtain ⟨rfl, rfl, rfl⟩ := h
  exact ⟨.inl rfl, by rw [LH (fun hh => by have h1 := hh.1; subst h1; simp at t)]; rfl⟩
 obtain ⟨rfl, rfl, rfl⟩ := h
 have hl : la = lb := by have := of_decide_eq_true t; omega
 refine aj.seq (K1 := 2) (by omega) (aj.seq (K1 := 2) (by omega) (aj.dW (fl := [(0, gU 0 la), (1, gU 1 lb)]) (bl := (P8 la ra ia lb rb ib)) (dJ rfl) (fG rfl) ((saD 2 (by omega) la lb ra ia rb ib).mono fun e fr' H' ⟨e1, e2, e3⟩ => ?_)))
 subst e1 e2 e3
 refine aj.dW (fl := [(0, gU 0 la), (1, gU 1 lb), (5, iT 0)]) (bl := (P8 la ra ia lb rb ib)) ⟨re rfl, re rfl, ⟨_, rfl, AV.ge.int _ _ _ _⟩, trivial⟩ (fG rfl) ?_
 refine aj.block ((aj.loop (saI la lb ra ia rb ib) (Post := saP la lb ra ia rb ib) (aby la lb ra ia rb ib hl hm) _ _ _ ⟨0, rfl, by omega, fun j hj => by omega, rfl, rfl⟩).mono fun e fr' H' hp => ?_)
 rcases hp with ⟨rfl, h1⟩ | ⟨rfl, h1, h2⟩
 ·simp only [if_true]
  refine aj.dW (fl := []) (bl := []) trivial trivial ((saZ 2 (by omega)).mono fun e fr' H' ⟨e1, e2, e3⟩ => ?_)
  subst e1 e2 e3
  exact ⟨.inl rfl, by rw [CB ⟨hl, h1⟩]; rfl⟩
 ·exact ⟨.inl rfl, by rw [LH (fun hh => h1 hh.2)]; exact h2⟩
noncomputable def FT : List AV → M AV
 | [x, y] => (rd 1 x fun len rows => len ≤ 9223372036854775807 ∧ GX len rows).andThen fun a => (rd 1 y fun len rows => GX len rows).andThen fun b => M.ret (.aP (cd (CSame a.1 b.1 a.2 b.2)))
 | _ => M.no
theorem Uk : ∀ args v g g', FT args g = .done v g' → bf Try.prog 28 args v g g' := by
 intro args v g g' h
 unfold FT at h
 split at h
 ·rename_i x y
  obtain ⟨⟨la, ra⟩, g1, a1, h1⟩ := au h
  obtain ⟨⟨lb, rb⟩, g2, a2, h2⟩ := au h1
  obtain ⟨rfl, rfl⟩ := aA h2
  obtain ⟨q1, k1, f1⟩ := Cm a1 (by omega)
  obtain ⟨q2, k2, f2⟩ := Cm a2 (by omega)
  have k := k1.trans k2
  have ok2 : q1 ∧ q2 → Vw.Ok ⟨y, 1, lb, rb⟩ g := fun hp => (f2 hp.2).1.same k1
  refine reads (c := (ak Try.f28)) Try.func28 (by kernel_rfl) (by kernel_rfl) k [⟨x, 1, la, ra⟩, ⟨y, 1, lb, rb⟩] (fun hp v hv => ?_) (dY := [gU 0 la, gU 1 lb]) (fun hp N μ cs hcs => ?_) (nms := []) (bs := []) (K' := 2) (fun hp => ?_) rfl trivial (by rw [k.1]; rfl) (by rw [k.2.1]; rfl) id
  ·rcases List.mem_cons.1 hv with rfl | hv
   ·exact (f1 hp.1).1
   ·rcases List.mem_cons.1 hv with rfl | hv
    ·exact ok2 hp
    ·cases hv
  ·simp only [aI] at hcs
   obtain ⟨c, r, rfl, hc, c', r', rfl, hc', rfl⟩ := hcs
   simp only [aI]
   exact ⟨c, _, rfl, Ag (l := [⟨x, 1, la, ra⟩, ⟨y, 1, lb, rb⟩]) (i := 0) (f1 hp.1).1 rfl hc, c', _, rfl, Ag (l := [⟨x, 1, la, ra⟩, ⟨y, 1, lb, rb⟩]) (i := 1) (ok2 hp) rfl hc', rfl⟩
  ·obtain ⟨_, hm, hz⟩ := f1 hp.1
   obtain ⟨_, hz'⟩ := f2 hp.2
   dsimp only at hm hz hz'
   refine aj.jh (fl := [(0, gU 0 la), (1, gU 1 lb)]) (bl := [(0, .cells false 1 la (.fn fun j => [.dD true (Et (ra j)) (Eu (ra j))])), (1, .cells false 1 lb (.fn fun j => [.dD true (Et (rb j)) (Eu (rb j))]))]) (dJ rfl) ⟨⟨_, rfl, rfl, rfl, rfl, fun j hj => (hz j hj).ge⟩, ⟨_, rfl, rfl, rfl, rfl, fun j hj => (hz' j hj).ge⟩, trivial⟩ ?_
   refine (abz la lb (fun j => Et (ra j)) (fun j => Eu (ra j)) (fun j => Et (rb j)) (fun j => Eu (rb j)) hm).mono fun e fr' H' ⟨e1, e2⟩ => ?_
   exact ⟨e1, _, _, res1 (t := 4) (by kernel_rfl) e2, trivial, AV.ge.bool _, afT⟩
 ·exact (aY h).elim
theorem P9 : ∀ args, aC (FT args) := by
 intro args
 unfold FT
 split
 ·exact (aC.rd _ _ _).andThen fun _ => (aC.rd _ _ _).andThen fun _ => aC.ret _
 ·exact aC.no
noncomputable def Qa : List AV → M AV := Vt FT
theorem Ul : ∀ args v g g', Qa args g = .done v g' → bf Try.prog 28 args v g g' := QA Uk
theorem Qb : ∀ args, aC (Qa args) := LW P9


noncomputable abbrev NP (v0 : Nat) (v1 : tX) := (.cells false 1 (v0) (.fn (dh v1)) : aF)
theorem aeP (n q r i : Nat) (s : Tx) (E : tE) (M1 M2 M3 : tM) (nd br : tX) (c0 : 0 + n ≤ n) (c1 : n * 104 ≤ 140737488355328) (c2 : n ≤ 9223372036854775807) (c3 : ∀ (i : Nat), i < n → ∀ (o : Nat) (v : AV), (bI (E (0 + i)))[o]? = Option.some v → AV.ji (fun g => Qu [(0, 12), (12, 13), (12, 12)] g = true) v) (c4 : n ≤ n) (c5 : (n + 1) * 104 ≤ 140737488355328) (c6 : n + 1 ≤ 9223372036854775807) (c7 : ∀ (i : Nat), i < n + 1 → ∀ (o : Nat) (v : AV), (aas E n i)[o]? = Option.some v → AV.ji (fun g => Qu [(0, 12), (14, 15), (13, 14), (13, 13), (12, 13), (12, 12)] g = true) v) (c8 : 0 + (n + 1) ≤ n + 1) (c9 : PEQ (n + 1) (Rh E n)) (c10 : decide (Prod.fst (uF (bW (Rh E n)) (n + 1)) = (0 : Int)) = false) (c11 : decide (Prod.fst (uF (bW (Rh E n)) (n + 1)) = (1 : Int)) = false) : bV 40 (Ex.normal) [(0, ZA 2), (1, .str true s), (4, .aX), (5, ZA 9)] [(2, Z8 n q r), (3, oI M1), (4, oI M2), (5, oI M3), (6, Zn n E), (7, yA q nd), (8, yA r br), (9, l9)] (uf Try.f26 ((aT [1,0] (ak Try.f26))) (ZE3 s 2 9) (hpL [(2, Zq n q r), (3, .aW true M1), (4, .aW true M2), (5, .aW true M3), (6, Za n E), (7, NP q nd), (8, NP r br), (9, ZE)]) 10 [false, false]) := eN (I9 c0 (ai c1 c2) c3 (ai c4 (ai c5 c6)) c7 c8 c9 c10 c11)
theorem ddA (B : Nat) (hB : B ≤ 9) (n q r : Nat) (s : Tx) (E : tE) (M1 M2 M3 : tM) (nd br : tX) : aj Try.prog ((aT [0] (ak Try.f26))) Try.f26.ntmps B 9 10 (ZE5 s 2) (hpL [(2, Zq n q r), (3, .aW true M1), (4, .aW true M2), (5, .aW true M3), (6, Za n E), (7, NP q nd), (8, NP r br)]) (pP .normal [(0, ZA 2), (1, .str true s), (4, .aX), (5, ZA 9)] [(2, Z8 n q r), (3, oI M1), (4, oI M2), (5, oI M3), (6, Zn n E), (7, yA q nd), (8, yA r br), (9, VQ)]) := zQ [] trivial hB
theorem ddC (B : Nat) (hB : B ≤ 10) (n q r : Nat) (s : Tx) (E : tE) (M1 M2 M3 : tM) (nd br : tX) (x0 : ((Option.isSome (dG seq s M1)) = true → ((0 : Int) ≤ Option.getD (dG seq s M1) (0 : Int)))) (x1 : ((Option.isSome (dG seq s M1)) = true → (Option.getD (dG seq s M1) 0 < (↑n : Int)))) (x2 : ((Option.isSome (dG seq s M1)) = true → (0 + Int.toNat (Option.getD (dG seq s M1) (0 : Int)) < n))) : aj Try.prog ((aT [1,1,0] (ak Try.f26))) Try.f26.ntmps B 10 12 (ZE3 s 2 9) (hpL [(2, Zq n q r), (3, .aW true M1), (4, .aW true M2), (5, .aW true M3), (6, Za n E), (7, NP q nd), (8, NP r br), (9, ZE)]) fun e fr' H' => (cond (Option.isSome (dG seq s M1)) (pP .normal [(0, ZA 2), (4, .aX), (5, ZA 9), (6, ZA 11), (7, .bool true)] [(2, Z8 n q r), (3, oI M1), (4, oI M2), (5, oI M3), (6, Zn n E), (7, yA q nd), (8, yA r br), (9, l9), (11, .cells true 8 1 (.lit [] (T.n T.e (Option.some (bI (E (0 + Int.toNat (Option.getD (dG seq s M1) (0 : Int)))))) T.e)))] e fr' H') (pP .normal [(0, ZA 2), (4, .aX), (5, ZA 9), (6, ZA 11), (7, .bool false)] [(2, Z8 n q r), (3, oI M1), (4, oI M2), (5, oI M3), (6, Zn n E), (7, yA q nd), (8, yA r br), (9, l9), (11, ZEA)] e fr' H')) := cI (fun t0 => zQ [fF] (I4 (nt t0) (ai (x0 t0) (x1 t0)) (x2 t0) (show 8 ≤ 8 by omega)) hB) (fun t0 => zQ [tT] (I1 (nf t0)) hB)
theorem ddD (B : Nat) (hB : B ≤ 11) (z : El) (n q r : Nat) (E : tE) (M1 M2 M3 : tM) (nd br : tX) : aj Try.prog ((aT [1,1,1,0] (ak Try.f26))) Try.f26.ntmps B 11 11 (aQ [(0, ZA 2), (4, .aX), (5, ZA 9), (6, ZA 10), (7, .bool true)]) (hpL [(2, Zq n q r), (3, .aW true M1), (4, .aW true M2), (5, .aW true M3), (6, Za n E), (7, NP q nd), (8, NP r br), (9, ZE), (10, Zh z)]) fun e fr' H' => (cond (decide (El.k z = (8 : Int))) (pP .normal [(0, ZA 2), (4, .aX), (5, ZA 9), (6, ZA 10)] [(2, Z8 n q r), (3, oI M1), (4, oI M2), (5, oI M3), (6, Zn n E), (7, yA q nd), (8, yA r br), (9, l9), (10, ZCR z)] e fr' H') (pP .ret [(0, ZA 2), (4, .aX), (5, ZA 9), (6, ZA 10)] [(2, Z8 n q r), (3, oI M1), (4, oI M2), (5, oI M3), (6, Zn n E), (7, yA q nd), (8, yA r br), (9, Yk 10), (10, ZCR z)] e fr' H')) := cD (fun q0 t0 => zQ [fF] (I1 (nt t0)) hB) (fun q0 t0 => zQ [tT] (I1 (nf t0)) hB)
theorem ddN (B : Nat) (hB : B ≤ 11) (n q r : Nat) (E : tE) (M1 M2 M3 : tM) (nd br : tX) : aj Try.prog ((aT [1,1,1,0] (ak Try.f26))) Try.f26.ntmps B 11 11 (aQ [(0, ZA 2), (4, .aX), (5, ZA 9), (6, ZA 10), (7, .bool false)]) (hpL [(2, Zq n q r), (3, .aW true M1), (4, .aW true M2), (5, .aW true M3), (6, Za n E), (7, NP q nd), (8, NP r br), (9, ZE)]) (pP .ret [(4, .aX), (5, ZA 9)] [(3, oI M1), (4, oI M2), (5, oI M3), (9, Yk 10)]) := zQ [] trivial hB
theorem ddE (B : Nat) (hB : B ≤ 11) (z : El) (n q r : Nat) (E : tE) (M1 M2 M3 : tM) (nd br : tX) (x0 : ((↑q : Int) + (↑r : Int) ≤ 9223372036854775807)) (x1 : ((16 : Int) * ((↑q : Int) + (↑r : Int)) ≤ (140737488355328 : Int))) (x2 : ((↑q : Int) + (↑r : Int) ≤ 9223372036854775807)) : aj Try.prog ((aT [1,1,1,1,0] (ak Try.f26))) Try.f26.ntmps B 11 12 (aQ [(0, ZA 2), (5, ZA 9), (6, ZA 10)]) (hpL [(2, Zq n q r), (3, .aW true M1), (4, .aW true M2), (5, .aW true M3), (6, Za n E), (7, NP q nd), (8, NP r br), (9, ZE), (10, Zh z)]) (pP .normal [(0, ZA 2), (5, ZA 9), (6, ZA 10), (8, sL 11 (q + r))] [(2, Z8 n q r), (3, oI M1), (4, oI M2), (5, oI M3), (6, Zn n E), (7, yA q nd), (8, yA r br), (9, l9), (10, ZCR z), (11, .cells true 1 (Int.toNat ((↑q : Int) + (↑r : Int))) (.fn fun x => [.dD false 0 0]))]) := zQ [] (I2 (ai (show -9223372036854775808 ≤ (↑q : Int) + (↑r : Int) by omega) x0) (ai (show 0 ≤ (↑q : Int) + (↑r : Int) by omega) (ai (show (↑q : Int) + (↑r : Int) ≤ (↑q : Int) + (↑r : Int) by omega) (ai x1 x2)))) hB
theorem ddF (B : Nat) (hB : B ≤ 12) (z : El) (n q r i u : Nat) (E : tE) (M1 M2 M3 : tM) (nd br : tX) (f : tP) (x0 : (u = u)) (x1 : (∀ (i : Int), dG seq (El.a z) M2 = Option.some i → (0 : Int) ≤ i ∧ i < (↑u : Int))) (x2 : (∀ (j : Nat), j < u → Fb (dU f j))) : aj Try.prog ((aT [1,1,1,1,1,0] (ak Try.f26))) Try.f26.ntmps B 12 20 (aQ [(0, ZA 2), (5, ZA 9), (6, ZA 10), (8, sL 11 u)]) (hpL [(2, Zq n q r), (3, .aW true M1), (4, .aW true M2), (5, .aW true M3), (6, Za n E), (7, NP q nd), (8, NP r br), (9, ZE), (10, Zh z), (11, Zj u f)]) (pP .normal [(0, ZA 2), (5, ZA 9), (6, ZA 10), (8, sL 11 u)] [(2, Z8 n q r), (3, oI M1), (4, oI M2), (5, oI M3), (6, Zn n E), (7, yA q nd), (8, yA r br), (9, l9), (10, ZCR z), (11, .cells true 1 u (.fn fun j => [.dD true (Prod.fst (Prod.fst (dK gI (El.a z) M2 (rC (.fn (dU f))) (4607182418800017408, 0)) j)) (Prod.snd (Prod.fst (dK gI (El.a z) M2 (rC (.fn (dU f))) (4607182418800017408, 0)) j))]))]) := zQ [] (I1 (ai x0 (ai x1 x2))) hB
theorem ddG (B : Nat) (hB : B ≤ 20) (z : El) (n q r i u : Nat) (E : tE) (M1 M2 M3 : tM) (nd br : tX) (f : tP) (x0 : (u = u)) (x1 : (∀ (i : Int), dG seq (El.b z) M2 = Option.some i → (0 : Int) ≤ i ∧ i < (↑u : Int))) (x2 : (∀ (j : Nat), j < u → Fb (dU f j))) : aj Try.prog ((aT [1,1,1,1,1,1,0] (ak Try.f26))) Try.f26.ntmps B 20 30 (aQ [(0, ZA 2), (5, ZA 9), (6, ZA 10), (8, sL 11 u)]) (hpL [(2, Zq n q r), (3, .aW true M1), (4, .aW true M2), (5, .aW true M3), (6, Za n E), (7, NP q nd), (8, NP r br), (9, ZE), (10, Zh z), (11, Zj u f)]) (pP .normal [(5, ZA 9), (8, sL 11 u)] [(3, oI M1), (4, oI M2), (5, oI M3), (9, l9), (11, .cells true 1 u (.fn fun j => [.dD true (Prod.fst (Prod.fst (dK fU (El.b z) M2 (rC (.fn (dU f))) (4607182418800017408, 0)) j)) (Prod.snd (Prod.fst (dK fU (El.b z) M2 (rC (.fn (dU f))) (4607182418800017408, 0)) j))]))]) := zQ [] (I1 (ai x0 (ai x1 x2))) hB
theorem ddH (B : Nat) (hB : B ≤ 30) (u : Nat) (M1 M2 M3 : tM) (f : tP) : aj Try.prog ((aT [1,1,1,1,1,1,1] (ak Try.f26))) Try.f26.ntmps B 30 30 (aQ [(5, ZA 9), (8, sL 11 u)]) (hpL [(3, .aW true M1), (4, .aW true M2), (5, .aW true M3), (9, ZE), (11, Zj u f)]) (pP .ret [(4, sL 11 u), (5, ZA 9)] [(3, oI M1), (4, oI M2), (5, oI M3), (9, ZDq), (11, Zj u f)]) := zQ [] trivial hB
theorem agY (s : Tx) (l : List Tx) : (dG seq s (aB 0 l)).isSome = jq s l ∧ (dG seq s (aB 0 l)).getD 0 = (jF s l : Int) := by
 unfold jq jF
 rw [qY]
 cases pos s l with
 | none => exact ⟨rfl, rfl⟩
 | some m => simp
noncomputable abbrev Zz (v0) := (.cells v0 2 1 (.fn fun _ => [.int false .i64 (0), .int false .i64 (0)]) : aF)
noncomputable abbrev ZBs (v0) (v1 : tE) (v2 : Nat) := ([(3, .aW v0 (aB 0 (NM v1 v2))), (4, .aW v0 (aB 0 (ND v1 v2))), (5, .aW v0 (aB 0 (BR v1 v2))), (9, .cells v0 2 1 (.fn fun _ => [.int false .i64 (10), .int false .i64 ((-1))]))] : tH)
noncomputable abbrev ZBu (v0) (v1 : tE) (v2 : Nat) := (.aW v0 (aB 0 (NM v1 v2)) : aF)
noncomputable abbrev ZBv (v0) (v1 : tE) (v2 : Nat) := (.aW v0 (aB 0 (ND v1 v2)) : aF)
noncomputable abbrev ZBw (v0) (v1 : tE) (v2 : Nat) := (.aW v0 (aB 0 (BR v1 v2)) : aF)
noncomputable abbrev ZDa (v0 : Nat) (v1 : tE) (v2) := ([(2, ZM v0 v1), (3, ZBu v2 v1 v0), (4, ZBv v2 v1 v0), (5, ZBw v2 v1 v0), (6, Za v0 v1), (7, ZP v1 v0), (8, ZQ v1 v0), (9, Zz v2)] : tH)
noncomputable abbrev ZDi (v0 : Nat) (v1 : tE) (v2) (v3 : Tx) (w0) := ([(2, ZM v0 v1), (3, ZBu v2 v1 v0), (4, ZBv v2 v1 v0), (5, ZBw v2 v1 v0), (6, Za v0 v1), (7, ZP v1 v0), (8, ZQ v1 v0), (9, Zz v2), (w0, ZBT v2 v1 v3 v0)] : tH)
noncomputable abbrev ZFE (v0) (v1 : tE) (v2 : Nat) (v3 : Tx) := ([(3, ZBu v0 v1 v2), (4, ZBv v0 v1 v2), (5, ZBw v0 v1 v2), (9, Zz v0), (11, ZBg v0 v1 v2 v3)] : tH)
theorem RX (n : Nat) (E : tE) (s : Tx) (hn : n ≤ 256) : aj Try.prog (ak Try.f26) Try.f26.ntmps 9 9 30 (bJ [ZA 2, .str true s] 0 .e) (hpL [(2, ZM n E), (3, ZBu true E n), (4, ZBv true E n), (5, ZBw true E n), (6, Za n E), (7, ZP E n), (8, ZQ E n)]) (fun e fr' H' => e = .ret ∧ ((PN s E n = true ∧ fr' = aQ [(4, Z6 E n 11), (5, ZA 9)] ∧ H' = hpL (ZFE true E n s)) ∨ (PN s E n = false ∧ fr' = aQ [(4, .aX), (5, ZA 9)] ∧ H' = hpL (ZBs true E n)))) := by
 have hb := VR E n hn
 have hc := VT E n hn
 have eu : aS E n = (ND E n).length + (BR E n).length := rfl
 have hnm := yj E n
 obtain ⟨l1, l2⟩ := agY s (NM E n)
 rw [show (ak Try.f26) = .seq (aT [0] (ak Try.f26)) (.seq (aT [1,0] (ak Try.f26)) (.seq (aT [1,1,0] (ak Try.f26)) (.seq (aT [1,1,1,0] (ak Try.f26)) (.seq (aT [1,1,1,1,0] (ak Try.f26)) (.seq (aT [1,1,1,1,1,0] (ak Try.f26)) (.seq (aT [1,1,1,1,1,1,0] (ak Try.f26)) ((aT [1,1,1,1,1,1,1] (ak Try.f26))))))))) by kernel_rfl]
 refine aj.aV (K1 := 10) (F1 := [(0, ZA 2), (1, .str true s), (4, .aX), (5, ZA 9)]) (H1 := (ZDa n E true)) (aj.toN (ddA 9 (by omega) n (ND E n).length (BR E n).length s E (aB 0 (NM E n)) (aB 0 (ND E n)) (aB 0 (BR E n)) (aH (ND E n)) (aH (BR E n))) (dJ rfl) ⟨hs rfl, hs rfl, hs rfl, hs rfl, hs rfl, hs rfl, hs rfl, jI rfl rfl, trivial⟩) (by omega) ?_
 refine aj.aV (K1 := 10) (F1 := [(0, ZA 2), (1, .str true s), (4, .aX), (5, ZA 9)]) (H1 := (ZDa n E true)) ?_ (by omega) ?_
 ·obtain ⟨z0, z1⟩ := Rj E n
  refine (rcP (aeP n (ND E n).length (BR E n).length 0 s E (aB 0 (NM E n)) (aB 0 (ND E n)) (aB 0 (BR E n)) (aH (ND E n)) (aH (BR E n)) (by omega) (by omega) (by omega) (fun i hi o v hv => wI hv) (Nat.le_refl _) (by omega) (by omega) (fun i hi o v hv => MV hv) (by omega) (Rk E n) (decide_eq_false z0) (decide_eq_false z1)) (show 9 ≤ 10 by omega)).renG fun e fr' H' h => ?_
  obtain ⟨rfl, rfl, rfl⟩ := h
  exact ⟨id, [(0, ZA 2), (1, .str true s), (4, .aX), (5, ZA 9)], (ZDa n E true), fun g hg => rfl, (vk rfl), ⟨jk rfl rfl rfl (by omega), lG rfl rfl (by omega), lG rfl rfl (by omega), lG rfl rfl (by omega), fD rfl rfl (fun j _ => rfl) (fun j _ => rfl) (by omega), fD rfl rfl (fun j _ => rfl) (fun j _ => rfl) (by omega), fD rfl rfl (fun j _ => rfl) (fun j _ => rfl) (by omega), jk rfl rfl rfl (by omega), trivial⟩, fun i j _ _ h => h, rfl, rfl, rfl⟩
 have hlt : jq s (NM E n) = true → jF s (NM E n) < n := fun h => by have := BO h; omega
 have hC := ddC 9 (by omega) n (ND E n).length (BR E n).length s E (aB 0 (NM E n)) (aB 0 (ND E n)) (aB 0 (BR E n)) (aH (ND E n)) (aH (BR E n)) (fun _ => by rw [l2]; omega) (fun h => by rw [l1] at h; rw [l2]; have := hlt h; omega) (fun h => by rw [l1] at h; rw [l2]; have := hlt h; omega)
 rw [l1, l2, Int.toNat_natCast, Nat.zero_add] at hC
 by_cases h1 : jq s (NM E n) = true
 case neg =>
  have h1 : jq s (NM E n) = false := by cases q : jq s (NM E n) with | true => exact absurd q h1 | false => rfl
  refine aj.aV (K1 := 11) (F1 := [(0, ZA 2), (4, .aX), (5, ZA 9), (6, ZA 10), (7, .bool false)]) (H1 := (ZDa n E true)) (hC.renG fun e fr' H' h => ?_) (by omega) ?_
  ·rw [h1, cond_false] at h
   obtain ⟨rfl, rfl, rfl⟩ := h
   exact ⟨sg 10 11, [(0, ZA 2), (4, .aX), (5, ZA 9), (6, ZA 10), (7, .bool false)], (ZDa n E true), qc (by omega), (vk rfl), ⟨jk rfl rfl rfl (by omega), lG rfl rfl (by omega), lG rfl rfl (by omega), lG rfl rfl (by omega), fD rfl rfl (fun j _ => rfl) (fun j _ => rfl) (by omega), fD rfl rfl (fun j _ => rfl) (fun j _ => rfl) (by omega), fD rfl rfl (fun j _ => rfl) (fun j _ => rfl) (by omega), jk rfl rfl rfl (by omega), trivial⟩, pY (by omega), rfl, rfl, rfl⟩
  refine aj.seq (K1 := 11) (by omega) ((ddN 9 (by omega) n (ND E n).length (BR E n).length E (aB 0 (NM E n)) (aB 0 (ND E n)) (aB 0 (BR E n)) (aH (ND E n)) (aH (BR E n))).post fun e fr' H' h => ?_)
  obtain ⟨rfl, rfl, rfl⟩ := h
  exact ⟨[(4, .aX), (5, ZA 9)], (ZBs true E n), (dJ rfl), ⟨hs rfl, hs rfl, hs rfl, ⟨_, rfl, ⟨rfl, rfl, rfl, zO (p := fun j => _ = _) rfl⟩⟩, trivial⟩, rfl, .inr ⟨by unfold PN; rw [h1]; rfl, rfl, rfl⟩⟩
 refine aj.aV (K1 := 11) (F1 := [(0, ZA 2), (4, .aX), (5, ZA 9), (6, ZA 10), (7, .bool true)]) (H1 := (ZDi n E true s 10)) (K' := 30) ?_ (by omega) ?_
 ·have hC2 : aj Try.prog (aT [1,1,0] (ak Try.f26)) Try.f26.ntmps 9 10 12 (aQ [(0, ZA 2), (1, .str true s), (4, .aX), (5, ZA 9)]) (hpL (ZDa n E true)) (Nm [(0, ZA 2), (4, .aX), (5, ZA 9), (6, ZA 11), (7, .bool true)] (ZDi n E true s 11)) := hC.post fun e fr' H' h => by
   rw [h1, cond_true] at h
   obtain ⟨rfl, rfl, rfl⟩ := h
   exact ⟨[(0, ZA 2), (4, .aX), (5, ZA 9), (6, ZA 11), (7, .bool true)], (ZDi n E true s 11), (dJ rfl), ⟨hs rfl, hs rfl, hs rfl, hs rfl, hs rfl, hs rfl, hs rfl, hs rfl, jI rfl rfl, trivial⟩, rfl, rfl, rfl⟩
  refine hC2.renG fun e fr' H' h => ?_
  obtain ⟨rfl, rfl, rfl⟩ := h
  exact ⟨sg 10 11, [(0, ZA 2), (4, .aX), (5, ZA 9), (6, ZA 10), (7, .bool true)], (ZDi n E true s 10), qc (by omega), (vk rfl), ⟨jk rfl rfl rfl (by omega), lG rfl rfl (by omega), lG rfl rfl (by omega), lG rfl rfl (by omega), fD rfl rfl (fun j _ => rfl) (fun j _ => rfl) (by omega), fD rfl rfl (fun j _ => rfl) (fun j _ => rfl) (by omega), fD rfl rfl (fun j _ => rfl) (fun j _ => rfl) (by omega), jk rfl rfl rfl (by omega), jk rfl rfl rfl (by omega), trivial⟩, pY (by omega), rfl, rfl, rfl⟩
 have hD := ddD 9 (by omega) (E (jF s (NM E n))) n (ND E n).length (BR E n).length E (aB 0 (NM E n)) (aB 0 (ND E n)) (aB 0 (BR E n)) (aH (ND E n)) (aH (BR E n))
 by_cases h2 : (E (jF s (NM E n))).k = 8
 case neg =>
  refine aj.seq (K1 := 11) (by omega) (hD.post fun e fr' H' h => ?_)
  rw [decide_eq_false h2, cond_false] at h
  obtain ⟨rfl, rfl, rfl⟩ := h
  exact ⟨[(4, .aX), (5, ZA 9)], (ZBs true E n), (dJ rfl), ⟨hs rfl, hs rfl, hs rfl, ⟨_, rfl, ⟨rfl, rfl, rfl, zO (p := fun j => _ = _) rfl⟩⟩, trivial⟩, rfl, .inr ⟨by unfold PN; rw [h1, decide_eq_false h2]; rfl, rfl, rfl⟩⟩
 refine aj.aV (K1 := 11) (F1 := [(0, ZA 2), (5, ZA 9), (6, ZA 10)]) (H1 := (ZDi n E true s 10)) (aj.toN (hD.mono fun e fr' H' h => by rw [decide_eq_true h2, cond_true] at h; exact h) (dJ rfl) (fG rfl)) (by omega) ?_
 refine aj.seq (K1 := 12) (by omega) ((ddE 9 (by omega) (E (jF s (NM E n))) n (ND E n).length (BR E n).length E (aB 0 (NM E n)) (aB 0 (ND E n)) (aB 0 (BR E n)) (aH (ND E n)) (aH (BR E n)) (by omega) (by omega) (by omega)).mono fun e fr' H' h => ?_)
 obtain ⟨rfl, rfl, rfl⟩ := h
 refine aj.jh (fl := [(0, ZA 2), (5, ZA 9), (6, ZA 10), (8, Z6 E n 11)]) (bl := [(2, ZM n E), (3, ZBu true E n), (4, ZBv true E n), (5, ZBw true E n), (6, Za n E), (7, ZP E n), (8, ZQ E n), (9, Zz true), (10, ZBT true E s n), (11, .cells true 1 (aS E n) (.fn (dU (fun _ => (0, 0)))))]) ⟨re rfl, re rfl, re rfl, ⟨_, rfl, AV.ge.slc _ _ _ (by rw [eu])⟩, trivial⟩ ⟨⟨_, rfl, rfl, rfl, rfl, fun j _ => ay _ rfl⟩, ⟨_, rfl, rfl⟩, ⟨_, rfl, rfl⟩, ⟨_, rfl, rfl⟩, ⟨_, rfl, rfl, rfl, rfl, fun j _ => ay _ rfl⟩, ⟨_, rfl, rfl, rfl, rfl, fun j _ => ay _ rfl⟩, ⟨_, rfl, rfl, rfl, rfl, fun j _ => ay _ rfl⟩, ⟨_, rfl, rfl, rfl, rfl, fun j _ => ay _ rfl⟩, ⟨_, rfl, rfl, rfl, rfl, fun j _ => ay _ rfl⟩, ⟨_, rfl, rfl, rfl, by rw [eu]; omega, fun j _ => ⟨AV.ge.SI _ _ rfl rfl, rfl, trivial⟩⟩, trivial⟩ ?_
 have c1 : ∀ (f : tP) (j : Nat), j < aS E n → Fb (dU f j) := fun f j _ => ⟨AV.ge.refl _, rfl, trivial⟩
 refine aj.aV (K1 := 20) (F1 := [(0, ZA 2), (5, ZA 9), (6, ZA 10), (8, Z6 E n 11)]) (H1 := [(2, ZM n E), (3, ZBu true E n), (4, ZBv true E n), (5, ZBw true E n), (6, Za n E), (7, ZP E n), (8, ZQ E n), (9, Zz true), (10, ZBT true E s n), (11, .cells true 1 (aS E n) (.fn (dU ((dK gI (E (jF s (NM E n))).a (aB 0 (ND E n)) (fun _ => (0, 0)) (4607182418800017408, 0)).1))))]) (aj.toN (ddF 9 (by omega) (E (jF s (NM E n))) n (ND E n).length (BR E n).length 0 (aS E n) E (aB 0 (NM E n)) (aB 0 (ND E n)) (aB 0 (BR E n)) (aH (ND E n)) (aH (BR E n)) (fun _ => (0, 0)) rfl (CP (by omega)) (c1 _)) (dJ rfl) ⟨hs rfl, hs rfl, hs rfl, hs rfl, hs rfl, hs rfl, hs rfl, hs rfl, hs rfl, ⟨_, rfl, ⟨rfl, rfl, rfl, fun j _ => by rw [JO]; rfl⟩⟩, trivial⟩) (by omega) ?_
 refine aj.aV (K1 := 30) (F1 := [(5, ZA 9), (8, Z6 E n 11)]) (H1 := (ZFE true E n s)) (aj.toN (ddG 9 (by omega) (E (jF s (NM E n))) n (ND E n).length (BR E n).length 0 (aS E n) E (aB 0 (NM E n)) (aB 0 (ND E n)) (aB 0 (BR E n)) (aH (ND E n)) (aH (BR E n)) ((dK gI (E (jF s (NM E n))).a (aB 0 (ND E n)) (fun _ => (0, 0)) (4607182418800017408, 0)).1) rfl (CP (by omega)) (c1 _)) (dJ rfl) ⟨hs rfl, hs rfl, hs rfl, hs rfl, ⟨_, rfl, ⟨rfl, rfl, rfl, fun j _ => by rw [JO]; rfl⟩⟩, trivial⟩) (by omega) ?_
 refine (ddH 9 (by omega) (aS E n) (aB 0 (NM E n)) (aB 0 (ND E n)) (aB 0 (BR E n)) (dvE (ND E n) (E (jF s (NM E n))))).post fun e fr' H' h => ?_
 obtain ⟨rfl, rfl, rfl⟩ := h
 exact ⟨[(4, Z6 E n 11), (5, ZA 9)], (ZFE true E n s), (dJ rfl), ⟨hs rfl, hs rfl, hs rfl, ⟨_, rfl, ⟨rfl, rfl, rfl, zO (p := fun j => _ = _) rfl⟩⟩, hs rfl, trivial⟩, rfl, .inl ⟨by unfold PN; rw [h1, decide_eq_true h2]; rfl, rfl, rfl⟩⟩


noncomputable def X6 : List AV → M AV
 | [.ptr a, .str _ s] => (M.dn (kT a)).andThen fun _ => (netRd a.g).andThen fun y => (M.setB y.1.m1 (.aW true (aB 0 (NM y.2 y.1.n)))).andThen fun _ => (M.setB y.1.m2 (.aW true (aB 0 (ND y.2 y.1.n)))).andThen fun _ => (M.setB y.1.m3 (.aW true (aB 0 (BR y.2 y.1.n)))).andThen fun _ => (M.dec (He s y.2 y.1.n)).andThen fun d => bif d then (newS 1 (aS y.2 y.1.n) (dU (LX s y.2 y.1.n))).andThen fun v => M.ret (.iD [v, .agg [ZC 0, ZC 0]]) else M.ret (.iD [.aX, .agg [ZC 10, Z7]])
 | _ => M.no
theorem X7 : ∀ args, aC (X6 args) := by
 intro args
 unfold X6
 split
 ·exact (aC.dn _).andThen fun _ => (HY _).andThen fun _ => (aC.setB _ _).andThen fun _ => (aC.setB _ _).andThen fun _ => (aC.setB _ _).andThen fun _ => (aC.dec _).andThen fun d => aC.cond ((aC.newS _ _ _).andThen fun _ => aC.ret _) (aC.ret _)
 ·exact aC.no
theorem abA : ∀ args v g g', X6 args g = .done v g' → bf Try.prog 26 args v g g' := by
 intro args v g g' h
 unfold X6 at h
 split at h
 case h_2 => exact (aY h).elim
 rename_i a sb s
 obtain ⟨_, g0, a0, h0⟩ := au h
 clear h
 obtain ⟨q0, rfl⟩ := aU a0
 obtain ⟨⟨w, E⟩, g1, a1, h1⟩ := au h0
 obtain ⟨qv, kv, ff⟩ := Fh a1
 dsimp only at h1 ff
 obtain ⟨_, g2, a2, h2⟩ := au h1
 obtain ⟨_, g3, a3, h3⟩ := au h2
 obtain ⟨_, g4, a4, h4⟩ := au h3
 obtain ⟨d, g5, a5, h5⟩ := au h4
 have kd := jc a5
 have e4 : g4.H = aeo g.H w E ∧ g4.nx = g.nx ∧ g4.cs = g1.cs := by
  cases a2; cases a3; cases a4
  exact ⟨by rw [← kv.1]; rfl, kv.2.1, rfl⟩
 have hA : ∀ M μ (cs : List Value), aI M μ [.ptr a, .str sb s] cs → aI 9 (μ.via (roG a.g w id)) [uz false 2, .str true s] cs := fun M μ cs hcs => by
  simp only [aI] at hcs ⊢
  obtain ⟨v1, r1, rfl, i1, v2, r2, rfl, i2, rfl⟩ := hcs
  exact ⟨v1, _, rfl, jS i1 (dX q0).1 (dX q0).2 (by omega) rfl, v2, _, rfl, by simpa only [Rep] using i2, rfl⟩
 have acC : qv → qj w E ++ [] = [(2, .cells false 7 1 (.fn fun _ => dO 6 7 8 w.n (ND E w.n).length (BR E w.n).length)), (3, .aW true (aB 0 (NM E w.n))), (4, .aW true (aB 0 (ND E w.n))), (5, .aW true (aB 0 (BR E w.n))), (6, .cells false 8 (w.n) (.fn fun j => bI (E j))), (7, .cells false 1 ((ND E w.n).length) (.fn (dh (aH (ND E w.n))))), (8, .cells false 1 ((BR E w.n).length) (.fn (dh (aH (BR E w.n)))))] := fun hp => by
  unfold qj
  rw [(ff hp).WC, (ff hp).WE]; rfl
 cases d with
 | true =>
  rw [cond_true] at h5
  obtain ⟨v0, g6, a6, h6⟩ := au h5
  obtain ⟨rfl, rfl⟩ := aA h6
  obtain ⟨rfl, e1, e2, e3⟩ := oZ a6
  rw [kd.1, kd.2.1, e4.1, e4.2.1] at e1
  rw [kd.2.1, e4.2.1] at e2 ⊢
  refine Ro (c := (ak Try.f26)) Try.func26 (by kernel_rfl) (by kernel_rfl) (dY := [uz false 2, .str true s]) (p := qv ∧ He s E w.n = true) (fun hc => ?_) (fun hp => ff hp.1) (xl := []) (rx := id) (K0 := 9) (K' := 30) (by omega) (fun _ => hA) (fun _ i b hb => absurd (bC hb) (by simp)) (fun _ i j b b' hb => absurd (bC hb) (by simp)) (bs := [.cells true 1 (aS E w.n) (.fn (dU (LX s E w.n)))]) (nms := [11]) rfl (by simp) (by simp) e1 (by rw [e2]; rfl) (fun b hb => ?_) ?_ ?_ (fun hp hk => ?_)
  ·have := kd.2.2 (by rw [← e3]; exact hc)
   rw [e4.2.2] at this
   have k := kv.2.2 this.1
   exact ⟨k.1, k.2, this.2⟩
  ·rw [List.mem_singleton.1 hb]
   exact ⟨rfl, fun K j hj v hv => by rw [List.mem_singleton.1 hv]; rfl, fun S j hj o v hv => by
    match o, hv with
    | 0, hv => cases hv; trivial⟩
  ·simp only [AV.low, jw, Bool.and_true]
   exact Nat.ble_eq_true_of_le (show Nat.succ g.nx ≤ g.nx + 1 by omega)
  ·simp only [AV.ji, jg]
   exact ⟨⟨Nat.le_refl _, Nat.lt_succ_self _⟩, ⟨trivial, trivial, trivial⟩, trivial⟩
  ·rw [acC hp.1]
   refine (RX w.n E s (ff hp.1).n256).mono fun e fr' H' h => ?_
   have hd := hp.2
   rw [JX] at hd
   have k0 : J7 w g.nx [11] (g.nx + 0) = 11 := hk 0 (by simp)
   rw [Nat.add_zero] at k0
   obtain ⟨rfl, ⟨hi, rfl, rfl⟩ | ⟨hi, rfl, rfl⟩⟩ := h
   ·refine ⟨.inl rfl, [sL 11 (aS E w.n), .agg [NJ false, NJ false]], _, rfl, trivial, ?_, ⟨rfl, rfl, rfl⟩, fun j b hb => ?_⟩
    ·simp only [AV.ren, lD, AA.ren, k0]
     exact AV.ge.refl _
    ·match j, hb with
     | 0, hb => cases hb; exact ⟨_, rfl, ⟨rfl, rfl, rfl, fun j hj => by rw [OM]; rfl⟩⟩
   ·rw [hi] at hd; cases hd
 | false =>
  rw [cond_false] at h5
  obtain ⟨rfl, rfl⟩ := aA h5
  refine Ro (c := (ak Try.f26)) Try.func26 (by kernel_rfl) (by kernel_rfl) (dY := [uz false 2, .str true s]) (p := qv ∧ He s E w.n = false) (fun hc => ?_) (fun hp => ff hp.1) (xl := []) (rx := id) (K0 := 9) (K' := 30) (by omega) (fun _ => hA) (fun _ i b hb => absurd (bC hb) (by simp)) (fun _ i j b b' hb => absurd (bC hb) (by simp)) (bs := []) (nms := []) rfl (by simp) (by simp) (show g5.H = _ by rw [kd.1, e4.1]; rfl) (show g5.nx = _ by rw [kd.2.1, e4.2.1]; rfl) (fun b hb => (by cases hb)) (by simp [AV.low, jw]) (by simp [AV.ji, jg]) (fun hp hk => ?_)
  ·have := kd.2.2 hc
   rw [e4.2.2] at this
   have k := kv.2.2 this.1
   exact ⟨k.1, k.2, this.2⟩
  ·rw [acC hp.1]
   refine (RX w.n E s (ff hp.1).n256).mono fun e fr' H' h => ?_
   have hd := hp.2
   rw [JX] at hd
   obtain ⟨rfl, ⟨hi, rfl, rfl⟩ | ⟨hi, rfl, rfl⟩⟩ := h
   ·rw [hi] at hd; cases hd
   ·exact ⟨.inl rfl, [.aX, .agg [.int false .i64 10, .int false .i64 (-1)]], _, rfl, trivial, AV.ge.refl _, ⟨rfl, rfl, rfl⟩, fun j b hb => (by cases hb)⟩


theorem Qc : gX (.iD [.aX, .agg [ZC 1, Z7]]) (iM 16 [.bG] (G.on [])) := J6 (q := True) (by kernel_rfl) trivial
noncomputable def zN : List AV → M AV
 | [.bG] => M.ret (.iD [.aX, .agg [ZC 1, Z7]])
 | args => Fp args
theorem Qd : ∀ args v g g', zN args g = .done v g' → bf Try.prog 16 args v g g' := by
 intro args v g g' h
 unfold zN at h
 split at h
 ·obtain ⟨rfl, rfl⟩ := aA h
  refine Ld iO fun μ bT ha => ?_
  have ha' : aI 0 MM.none [.bG] bT.toList := by simpa only [aI, Rep] using ha
  exact ⟨_, _, _, ha', Qc, rfl, fun c hc => by have := hc g.nx μ; simpa only [Rep, aI] using this⟩
 ·exact TG _ _ _ _ h
theorem Nu : ∀ args, aC (zN args) := by
 intro args
 unfold zN
 split
 ·exact aC.ret _
 ·exact Pj _
theorem X8 : gX (.iD [.aX, .agg [ZC 1, Z7]]) (iM 25 [.bG] (G.on [])) := J6 (q := True) (by kernel_rfl) trivial
noncomputable def Nv : List AV → M AV
 | [.bG] => M.ret (.iD [.aX, .agg [ZC 1, Z7]])
 | args => XK args
theorem X9 : ∀ args v g g', Nv args g = .done v g' → bf Try.prog 25 args v g g' := by
 intro args v g g' h
 unfold Nv at h
 split at h
 ·obtain ⟨rfl, rfl⟩ := aA h
  refine Ld iO fun μ bT ha => ?_
  have ha' : aI 0 MM.none [.bG] bT.toList := by simpa only [aI, Rep] using ha
  exact ⟨_, _, _, ha', X8, rfl, fun c hc => by have := hc g.nx μ; simpa only [Rep, aI] using this⟩
 ·exact abd _ _ _ _ h
theorem Um : ∀ args, aC (Nv args) := by
 intro args
 unfold Nv
 split
 ·exact aC.ret _
 ·exact XL _
theorem Ya (s : Tx) : gX (.iD [.aX, .agg [ZC 1, Z7]]) (iM 27 [.bG, .str true s] (G.on [])) := J6 (q := True) (by kernel_rfl) trivial
noncomputable def Nw : List AV → M AV
 | [.bG, .str _ s] => M.ret (.iD [.aX, .agg [ZC 1, Z7]])
 | args => XE args
theorem Yb : ∀ args v g g', Nw args g = .done v g' → bf Try.prog 27 args v g g' := by
 intro args v g g' h
 unfold Nw at h
 split at h
 ·rename_i sb s; obtain ⟨rfl, rfl⟩ := aA h
  refine Ld iO fun μ bT ha => ?_
  have ha' : aI 0 MM.none [.bG, .str true s] bT.toList := by simpa only [aI, Rep] using ha
  exact ⟨_, _, _, ha', Ya _, rfl, fun c hc => by have := hc g.nx μ; simpa only [Rep, aI] using this⟩
 ·exact aa7 _ _ _ _ h
theorem Un : ∀ args, aC (Nw args) := by
 intro args
 unfold Nw
 split
 ·exact aC.ret _
 ·exact XF _
theorem Yc (s : Tx) : gX (.iD [.aX, .agg [ZC 1, Z7]]) (iM 26 [.bG, .str true s] (G.on [])) := J6 (q := True) (by kernel_rfl) trivial
noncomputable def Ny : List AV → M AV
 | [.bG, .str _ s] => M.ret (.iD [.aX, .agg [ZC 1, Z7]])
 | args => X6 args
theorem Yd : ∀ args v g g', Ny args g = .done v g' → bf Try.prog 26 args v g g' := by
 intro args v g g' h
 unfold Ny at h
 split at h
 ·rename_i sb s; obtain ⟨rfl, rfl⟩ := aA h
  refine Ld iO fun μ bT ha => ?_
  have ha' : aI 0 MM.none [.bG, .str true s] bT.toList := by simpa only [aI, Rep] using ha
  exact ⟨_, _, _, ha', Yc _, rfl, fun c hc => by have := hc g.nx μ; simpa only [Rep, aI] using this⟩
 ·exact abA _ _ _ _ h
theorem Uo : ∀ args, aC (Ny args) := by
 intro args
 unfold Ny
 split
 ·exact aC.ret _
 ·exact X7 _
noncomputable def aeQ : Known := kc 36 ofBits (kc 62 toBits (kc 81 lZ (kc 66 qF (kc 63 mW (kc 82 Tj (kc 64 uo (kc 65 uq (kc 37 ER (kc 88 qP (kc 83 JG (kc 68 vJ (kc 10 phS (kc 47 O8 (kc 21 O9 (kc 22 Pg (kc 14 yt (kc 15 O6 (kc 48 TB (kc 16 zN (kc 24 XO (kc 25 Nv (kc 27 Nw (kc 26 Ny (kc 28 Qa (kc 29 FQ (kn))))))))))))))))))))))))))
theorem RY : eY Try.prog aeQ := aO ((jf Try.prog).iw Try.func36 (by kernel_rfl) (by kernel_rfl) (by kernel_rfl) (by kernel_rfl)) (aO ((je Try.prog).iw Try.func62 (by kernel_rfl) (by kernel_rfl) (by kernel_rfl) (by kernel_rfl)) (aO jC (aO kQ (aO kC (aO sZ (aO nY (aO nZ (aO tC (aO o7 (aO zJ (aO wJ (aO O7 (aO JJ (aO JK (aO JL (aO AL (aO JF (aO Q8 (aO Qd (aO abh (aO X9 (aO Yb (aO Yd (aO Ul (aO Uj (mJ))))))))))))))))))))))))))
theorem Nz : gG aeQ := aG aC.ofBits (aG aC.toBits (aG iV (aG jD (aG jr (aG oQ (aG lJ (aG lK (aG pX (aG ng (aG vI (aG tN (aG JI (aG EY (aG EZ (aG E5 (aG yu (aG EX (aG MQ (aG Nu (aG XP (aG Um (aG Un (aG Uo (aG Qb (aG P7 (jH))))))))))))))))))))))))))
noncomputable def G9 : Calls' := Sx.runN Try.prog aeQ (bY Try.prog) 1000 50
theorem Ye : cO Try.prog G9 := gK RY Nz (by kernel_rfl) (by kernel_rfl) 1000 50
theorem Ur (n : Nat) : gq Try.prog (bY Try.prog G9 n) n := gQ RY Nz (by kernel_rfl) (by kernel_rfl) 1000 50 n
noncomputable abbrev FU (f : Func) (c : Code) (fr : Fr) (H : T aF) (K : Nat) (path : List Bool) : BU (Ex × Fr) :=
 cu Try.prog G9 (bY Try.prog G9 f.ntmps) lQ f.ntmps 1000 c fr ⟨H, K, [], path, True⟩


theorem rcL {fn : Func} {K K' B : Nat} {e : Ex} {F : tF} {Hl : tH} {c : Code} {fr : Fr} {H : T aF} {path : List Bool} (h : bV K' e F Hl (FU fn c fr H K path)) (hB : B ≤ K) : aj Try.prog c fn.ntmps B K K' fr H fun e' fr' H' => e' = e ∧ fr' = aQ F ∧ H' = hpL Hl := aj.runN Ye (Ur _) (iI.none _ _ _) h hB
theorem xW {fn : Func} {K K' B : Nat} {e : Ex} {F : tF} {Hl : tH} {c : Code} {fr : Fr} {H : T aF} (path : List Bool) {q : Prop} (hq : q) (hB : B ≤ K) (h : jP K' e F Hl (FU fn c fr H K path) = (e = e ∧ uh F ∧ uj Hl ∧ true = true ∧ q) := by kernel_rfl) : aj Try.prog c fn.ntmps B K K' fr H fun e' fr' H' => e' = e ∧ fr' = aQ F ∧ H' = hpL Hl := rcL (eqn h hq) hB
theorem srA (B : Nat) (hB : B ≤ 1) (n : Nat) (G : tE) (s : Tx) : aj Try.prog ((aT [0] (ak Try.f5))) Try.f5.ntmps B 1 1 (bJ [ZG n, .str true s] 0 .e) (hpL [(0, Z1 n G)]) (pP .normal [(0, ZG n), (1, .str true s)] [(0, Zb n G)]) := xW [] trivial hB
theorem srB (B : Nat) (hB : B ≤ 1) (n : Nat) (G : tE) (s : Tx) : aj Try.prog ((aT [1,0] (ak Try.f5))) Try.f5.ntmps B 1 1 (aQ [(0, ZG n), (1, .str true s)]) (hpL [(0, Z1 n G)]) fun e fr' H' => (cond (decide (300 < (↑n : Int))) (pP .ret [(0, ZG n), (1, .str true s), (4, .bool true)] [(0, Zb n G)] e fr' H') (pP .normal [(0, ZG n), (1, .str true s)] [(0, Zb n G)] e fr' H')) := cD (fun q0 t0 => xW [tT] (I1 t0) hB) (fun q0 t0 => xW [fF] (I1 t0) hB)
noncomputable abbrev Z9 (v0 : tE) (v1 : Nat) (w0) := (.cells true 2 1 (.lit [] (.n .e (some [iT (Prod.fst (uF (bW (rowsOf ⟨false, w0, 0, 0⟩ 8 8 (.fn fun j => bI (jl (rowsOf ⟨false, 0, 0, 0⟩ 8 8 (.fn fun j => zR (v0 j))) j)))) v1)), iT (Prod.snd (uF (bW (rowsOf ⟨false, w0, 0, 0⟩ 8 8 (.fn fun j => bI (jl (rowsOf ⟨false, 0, 0, 0⟩ 8 8 (.fn fun j => zR (v0 j))) j)))) v1))]) .e)) : aF)
noncomputable abbrev ZFM (v0 : Nat) (v1 : Tx) := ([(0, ZG v0), (1, .str true v1), (5, ZA 8), (6, ZA 9)] : tF)
theorem srC (B : Nat) (hB : B ≤ 1) (n u : Nat) (G : tE) (s : Tx) (x0 : (n * 104 ≤ 140737488355328)) (x1 : (∀ (j : Nat), j < n → gy (zR (G (0 + j))) (zR (jl (rowsOf ⟨false, 0, 0, 0⟩ 8 8 (.fn fun j => zR (G j))) j)) ∧ El.v (G (0 + j)) < 18446744073709551616)) (x2 : (∀ (j : Nat), j < n → ∀ (u : AV), u ∈ zR (G (0 + j)) → AV.low 0 u = true)) (x3 : (PEQ n fun j => (bI (G (0 + (0 + j)))))) : aj Try.prog ((aT [1,1,0] (ak Try.f5))) Try.f5.ntmps B 1 10 (aQ [(0, .slc true false ⟨false, 0, 0, 0⟩ n), (1, .str true s)]) (hpL [(0, .cells false 8 n (.fn fun j => zR (G j)))]) fun e fr' H' => (cond (decide (Prod.fst (uF (bW fun j => (bI (G (0 + (0 + j))))) n) = (0 : Int))) (pP .normal [(0, .slc true false ⟨false, 0, 0, 0⟩ n), (1, .str true s), (5, .ptr ⟨false, 8, 0, 0⟩), (6, .ptr ⟨false, 9, 0, 0⟩)] [(0, .cells false 8 n (.fn fun j => [.int true .u8 (El.k (G j)), .str true (El.n (G j)), .str true (El.a (G j)), .str true (El.b (G j)), .str true (El.c (G j)), .str true (El.d (G j)), .int true .u64 (↑(El.v (G j)) : Int), iT (El.ph (G j))])), (2, aF.aW true (aB 0 (NM (bW (rowsOf ⟨false, 1, 0, 0⟩ 8 8 (.fn fun j => bI (jl (rowsOf ⟨false, 0, 0, 0⟩ 8 8 (.fn fun j => zR (G j))) j)))) n))), (3, aF.aW true (aB 0 (ND (bW (rowsOf ⟨false, 1, 0, 0⟩ 8 8 (.fn fun j => bI (jl (rowsOf ⟨false, 0, 0, 0⟩ 8 8 (.fn fun j => zR (G j))) j)))) n))), (4, aF.aW true (aB 0 (BR (bW (rowsOf ⟨false, 1, 0, 0⟩ 8 8 (.fn fun j => bI (jl (rowsOf ⟨false, 0, 0, 0⟩ 8 8 (.fn fun j => zR (G j))) j)))) n))), (5, .cells true 8 n (.fn fun j => (bI (G (0 + (0 + j)))))), (6, .cells true 1 (List.length (ND (bW fun j => (bI (G (0 + (0 + j))))) n)) (.fn fun j => [.str true (aH (ND (bW fun j => (bI (G (0 + (0 + j))))) n) j)])), (7, .cells true 1 (List.length (BR (bW fun j => (bI (G (0 + (0 + j))))) n)) (.fn fun j => [.str true (aH (BR (bW fun j => (bI (G (0 + (0 + j))))) n) j)])), (8, .cells true 7 1 (.fn fun x => [.bool true, sL 5 n, AV.mp 2, sL 6 (List.length (ND (bW fun j => (bI (G (0 + (0 + j))))) n)), AV.mp 3, sL 7 (List.length (BR (bW fun j => (bI (G (0 + (0 + j))))) n)), AV.mp 4])), (9, .cells true 2 1 (.lit [] (.n .e (some [.int false .i64 0, .int false .i64 0]) .e)))] e fr' H') (pP .normal [(0, .slc true false ⟨false, 0, 0, 0⟩ n), (1, .str true s), (5, .bG), (6, .ptr ⟨false, 2, 0, 0⟩)] [(0, .cells false 8 n (.fn fun j => [.int true .u8 (El.k (G j)), .str true (El.n (G j)), .str true (El.a (G j)), .str true (El.b (G j)), .str true (El.c (G j)), .str true (El.d (G j)), .int true .u64 (↑(El.v (G j)) : Int), iT (El.ph (G j))])), (2, .cells true 2 1 (.lit [] (.n .e (some [iT (Prod.fst (uF (bW (rowsOf ⟨false, 1, 0, 0⟩ 8 8 (.fn fun j => bI (jl (rowsOf ⟨false, 0, 0, 0⟩ 8 8 (.fn fun j => zR (G j))) j)))) n)), iT (Prod.snd (uF (bW (rowsOf ⟨false, 1, 0, 0⟩ 8 8 (.fn fun j => bI (jl (rowsOf ⟨false, 0, 0, 0⟩ 8 8 (.fn fun j => zR (G j))) j)))) n))]) .e)))] e fr' H')) := cD (fun q0 t0 => xW [tT] (I5 (show 0 + n ≤ n by omega) (ai (ai x0 x1) x2) (show 0 + n ≤ n by omega) x3 t0) hB) (fun q0 t0 => xW [fF] (I5 (show 0 + n ≤ n by omega) (ai (ai x0 x1) x2) (show 0 + n ≤ n by omega) x3 t0) hB)
noncomputable abbrev ZEC (v0 : Tx) := ([(1, .str true v0), (5, ZA 8), (6, ZA 9), (7, ZA 12), (8, ZA 13)] : tF)
theorem srD (B : Nat) (hB : B ≤ 10) (n u : Nat) (G : tE) (s : Tx) (x0 : (n * 104 ≤ 140737488355328)) (x1 : (∀ (j : Nat), j < n → gy (zR (G (0 + j))) (zR (jl (rowsOf ⟨false, 0, 0, 0⟩ 8 8 (.fn fun j => zR (G j))) j)) ∧ El.v (G (0 + j)) < 18446744073709551616)) (x2 : (∀ (j : Nat), j < n → ∀ (u : AV), u ∈ zR (G (0 + j)) → AV.low 0 u = true)) (x3 : ((decide (Prod.fst (uF (bW fun j => (bI (G (0 + (0 + j))))) n) = (0 : Int))) = true → (OfQ n (rowsOf ⟨false, 10, 0, 0⟩ 8 8 (.fn fun j => bI (jl (rowsOf ⟨false, 0, 0, 0⟩ 8 8 (.fn fun j => zR (G j))) j)))))) (x4 : ((decide (Prod.fst (uF (bW fun j => (bI (G (0 + (0 + j))))) n) = (0 : Int))) = false → (OfQ n (rowsOf ⟨false, 10, 0, 0⟩ 8 8 (.fn fun j => bI (jl (rowsOf ⟨false, 0, 0, 0⟩ 8 8 (.fn fun j => zR (G j))) j)))))) : aj Try.prog ((aT [1,1,1,0] (ak Try.f5))) Try.f5.ntmps B 10 14 (aQ [(0, .slc true false ⟨false, 0, 0, 0⟩ n), (1, .str true s), (5, .ptr ⟨false, 8, 0, 0⟩), (6, .ptr ⟨false, 9, 0, 0⟩)]) (hpL [(0, .cells false 8 n (.fn fun j => zR (G j)))]) fun e fr' H' => (cond (decide (Prod.fst (uF (bW fun j => (bI (G (0 + (0 + j))))) n) = (0 : Int))) (pP .normal [(1, .str true s), (5, .ptr ⟨false, 8, 0, 0⟩), (6, .ptr ⟨false, 9, 0, 0⟩), (7, .ptr ⟨false, 12, 0, 0⟩), (8, .ptr ⟨false, 13, 0, 0⟩)] [(11, .cells true 8 n (.fn fun j => (bI (G (0 + (0 + j)))))), (12, .cells true 2 1 (.fn fun x => [sL 11 n, .bool true])), (13, .cells true 2 1 (.lit [] (.n .e (some [.int false .i64 0, .int false .i64 0]) .e)))] e fr' H') (pP .normal [(1, .str true s), (5, .ptr ⟨false, 8, 0, 0⟩), (6, .ptr ⟨false, 9, 0, 0⟩), (7, .bG), (8, .ptr ⟨false, 11, 0, 0⟩)] [(11, .cells true 2 1 (.lit [] (.n .e (some [iT (Prod.fst (uF (bW (rowsOf ⟨false, 10, 0, 0⟩ 8 8 (.fn fun j => bI (jl (rowsOf ⟨false, 0, 0, 0⟩ 8 8 (.fn fun j => zR (G j))) j)))) n)), iT (Prod.snd (uF (bW (rowsOf ⟨false, 10, 0, 0⟩ 8 8 (.fn fun j => bI (jl (rowsOf ⟨false, 0, 0, 0⟩ 8 8 (.fn fun j => zR (G j))) j)))) n))]) .e)))] e fr' H')) := cD (fun q0 t0 => xW [tT] (I5 (show 0 + n ≤ n by omega) (ai (ai x0 x1) x2) (show 0 + n ≤ n by omega) (x3 t0) t0) hB) (fun q0 t0 => xW [fF] (I5 (show 0 + n ≤ n by omega) (ai (ai x0 x1) x2) (show 0 + n ≤ n by omega) (x4 t0) t0) hB)
theorem aii (B : Nat) (hB : B ≤ 10) (n u : Nat) (G : tE) (s : Tx) (x0 : (n * 104 ≤ 140737488355328)) (x1 : (∀ (j : Nat), j < n → gy (zR (G (0 + j))) (zR (jl (rowsOf ⟨false, 0, 0, 0⟩ 8 8 (.fn fun j => zR (G j))) j)) ∧ El.v (G (0 + j)) < 18446744073709551616)) (x2 : (∀ (j : Nat), j < n → ∀ (u : AV), u ∈ zR (G (0 + j)) → AV.low 0 u = true)) (x3 : ((decide (Prod.fst (uF (bW fun j => (bI (G (0 + (0 + j))))) n) = (0 : Int))) = true → (OfQ n (rowsOf ⟨false, 10, 0, 0⟩ 8 8 (.fn fun j => bI (jl (rowsOf ⟨false, 0, 0, 0⟩ 8 8 (.fn fun j => zR (G j))) j)))))) (x4 : ((decide (Prod.fst (uF (bW fun j => (bI (G (0 + (0 + j))))) n) = (0 : Int))) = false → (OfQ n (rowsOf ⟨false, 10, 0, 0⟩ 8 8 (.fn fun j => bI (jl (rowsOf ⟨false, 0, 0, 0⟩ 8 8 (.fn fun j => zR (G j))) j)))))) : aj Try.prog ((aT [1,1,1,0] (ak Try.f5))) Try.f5.ntmps B 10 14 (aQ [(0, .slc true false ⟨false, 0, 0, 0⟩ n), (1, .str true s), (5, .bG), (6, .ptr ⟨false, 2, 0, 0⟩)]) (hpL [(0, .cells false 8 n (.fn fun j => zR (G j)))]) fun e fr' H' => (cond (decide (Prod.fst (uF (bW fun j => (bI (G (0 + (0 + j))))) n) = (0 : Int))) (pP .normal [(1, .str true s), (5, .bG), (6, .ptr ⟨false, 2, 0, 0⟩), (7, .ptr ⟨false, 12, 0, 0⟩), (8, .ptr ⟨false, 13, 0, 0⟩)] [(11, .cells true 8 n (.fn fun j => (bI (G (0 + (0 + j))))))] e fr' H') (pP .normal [(1, .str true s), (5, .bG), (6, .ptr ⟨false, 2, 0, 0⟩), (7, .bG), (8, .ptr ⟨false, 11, 0, 0⟩)] [(11, .cells true 2 1 (.lit [] (.n .e (some [iT (Prod.fst (uF (bW (rowsOf ⟨false, 10, 0, 0⟩ 8 8 (.fn fun j => bI (jl (rowsOf ⟨false, 0, 0, 0⟩ 8 8 (.fn fun j => zR (G j))) j)))) n)), iT (Prod.snd (uF (bW (rowsOf ⟨false, 10, 0, 0⟩ 8 8 (.fn fun j => bI (jl (rowsOf ⟨false, 0, 0, 0⟩ 8 8 (.fn fun j => zR (G j))) j)))) n))]) .e)))] e fr' H')) := cD (fun q0 t0 => xW [tT] (I5 (show 0 + n ≤ n by omega) (ai (ai x0 x1) x2) (show 0 + n ≤ n by omega) (x3 t0) t0) hB) (fun q0 t0 => xW [fF] (I5 (show 0 + n ≤ n by omega) (ai (ai x0 x1) x2) (show 0 + n ≤ n by omega) (x4 t0) t0) hB)
noncomputable abbrev ZEm (v0 : Tx) := ([(1, .str true v0), (5, ZA 8), (7, ZA 12)] : tF)
theorem srE (B : Nat) (hB : B ≤ 14) (s : Tx) : aj Try.prog ((aT [1,1,1,1,0] (ak Try.f5))) Try.f5.ntmps B 14 14 (aQ (ZEC s)) (hpL [(9, ZB), (13, ZB)]) (pP .normal (ZEm s) []) := xW [] trivial hB
noncomputable abbrev Zf (v0 v1 : Int) := (.cells true 2 1 (.fn fun _ => [iT v0, iT v1]) : aF)
theorem aij (B : Nat) (hB : B ≤ 14) (s : Tx) (er at_ : Int) : aj Try.prog ((aT [1,1,1,1,0] (ak Try.f5))) Try.f5.ntmps B 14 14 (aQ [(1, .str true s), (5, .bG), (6, ZA 2), (7, .bG), (8, ZA 11)]) (hpL [(2, Zf er at_), (11, Zf er at_)]) fun e fr' H' => (cond (decide (er = er) && (decide (at_ = at_) && true)) (pP .normal [(1, .str true s), (5, .bG), (7, .bG)] [] e fr' H') (pP .ret [(1, .str true s), (5, .bG), (7, .bG)] [] e fr' H')) := cI (fun t0 => xW [fF] (I1 (nt t0)) hB) (fun t0 => xW [tT] (I1 (nf t0)) hB)
noncomputable abbrev ZCD (v0 v1 v2 : Nat) := (.cells true 7 1 (.fn fun x => [.bool true, sL 5 v0, AV.mp 2, sL 6 v1, AV.mp 3, sL 7 v2, AV.mp 4]) : aF)
noncomputable abbrev ZCN := aT [1,1,1,1,1,0] (ak Try.f5)
noncomputable abbrev ZCo (v0 : tE) (v1 : Nat) := (.cells true 1 (aS v0 v1) (.fn fun j => [.dD true (Prod.fst (RF v0 v1 v1 j)) (Prod.snd (RF v0 v1 v1 j))]) : aF)
noncomputable abbrev ZEg (v0 : Tx) (v1 : tE) (v2 : Nat) (w0 w1) := ([(1, .str true v0), (5, ZA 8), (7, ZA 12), (9, Z6 v1 v2 w0), (10, ZA w1)] : tF)
noncomputable abbrev ZEq (v0 v1 v2 : tM) (v3 : Nat) (v4 : tE) (v5 : Nat) (v6 : tX) (v7 : Nat) (v8 : tX) := hpL [(2, .aW true v0), (3, .aW true v1), (4, .aW true v2), (5, ZI v3 v4), (6, ZCc v5 v6), (7, ZCc v7 v8), (8, .cells true 7 1 (.fn fun _ => zH 2 3 4 5 6 7 v3 v5 v7))]
noncomputable abbrev ZE4 (v0 : tE) (v1 : Nat) := (.cells true 2 1 (.lit [] (.n .e (some [ZC 6, iT (↑(qX (RB v0 v1) 0 v1) : Int)]) .e)) : aF)
theorem srF (B : Nat) (hB : B ≤ 14) (n q r : Nat) (E : tE) (M1 M2 M3 : tM) (nd br : tX) (s : Tx) (x0 : (aaE n q r n q r M1 M2 M3 (Cont.row (.fn fun j => bI (E j))) (Cont.row (.fn (dh nd))) (Cont.row (.fn (dh br))))) : aj Try.prog (ZCN) Try.f5.ntmps B 14 16 (aQ (ZEm s)) (ZEq M1 M2 M3 n E q nd r br) fun e fr' H' => (cond (decide (qX (RB E n) 0 n = n)) (pP .normal (ZEg s E n 14 15) [(2, aF.aW true (aB 0 (NM E n))), (3, aF.aW true (aB 0 (ND E n))), (4, aF.aW true (aB 0 (BR E n))), (5, Zg n E), (6, Ze q nd), (7, Ze r br), (8, ZCD n q r), (14, ZCo E n), (15, VQ)] e fr' H') (pP .normal [(1, .str true s), (5, ZA 8), (7, ZA 12), (9, .aX), (10, ZA 14)] [(2, aF.aW true (aB 0 (NM E n))), (3, aF.aW true (aB 0 (ND E n))), (4, aF.aW true (aB 0 (BR E n))), (5, Zg n E), (6, Ze q nd), (7, Ze r br), (8, ZCD n q r), (14, ZE4 E n)] e fr' H')) := cD (fun q0 t0 => xW [tT] (I2 x0 t0) hB) (fun q0 t0 => xW [fF] (I2 x0 t0) hB)
noncomputable abbrev ZCI := aT [1,1,1,1,1,1,0] (ak Try.f5)
noncomputable abbrev ZDz (v0 : Tx) (v1 : Nat) := ([(1, .str true v0), (5, ZA 8), (7, ZA 12), (9, sL 15 v1), (10, ZA 14)] : tF)
noncomputable abbrev ZEE (v0 : Tx) (v1 : Nat) (v2 : tE) (v3 : Nat) (w0 w1) := ([(1, .str true v0), (5, ZA 8), (7, ZA 12), (9, sL 15 v1), (10, ZA 14), (11, Z6 v2 v3 w0), (12, ZA w1)] : tF)
theorem srG (B : Nat) (hB : B ≤ 16) (n q r u : Nat) (E : tE) (M1 M2 M3 : tM) (nd br : tX) (s : Tx) (x0 : (aaE n q r n q r M1 M2 M3 (Cont.row (.fn fun j => bI (E j))) (Cont.row (.fn (dh nd))) (Cont.row (.fn (dh br))))) : aj Try.prog (ZCI) Try.f5.ntmps B 16 18 (aQ (ZDz s u)) (ZEq M1 M2 M3 n E q nd r br) fun e fr' H' => (cond (decide (qX (RB E n) 0 n = n)) (pP .normal (ZEE s u E n 16 17) [(2, aF.aW true (aB 0 (NM E n))), (3, aF.aW true (aB 0 (ND E n))), (4, aF.aW true (aB 0 (BR E n))), (5, Zg n E), (6, Ze q nd), (7, Ze r br), (8, ZCD n q r), (16, ZCo E n), (17, VQ)] e fr' H') (pP .normal [(1, .str true s), (5, ZA 8), (7, ZA 12), (9, sL 15 u), (10, ZA 14), (11, .aX), (12, ZA 16)] [(2, aF.aW true (aB 0 (NM E n))), (3, aF.aW true (aB 0 (ND E n))), (4, aF.aW true (aB 0 (BR E n))), (5, Zg n E), (6, Ze q nd), (7, Ze r br), (8, ZCD n q r), (16, ZE4 E n)] e fr' H')) := cD (fun q0 t0 => xW [tT] (I2 x0 t0) hB) (fun q0 t0 => xW [fF] (I2 x0 t0) hB)
noncomputable abbrev ZCG := aT [1,1,1,1,1,1,1,0] (ak Try.f5)
noncomputable abbrev ZDc (v0 : Tx) (v1 : Nat) := ([(1, .str true v0), (5, ZA 8), (7, ZA 12), (9, sL 15 v1), (10, ZA 14), (11, sL 17 v1), (12, ZA 16)] : tF)
noncomputable abbrev ZDt (v0 : Tx) (v1 : Nat) (v2 : tE) (v3 : Nat) (w0 w1) := ([(1, .str true v0), (5, ZA 8), (7, ZA 12), (9, sL 15 v1), (10, ZA 14), (11, sL 17 v1), (12, ZA 16), (13, Z6 v2 v3 w0), (14, ZA w1)] : tF)
noncomputable abbrev ZFH (v0 : Nat) (v1 : tE) := ([(11, ZI v0 v1), (12, ZR v0 11)] : tH)
theorem srH (B : Nat) (hB : B ≤ 18) (n u : Nat) (E : tE) (s : Tx) (x0 : (Rn n n (Cont.row (.fn fun j => bI (E j))))) (x1 : (∀ (j : Nat), j < n → eU bU E j = (0 : Int))) : aj Try.prog (ZCG) Try.f5.ntmps B 18 20 (aQ (ZDc s u)) (hpL (ZFH n E)) fun e fr' H' => (cond (decide (qX (RB E n) 0 n = n)) (pP .normal (ZDt s u E n 18 19) [(11, Zg n E), (12, ZCX n 11), (18, ZCo E n), (19, VQ)] e fr' H') (pP .normal [(1, .str true s), (5, ZA 8), (7, ZA 12), (9, sL 15 u), (10, ZA 14), (11, sL 17 u), (12, ZA 16), (13, .aX), (14, ZA 18)] [(11, Zg n E), (12, ZCX n 11), (18, ZE4 E n)] e fr' H')) := cD (fun q0 t0 => xW [tT] (I3 x0 x1 t0) hB) (fun q0 t0 => xW [fF] (I3 x0 x1 t0) hB)
noncomputable abbrev ZCA := aT [1,1,1,1,1,1,1,1,0] (ak Try.f5)
noncomputable abbrev ZD0 (v0 : Tx) (v1 : Nat) := ([(1, .str true v0), (5, ZA 8), (7, ZA 12), (9, sL 15 v1), (10, ZA 14), (11, sL 17 v1), (12, ZA 16), (13, sL 19 v1), (14, ZA 18)] : tF)
noncomputable abbrev ZD5 (w0 w1) := ([(w0, .cells true 2 1 (.lit [] (.n .e (some [ZC w1, ZBi]) .e)))] : tH)
theorem srI (B : Nat) (hB : B ≤ 20) (n q r u : Nat) (E : tE) (M1 M2 M3 : tM) (nd br : tX) (s : Tx) (x0 : (aaE n q r n q r M1 M2 M3 (Cont.row (.fn fun j => bI (E j))) (Cont.row (.fn (dh nd))) (Cont.row (.fn (dh br))))) : aj Try.prog (ZCA) Try.f5.ntmps B 20 22 (aQ (ZD0 s u)) (ZEq M1 M2 M3 n E q nd r br) fun e fr' H' => (cond (He s E n) (pP .normal [(1, .str true s), (7, ZA 12), (9, sL 15 u), (10, ZA 14), (11, sL 17 u), (12, ZA 16), (13, sL 19 u), (14, ZA 18), (15, Z6 E n 20), (16, ZA 21)] [(20, .cells true 1 (aS E n) (.fn fun j => [.dD true (Prod.fst (LX s E n j)) (Prod.snd (LX s E n j))])), (21, VQ)] e fr' H') (pP .normal [(1, .str true s), (7, ZA 12), (9, sL 15 u), (10, ZA 14), (11, sL 17 u), (12, ZA 16), (13, sL 19 u), (14, ZA 18), (15, .aX), (16, ZA 20)] (ZD5 20 10) e fr' H')) := cI (fun t0 => xW [tT] (I2 x0 t0) hB) (fun t0 => xW [fF] (I2 x0 t0) hB)
noncomputable abbrev ZB7 := aT [1,1,1,1,1,1,1,1,1,0] (ak Try.f5)
noncomputable abbrev ZDk (v0 v1 : Nat) (v2 : tE) (v3 : Nat) (w0 w1) := ([(9, sL 15 v0), (10, ZA 14), (11, sL 17 v0), (12, ZA 16), (13, sL 19 v0), (14, ZA 18), (15, sL 21 v1), (16, ZA 20), (17, Z6 v2 v3 w0), (18, ZA w1)] : tF)
theorem srJ (B : Nat) (hB : B ≤ 22) (n u d : Nat) (E : tE) (s : Tx) (x0 : (Rn n n (Cont.row (.fn fun j => bI (E j))))) : aj Try.prog (ZB7) Try.f5.ntmps B 22 24 (aQ [(1, .str true s), (7, ZA 12), (9, sL 15 u), (10, ZA 14), (11, sL 17 u), (12, ZA 16), (13, sL 19 u), (14, ZA 18), (15, sL 21 d), (16, ZA 20)]) (hpL (ZFH n E)) fun e fr' H' => (cond (He s E n) (pP .normal (ZDk u d E n 22 23) [(22, .cells true 1 (aS E n) (.fn fun j => [.dD true (Prod.fst (LX s E n j)) (Prod.snd (LX s E n j))])), (23, VQ)] e fr' H') (pP .normal [(9, sL 15 u), (10, ZA 14), (11, sL 17 u), (12, ZA 16), (13, sL 19 u), (14, ZA 18), (15, sL 21 d), (16, ZA 20), (17, .aX), (18, ZA 22)] (ZD5 22 10) e fr' H')) := cI (fun t0 => xW [tT] (I2 x0 t0) hB) (fun t0 => xW [fF] (I2 x0 t0) hB)
theorem ah6 (B : Nat) (hB : B ≤ 14) (s : Tx) : aj Try.prog (ZCN) Try.f5.ntmps B 14 15 (aQ [(1, .str true s), (5, .bG), (7, .bG)]) (hpL []) (pP .normal [(1, .str true s), (5, .bG), (7, .bG), (9, .aX), (10, ZA 14)] (ZD5 14 1)) := xW [] trivial hB
theorem ah8 (B : Nat) (hB : B ≤ 16) (u : Nat) (s : Tx) : aj Try.prog (ZCI) Try.f5.ntmps B 16 17 (aQ [(1, .str true s), (5, .bG), (7, .bG), (9, sL 15 u), (10, ZA 14)]) (hpL []) (pP .normal [(1, .str true s), (5, .bG), (7, .bG), (9, sL 15 u), (10, ZA 14), (11, .aX), (12, ZA 16)] (ZD5 16 1)) := xW [] trivial hB
end Go.Proofs.Ytdagokpedjfepaa
