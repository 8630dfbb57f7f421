/- SourceRights: a part: summaries of functions that the statement reaches, printed by program, checked by the kernel. -/
import Derived.ProofKit
import Derived.OpenShut
import Derived.KernelRfl
import Derived.SizedLaws
import Derived.Test.YtdagokpedjfepaaProg
import Derived.Test.YtdagokpedjfepaaSourceRightsPB
namespace Go.Proofs.Ytdagokpedjfepaa
open Go.ChangeShapes Go.WideShapes Go.ChangeAt Go.RowKit Go.Sx
set_option linter.unusedVariables false
set_option linter.unusedSimpArgs false
set_option maxRecDepth 100000

theorem aaR (n : Nat) (E : tE) (hn : n ≤ 256) :
  aj Try.prog (ak Try.f51) Try.f51.ntmps 2 2 4 ZEs (hpL (AO n E)) fun e fr' H' => e = .ret ∧ fr' = aQ [(2, sL 2 (ND E n).length)] ∧ H' = hpL [(2, Y8 E n)] := by
 rw [show (ak Try.f51) = .seq (aT [0] (ak Try.f51)) (.seq (aT [1,0] (ak Try.f51)) (.seq (aT [1,1,0] (ak Try.f51)) (.seq (.seq (aT [1,1,1,0,0] (ak Try.f51)) (.block 0 (.loop (aT [1,1,1,0,1,0,0] (ak Try.f51))))) (aT [1,1,1,1] (ak Try.f51))))) by kernel_rfl]
 refine aj.aV (K1 := 2) (ndA 2 (by omega) n 0 E) (by omega) ?_
 refine aj.aV (K1 := 2) (ndB 2 (by omega) n 0 E) (by omega) ?_
 refine aj.phantom 3 1 (dh (fun _ => [])) rfl (by omega) (by omega) ?_
 refine aj.dW (fl := [(0, ZA 0), (3, sL 2 0)]) (bl := [(0, ZN n), (1, ZF n E), (2, .cells true 1 0 (.fn (dh (fun _ => []))))]) (dJ rfl) (fG rfl) ?_
 refine aj.aV (K1 := 4) (F1 := [(3, sL 2 (ND E 0).length), (4, sL 3 n)]) (H1 := [(2, .cells true 1 (ND E 0).length (.fn (dh (aH (ND E 0))))), (3, ZD n E)]) (aj.toN (ndC 2 (by omega) n 0 E (fun _ => []) (by omega) (by omega)) (dJ rfl) ⟨⟨_, rfl, ⟨rfl, rfl, rfl, fun j hj => absurd hj (Nat.not_lt_zero j)⟩⟩, ⟨_, rfl, ⟨rfl, rfl, rfl, fun j hj => by simp only [Cont.row, Nat.zero_add]⟩⟩, trivial⟩) (by omega) ?_
 refine aj.aV (K1 := 4) (F1 := [(3, sL 2 (ND E n).length)]) (H1 := [(2, Y8 E n)]) ?_ (by omega) (ndN 2 (by omega) (ND E n).length (aH (ND E n)))
 refine aj.aV (K1 := 4) (F1 := [(3, sL 2 (ND E 0).length), (4, sL 3 n), (5, Zc 0)]) (H1 := [(2, .cells true 1 (ND E 0).length (.fn (dh (aH (ND E 0))))), (3, ZD n E)]) (aj.toN (ndD 2 (by omega) n 0 (ND E 0).length E (aH (ND E 0))) ⟨re rfl, re rfl, ⟨_, rfl, AV.ge.int _ _ _ _⟩, trivial⟩ (fG rfl)) (by omega) ?_
 refine aj.rounds n (fun i => [(3, sL 2 (ND E i).length), (4, sL 3 n), (5, iT ((i : Nat) : Int))]) (fun i => [(2, .cells true 1 (ND E i).length (.fn (dh (aH (ND E i))))), (3, ZD n E)]) (fun i hi => aev n i E hi hn) ?_
 rw [show (aT [1,1,1,0,1,0,0] (ak Try.f51)) = .seq (aT [1,1,1,0,1,0,0,0] (ak Try.f51)) (.seq (.block 1 (.seq (aT [1,1,1,0,1,0,0,1,0,0,0] (ak Try.f51)) (.seq (aT [1,1,1,0,1,0,0,1,0,0,1,0] (ak Try.f51)) (.block 2 (.loop (aT [1,1,1,0,1,0,0,1,0,0,1,1,0,0] (ak Try.f51))))))) (aT [1,1,1,0,1,0,0,1,1] (ak Try.f51))) by kernel_rfl]
 refine aj.Jl (K1 := 4) ?_ (by omega)
 refine (ndE 2 (by omega) n n 0 (ND E n).length E (aH (ND E n))).post fun e fr' H' h => ?_
 rw [decide_eq_false (by omega), cond_false] at h
 obtain ⟨rfl, rfl, rfl⟩ := h
 exact ⟨[(3, sL 2 (ND E n).length)], [(2, Y8 E n)], ⟨re rfl, trivial⟩, ⟨hs rfl, trivial⟩, rfl, rfl, rfl⟩
theorem aaS (n i : Nat) (E : tE) (hi : i < n) (hn : n ≤ 256) :
  aj Try.prog (aT [1,1,1,0,1,0,0] (ak Try.f76)) Try.f76.ntmps 2 4 4 (aQ [(3, sL 2 (BR E i).length), (4, sL 3 n), (5, ZS i)]) (hpL [(2, ZB5 E i), (3, ZD n E)]) (Nm [(3, sL 2 (BR E (i + 1)).length), (4, sL 3 n), (5, WM i)] [(2, .cells true 1 (BR E (i + 1)).length (.fn (dh (aH (BR E (i + 1)))))), (3, ZD n E)]) := by
 have hl := mV E i
 have e1 : BR E (i + 1) = bif iY (E i) then BR E i ++ [(E i).n] else BR E i := rfl
 refine (brL 2 (by omega) n i 0 (BR E i).length E (aH (BR E i)) (fun _ => by omega) (fun _ => by omega) (fun _ => by omega)).renG fun e fr' H' h => ?_
 rw [decide_eq_true (by omega), cond_true] at h
 refine bD h (fun t h => ?_) (fun t h => ?_)
 ·obtain ⟨rfl, rfl, rfl⟩ := h
  rw [Nat.zero_add] at t
  rw [e1, show iY (E i) = true by unfold iY; rw [t]; rfl, cond_true]
  refine ⟨sg 2 5, [(3, sL 2 (BR E i ++ [(E i).n]).length), (4, sL 3 n), (5, WM i)], [(2, .cells true 1 (BR E i ++ [(E i).n]).length (.fn (dh (aH (BR E i ++ [(E i).n]))))), (3, ZD n E)], qc (by omega), ⟨⟨_, rfl, AV.ge.slc _ _ _ (by rw [List.length_append]; rfl), rfl⟩, ⟨_, rfl, AV.ge.refl _, rfl⟩, ⟨_, rfl, AV.ge.int' _ _ _ (by omega), rfl⟩, trivial⟩, ⟨fD rfl (by rw [List.length_append]; rfl) (fun j hj => ?_) (fun j _ => rfl) (by omega), fD rfl rfl (fun j _ => rfl) (fun j _ => rfl) (by omega), trivial⟩, pY (by omega), rfl, rfl, rfl⟩
  rw [Nat.zero_add]
  exact vH (BR E i) (E i).n j hj
 ·rw [Nat.zero_add] at t
  refine bD h (fun u h => ?_) (fun u h => ?_)
  ·obtain ⟨rfl, rfl, rfl⟩ := h
   rw [Nat.zero_add] at u
   rw [e1, show iY (E i) = true by unfold iY; rw [t, u]; rfl, cond_true]
   refine ⟨sg 2 5, [(3, sL 2 (BR E i ++ [(E i).n]).length), (4, sL 3 n), (5, WM i)], [(2, .cells true 1 (BR E i ++ [(E i).n]).length (.fn (dh (aH (BR E i ++ [(E i).n]))))), (3, ZD n E)], qc (by omega), ⟨⟨_, rfl, AV.ge.slc _ _ _ (by rw [List.length_append]; rfl), rfl⟩, ⟨_, rfl, AV.ge.refl _, rfl⟩, ⟨_, rfl, AV.ge.int' _ _ _ (by omega), rfl⟩, trivial⟩, ⟨fD rfl (by rw [List.length_append]; rfl) (fun j hj => ?_) (fun j _ => rfl) (by omega), fD rfl rfl (fun j _ => rfl) (fun j _ => rfl) (by omega), trivial⟩, pY (by omega), rfl, rfl, rfl⟩
   rw [Nat.zero_add]
   exact vH (BR E i) (E i).n j hj
  ·obtain ⟨rfl, rfl, rfl⟩ := h
   rw [Nat.zero_add] at u
   rw [e1, show iY (E i) = false by unfold iY; rw [t, u]; rfl, cond_false]
   exact ⟨id, [(3, sL 2 (BR E i).length), (4, sL 3 n), (5, WM i)], [(2, ZB5 E i), (3, ZD n E)], fun g hg => rfl, ⟨⟨_, rfl, AV.ge.refl _, rfl⟩, ⟨_, rfl, AV.ge.refl _, rfl⟩, ⟨_, rfl, AV.ge.int' _ _ _ (by omega), rfl⟩, trivial⟩, ⟨fD rfl rfl (fun j _ => rfl) (fun j _ => rfl) (by omega), fD rfl rfl (fun j _ => rfl) (fun j _ => rfl) (by omega), trivial⟩, fun i j _ _ h => h, rfl, rfl, rfl⟩
theorem aaT (n : Nat) (E : tE) (hn : n ≤ 256) :
  aj Try.prog (ak Try.f76) Try.f76.ntmps 2 2 4 ZEs (hpL (AO n E)) fun e fr' H' => e = .ret ∧ fr' = aQ [(2, sL 2 (BR E n).length)] ∧ H' = hpL [(2, ZB5 E n)] := by
 rw [show (ak Try.f76) = .seq (aT [0] (ak Try.f76)) (.seq (aT [1,0] (ak Try.f76)) (.seq (aT [1,1,0] (ak Try.f76)) (.seq (.seq (aT [1,1,1,0,0] (ak Try.f76)) (.block 0 (.loop (aT [1,1,1,0,1,0,0] (ak Try.f76))))) (aT [1,1,1,1] (ak Try.f76))))) by kernel_rfl]
 refine aj.aV (K1 := 2) (brA 2 (by omega) n 0 E) (by omega) ?_
 refine aj.aV (K1 := 2) (brB 2 (by omega) n 0 E) (by omega) ?_
 refine aj.phantom 3 1 (dh (fun _ => [])) rfl (by omega) (by omega) ?_
 refine aj.dW (fl := [(0, ZA 0), (3, sL 2 0)]) (bl := [(0, ZN n), (1, ZF n E), (2, .cells true 1 0 (.fn (dh (fun _ => []))))]) (dJ rfl) (fG rfl) ?_
 refine aj.aV (K1 := 4) (F1 := [(3, sL 2 (BR E 0).length), (4, sL 3 n)]) (H1 := [(2, .cells true 1 (BR E 0).length (.fn (dh (aH (BR E 0))))), (3, ZD n E)]) (aj.toN (brC 2 (by omega) n 0 E (fun _ => []) (by omega) (by omega)) (dJ rfl) ⟨⟨_, rfl, ⟨rfl, rfl, rfl, fun j hj => absurd hj (Nat.not_lt_zero j)⟩⟩, ⟨_, rfl, ⟨rfl, rfl, rfl, fun j hj => by simp only [Cont.row, Nat.zero_add]⟩⟩, trivial⟩) (by omega) ?_
 refine aj.aV (K1 := 4) (F1 := [(3, sL 2 (BR E n).length)]) (H1 := [(2, ZB5 E n)]) ?_ (by omega) (brN 2 (by omega) (BR E n).length (aH (BR E n)))
 refine aj.aV (K1 := 4) (F1 := [(3, sL 2 (BR E 0).length), (4, sL 3 n), (5, Zc 0)]) (H1 := [(2, .cells true 1 (BR E 0).length (.fn (dh (aH (BR E 0))))), (3, ZD n E)]) (aj.toN (brD 2 (by omega) n 0 (BR E 0).length E (aH (BR E 0))) ⟨re rfl, re rfl, ⟨_, rfl, AV.ge.int _ _ _ _⟩, trivial⟩ (fG rfl)) (by omega) ?_
 refine aj.rounds n (fun i => [(3, sL 2 (BR E i).length), (4, sL 3 n), (5, iT ((i : Nat) : Int))]) (fun i => [(2, .cells true 1 (BR E i).length (.fn (dh (aH (BR E i))))), (3, ZD n E)]) (fun i hi => aaS n i E hi hn) ?_
 refine (brL 2 (by omega) n n 0 (BR E n).length E (aH (BR E n)) (fun h => absurd (of_decide_eq_true h) (by omega)) (fun h => absurd (of_decide_eq_true h) (by omega)) (fun h => absurd (of_decide_eq_true h) (by omega))).renG fun e fr' H' h => ?_
 rw [decide_eq_false (by omega), cond_false] at h
 obtain ⟨rfl, rfl, rfl⟩ := h
 exact ⟨id, [(3, sL 2 (BR E n).length)], [(2, ZB5 E n)], fun g hg => rfl, ⟨⟨_, rfl, AV.ge.refl _, rfl⟩, trivial⟩, ⟨fD rfl rfl (fun j _ => rfl) (fun j _ => rfl) (by omega), trivial⟩, fun i j _ _ h => h, rfl, rfl, rfl⟩
def l7 (s : Tx) (l : List Tx) : Int := (((pos s l).getD 0 : Nat) : Int)
noncomputable abbrev ZBS (v0 : List Tx) := ([(0, .cells false 1 v0.length (.fn (dh (aH v0))))] : tH)
theorem aaU (l : List Tx) (s : Tx) (hq : l.length ≤ 4294967296) :
  aj Try.prog (ak Try.f78) Try.f78.ntmps 1 1 1 (bJ [gU 0 l.length, .str true s] 0 .e) (hpL [(0, .cells false 1 l.length (.fn (dh (aH l))))]) fun e fr' H' => e = .ret ∧ fr' = aQ [(4, iT (l7 s l)), (5, .aP (pos s l).isSome)] ∧ H' = hpL [(0, .cells false 1 l.length (.fn (dh (aH l))))] := by
 rw [show (ak Try.f78) = .seq (aT [0] (ak Try.f78)) (.seq (.seq (aT [1,0,0] (ak Try.f78)) (.block 0 (.loop (aT [1,0,1,0,0] (ak Try.f78))))) (aT [1,1] (ak Try.f78))) by kernel_rfl]
 refine aj.aV (K1 := 1) (plA 1 (by omega) l.length (aH l) s) (by omega) ?_
 have hdone : ∀ j, j < l.length → aH l j = s → (∀ i, i < j → aH l i ≠ s) → l7 s l = (j : Int) ∧ (pos s l).isSome = true := fun j hj h1 h2 => by
  have e := pos_at hj h1 h2
  unfold l7
  rw [e]
  exact ⟨rfl, rfl⟩
 refine aj.seq (K1 := 1) (by omega) ?_
 refine (show aj Try.prog _ Try.f78.ntmps 1 1 1 _ _ (fun e fr' H' => (e = .ret ∧ fr' = aQ [(4, iT (l7 s l)), (5, .aP (pos s l).isSome)] ∧ H' = hpL [(0, .cells false 1 l.length (.fn (dh (aH l))))]) ∨ (e = .normal ∧ pos s l = none ∧ fr' = aQ [(0, gU 0 l.length), (1, .str true s)] ∧ H' = hpL [(0, .cells false 1 l.length (.fn (dh (aH l))))])) from ?_).mono fun e fr' H' h => ?_
 ·refine aj.aV (K1 := 1) (F1 := [(0, gU 0 l.length), (1, .str true s), (6, iT ((0 : Nat) : Int))]) (H1 := [(0, .cells false 1 l.length (.fn (dh (aH l))))]) (aj.toN (plB 1 (by omega) l.length (aH l) s) ⟨re rfl, re rfl, ⟨_, rfl, AV.ge.int _ _ _ _⟩, trivial⟩ ⟨hs rfl, trivial⟩) (by omega) ?_
  refine (aj.count l.length (fun j => [(0, gU 0 l.length), (1, .str true s), (6, iT ((j : Nat) : Int))]) (fun _ => [(0, .cells false 1 l.length (.fn (dh (aH l))))]) [(0, gU 0 l.length), (1, .str true s)] [(0, .cells false 1 l.length (.fn (dh (aH l))))] (fun j => ∀ i, i < j → aH l i ≠ s) (fun fr' H' => fr' = aQ [(4, iT (l7 s l)), (5, .aP (pos s l).isSome)] ∧ H' = hpL [(0, .cells false 1 l.length (.fn (dh (aH l))))]) (fun i hi => absurd hi (Nat.not_lt_zero i)) (fun j hj hI => ?_)).mono fun e fr' H' h => ?_
  ·have hB := plL 1 (by omega) j l.length (aH l) s (fun _ _ => by omega)
   refine hB.post fun e fr' H' h => ?_
   refine bD h (fun t h => ?_) (fun t h => ?_)
   ·have hlt : j < l.length := by have := of_decide_eq_true t; omega
    refine bD h (fun u h => ?_) (fun u h => ?_)
    ·obtain ⟨rfl, rfl, rfl⟩ := h
     rw [Nat.zero_add] at u
     obtain ⟨d1, d2⟩ := hdone j hlt (eq_of_beq u) hI
     exact ⟨[(4, iT (l7 s l)), (5, .aP (pos s l).isSome)], [(0, .cells false 1 l.length (.fn (dh (aH l))))], ⟨⟨_, rfl, AV.ge.int' _ _ _ d1.symm⟩, ⟨_, rfl, AV.ge.bool' d2.symm⟩, trivial⟩, ⟨hs rfl, trivial⟩, .inr (.inr ⟨rfl, rfl, rfl⟩)⟩
    ·obtain ⟨rfl, rfl, rfl⟩ := h
     rw [Nat.zero_add] at u
     refine ⟨[(0, gU 0 l.length), (1, .str true s), (6, iT (((j + 1) : Nat) : Int))], [(0, .cells false 1 l.length (.fn (dh (aH l))))], ⟨re rfl, re rfl, ⟨_, rfl, AV.ge.int' _ _ _ (by omega)⟩, trivial⟩, ⟨hs rfl, trivial⟩, .inl ⟨rfl, hlt, fun i hi => ?_, rfl, rfl⟩⟩
     by_cases c : i < j
     ·exact hI i c
     ·obtain rfl : i = j := by omega
      exact fun c => by rw [c, beq_self_eq_true] at u; cases u
   ·have e0 : j = l.length := by have := of_decide_eq_false t; omega
    obtain ⟨rfl, rfl, rfl⟩ := h
    exact ⟨[(0, gU 0 l.length), (1, .str true s)], [(0, .cells false 1 l.length (.fn (dh (aH l))))], (dJ rfl), ⟨hs rfl, trivial⟩, .inr (.inl ⟨rfl, e0 ▸ hI, rfl, rfl⟩)⟩
  ·rcases h with ⟨rfl, hI, rfl, rfl⟩ | ⟨rfl, rfl, rfl⟩
   ·exact .inr ⟨rfl, Pm hI, rfl, rfl⟩
   ·exact .inl ⟨rfl, rfl, rfl⟩
 ·rcases h with ⟨rfl, rfl, rfl⟩ | ⟨rfl, hp, rfl, rfl⟩
  ·exact ⟨rfl, rfl, rfl⟩
  ·refine (plN 1 (by omega) l.length (aH l) s).post fun e fr' H' h => ?_
   obtain ⟨rfl, rfl, rfl⟩ := h
   exact ⟨[(4, iT (l7 s l)), (5, .aP (pos s l).isSome)], [(0, .cells false 1 l.length (.fn (dh (aH l))))], ⟨⟨_, rfl, AV.ge.int' _ _ _ (by unfold l7; rw [hp]; rfl)⟩, ⟨_, rfl, AV.ge.bool' (by rw [hp]; rfl)⟩, trivial⟩, ⟨hs rfl, trivial⟩, rfl, rfl, rfl⟩


def WO : List AV → Tx
 | [.str _ l] => l
 | _ => []
def wQ (n : Nat) (f : Nat → List AV) : List Tx := (List.range n).map fun j => WO (f j)
theorem MX (n : Nat) (f : Nat → List AV) : (wQ n f).length = n := by unfold wQ; simp
theorem MZ {n j : Nat} (f : Nat → List AV) (h : j < n) : aH (wQ n f) j = WO (f j) := by
 unfold aH wQ
 rw [List.getD_eq_getElem?_getD, List.getElem?_map, List.getElem?_range h]
 rfl
theorem aaV {n : Nat} {L : List Tx} {f : Nat → List AV} (e : n = L.length) (h : ∀ j, j < n → f j = dh (aH L) j) : wQ n f = L := by
 refine List.ext_getElem (by rw [MX, e]) fun i h1 h2 => ?_
 have q := MZ f (show i < n by omega)
 rw [h i (by omega)] at q
 unfold aH at q
 rw [List.getD_eq_getElem?_getD, List.getElem?_eq_getElem h1] at q
 rw [show (wQ n f)[i] = WO (dh (aH L) i) from q]
 show aH L i = _
 unfold aH
 rw [List.getD_eq_getElem?_getD, List.getElem?_eq_getElem h2]
 rfl
noncomputable def JU : Tx → List Tx → Int := Classical.choose (⟨l7, rfl⟩ : ∃ f, f = l7)
theorem vM : JU = l7 := Classical.choose_spec (⟨l7, rfl⟩ : ∃ f, f = l7)
def jq (s : Tx) (l : List Tx) : Bool := (pos s l).isSome
noncomputable def Gl : Tx → List Tx → Bool := Classical.choose (⟨jq, rfl⟩ : ∃ f, f = jq)
theorem qQ : Gl = jq := Classical.choose_spec (⟨jq, rfl⟩ : ∃ f, f = jq)
noncomputable def jE : List Tx → Nat := Classical.choose (⟨List.length, rfl⟩ : ∃ f, f = (List.length : List Tx → Nat))
theorem Pn : jE = List.length := Classical.choose_spec (⟨List.length, rfl⟩ : ∃ f, f = (List.length : List Tx → Nat))
def PTX (n : Nat) (f : Nat → List AV) : Prop := n ≤ 4294967296 ∧ ∀ j, j < n → gy (f j) [.str true (WO (f j))]
noncomputable def plS : List AV → M AV
 | [x, .str _ s] => (rd 1 x PTX).andThen fun y => M.ret (.iD [iT (JU s (wQ y.1 y.2)), .aP (Gl s (wQ y.1 y.2))])
 | _ => M.no
theorem Ru : ∀ args, aC (plS args) := by
 intro args
 unfold plS
 split
 ·exact (aC.rd _ _ _).andThen fun _ => aC.ret _
 ·exact aC.no
theorem WQ : ∀ args v g g', plS args g = .done v g' → bf Try.prog 78 args v g g' := by
 intro args v g g' h
 unfold plS at h
 split at h
 case h_2 => exact (aY h).elim
 rename_i x _ s
 obtain ⟨⟨n, f⟩, g1, a1, h1⟩ := au h
 clear h
 obtain ⟨qv, kv, fv⟩ := Cm a1 (by omega)
 dsimp only at h1 fv
 obtain ⟨rfl, rfl⟩ := aA h1
 refine Ak (c := (ak Try.f78)) Try.func78 (by kernel_rfl) (by kernel_rfl) kv [⟨x, 1, n, f⟩] (fun hp v hv => by rw [List.mem_singleton.1 hv]; exact (fv hp).1) (dY := [gU 0 n, .str true s]) (fun hp N μ cs hcs => by
  simp only [aI] at hcs ⊢
  obtain ⟨c, r, rfl, hc, c2, r2, rfl, hc2, rfl⟩ := hcs
  exact ⟨c, _, rfl, Ag (l := [⟨x, 1, n, f⟩]) (fv hp).1 rfl hc, c2, _, rfl, by simpa only [Rep] using hc2, rfl⟩) (nms := []) (bs := []) (K' := 1) (fun hp => ?_) ?_ ?_ (show g1.H = g.H from kv.1) (show g1.nx = g.nx from kv.2.1) id
 ·obtain ⟨_, hn, hr⟩ := fv hp
  have hl := MX n f
  have hg := aaU (wQ n f) s (by rw [hl]; exact hn)
  rw [hl] at hg
  have hg2 := aj.LG (qp := bJ [gU 0 n, .str true s] 0 .e) (fr := bJ [gU 0 n, .str true s] 0 .e) (H0 := hpL [(0, .cells false 1 n (.fn (dh (aH (wQ n f)))))]) (H := hpL [(0, .cells false 1 n (.fn f))]) (fun t v ht => ⟨v, ht, AV.ge.refl _⟩) (fun i b hb => by
   have hm := bC hb
   simp only [List.mem_cons, List.not_mem_nil, or_false] at hm
   cases hm
   exact ⟨_, rfl, rfl, rfl, rfl, fun j hj => by show gy (f j) [.str true (aH (wQ n f) j)]; rw [MZ f hj]; exact hr j hj⟩) hg
  refine hg2.mono fun e fr' H' h => ?_
  obtain ⟨rfl, rfl, rfl⟩ := h
  refine ⟨.inl rfl, [iT (l7 s (wQ n f)), .aP (pos s (wQ n f)).isSome], _, rfl, trivial, ?_, rfl, fun i b hb => (by cases hb), List.nodup_nil⟩
  rw [vM, qQ]
  exact AV.ge.ac3 (AV.ge.refl _) (AV.ge.refl _)
 ·simp [AV.low, jw]
 ·simp [AV.ji, jg]
noncomputable def TJ : List AV → M AV
 | [.ptr a] => (M.dn (kT a)).andThen fun _ => (Gj a.g).andThen fun y => newS 1 (jE (ND y.2 y.1.n)) (dh (aH (ND y.2 y.1.n)))
 | _ => M.no
theorem Na : ∀ args, aC (TJ args) := by
 intro args
 unfold TJ
 split
 ·exact (aC.dn _).andThen fun _ => (qg _).andThen fun _ => aC.newS _ _ _
 ·exact aC.no
theorem Rw : ∀ args v g g', TJ args g = .done v g' → bf Try.prog 51 args v g g' := by
 intro args v g g' h
 unfold TJ at h
 simp only [Pn] at h
 split at h
 case h_2 => exact (aY h).elim
 rename_i a
 obtain ⟨_, g0, a0, h0⟩ := au h
 clear h
 obtain ⟨q0, rfl⟩ := aU a0
 obtain ⟨⟨w, E⟩, g1, a1, h1⟩ := au h0
 obtain ⟨qv, kv, fv⟩ := ni a1
 dsimp only at h1 fv
 obtain ⟨rfl, e1, e2, e3⟩ := oZ h1
 rw [kv.1, kv.2.1] at e1
 rw [kv.2.1] at e2 ⊢
 have hc : g'.cs → g.cs ∧ qv := fun hc => kv.2.2 (by rw [← e3]; exact hc)
 refine nK (c := (ak Try.f51)) Try.func51 (by kernel_rfl) (by kernel_rfl) (dY := [ZA 0]) (p := qv) hc fv (K' := 4) (fun hp M μ cs hcs => ?_) (bs := [.cells true 1 (ND E w.n).length (.fn (dh (aH (ND E w.n))))]) (nms := [2]) rfl (by simp) (by simp) e1 (by rw [e2]; rfl) (fun b hb => ?_) ?_ ?_ (fun hp => ?_)
 ·simp only [aI] at hcs ⊢
  obtain ⟨v1, r1, rfl, i1, rfl⟩ := hcs
  exact ⟨v1, _, rfl, jS i1 (dX q0).1 (dX q0).2 (by omega) rfl, rfl⟩
 ·rw [List.mem_singleton.1 hb]
  exact ⟨rfl, fun K j hj v hv => by rw [List.mem_singleton.1 hv]; rfl, fun S j hj o v hv => by
   match o, hv with
   | 0, hv => cases hv; trivial⟩
 ·exact Nat.ble_eq_true_of_le (show Nat.succ g.nx ≤ g.nx + 1 by omega)
 ·exact ⟨Nat.le_refl _, Nat.lt_succ_self _⟩
 ·refine (aaR w.n E (fv hp).n256).mono fun e fr' H' h => ?_
  obtain ⟨rfl, rfl, rfl⟩ := h
  refine ⟨.inl rfl, [sL 2 (ND E w.n).length], _, rfl, trivial, ?_, fun j b hb => ?_⟩
  ·simp only [AV.ren, AA.ren, mZ]
   exact AV.ge.refl _
  ·match j, hb with
   | 0, hb => cases hb; exact ⟨_, rfl, ⟨rfl, rfl, rfl, fun j hj => rfl⟩⟩
noncomputable def TK : List AV → M AV
 | [.ptr a] => (M.dn (kT a)).andThen fun _ => (Gj a.g).andThen fun y => newS 1 (jE (BR y.2 y.1.n)) (dh (aH (BR y.2 y.1.n)))
 | _ => M.no
theorem Nb : ∀ args, aC (TK args) := by
 intro args
 unfold TK
 split
 ·exact (aC.dn _).andThen fun _ => (qg _).andThen fun _ => aC.newS _ _ _
 ·exact aC.no
theorem Rx : ∀ args v g g', TK args g = .done v g' → bf Try.prog 76 args v g g' := by
 intro args v g g' h
 unfold TK at h
 simp only [Pn] at h
 split at h
 case h_2 => exact (aY h).elim
 rename_i a
 obtain ⟨_, g0, a0, h0⟩ := au h
 clear h
 obtain ⟨q0, rfl⟩ := aU a0
 obtain ⟨⟨w, E⟩, g1, a1, h1⟩ := au h0
 obtain ⟨qv, kv, fv⟩ := ni a1
 dsimp only at h1 fv
 obtain ⟨rfl, e1, e2, e3⟩ := oZ h1
 rw [kv.1, kv.2.1] at e1
 rw [kv.2.1] at e2 ⊢
 have hc : g'.cs → g.cs ∧ qv := fun hc => kv.2.2 (by rw [← e3]; exact hc)
 refine nK (c := (ak Try.f76)) Try.func76 (by kernel_rfl) (by kernel_rfl) (dY := [ZA 0]) (p := qv) hc fv (K' := 4) (fun hp M μ cs hcs => ?_) (bs := [.cells true 1 (BR E w.n).length (.fn (dh (aH (BR E w.n))))]) (nms := [2]) rfl (by simp) (by simp) e1 (by rw [e2]; rfl) (fun b hb => ?_) ?_ ?_ (fun hp => ?_)
 ·simp only [aI] at hcs ⊢
  obtain ⟨v1, r1, rfl, i1, rfl⟩ := hcs
  exact ⟨v1, _, rfl, jS i1 (dX q0).1 (dX q0).2 (by omega) rfl, rfl⟩
 ·rw [List.mem_singleton.1 hb]
  exact ⟨rfl, fun K j hj v hv => by rw [List.mem_singleton.1 hv]; rfl, fun S j hj o v hv => by
   match o, hv with
   | 0, hv => cases hv; trivial⟩
 ·exact Nat.ble_eq_true_of_le (show Nat.succ g.nx ≤ g.nx + 1 by omega)
 ·exact ⟨Nat.le_refl _, Nat.lt_succ_self _⟩
 ·refine (aaT w.n E (fv hp).n256).mono fun e fr' H' h => ?_
  obtain ⟨rfl, rfl, rfl⟩ := h
  refine ⟨.inl rfl, [sL 2 (BR E w.n).length], _, rfl, trivial, ?_, fun j b hb => ?_⟩
  ·simp only [AV.ren, AA.ren, mZ]
   exact AV.ge.refl _
  ·match j, hb with
   | 0, hb => cases hb; exact ⟨_, rfl, ⟨rfl, rfl, rfl, fun j hj => rfl⟩⟩
noncomputable def WR : Known := kc 78 plS (kc 51 TJ (kc 76 TK (kn)))
theorem Nc : eY Try.prog WR := aO WQ (aO Rw (aO Rx (mJ)))
theorem H7 : gG WR := aG Ru (aG Na (aG Nb (jH)))
noncomputable def JV : Calls' := Sx.runN Try.prog WR (bY Try.prog) 1000 50
theorem TL : cO Try.prog JV := gK Nc H7 (by kernel_rfl) (by kernel_rfl) 1000 50
theorem Pq (n : Nat) : gq Try.prog (bY Try.prog JV n) n := gQ Nc H7 (by kernel_rfl) (by kernel_rfl) 1000 50 n
noncomputable abbrev BM (f : Func) (c : Code) (fr : Fr) (H : T aF) (K : Nat) (path : List Bool) : BU (Ex × Fr) :=
 cu Try.prog JV (bY Try.prog JV f.ntmps) lQ f.ntmps 1000 c fr ⟨H, K, [], path, True⟩


theorem aiJ {fn : Func} {K K' B : Nat} {e : Ex} {F : tF} {Hl : tH} {c : Code} {fr : Fr} {H : T aF} {path : List Bool} (h : bV K' e F Hl (BM fn c fr H K path)) (hB : B ≤ K) : aj Try.prog c fn.ntmps B K K' fr H fun e' fr' H' => e' = e ∧ fr' = aQ F ∧ H' = hpL Hl := aj.runN TL (Pq _) (iI.none _ _ _) h hB
theorem JW {fn : Func} {K K' B : Nat} {e : Ex} {F : tF} {Hl : tH} {c : Code} {fr : Fr} {H : T aF} (path : List Bool) {q : Prop} (hq : q) (hB : B ≤ K) (h : jP K' e F Hl (BM fn c fr H K path) = (e = e ∧ uh F ∧ uj Hl ∧ true = true ∧ q) := by kernel_rfl) : aj Try.prog c fn.ntmps B K K' fr H fun e' fr' H' => e' = e ∧ fr' = aQ F ∧ H' = hpL Hl := aiJ (eqn h hq) hB
noncomputable abbrev ZE5 (v0 : Tx) (w0) := bJ [ZA w0, .str true v0] 0 .e
theorem ppA (B : Nat) (hB : B ≤ 2) (n : Nat) (E : tE) (s : Tx) (x0 : (Rn n n (Cont.row (.fn fun j => bI (E j))))) (x1 : (0 + jE (ND E n) ≤ jE (ND E n))) (x2 : (jE (ND E n) ≤ 4294967296)) (x3 : (∀ (j : Nat), j < jE (ND E n) → gy (dh (aH (ND E n)) (0 + j)) [.str true (WO (dh (aH (ND E n)) (0 + j)))])) (x4 : (∀ (j : Nat), j < jE (ND E n) → ∀ (u : AV), u ∈ dh (aH (ND E n)) (0 + j) → AV.low 0 u = true)) : aj Try.prog ((ak Try.f56)) Try.f56.ntmps B 2 3 (ZE5 s 0) (ZEi n E) (pP .ret [(4, iT (JU s (wQ (jE (ND E n)) (rowsOf ⟨false, 2, 0, 0⟩ 1 1 (.fn (dh (aH (ND E n)))))))), (5, .aP (Gl s (wQ (jE (ND E n)) (rowsOf ⟨false, 2, 0, 0⟩ 1 1 (.fn (dh (aH (ND E n))))))))] [(0, Zx n)]) := JW [] (I3 x0 x1 (ai (ai x2 x3) x4)) hB
theorem oaA (B : Nat) (hB : B ≤ 2) (n : Nat) (E : tE) (x0 : (Rn n n (Cont.row (.fn fun j => bI (E j))))) (x1 : (-9223372036854775808 ≤ (↑(jE (ND E n)) : Int) + (↑(jE (BR E n)) : Int))) (x2 : ((↑(jE (ND E n)) : Int) + (↑(jE (BR E n)) : Int) ≤ 9223372036854775807)) : aj Try.prog ((ak Try.f52)) Try.f52.ntmps B 2 4 ZEs (ZEi n E) (pP .ret [(2, iT ((↑(jE (ND E n)) : Int) + (↑(jE (BR E n)) : Int)))] [(0, Zx n)]) := JW [] (I3 x0 x0 (ai x1 x2)) hB
theorem oU (l : List Tx) : jE l = l.length := by rw [Pn]
theorem aaW (g n : Nat) (L : List Tx) (e : n = L.length) : wQ n (rowsOf ⟨false, g, 0, 0⟩ 1 1 (.fn (dh (aH L)))) = L := aaV e fun j hj => by
 show dh (aH L) (0 + j) = _
 rw [Nat.zero_add]
theorem xk (E : tE) (n : Nat) (hn : n ≤ 256) : (ND E n).length ≤ 1024 := by have := Jz E n; omega
theorem aaX (n : Nat) (E : tE) (s : Tx) (hn : n ≤ 256) (hv : ∀ j, j < n → (E j).v < 18446744073709551616) : aj Try.prog (ak Try.f56) Try.f56.ntmps 2 2 3 (ZE5 s 0) (hpL (AO n E)) fun e fr' H' => e = .ret ∧ fr' = aQ [(4, iT (JU s (ND E n))), (5, .aP (Gl s (ND E n)))] ∧ H' = hpL [(0, ZN n)] := by
 have hb := xk E n hn
 have e1 : jE (ND E n) = (ND E n).length := oU _
 refine (ppA 2 (by omega) n E s ⟨hn, rfl, fun j _ => ay _ rfl, hv⟩ (show 0 + jE (ND E n) ≤ jE (ND E n) by omega) (show jE (ND E n) ≤ 4294967296 by omega) (fun j hj => ⟨AV.ge.refl _, rfl, trivial⟩) (fun j hj u hu => by rw [List.mem_singleton.1 hu]; rfl)).mono fun e fr' H' h => ?_
 rw [aaW 2 (jE (ND E n)) (ND E n) e1] at h
 exact h
theorem aaY (n : Nat) (E : tE) (hn : n ≤ 256) (hv : ∀ j, j < n → (E j).v < 18446744073709551616) : aj Try.prog (ak Try.f52) Try.f52.ntmps 2 2 4 ZEs (hpL (AO n E)) fun e fr' H' => e = .ret ∧ fr' = aQ [(2, iT ((jE (ND E n) : Int) + (jE (BR E n) : Int)))] ∧ H' = hpL [(0, ZN n)] := by
 have hb := xk E n hn
 have hc := mV E n
 have e1 : jE (ND E n) = (ND E n).length := oU _
 have e2 : jE (BR E n) = (BR E n).length := oU _
 exact (oaA 2 (by omega) n E ⟨hn, rfl, fun j _ => ay _ rfl, hv⟩ (by omega) (by omega)).mono fun e fr' H' h => h
noncomputable def WS : List AV → M AV
 | [.ptr a, .str _ s] => (M.dn (kT a)).andThen fun _ => (Gj a.g).andThen fun y => M.ret (.iD [iT (JU s (ND y.2 y.1.n)), .aP (Gl s (ND y.2 y.1.n))])
 | _ => M.no
theorem WT : ∀ args, aC (WS args) := by
 intro args
 unfold WS
 split
 ·exact (aC.dn _).andThen fun _ => (qg _).andThen fun _ => aC.ret _
 ·exact aC.no
theorem aaZ : ∀ args v g g', WS args g = .done v g' → bf Try.prog 56 args v g g' := by
 intro args v g g' h
 unfold WS at h
 split at h
 case h_2 => exact (aY h).elim
 rename_i a _ s
 obtain ⟨_, g0, a0, h0⟩ := au h
 clear h
 obtain ⟨q0, rfl⟩ := aU a0
 obtain ⟨⟨w, E⟩, g1, a1, h1⟩ := au h0
 obtain ⟨qv, kv, fv⟩ := ni a1
 dsimp only at h1 fv
 obtain ⟨rfl, rfl⟩ := aA h1
 refine nK (c := (ak Try.f56)) Try.func56 (by kernel_rfl) (by kernel_rfl) (dY := [ZA 0, .str true s]) (p := qv) kv.2.2 fv (K' := 3) (fun hp M μ cs hcs => ?_) (bs := []) (nms := []) rfl (by simp) (by simp) (show g1.H = g.H from kv.1) (show g1.nx = g.nx from kv.2.1) (fun b hb => (by cases hb)) (by simp [AV.low, jw]) (by simp [AV.ji, jg]) (fun hp => ?_)
 ·simp only [aI] at hcs ⊢
  obtain ⟨v1, r1, rfl, i1, v2, r2, rfl, i2, rfl⟩ := hcs
  exact ⟨v1, _, rfl, jS i1 (dX q0).1 (dX q0).2 (by omega) rfl, v2, _, rfl, by simpa only [Rep] using i2, rfl⟩
 ·refine (aaX w.n E s (fv hp).n256 (fv hp).v64).mono fun e fr' H' h => ?_
  obtain ⟨rfl, rfl, rfl⟩ := h
  exact ⟨.inl rfl, [iT (JU s (ND E w.n)), .aP (Gl s (ND E w.n))], _, rfl, trivial, AV.ge.refl _, fun j b hb => (by cases hb)⟩
noncomputable def WU : List AV → M AV
 | [.ptr a] => (M.dn (kT a)).andThen fun _ => (Gj a.g).andThen fun y => M.ret (iT ((jE (ND y.2 y.1.n) : Int) + (jE (BR y.2 y.1.n) : Int)))
 | _ => M.no
theorem WV : ∀ args, aC (WU args) := by
 intro args
 unfold WU
 split
 ·exact (aC.dn _).andThen fun _ => (qg _).andThen fun _ => aC.ret _
 ·exact aC.no
theorem aa0 : ∀ args v g g', WU args g = .done v g' → bf Try.prog 52 args v g g' := by
 intro args v g g' h
 unfold WU at h
 split at h
 case h_2 => exact (aY h).elim
 rename_i a
 obtain ⟨_, g0, a0, h0⟩ := au h
 clear h
 obtain ⟨q0, rfl⟩ := aU a0
 obtain ⟨⟨w, E⟩, g1, a1, h1⟩ := au h0
 obtain ⟨qv, kv, fv⟩ := ni a1
 dsimp only at h1 fv
 obtain ⟨rfl, rfl⟩ := aA h1
 refine nK (c := (ak Try.f52)) Try.func52 (by kernel_rfl) (by kernel_rfl) (dY := [ZA 0]) (p := qv) kv.2.2 fv (K' := 4) (fun hp M μ cs hcs => ?_) (bs := []) (nms := []) rfl (by simp) (by simp) (show g1.H = g.H from kv.1) (show g1.nx = g.nx from kv.2.1) (fun b hb => (by cases hb)) (by simp [AV.low, jw]) (by simp [AV.ji, jg]) (fun hp => ?_)
 ·simp only [aI] at hcs ⊢
  obtain ⟨v1, r1, rfl, i1, rfl⟩ := hcs
  exact ⟨v1, _, rfl, jS i1 (dX q0).1 (dX q0).2 (by omega) rfl, rfl⟩
 ·refine (aaY w.n E (fv hp).n256 (fv hp).v64).mono fun e fr' H' h => ?_
  obtain ⟨rfl, rfl, rfl⟩ := h
  exact ⟨.inl rfl, [iT ((jE (ND E w.n) : Int) + (jE (BR E w.n) : Int))], _, rfl, trivial, AV.ge.refl _, fun j b hb => (by cases hb)⟩


/-- the zero element's row -/
noncomputable def zeR : List AV := [AV.int false .u8 0, .str false [], .str false [], .str false [], .str false [], .str false [], .flt false 0, ZC 0]


noncomputable abbrev ZDD := (.int false .u8 0 : AV)
noncomputable abbrev ZEA := (.cells true 8 1 (.lit [] (.n .e (some [ZDD, .str false [], .str false [], .str false [], .str false [], .str false [], .flt false 0, ZC 0]) .e)) : aF)
theorem fdA (B : Nat) (hB : B ≤ 2) (n : Nat) (E : tE) (s : Tx) : aj Try.prog ((aT [0] (ak Try.f60))) Try.f60.ntmps B 2 3 (ZE5 s 0) (ZEi n E) (pP .normal [(0, ZA 0), (1, .str true s), (4, ZA 2)] [(0, Zx n), (1, Zn n E), (2, ZEA)]) := JW [] trivial hB
noncomputable abbrev Ry := (.cells true 8 1 (.fn fun _ => zeR) : aF)
noncomputable abbrev ZDs := (.cells true 8 1 (.fn fun x => [ZDD, .str false [], .str false [], .str false [], .str false [], .str false [], .flt false 0, ZC 0]) : aF)
noncomputable abbrev ZEc (v0 : Tx) (v1 : Nat) := ([(1, .str true v0), (4, ZA 2), (6, sL 3 v1)] : tF)
theorem fdB (B : Nat) (hB : B ≤ 3) (n : Nat) (E : tE) (s : Tx) (x0 : (n * 104 ≤ 140737488355328)) (x1 : (n ≤ 9223372036854775807)) : aj Try.prog ((aT [1,0] (ak Try.f60))) Try.f60.ntmps B 3 4 (aQ [(0, ZA 0), (1, .str true s), (4, ZA 2)]) (hpL [(0, ZN n), (1, ZF n E), (2, Ry)]) (pP .normal (ZEc s n) [(2, ZDs), (3, ZCe n E)]) := JW [] (I2 (show 0 + n ≤ n by omega) (ai x0 x1)) hB
theorem fdC (B : Nat) (hB : B ≤ 4) (n : Nat) (E : tE) (s : Tx) : aj Try.prog ((aT [1,1,0,0] (ak Try.f60))) Try.f60.ntmps B 4 4 (aQ (ZEc s n)) (hpL [(2, Ry), (3, ZD n E)]) (pP .normal [(1, .str true s), (4, ZA 2), (6, sL 3 n), (7, ZC 0)] [(2, ZDs), (3, Zg n E)]) := JW [] trivial hB
theorem fdL (B : Nat) (hB : B ≤ 4) (n i : Nat) (E : tE) (s : Tx) (x0 : ((decide ((↑i : Int) < (↑n : Int))) = true → ((El.n (E (0 + i)) == s) = false → ((↑i : Int) + 1 ≤ (9223372036854775807 : Int))))) : aj Try.prog ((aT [1,1,0,1,0,0] (ak Try.f60))) Try.f60.ntmps B 4 5 (aQ [(1, .str true s), (4, ZA 2), (6, sL 3 n), (7, ZS i)]) (hpL [(2, Ry), (3, ZD n E)]) fun e fr' H' => (cond (decide ((↑i : Int) < (↑n : Int))) (cond (El.n (E (0 + i)) == s) (pP .ret [(1, .str true s), (4, ZA 2), (5, .bool true), (6, sL 3 n), (7, iT (↑i : Int))] [(2, .cells true 8 1 (.fn fun j => bif Nat.beq j 0 then (bI (E (0 + i))) else [ZDD, .str false [], .str false [], .str false [], .str false [], .str false [], .flt false 0, ZC 0])), (3, Zg n E)] e fr' H') (pP .normal [(1, .str true s), (4, ZA 2), (6, sL 3 n), (7, Ap i)] [(2, ZDs), (3, Zg n E)] e fr' H')) (pP (.exit 0) [(1, .str true s), (4, ZA 2), (6, sL 3 n), (7, iT (↑i : Int))] [(2, ZDs), (3, Zg n E)] e fr' H')) := cD (fun q0 t0 => cI (fun t1 => JW [tT, tT] (I7 t0 (ai (show 0 ≤ (↑i : Int) by omega) (show (↑i : Int) < (↑n : Int) by omega)) (show 0 + i < n by omega) t1 (ai (show 0 ≤ (↑i : Int) by omega) (show (↑i : Int) < (↑n : Int) by omega)) (show 0 + i < n by omega) (show 8 ≤ 8 by omega)) hB) (fun t1 => JW [tT, fF] (I5 t0 (ai (show 0 ≤ (↑i : Int) by omega) (show (↑i : Int) < (↑n : Int) by omega)) (show 0 + i < n by omega) t1 (ai (show -9223372036854775808 ≤ (↑i : Int) + 1 by omega) (x0 t0 t1))) hB)) (fun q0 t0 => JW [fF] (I1 t0) hB)
theorem fdZ (B : Nat) (hB : B ≤ 4) (n : Nat) (E : tE) (s : Tx) : aj Try.prog ((aT [1,1,1] (ak Try.f60))) Try.f60.ntmps B 4 5 (aQ (ZEc s n)) (hpL [(2, Ry), (3, ZD n E)]) (pP .ret [(4, ZA 2), (5, .bool false)] [(2, .cells true 8 1 (.fn fun j => bif Nat.beq j 0 then [ZDD, .str false [], .str false [], .str false [], .str false [], .str false [], .flt false 0, ZC 0] else [ZDD, .str false [], .str false [], .str false [], .str false [], .str false [], .flt false 0, ZC 0]))]) := JW [] trivial hB
theorem Rz (n : Nat) (E : tE) (s : Tx) (hn : n ≤ 256) : aj Try.prog (ak Try.f60) Try.f60.ntmps 2 2 5 (ZE5 s 0) (hpL (AO n E)) (fun e fr' H' => e = .ret ∧ ((∃ i, pos s (NM E n) = some i ∧ fr' = aQ [(4, ZA 2), (5, .bool true)] ∧ H' = hpL [(2, .cells true 8 1 (.fn fun _ => bI (E i)))]) ∨ (pos s (NM E n) = none ∧ fr' = aQ [(4, ZA 2), (5, .bool false)] ∧ H' = hpL [(2, Ry)]))) := by
 rw [show (ak Try.f60) = .seq (aT [0] (ak Try.f60)) (.seq (aT [1,0] (ak Try.f60)) (.seq (.seq (aT [1,1,0,0] (ak Try.f60)) (.block 0 (.loop (aT [1,1,0,1,0,0] (ak Try.f60))))) (aT [1,1,1] (ak Try.f60)))) by kernel_rfl]
 have hl := yj E n
 refine aj.aV (K1 := 3) (F1 := [(0, ZA 0), (1, .str true s), (4, ZA 2)]) (H1 := [(0, ZN n), (1, ZF n E), (2, Ry)]) (aj.toN (fdA 2 (by omega) n E s) (dJ rfl) ⟨hs rfl, hs rfl, jI rfl rfl, trivial⟩) (by omega) ?_
 refine aj.aV (K1 := 4) (F1 := (ZEc s n)) (H1 := [(2, Ry), (3, ZD n E)]) (aj.toN (fdB 2 (by omega) n E s (by omega) (by omega)) (dJ rfl) ⟨hs rfl, ⟨_, rfl, ⟨rfl, rfl, rfl, fun j hj => by simp only [Cont.row, Nat.zero_add]⟩⟩, trivial⟩) (by omega) ?_
 refine aj.seq (K1 := 4) (by omega) ?_
 refine (show aj Try.prog _ Try.f60.ntmps 2 4 4 _ _ (fun e fr' H' => (e = .ret ∧ ∃ i, pos s (NM E n) = some i ∧ fr' = aQ [(4, ZA 2), (5, .bool true)] ∧ H' = hpL [(2, .cells true 8 1 (.fn fun _ => bI (E i)))]) ∨ (e = .normal ∧ pos s (NM E n) = none ∧ fr' = aQ (ZEc s n) ∧ H' = hpL [(2, Ry), (3, ZD n E)])) from ?_).mono fun e fr' H' h => ?_
 ·refine aj.aV (K1 := 4) (F1 := [(1, .str true s), (4, ZA 2), (6, sL 3 n), (7, Zc 0)]) (H1 := [(2, Ry), (3, ZD n E)]) (aj.toN (fdC 2 (by omega) n E s) ⟨re rfl, re rfl, re rfl, ⟨_, rfl, AV.ge.int _ _ _ _⟩, trivial⟩ (fG rfl)) (by omega) ?_
  refine (aj.count n (fun i => [(1, .str true s), (4, ZA 2), (6, sL 3 n), (7, iT ((i : Nat) : Int))]) (fun _ => [(2, Ry), (3, ZD n E)]) (ZEc s n) [(2, Ry), (3, ZD n E)] (fun i => ∀ j, j < i → (E j).n ≠ s) (fun fr' H' => ∃ i, pos s (NM E n) = some i ∧ fr' = aQ [(4, ZA 2), (5, .bool true)] ∧ H' = hpL [(2, .cells true 8 1 (.fn fun _ => bI (E i)))]) (fun i hi => absurd hi (Nat.not_lt_zero i)) (fun i hi hI => ?_)).mono fun e fr' H' h => ?_
  ·refine (show aj Try.prog (aT [1,1,0,1,0,0] (ak Try.f60)) Try.f60.ntmps 2 4 5 _ _ _ from fdL 2 (by omega) n i E s (fun _ _ => by omega)).renG fun e fr' H' h => ?_
   refine bD h (fun t h => ?_) (fun t h => ?_)
   ·have hlt : i < n := by have := of_decide_eq_true t; omega
    refine bD h (fun u h => ?_) (fun u h => ?_)
    ·obtain ⟨rfl, rfl, rfl⟩ := h
     rw [Nat.zero_add] at u
     have hp : pos s (NM E n) = some i := pos_at (by omega) (by show (NM E n).getD i [] = s; rw [AB E hlt]; exact eq_of_beq u) fun j hj => by show (NM E n).getD j [] ≠ s; rw [AB E (by omega)]; exact hI j hj
     refine ⟨id, [(4, ZA 2), (5, .bool true)], [(2, .cells true 8 1 (.fn fun _ => bI (E i)))], fun g hg => rfl, (vk rfl), ⟨jk rfl (by show bI (E (0 + i)) = bI (E i); rw [Nat.zero_add]) rfl (by omega), trivial⟩, fun i j _ _ h => h, .inr (.inr ⟨rfl, i, hp, rfl, rfl⟩)⟩
    ·obtain ⟨rfl, rfl, rfl⟩ := h
     rw [Nat.zero_add] at u
     refine ⟨id, [(1, .str true s), (4, ZA 2), (6, sL 3 n), (7, iT (((i + 1) : Nat) : Int))], [(2, Ry), (3, ZD n E)], fun g hg => rfl, ⟨⟨_, rfl, AV.ge.refl _, rfl⟩, ⟨_, rfl, AV.ge.refl _, rfl⟩, ⟨_, rfl, AV.ge.refl _, rfl⟩, ⟨_, rfl, AV.ge.int' _ _ _ (by omega), rfl⟩, trivial⟩, ⟨fD rfl rfl (fun j _ => rfl) (fun j _ => rfl) (by omega), fD rfl rfl (fun j _ => rfl) (fun j _ => rfl) (by omega), trivial⟩, fun i j _ _ h => h, .inl ⟨rfl, hlt, fun j hj => ?_, rfl, rfl⟩⟩
     by_cases c : j < i
     ·exact hI j c
     ·obtain rfl : j = i := by omega
      exact fun c => by rw [c, beq_self_eq_true] at u; cases u
   ·have e0 : i = n := by have := of_decide_eq_false t; omega
    obtain ⟨rfl, rfl, rfl⟩ := h
    exact ⟨id, (ZEc s n), [(2, Ry), (3, ZD n E)], fun g hg => rfl, (vk rfl), ⟨fD rfl rfl (fun j _ => rfl) (fun j _ => rfl) (by omega), fD rfl rfl (fun j _ => rfl) (fun j _ => rfl) (by omega), trivial⟩, fun i j _ _ h => h, .inr (.inl ⟨rfl, e0 ▸ hI, rfl, rfl⟩)⟩
  ·rcases h with ⟨rfl, hI, rfl, rfl⟩ | ⟨rfl, hx⟩
   ·exact .inr ⟨rfl, Pm (fun i hi => by show (NM E n).getD i [] ≠ s; rw [AB E (by omega)]; exact hI i (by omega)), rfl, rfl⟩
   ·exact .inl ⟨rfl, hx⟩
 ·rcases h with ⟨rfl, hx⟩ | ⟨rfl, hp, rfl, rfl⟩
  ·exact ⟨rfl, .inl hx⟩
  ·refine (fdZ 2 (by omega) n E s).post fun e fr' H' h => ?_
   obtain ⟨rfl, rfl, rfl⟩ := h
   exact ⟨[(4, ZA 2), (5, .bool false)], [(2, Ry)], (dJ rfl), ⟨⟨_, rfl, ⟨rfl, rfl, rfl, zO (p := fun j => _ = _) rfl⟩⟩, trivial⟩, rfl, .inr ⟨hp, rfl, rfl⟩⟩


def jF (s : Tx) (l : List Tx) : Nat := (pos s l).getD 0
noncomputable def WW : Tx → List Tx → Nat := Classical.choose (⟨jF, rfl⟩ : ∃ f, f = jF)
theorem vN : WW = jF := Classical.choose_spec (⟨jF, rfl⟩ : ∃ f, f = jF)
noncomputable def WX : List AV → M AV
 | [.ptr a, .str _ s] => (M.dn (kT a)).andThen fun _ => (Gj a.g).andThen fun y => (M.dec (Gl s (NM y.2 y.1.n))).andThen fun d => bif d then M.ret (.iD [.agg (bI (y.2 (WW s (NM y.2 y.1.n)))), .bool true]) else M.ret (.iD [.agg zeR, .bool false])
 | _ => M.no
theorem WY : ∀ args, aC (WX args) := by
 intro args
 unfold WX
 split
 ·exact (aC.dn _).andThen fun _ => (qg _).andThen fun _ => (aC.dec _).andThen fun d => aC.cond (aC.ret _) (aC.ret _)
 ·exact aC.no
theorem aa1 : ∀ args v g g', WX args g = .done v g' → bf Try.prog 60 args v g g' := by
 intro args v g g' h
 unfold WX at h
 split at h
 case h_2 => exact (aY h).elim
 rename_i a sb s
 obtain ⟨_, g0, a0, h0⟩ := au h
 clear h
 obtain ⟨q0, rfl⟩ := aU a0
 obtain ⟨⟨w, E⟩, g1, a1, h1⟩ := au h0
 obtain ⟨qv, kv, fv⟩ := ni a1
 dsimp only at h1 fv
 obtain ⟨d, g2, a2, h2⟩ := au h1
 have kk := kv.trans (jc a2)
 have hA : ∀ M μ (cs : List Value), aI M μ [.ptr a, .str sb s] cs → aI 2 (μ.via (H6 a.g w)) [uz false 0, .str true s] cs := fun M μ cs hcs => by
  simp only [aI] at hcs ⊢
  obtain ⟨v1, r1, rfl, i1, v2, r2, rfl, i2, rfl⟩ := hcs
  exact ⟨v1, _, rfl, jS i1 (dX q0).1 (dX q0).2 (by omega) rfl, v2, _, rfl, by simpa only [Rep] using i2, rfl⟩
 cases d with
 | true =>
  rw [cond_true] at h2
  obtain ⟨rfl, rfl⟩ := aA h2
  refine nK (c := (ak Try.f60)) Try.func60 (by kernel_rfl) (by kernel_rfl) (dY := [uz false 0, .str true s]) kk.2.2 (fun hp => fv hp.1) (K' := 5) (fun hp => hA) (bs := []) (nms := []) rfl (by simp) (by simp) (show g2.H = g.H from kk.1) (show g2.nx = g.nx from kk.2.1) (fun b hb => (by cases hb)) (by simp [AV.low, jw, bI]) (by simp [AV.ji, jg, bI]) (fun hp => ?_)
  refine (Rz w.n E s (fv hp.1).n256).mono fun e fr' H' h => ?_
  have hd := hp.2
  rw [qQ] at hd
  obtain ⟨rfl, ⟨i, hi, rfl, rfl⟩ | ⟨hn, rfl, rfl⟩⟩ := h
  ·refine ⟨.inl rfl, [.agg (bI (E i)), .bool true], _, rfl, trivial, ?_, fun j b hb => (by cases hb)⟩
   have e1 : WW s (NM E w.n) = i := by rw [vN]; unfold jF; rw [hi]; rfl
   rw [e1]
   exact AV.ge.refl _
  ·unfold jq at hd; rw [hn] at hd; cases hd
 | false =>
  rw [cond_false] at h2
  obtain ⟨rfl, rfl⟩ := aA h2
  refine nK (c := (ak Try.f60)) Try.func60 (by kernel_rfl) (by kernel_rfl) (dY := [uz false 0, .str true s]) kk.2.2 (fun hp => fv hp.1) (K' := 5) (fun hp => hA) (bs := []) (nms := []) rfl (by simp) (by simp) (show g2.H = g.H from kk.1) (show g2.nx = g.nx from kk.2.1) (fun b hb => (by cases hb)) (by simp [AV.low, jw, zeR]) (by simp [AV.ji, jg, zeR]) (fun hp => ?_)
  refine (Rz w.n E s (fv hp.1).n256).mono fun e fr' H' h => ?_
  have hd := hp.2
  rw [qQ] at hd
  obtain ⟨rfl, ⟨i, hi, rfl, rfl⟩ | ⟨hn, rfl, rfl⟩⟩ := h
  ·unfold jq at hd; rw [hi] at hd; cases hd
  ·exact ⟨.inl rfl, [.agg zeR, .bool false], _, rfl, trivial, AV.ge.refl _, fun j b hb => (by cases hb)⟩


theorem WZ : gX (.raw false 4607182418800017408) (iM 89 [ZC 0] (G.on [])) := J6 (q := True) (by kernel_rfl) trivial
theorem Pv : dQ 0 = 4607182418800017408 := by decide +kernel
theorem W9 : gX (.raw false 4606875505927962389) (iM 89 [ZC 1] (G.on [])) := J6 (q := True) (by kernel_rfl) trivial
theorem Px : dQ 1 = 4606875505927962389 := by decide +kernel
theorem Xa : gX (.raw false 4605975682916830378) (iM 89 [ZC 2] (G.on [])) := J6 (q := True) (by kernel_rfl) trivial
theorem Py : dQ 2 = 4605975682916830378 := by decide +kernel
theorem Xb : gX (.raw false 4604544271217802189) (iM 89 [ZC 3] (G.on [])) := J6 (q := True) (by kernel_rfl) trivial
theorem Pz : dQ 3 = 4604544271217802189 := by decide +kernel
theorem Xc : gX (.raw false 4602678819172646912) (iM 89 [ZC 4] (G.on [])) := J6 (q := True) (by kernel_rfl) trivial
theorem PD : dQ 4 = 4602678819172646912 := by decide +kernel
theorem Xd : gX (.raw false 4598334089338226320) (iM 89 [ZC 5] (G.on [])) := J6 (q := True) (by kernel_rfl) trivial
theorem PG : dQ 5 = 4598334089338226320 := by decide +kernel
theorem Xe : gX (.raw false 0) (iM 89 [ZC 6] (G.on [])) := J6 (q := True) (by kernel_rfl) trivial
theorem PI : dQ 6 = 0 := by decide +kernel
noncomputable def wL : List AV → M AV
 | [.int s .i64 k] => (M.req (0 ≤ k ∧ k ≤ 6)).andThen fun _ => M.ret (.flt s (dQ k))
 | _ => M.no
theorem FC : ∀ args v g g', wL args g = .done v g' → bf Try.prog 89 args v g g' := by
 intro args v g g' h
 unfold wL at h
 split at h
 ·rename_i s k
  obtain ⟨_, g1, a1, h1⟩ := au h
  obtain ⟨rfl, rfl⟩ := aA h1
  refine abK iO (dR a1) fun hp μ bT ha => ?_
  have key : ∀ (i : Nat) (w : Nat), k = (i : Int) → w < 18446744073709551616 → cn w = w → dQ k = w → gX (.raw false w) (iM 89 [.int false .i64 (i : Int)] (G.on [])) → ∃ args' path lv, aI 0 MM.none args' bT.toList ∧ gX lv (iM 89 args' (G.on path)) ∧ lv.low 0 = true ∧ ∀ c, (∀ N μ, Rep N μ lv c) → Rep g.nx μ (.flt s (dQ k)) c := fun i w e1 e2 e3 e4 e5 => by
   refine ⟨_, _, _, ?_, e5, rfl, fun c hc => ?_⟩
   ·subst e1; simpa only [aI, Rep] using ha
   ·have := hc 0 MM.none
    simp only [Rep] at this ⊢
    exact ⟨w, this.1, by rw [e4]; exact e3, e2⟩
  have hk : k = 0 ∨ k = 1 ∨ k = 2 ∨ k = 3 ∨ k = 4 ∨ k = 5 ∨ k = 6 := by omega
  rcases hk with rfl | rfl | rfl | rfl | rfl | rfl | rfl
  ·exact key 0 4607182418800017408 rfl (by decide) (by decide) Pv WZ
  ·exact key 1 4606875505927962389 rfl (by decide) (by decide) Px W9
  ·exact key 2 4605975682916830378 rfl (by decide) (by decide) Py Xa
  ·exact key 3 4604544271217802189 rfl (by decide) (by decide) Pz Xb
  ·exact key 4 4602678819172646912 rfl (by decide) (by decide) PD Xc
  ·exact key 5 4598334089338226320 rfl (by decide) (by decide) PG Xd
  ·exact key 6 0 rfl (by decide) (by decide) PI Xe
 ·exact (aY h).elim
theorem BN : ∀ args, aC (wL args) := by
 intro args
 unfold wL
 split
 ·exact (aC.req _).andThen fun _ => aC.ret _
 ·exact aC.no
noncomputable def Xf : Known := kc 89 wL (kn)
theorem Xg : eY Try.prog Xf := aO FC (mJ)
theorem TM : gG Xf := aG BN (jH)
noncomputable def Xh : Calls' := Sx.runN Try.prog Xf (bY Try.prog) 1000 50
theorem H8 : cO Try.prog Xh := gK Xg TM (by kernel_rfl) (by kernel_rfl) 1000 50
noncomputable def lH (k : Int) : Nat := (bif decide (Int.tmod k (24 : Int) < 0) then (bif decide (Int.tmod k (24 : Int) + 24 = (6 : Int)) then (0) else (bif decide (Int.tmod k (24 : Int) + 24 = (18 : Int)) then (0) else (bif decide (Int.tmod k (24 : Int) + 24 < (6 : Int)) then (dQ (Int.tmod k (24 : Int) + 24)) else (bif decide (Int.tmod k (24 : Int) + 24 ≤ (12 : Int)) then (BP (dQ ((12 : Int) - (Int.tmod k (24 : Int) + 24)))) else (bif decide (Int.tmod k (24 : Int) + 24 < (18 : Int)) then (BP (dQ (Int.tmod k (24 : Int) + 24 - (12 : Int)))) else (dQ ((24 : Int) - (Int.tmod k (24 : Int) + 24)))))))) else (bif decide (Int.tmod k (24 : Int) = 6) then (0) else (bif decide (Int.tmod k (24 : Int) = 18) then (0) else (bif decide (Int.tmod k (24 : Int) < 6) then (dQ (Int.tmod k (24 : Int))) else (bif decide (Int.tmod k (24 : Int) ≤ 12) then (BP (dQ ((12 : Int) - Int.tmod k (24 : Int)))) else (bif decide (Int.tmod k (24 : Int) < 18) then (BP (dQ (Int.tmod k (24 : Int) - 12))) else (dQ ((24 : Int) - Int.tmod k (24 : Int)))))))))
noncomputable def aco : List AV → M AV
 | [.int s0 .i64 k] => (M.req (((decide (Int.tmod k (24 : Int) < 0)) = true → ((decide (Int.tmod k (24 : Int) + 24 = (6 : Int))) = false → ((decide (Int.tmod k (24 : Int) + 24 = (18 : Int))) = false → ((decide (Int.tmod k (24 : Int) + 24 < (6 : Int))) = true → ((-9223372036854775808 : Int) ≤ Int.tmod k (24 : Int) + 24))))) ∧ ((decide (Int.tmod k (24 : Int) < 0)) = true → ((decide (Int.tmod k (24 : Int) + 24 = (6 : Int))) = false → ((decide (Int.tmod k (24 : Int) + 24 = (18 : Int))) = false → ((decide (Int.tmod k (24 : Int) + 24 < (6 : Int))) = true → ((0 : Int) ≤ Int.tmod k (24 : Int) + 24))))) ∧ ((decide (Int.tmod k (24 : Int) < 0)) = false → ((decide (Int.tmod k (24 : Int) = 6)) = false → ((decide (Int.tmod k (24 : Int) = 18)) = false → ((decide (Int.tmod k (24 : Int) < 6)) = false → ((decide (Int.tmod k (24 : Int) ≤ 12)) = false → ((decide (Int.tmod k (24 : Int) < 18)) = false → ((-9223372036854775808 : Int) ≤ 24 - Int.tmod k (24 : Int)))))))) ∧ ((decide (Int.tmod k (24 : Int) < 0)) = false → ((decide (Int.tmod k (24 : Int) = 6)) = false → ((decide (Int.tmod k (24 : Int) = 18)) = false → ((decide (Int.tmod k (24 : Int) < 6)) = false → ((decide (Int.tmod k (24 : Int) ≤ 12)) = false → ((decide (Int.tmod k (24 : Int) < 18)) = false → ((0 : Int) ≤ 24 - Int.tmod k (24 : Int)))))))))).andThen fun _ => M.ret (AV.flt s0 (lH k))
 | args => Xh 87 args
theorem Xi : ∀ args v g g', aco args g = .done v g' → bf Try.prog 87 args v g g' := by
  intro args v g g' h
  unfold aco at h
  split at h
  · rename_i s0 k
    obtain ⟨_, g1, a1, h1⟩ := au h
    obtain ⟨rfl, rfl⟩ := aA h1
    refine SY H8 (dR a1) (a' := [iT k]) (R := AV.flt true (lH k)) (fun hp => ?_) (fun N μ l ha => by simpa only [aI, Rep] using ha) (fun N μ c hc => by simpa only [Rep, aI, cZ] using hc)
    unfold lH
    cases t0 : decide (Int.tmod k (24 : Int) < 0)
    ·cases t1 : decide (Int.tmod k (24 : Int) = 6)
     ·cases t2 : decide (Int.tmod k (24 : Int) = 18)
      ·cases t3 : decide (Int.tmod k (24 : Int) < 6)
       ·cases t4 : decide (Int.tmod k (24 : Int) ≤ 12)
        ·cases t5 : decide (Int.tmod k (24 : Int) < 18)
         ·exact ⟨[fF, fF, fF, fF, fF, fF], lF (I9 (show (24 : Int) ≠ (0 : Int) by decide) t0 t1 t2 t3 t4 t5 (ai (hp.2.2.1 t0 t1 t2 t3 t4 t5) (show (24 : Int) - Int.tmod k (24 : Int) ≤ 9223372036854775807 by first | (simp only [dT, dF, List.length_take, List.length_drop] at *; omega) | (have hp' := hp; simp_all; try omega))) (ai (hp.2.2.2 t0 t1 t2 t3 t4 t5) (show (24 : Int) - Int.tmod k (24 : Int) ≤ 6 by first | (simp only [dT, dF, List.length_take, List.length_drop] at *; omega) | (have hp' := hp; simp_all; try omega))))⟩
         ·exact ⟨[fF, fF, fF, fF, fF, tT], lF (I9 (show (24 : Int) ≠ (0 : Int) by decide) t0 t1 t2 t3 t4 t5 (ai (show (-9223372036854775808 : Int) ≤ Int.tmod k (24 : Int) - 12 by first | (simp only [dT, dF, List.length_take, List.length_drop] at *; omega) | (have hp' := hp; simp_all; try omega)) (show Int.tmod k (24 : Int) - 12 ≤ (9223372036854775807 : Int) by first | (simp only [dT, dF, List.length_take, List.length_drop] at *; omega) | (have hp' := hp; simp_all; try omega))) (ai (show (0 : Int) ≤ Int.tmod k (24 : Int) - 12 by first | (simp only [dT, dF, List.length_take, List.length_drop] at *; omega) | (have hp' := hp; simp_all; try omega)) (show Int.tmod k (24 : Int) - 12 ≤ (6 : Int) by first | (simp only [dT, dF, List.length_take, List.length_drop] at *; omega) | (have hp' := hp; simp_all; try omega))))⟩
        ·exact ⟨[fF, fF, fF, fF, tT], lF (I8 (show (24 : Int) ≠ (0 : Int) by decide) t0 t1 t2 t3 t4 (ai (show (-9223372036854775808 : Int) ≤ 12 - Int.tmod k (24 : Int) by first | (simp only [dT, dF, List.length_take, List.length_drop] at *; omega) | (have hp' := hp; simp_all; try omega)) (show (12 : Int) - Int.tmod k (24 : Int) ≤ 9223372036854775807 by first | (simp only [dT, dF, List.length_take, List.length_drop] at *; omega) | (have hp' := hp; simp_all; try omega))) (ai (show (0 : Int) ≤ 12 - Int.tmod k (24 : Int) by first | (simp only [dT, dF, List.length_take, List.length_drop] at *; omega) | (have hp' := hp; simp_all; try omega)) (show (12 : Int) - Int.tmod k (24 : Int) ≤ 6 by first | (simp only [dT, dF, List.length_take, List.length_drop] at *; omega) | (have hp' := hp; simp_all; try omega))))⟩
       ·exact ⟨[fF, fF, fF, tT], lF (I6 (show (24 : Int) ≠ (0 : Int) by decide) t0 t1 t2 t3 (ai (show (0 : Int) ≤ Int.tmod k (24 : Int) by first | (simp only [dT, dF, List.length_take, List.length_drop] at *; omega) | (have hp' := hp; simp_all; try omega)) (show Int.tmod k (24 : Int) ≤ 6 by first | (simp only [dT, dF, List.length_take, List.length_drop] at *; omega) | (have hp' := hp; simp_all; try omega))))⟩
      ·exact ⟨[fF, fF, tT], lF (I4 (show (24 : Int) ≠ (0 : Int) by decide) t0 t1 t2)⟩
     ·exact ⟨[fF, tT], lF (I3 (show (24 : Int) ≠ (0 : Int) by decide) t0 t1)⟩
    ·cases t1 : decide (Int.tmod k (24 : Int) + 24 = (6 : Int))
     ·cases t2 : decide (Int.tmod k (24 : Int) + 24 = (18 : Int))
      ·cases t3 : decide (Int.tmod k (24 : Int) + 24 < (6 : Int))
       ·cases t4 : decide (Int.tmod k (24 : Int) + 24 ≤ (12 : Int))
        ·cases t5 : decide (Int.tmod k (24 : Int) + 24 < (18 : Int))
         ·exact ⟨[tT, fF, fF, fF, fF, fF], lF (I10 (show (24 : Int) ≠ (0 : Int) by decide) t0 (ai (show (-9223372036854775808 : Int) ≤ Int.tmod k (24 : Int) + 24 by first | (simp only [dT, dF, List.length_take, List.length_drop] at *; omega) | (have hp' := hp; simp_all; try omega)) (show Int.tmod k (24 : Int) + 24 ≤ (9223372036854775807 : Int) by first | (simp only [dT, dF, List.length_take, List.length_drop] at *; omega) | (have hp' := hp; simp_all; try omega))) t1 t2 t3 t4 t5 (ai (show (-9223372036854775808 : Int) ≤ 24 - (Int.tmod k (24 : Int) + 24) by first | (simp only [dT, dF, List.length_take, List.length_drop] at *; omega) | (have hp' := hp; simp_all; try omega)) (show (24 : Int) - (Int.tmod k (24 : Int) + 24) ≤ (9223372036854775807 : Int) by first | (simp only [dT, dF, List.length_take, List.length_drop] at *; omega) | (have hp' := hp; simp_all; try omega))) (ai (show (0 : Int) ≤ 24 - (Int.tmod k (24 : Int) + 24) by first | (simp only [dT, dF, List.length_take, List.length_drop] at *; omega) | (have hp' := hp; simp_all; try omega)) (show (24 : Int) - (Int.tmod k (24 : Int) + 24) ≤ (6 : Int) by first | (simp only [dT, dF, List.length_take, List.length_drop] at *; omega) | (have hp' := hp; simp_all; try omega))))⟩
         ·exact ⟨[tT, fF, fF, fF, fF, tT], lF (I10 (show (24 : Int) ≠ (0 : Int) by decide) t0 (ai (show (-9223372036854775808 : Int) ≤ Int.tmod k (24 : Int) + 24 by first | (simp only [dT, dF, List.length_take, List.length_drop] at *; omega) | (have hp' := hp; simp_all; try omega)) (show Int.tmod k (24 : Int) + 24 ≤ (9223372036854775807 : Int) by first | (simp only [dT, dF, List.length_take, List.length_drop] at *; omega) | (have hp' := hp; simp_all; try omega))) t1 t2 t3 t4 t5 (ai (show (-9223372036854775808 : Int) ≤ Int.tmod k (24 : Int) + 24 - (12 : Int) by first | (simp only [dT, dF, List.length_take, List.length_drop] at *; omega) | (have hp' := hp; simp_all; try omega)) (show Int.tmod k (24 : Int) + 24 - (12 : Int) ≤ 9223372036854775807 by first | (simp only [dT, dF, List.length_take, List.length_drop] at *; omega) | (have hp' := hp; simp_all; try omega))) (ai (show (0 : Int) ≤ Int.tmod k (24 : Int) + 24 - (12 : Int) by first | (simp only [dT, dF, List.length_take, List.length_drop] at *; omega) | (have hp' := hp; simp_all; try omega)) (show Int.tmod k (24 : Int) + 24 - (12 : Int) ≤ 6 by first | (simp only [dT, dF, List.length_take, List.length_drop] at *; omega) | (have hp' := hp; simp_all; try omega))))⟩
        ·exact ⟨[tT, fF, fF, fF, tT], lF (I9 (show (24 : Int) ≠ (0 : Int) by decide) t0 (ai (show (-9223372036854775808 : Int) ≤ Int.tmod k (24 : Int) + 24 by first | (simp only [dT, dF, List.length_take, List.length_drop] at *; omega) | (have hp' := hp; simp_all; try omega)) (show Int.tmod k (24 : Int) + 24 ≤ (9223372036854775807 : Int) by first | (simp only [dT, dF, List.length_take, List.length_drop] at *; omega) | (have hp' := hp; simp_all; try omega))) t1 t2 t3 t4 (ai (show (-9223372036854775808 : Int) ≤ 12 - (Int.tmod k (24 : Int) + 24) by first | (simp only [dT, dF, List.length_take, List.length_drop] at *; omega) | (have hp' := hp; simp_all; try omega)) (show (12 : Int) - (Int.tmod k (24 : Int) + 24) ≤ (9223372036854775807 : Int) by first | (simp only [dT, dF, List.length_take, List.length_drop] at *; omega) | (have hp' := hp; simp_all; try omega))) (ai (show (0 : Int) ≤ 12 - (Int.tmod k (24 : Int) + 24) by first | (simp only [dT, dF, List.length_take, List.length_drop] at *; omega) | (have hp' := hp; simp_all; try omega)) (show (12 : Int) - (Int.tmod k (24 : Int) + 24) ≤ (6 : Int) by first | (simp only [dT, dF, List.length_take, List.length_drop] at *; omega) | (have hp' := hp; simp_all; try omega))))⟩
       ·exact ⟨[tT, fF, fF, tT], lF (I7 (show (24 : Int) ≠ (0 : Int) by decide) t0 (ai (hp.1 t0 t1 t2 t3) (show Int.tmod k (24 : Int) + 24 ≤ (9223372036854775807 : Int) by first | (simp only [dT, dF, List.length_take, List.length_drop] at *; omega) | (have hp' := hp; simp_all; try omega))) t1 t2 t3 (ai (hp.2.1 t0 t1 t2 t3) (show Int.tmod k (24 : Int) + 24 ≤ (6 : Int) by first | (simp only [dT, dF, List.length_take, List.length_drop] at *; omega) | (have hp' := hp; simp_all; try omega))))⟩
      ·exact ⟨[tT, fF, tT], lF (I5 (show (24 : Int) ≠ (0 : Int) by decide) t0 (ai (show (-9223372036854775808 : Int) ≤ Int.tmod k (24 : Int) + 24 by first | (simp only [dT, dF, List.length_take, List.length_drop] at *; omega) | (have hp' := hp; simp_all; try omega)) (show Int.tmod k (24 : Int) + 24 ≤ (9223372036854775807 : Int) by first | (simp only [dT, dF, List.length_take, List.length_drop] at *; omega) | (have hp' := hp; simp_all; try omega))) t1 t2)⟩
     ·exact ⟨[tT, tT], lF (I4 (show (24 : Int) ≠ (0 : Int) by decide) t0 (ai (show (-9223372036854775808 : Int) ≤ Int.tmod k (24 : Int) + 24 by first | (simp only [dT, dF, List.length_take, List.length_drop] at *; omega) | (have hp' := hp; simp_all; try omega)) (show Int.tmod k (24 : Int) + 24 ≤ (9223372036854775807 : Int) by first | (simp only [dT, dF, List.length_take, List.length_drop] at *; omega) | (have hp' := hp; simp_all; try omega))) t1)⟩
  · exact H8 _ _ _ _ _ h
noncomputable def FD : List AV → M AV
 | [.int s .i64 k] => M.ret (AV.flt s (lH k))
 | _ => M.no
theorem TN : ∀ args v g g', FD args g = .done v g' → bf Try.prog 87 args v g g' := by
 intro args v g g' h
 unfold FD at h
 split at h
 ·rename_i s k
  obtain ⟨rfl, rfl⟩ := aA h
  have hS := Xi [.int s .i64 k] (AV.flt s (lH k)) g _ rfl
  refine ⟨id, fun hc μ w bT hg ha => ?_⟩
  refine (hS.2 ⟨hc, (by have := Tz k; simp only [decide_eq_true_eq, decide_eq_false_iff_not]; omega)⟩ μ w bT hg ha).mono fun cv w' hA => ?_
  obtain ⟨μ', e1, e2, e3⟩ := hA
  exact ⟨μ', e1, e2, e3.swap rfl rfl rfl rfl⟩
 ·exact (aY h).elim
theorem PK : ∀ args, aC (FD args) := by
 intro args
 unfold FD
 split
 ·exact aC.ret _
 ·exact aC.no
noncomputable def Xj : Known := kc 89 wL (kc 87 FD (kn))
theorem Xk : eY Try.prog Xj := aO FC (aO TN (mJ))
theorem TP : gG Xj := aG BN (aG PK (jH))
noncomputable def Xl : Calls' := Sx.runN Try.prog Xj (bY Try.prog) 1000 50
theorem H9 : cO Try.prog Xl := gK Xk TP (by kernel_rfl) (by kernel_rfl) 1000 50
noncomputable def Xn : List AV → M AV
 | [.int s0 .i64 k] => (M.req (((-9223372036854775808 : Int) ≤ Int.tmod k (24 : Int) - 6) ∧ (Int.tmod k (24 : Int) - 6 ≤ (9223372036854775807 : Int)))).andThen fun _ => M.ret (AV.dD s0 (lH (Int.tmod k (24 : Int))) (lH (Int.tmod k (24 : Int) - 6)))
 | args => Xl 73 args
theorem TQ : ∀ args v g g', Xn args g = .done v g' → bf Try.prog 73 args v g g' := by
 intro args v g g' h
 unfold Xn at h
 split at h
 ·rename_i s0 k
  obtain ⟨_, g1, a1, h1⟩ := au h
  obtain ⟨rfl, rfl⟩ := aA h1
  refine SY H9 (dR a1) (a' := [iT k]) (R := AV.dD true (lH (Int.tmod k (24 : Int))) (lH (Int.tmod k (24 : Int) - 6))) (fun hp => ?_) (fun N μ l ha => by simpa only [aI, Rep] using ha) (fun N μ c hc => by simpa only [Rep, aI, cZ] using hc)
  exact ⟨[], lF (I2 (show (24 : Int) ≠ (0 : Int) by decide) (ai (hp.1) (hp.2)))⟩
 ·exact H9 _ _ _ _ _ h
theorem Xo : ∀ i : Fin 47, jA (Int.tmod ((i : Nat) - 23 + 24 : Int) 24) = lH ((i : Nat) - 23 : Int) ∧ jA (Int.tmod (Int.tmod ((i : Nat) - 23 + 24 : Int) 24 + 18) 24) = lH ((i : Nat) - 23 - 6 : Int) := by decide +kernel
theorem RD (k : Int) : jA (Int.tmod (Int.tmod k 24 + 24) 24) = lH (Int.tmod k 24) ∧ jA (Int.tmod (Int.tmod (Int.tmod k 24 + 24) 24 + 18) 24) = lH (Int.tmod k 24 - 6) := by
 have h := Tz k
 generalize Int.tmod k 24 = m at h ⊢
 have := Xo ⟨(m + 23).toNat, by omega⟩
 simp only [show (((m + 23).toNat : Nat) : Int) = m + 23 by omega, show m + 23 - 23 = m by omega] at this
 exact this
noncomputable def zM : List AV → M AV
 | [.int s .i64 k] => M.ret (AV.dD s (jA (Int.tmod (Int.tmod k 24 + 24) 24)) (jA (Int.tmod (Int.tmod (Int.tmod k 24 + 24) 24 + 18) 24)))
 | _ => M.no
theorem PL : ∀ args v g g', zM args g = .done v g' → bf Try.prog 73 args v g g' := by
 intro args v g g' h
 unfold zM at h
 split at h
 ·rename_i s k
  obtain ⟨rfl, rfl⟩ := aA h
  have hS := TQ [.int s .i64 k] (AV.dD s (lH (Int.tmod k 24)) (lH (Int.tmod k 24 - 6))) g _ rfl
  refine ⟨id, fun hc μ w bT hg ha => ?_⟩
  refine (hS.2 ⟨hc, (by have h1 := Tz k; omega)⟩ μ w bT hg ha).mono fun cv w' hA => ?_
  obtain ⟨μ', e1, e2, e3⟩ := hA
  exact ⟨μ', by rw [(RD k).1, (RD k).2]; exact e1, e2, e3.swap rfl rfl rfl rfl⟩
 ·exact (aY h).elim
theorem Nh : ∀ args, aC (zM args) := by
 intro args
 unfold zM
 split
 ·exact aC.ret _
 ·exact aC.no
theorem aa2 (c : Int) : Tf c = Ho c := by unfold Tf Ho; rfl
theorem aa3 (c : Int) : Ti c = Hq c := by unfold Ti Hq; rfl
theorem Xp (k : Int) : ku k = mX k := by unfold ku mX; simp only [show ∀ a : Int, decide (a = k) = decide (k = a) from fun a => decide_eq_decide.2 ⟨Eq.symm, Eq.symm⟩]
theorem Xq (k : Int) : sU k = xY k := by unfold sU xY; simp only [show ∀ a : Int, decide (a = k) = decide (k = a) from fun a => decide_eq_decide.2 ⟨Eq.symm, Eq.symm⟩]
theorem Xr (k : Int) : oP k = sW k := by unfold oP sW; simp only [show ∀ a : Int, decide (a = k) = decide (k = a) from fun a => decide_eq_decide.2 ⟨Eq.symm, Eq.symm⟩]
theorem Xt (k : Int) : sV k = xZ k := by unfold sV xZ; simp only [show ∀ a : Int, decide (a = k) = decide (k = a) from fun a => decide_eq_decide.2 ⟨Eq.symm, Eq.symm⟩]
theorem TS (l : List UInt8) : yc l = tq l := by unfold yc tq; rw [aa2]
theorem TT (l : List UInt8) : yg l = tu l := by unfold yg tu; rw [aa3]
theorem TU (l : List UInt8) : mY l = kD l := by
 unfold mY kD
 have e : decide ((0 : Int) < (l.length : Int)) = decide ((1 : Int) ≤ (l.length : Int)) := decide_eq_decide.2 (by omega)
 rw [e]
theorem Xu {n : Nat} (h : n < 18446744073709551616) : jZ n = fQ n := by
 unfold jZ fQ
 rw [abL h, abM h]
 simp only [Bool.cond_decide]
 have e : Int.tmod (n : Int) 9223372036854775808 = ((n % 9223372036854775808 : Nat) : Int) := by rw [Int.tmod_eq_emod_of_nonneg (by omega)]; omega
 rw [e]
 repeat' split
 all_goals omega
theorem Xv {v : Nat} (h : v < 18446744073709551616) (hk : decide ((2 : Int) < fQ v) = false) : isnan v = false := by
 cases hn : isnan v with
 | false => rfl
 | true => rw [Ea h hn] at hk; simp at hk
theorem aa4 {v : Nat} (h : v < 18446744073709551616) (hn : isnan v = false) : Ut (cn v) (cn 0) = !Us (cn v) (cn 0) := by
 have e := Lh (x := v) (y := 0) h (by omega) hn (by decide)
 unfold Ut Us
 rw [GL, e]
 cases compare (rk v) (rk 0) <;> rfl
theorem aex (k : Int) (n a b c d : List UInt8) (v : Nat) (hv : v < 18446744073709551616) (ph : Int) : gJ k n a b c d v ph = Aw k n a b c d v ph := by
 unfold gJ Aw
 simp only [Xp, Xq, Xr, Xt, TS, TT, TU, Xu hv]
 cases hk : decide ((2 : Int) < fQ v) with
 | true => simp only [cond_true]
 | false =>
  have e := aa4 hv (Xv hv hk)
  rw [show cn 0 = 0 by kernel_rfl] at e
  rw [e]
  simp only [Bool.cond_not]
noncomputable def AP : List AV → M AV
 | [.agg [.int s0 .u8 k, .str s1 n, .str s2 a, .str s3 b, .str s4 c, .str s5 d, .raw s6 v, .int s7 .i64 ph]] => (M.req (v < 18446744073709551616)).andThen fun _ => M.ret (AV.int (Bool.or s0 (Bool.or s1 (Bool.or s2 (Bool.or s3 (Bool.or s4 (Bool.or s5 (Bool.or s6 s7))))))) .i64 (gJ k n a b c d v ph))
 | args => iM 39 args
theorem Ia : ∀ args v g g', AP args g = .done v g' → bf Try.prog 39 args v g g' := by
 intro args v g g' h
 unfold AP at h
 split at h
 ·rename_i s0 k s1 n s2 a s3 b s4 c s5 d s6 v s7 ph
  obtain ⟨_, g1, a1, h1⟩ := au h
  obtain ⟨rfl, rfl⟩ := aA h1
  have kq := dR a1
  have hS := Me [.agg [.int s0 .u8 k, .str s1 n, .str s2 a, .str s3 b, .str s4 c, .str s5 d, .raw s6 v, .int s7 .i64 ph]] (AV.int (Bool.or s0 (Bool.or s1 (Bool.or s2 (Bool.or s3 (Bool.or s4 (Bool.or s5 (Bool.or s6 s7))))))) .i64 (Aw k n a b c d v ph)) g g rfl
  refine ⟨fun hc => (kq.2.2 hc).1, fun hc μ w bT hg ha => ?_⟩
  have hp := kq.2.2 hc
  refine (hS.2 hp.1 μ w bT hg ha).mono fun cv w' hA => ?_
  rw [← aex _ _ _ _ _ _ _ hp.2] at hA
  exact hA.keepR kq
 ·exact iO _ _ _ _ _ h
theorem FH : ∀ args, aC (AP args) := by
 intro args
 unfold AP
 split
 ·exact (aC.req _).andThen fun _ => aC.ret _
 ·exact Az _ _
noncomputable def Xw : Known := kc 73 zM (kc 39 AP (kn))
theorem Xx : eY Try.prog Xw := aO PL (aO Ia (mJ))
theorem TV : gG Xw := aG Nh (aG FH (jH))
noncomputable def Xy : Calls' := Sx.runN Try.prog Xw (bY Try.prog) 1000 50
theorem Ib : cO Try.prog Xy := gK Xx TV (by kernel_rfl) (by kernel_rfl) 1000 50
noncomputable def Xz (k : Int) (n a b c d : List UInt8) (v : Nat) (ph : Int) : Nat := (bif decide (gJ k n a b c d v ph = (0 : Int)) then (bif decide (k = (4 : Int)) then (qH (cn v) (jA (Int.tmod (Int.tmod ph (24 : Int) + 24) (24 : Int)))) else (bif decide (k = (5 : Int)) then (qH (cn v) (jA (Int.tmod (Int.tmod ph (24 : Int) + 24) (24 : Int)))) else (0))) else (0))
noncomputable def XA (k : Int) (n a b c d : List UInt8) (v : Nat) (ph : Int) : Nat := (bif decide (gJ k n a b c d v ph = (0 : Int)) then (bif decide (k = (4 : Int)) then (qH (cn v) (jA (Int.tmod (Int.tmod (Int.tmod ph (24 : Int) + 24) (24 : Int) + 18) (24 : Int)))) else (bif decide (k = (5 : Int)) then (qH (cn v) (jA (Int.tmod (Int.tmod (Int.tmod ph (24 : Int) + 24) (24 : Int) + 18) (24 : Int)))) else (0))) else (0))
noncomputable def XB (k : Int) (n a b c d : List UInt8) (v : Nat) (ph : Int) : Int := (bif decide (gJ k n a b c d v ph = (0 : Int)) then (bif decide (k = (4 : Int)) then ((0 : Int)) else (bif decide (k = (5 : Int)) then ((0 : Int)) else ((2 : Int)))) else (gJ k n a b c d v ph))
noncomputable def agE : List AV → M AV
 | [.agg [.int s0 .u8 k, .str s1 n, .str s2 a, .str s3 b, .str s4 c, .str s5 d, .raw s6 v, .int s7 .i64 ph]] => (M.req (((decide (gJ k n a b c d v ph = (0 : Int))) = true → ((decide (k = (4 : Int))) = true → (v < 18446744073709551616))) ∧ ((decide (gJ k n a b c d v ph = (0 : Int))) = true → ((decide (k = (4 : Int))) = false → ((decide (k = (5 : Int))) = true → (v < 18446744073709551616)))) ∧ ((decide (gJ k n a b c d v ph = (0 : Int))) = true → ((decide (k = (4 : Int))) = false → ((decide (k = (5 : Int))) = false → (v < 18446744073709551616)))) ∧ ((decide (gJ k n a b c d v ph = (0 : Int))) = false → (v < 18446744073709551616)))).andThen fun _ => M.ret (AV.iD [AV.dD (Bool.or s0 (Bool.or s1 (Bool.or s2 (Bool.or s3 (Bool.or s4 (Bool.or s5 (Bool.or s6 s7))))))) (Xz k n a b c d v ph) (XA k n a b c d v ph), AV.int (Bool.or s0 (Bool.or s1 (Bool.or s2 (Bool.or s3 (Bool.or s4 (Bool.or s5 (Bool.or s6 s7))))))) (IntKind.i64) (XB k n a b c d v ph)])
 | args => Xy 11 args
theorem aa5 : ∀ args v g g', agE args g = .done v g' → bf Try.prog 11 args v g g' := by
  intro args v g g' h
  unfold agE at h
  split at h
  · rename_i s0 k s1 n s2 a s3 b s4 c s5 d s6 v s7 ph
    obtain ⟨_, g1, a1, h1⟩ := au h
    obtain ⟨rfl, rfl⟩ := aA h1
    refine SY Ib (dR a1) (a' := [ZCU k n a b c d v ph]) (R := AV.iD [AV.dD (Bool.or true (Bool.or true (Bool.or true (Bool.or true (Bool.or true (Bool.or true (Bool.or true true))))))) (Xz k n a b c d v ph) (XA k n a b c d v ph), AV.int (Bool.or true (Bool.or true (Bool.or true (Bool.or true (Bool.or true (Bool.or true (Bool.or true true))))))) (IntKind.i64) (XB k n a b c d v ph)]) (fun hp => ?_) (fun N μ l ha => by simpa only [aI, Rep] using ha) (fun N μ c hc => by simpa only [Rep, aI, cZ] using hc)
    unfold Xz XA XB
    cases t0 : decide (gJ k n a b c d v ph = (0 : Int))
    ·exact ⟨[tT], lF (I2 (hp.2.2.2 t0) (nf t0))⟩
    ·cases t1 : decide (k = (4 : Int))
     ·cases t2 : decide (k = (5 : Int))
      ·exact ⟨[fF, tT, tT], lF (I4 (hp.2.2.1 t0 t1 t2) (nt t0) (nf t1) (nf t2))⟩
      ·exact ⟨[fF, tT, fF], lF (I4 (hp.2.1 t0 t1 t2) (nt t0) (nf t1) (nt t2))⟩
     ·exact ⟨[fF, fF], lF (I3 (hp.1 t0 t1) (nt t0) (nt t1))⟩
  · exact Ib _ _ _ _ _ h
noncomputable def Nj : List AV → M AV
 | [.agg [.int s0 .u8 k, .str s1 n, .str s2 a, .str s3 b, .str s4 c, .str s5 d, .raw s6 v, .int s7 .i64 ph]] => (M.req (v < 18446744073709551616)).andThen fun _ => M.ret (AV.iD [AV.dD (Bool.or s0 (Bool.or s1 (Bool.or s2 (Bool.or s3 (Bool.or s4 (Bool.or s5 (Bool.or s6 s7))))))) (Jp k n a b c d v ph) (Jq k n a b c d v ph), AV.int (Bool.or s0 (Bool.or s1 (Bool.or s2 (Bool.or s3 (Bool.or s4 (Bool.or s5 (Bool.or s6 s7))))))) .i64 (JH k n a b c d v ph)])
 | _ => M.no
theorem XC : ∀ args v g g', Nj args g = .done v g' → bf Try.prog 11 args v g g' := by
 intro args v g g' h
 unfold Nj at h
 split at h
 case h_2 => exact (aY h).elim
 rename_i s0 k s1 n s2 a s3 b s4 c s5 d s6 v s7 ph
 obtain ⟨_, g1, a1, h1⟩ := au h
 obtain ⟨rfl, rfl⟩ := aA h1
 have kq := dR a1
 have hS := aa5 [.agg [.int s0 .u8 k, .str s1 n, .str s2 a, .str s3 b, .str s4 c, .str s5 d, .raw s6 v, .int s7 .i64 ph]] (AV.iD [AV.dD (Bool.or s0 (Bool.or s1 (Bool.or s2 (Bool.or s3 (Bool.or s4 (Bool.or s5 (Bool.or s6 s7))))))) (Jp k n a b c d v ph) (Jq k n a b c d v ph), AV.int (Bool.or s0 (Bool.or s1 (Bool.or s2 (Bool.or s3 (Bool.or s4 (Bool.or s5 (Bool.or s6 s7))))))) .i64 (JH k n a b c d v ph)]) g _ rfl
 refine ⟨fun hc => (kq.2.2 hc).1, fun hc μ w bT hg ha => ?_⟩
 have hp := kq.2.2 hc
 refine (hS.2 ⟨hp.1, fun _ _ => hp.2, fun _ _ _ => hp.2, fun _ _ _ => hp.2, fun _ => hp.2⟩ μ w bT hg ha).mono fun cv w' hA => ?_
 obtain ⟨μ', e1, e2, e3⟩ := hA
 exact After.keepR (g := g) (show After g μ w g _ cv w' from ⟨μ', e1, e2, e3.swap rfl rfl rfl rfl⟩) kq
theorem TW : ∀ args, aC (Nj args) := by
 intro args
 unfold Nj
 split
 ·exact (aC.req _).andThen fun _ => aC.ret _
 ·exact aC.no


noncomputable def aey : Known := kc 78 plS (kc 51 TJ (kc 76 TK (kc 56 WS (kc 52 WU (kc 60 WX (kc 11 Nj (kc 39 AP (kn))))))))
theorem RG : eY Try.prog aey := aO WQ (aO Rw (aO Rx (aO aaZ (aO aa0 (aO aa1 (aO XC (aO Ia (mJ))))))))
theorem Nk : gG aey := aG Ru (aG Na (aG Nb (aG WT (aG WV (aG WY (aG TW (aG FH (jH))))))))
noncomputable def RH : Calls' := Sx.runN Try.prog aey (bY Try.prog) 1000 50
theorem XD : cO Try.prog RH := gK RG Nk (by kernel_rfl) (by kernel_rfl) 1000 50
theorem TY (n : Nat) : gq Try.prog (bY Try.prog RH n) n := gQ RG Nk (by kernel_rfl) (by kernel_rfl) 1000 50 n
noncomputable abbrev FI (f : Func) (c : Code) (fr : Fr) (H : T aF) (K : Nat) (path : List Bool) : BU (Ex × Fr) :=
 cu Try.prog RH (bY Try.prog RH f.ntmps) lQ f.ntmps 1000 c fr ⟨H, K, [], path, True⟩


theorem rcI {fn : Func} {K K' B : Nat} {e : Ex} {F : tF} {Hl : tH} {c : Code} {fr : Fr} {H : T aF} {path : List Bool} (h : bV K' e F Hl (FI fn c fr H K path)) (hB : B ≤ K) : aj Try.prog c fn.ntmps B K K' fr H fun e' fr' H' => e' = e ∧ fr' = aQ F ∧ H' = hpL Hl := aj.runN XD (TY _) (iI.none _ _ _) h hB
theorem kU {fn : Func} {K K' B : Nat} {e : Ex} {F : tF} {Hl : tH} {c : Code} {fr : Fr} {H : T aF} (path : List Bool) {q : Prop} (hq : q) (hB : B ≤ K) (h : jP K' e F Hl (FI fn c fr H K path) = (e = e ∧ uh F ∧ uj Hl ∧ true = true ∧ q) := by kernel_rfl) : aj Try.prog c fn.ntmps B K K' fr H fun e' fr' H' => e' = e ∧ fr' = aQ F ∧ H' = hpL Hl := rcI (eqn h hq) hB
theorem dvA (B : Nat) (hB : B ≤ 2) (n j : Nat) (E : tE) (s : Tx) : aj Try.prog ((aT [0] (ak Try.f27))) Try.f27.ntmps B 2 3 (ZE5 s 0) (ZEi n E) (pP .normal [(0, ZA 0), (1, .str true s), (4, .aX), (5, ZA 2)] [(0, Zx n), (1, Zn n E), (2, VQ)]) := kU [] trivial hB
noncomputable abbrev ZB := (.cells true 2 1 (.fn fun _ => [.int false .i64 0, .int false .i64 0]) : aF)
noncomputable abbrev ZE3 (v0 : Tx) (w0 w1) := aQ [(0, ZA w0), (1, .str true v0), (4, .aX), (5, ZA w1)]
noncomputable abbrev ZFB (v0 : Nat) (v1 : tE) := ([(0, ZN v0), (1, ZF v0 v1), (2, ZB)] : tH)
theorem dvB (B : Nat) (hB : B ≤ 3) (n j : Nat) (E : tE) (s : Tx) : aj Try.prog ((aT [1,0] (ak Try.f27))) Try.f27.ntmps B 3 3 (ZE3 s 0 2) (hpL (ZFB n E)) (pP .normal [(0, ZA 0), (1, .str true s), (4, .aX), (5, ZA 2)] [(0, Zx n), (1, Zn n E), (2, l9)]) := kU [] trivial hB
theorem dvC (B : Nat) (hB : B ≤ 3) (n j : Nat) (E : tE) (s : Tx) (x0 : (Rn n n (Cont.row (.fn fun j => bI (E j))))) : aj Try.prog ((aT [1,1,0] (ak Try.f27))) Try.f27.ntmps B 3 4 (ZE3 s 0 2) (hpL (ZFB n E)) fun e fr' H' => (cond (Gl s (NM E n)) (pP .normal [(0, ZA 0), (4, .aX), (5, ZA 2), (6, ZA 3), (7, .bool true)] [(0, Zx n), (1, Zn n E), (2, l9), (3, .cells true 8 1 (.lit [] (T.n T.e (Option.some (bI (E (WW s (NM E n))))) T.e)))] e fr' H') (pP .normal [(0, ZA 0), (4, .aX), (5, ZA 2), (6, ZA 3), (7, .bool false)] [(0, Zx n), (1, Zn n E), (2, l9), (3, ZEA)] e fr' H')) := cI (fun t0 => kU [tT] (I2 x0 t0) hB) (fun t0 => kU [fF] (I2 x0 t0) hB)
noncomputable abbrev ZCR (v0 : El) := (.cells true 8 1 (.fn fun x => (bI v0)) : aF)
theorem dvD (B : Nat) (hB : B ≤ 4) (n j : Nat) (E : tE) (z : El) : aj Try.prog ((aT [1,1,1,0] (ak Try.f27))) Try.f27.ntmps B 4 4 (aQ [(0, ZA 0), (4, .aX), (5, ZA 2), (6, ZA 3), (7, .bool true)]) (hpL [(0, ZN n), (1, ZF n E), (2, ZB), (3, Zh z)]) fun e fr' H' => (cond (decide (El.k z = (8 : Int))) (pP .normal [(0, ZA 0), (4, .aX), (5, ZA 2), (6, ZA 3)] [(0, Zx n), (1, Zn n E), (2, l9), (3, ZCR z)] e fr' H') (pP .ret [(0, ZA 0), (4, .aX), (5, ZA 2), (6, ZA 3)] [(0, Zx n), (1, Zn n E), (2, Yk 10), (3, ZCR z)] e fr' H')) := cD (fun q0 t0 => kU [fF] (I1 (nt t0)) hB) (fun q0 t0 => kU [tT] (I1 (nf t0)) hB)
theorem dvN (B : Nat) (hB : B ≤ 4) (n j : Nat) (E : tE) : aj Try.prog ((aT [1,1,1,0] (ak Try.f27))) Try.f27.ntmps B 4 4 (aQ [(0, ZA 0), (4, .aX), (5, ZA 2), (6, ZA 3), (7, .bool false)]) (hpL (ZFB n E)) (pP .ret [(4, .aX), (5, ZA 2)] [(2, Yk 10)]) := kU [] trivial hB
theorem aiL (B : Nat) (hB : B ≤ 4) (n j : Nat) (E : tE) (z : El) (x0 : (Rn n n (Cont.row (.fn fun j => bI (E j))))) (x1 : (-9223372036854775808 ≤ (↑(jE (ND E n)) : Int) + (↑(jE (BR E n)) : Int))) (x2 : ((↑(jE (ND E n)) : Int) + (↑(jE (BR E n)) : Int) ≤ 9223372036854775807)) (x3 : (0 ≤ (↑(jE (ND E n)) : Int) + (↑(jE (BR E n)) : Int))) (x4 : ((↑(jE (ND E n)) : Int) + (↑(jE (BR E n)) : Int) ≤ (↑(jE (ND E n)) : Int) + (↑(jE (BR E n)) : Int))) (x5 : ((16 : Int) * ((↑(jE (ND E n)) : Int) + (↑(jE (BR E n)) : Int)) ≤ (140737488355328 : Int))) (x6 : ((↑(jE (ND E n)) : Int) + (↑(jE (BR E n)) : Int) ≤ 9223372036854775807)) : aj Try.prog ((aT [1,1,1,1,0] (ak Try.f27))) Try.f27.ntmps B 4 7 (aQ [(0, ZA 0), (5, ZA 2), (6, ZA 3)]) (hpL [(0, ZN n), (1, ZF n E), (2, ZB), (3, Zh z)]) (pP .normal [(0, ZA 0), (5, ZA 2), (6, ZA 3), (8, sL 6 (jE (ND E n) + jE (BR E n)))] [(0, Zx n), (1, Zn n E), (2, l9), (3, ZCR z), (6, .cells true 1 (Int.toNat ((↑(jE (ND E n)) : Int) + (↑(jE (BR E n)) : Int))) (.fn fun x => [.dD false 0 0]))]) := kU [] (I4 x0 x0 (ai x1 x2) (ai x3 (ai x4 (ai x5 x6)))) hB
theorem dvF (B : Nat) (hB : B ≤ 5) (n j u : Nat) (E : tE) (z : El) (f : tP) (x0 : (Rn n n (Cont.row (.fn fun j => bI (E j))))) : aj Try.prog ((aT [1,1,1,1,1,0] (ak Try.f27))) Try.f27.ntmps B 5 5 (aQ [(0, ZA 0), (5, ZA 2), (6, ZA 3), (8, sL 4 u)]) (hpL [(0, ZN n), (1, ZF n E), (2, ZB), (3, Zh z), (4, Zj u f)]) (pP .normal [(0, ZA 0), (5, ZA 2), (6, ZA 3), (8, sL 4 u), (9, iT (JU (El.a z) (ND E n))), (10, .aP (Gl (El.a z) (ND E n)))] [(0, Zx n), (1, Zn n E), (2, l9), (3, ZCR z), (4, ZY u f)]) := kU [] (I1 x0) hB
theorem dvG (B : Nat) (hB : B ≤ 5) (n j u : Nat) (E : tE) (z : El) (f : tP) (t : Bool) (pa : Int) (x0 : (Rn n n (Cont.row (.fn fun j => bI (E j))))) : aj Try.prog ((aT [1,1,1,1,1,1,0] (ak Try.f27))) Try.f27.ntmps B 5 5 (aQ [(0, ZA 0), (5, ZA 2), (6, ZA 3), (8, sL 4 u), (9, iT pa), (10, .aP t)]) (hpL [(0, ZN n), (1, ZF n E), (2, ZB), (3, Zh z), (4, Zj u f)]) (pP .normal [(5, ZA 2), (8, sL 4 u), (9, iT pa), (10, .aP t), (11, iT (JU (El.b z) (ND E n))), (12, .aP (Gl (El.b z) (ND E n)))] [(2, l9), (4, ZY u f)]) := kU [] (I1 x0) hB
theorem dvH (B : Nat) (hB : B ≤ 5) (j u : Nat) (f : tP) (t tb : Bool) (pa pb : Int) (x0 : ((t) = true → ((0 : Int) ≤ pa))) (x1 : ((t) = true → (pa < (↑u : Int)))) (x2 : ((t) = true → (0 + Int.toNat pa < u))) : aj Try.prog ((aT [1,1,1,1,1,1,1,0] (ak Try.f27))) Try.f27.ntmps B 5 5 (aQ [(5, ZA 2), (8, sL 4 u), (9, iT pa), (10, .aP t), (11, iT pb), (12, .aP tb)]) (hpL [(2, ZB), (4, Zj u f)]) fun e fr' H' => (cond (t) (pP .normal [(5, ZA 2), (8, sL 4 u), (11, iT pb), (12, .aP tb)] [(2, l9), (4, .cells true 1 u (.fn fun j => bif Nat.beq j (0 + Int.toNat pa) then [.dD true (jG (Prod.fst (f (0 + Int.toNat pa))) 4607182418800017408) (jG (Prod.snd (f (0 + Int.toNat pa))) 0)] else [ZEP f j]))] e fr' H') (pP .normal [(5, ZA 2), (8, sL 4 u), (11, iT pb), (12, .aP tb)] [(2, l9), (4, ZY u f)] e fr' H')) := cI (fun t0 => kU [tT] (I6 t0 (ai (x0 t0) (x1 t0)) (x2 t0) (ai (x0 t0) (x1 t0)) (x2 t0) (show 1 ≤ 1 by omega)) hB) (fun t0 => kU [fF] (I1 t0) hB)
theorem aiM (B : Nat) (hB : B ≤ 5) (j u : Nat) (f : tP) (tb : Bool) (pb : Int) (x0 : ((tb) = true → ((0 : Int) ≤ pb))) (x1 : ((tb) = true → (pb < (↑u : Int)))) (x2 : ((tb) = true → (0 + Int.toNat pb < u))) : aj Try.prog ((aT [1,1,1,1,1,1,1,1,0] (ak Try.f27))) Try.f27.ntmps B 5 5 (aQ [(5, ZA 2), (8, sL 4 u), (11, iT pb), (12, .aP tb)]) (hpL [(2, ZB), (4, Zj u f)]) fun e fr' H' => (cond (tb) (pP .normal [(5, ZA 2), (8, sL 4 u)] [(2, l9), (4, .cells true 1 u (.fn fun j => bif Nat.beq j (0 + Int.toNat pb) then [.dD true (jo (Prod.fst (f (0 + Int.toNat pb))) 4607182418800017408) (jo (Prod.snd (f (0 + Int.toNat pb))) 0)] else [ZEP f j]))] e fr' H') (pP .normal [(5, ZA 2), (8, sL 4 u)] [(2, l9), (4, ZY u f)] e fr' H')) := cI (fun t0 => kU [tT] (I6 t0 (ai (x0 t0) (x1 t0)) (x2 t0) (ai (x0 t0) (x1 t0)) (x2 t0) (show 1 ≤ 1 by omega)) hB) (fun t0 => kU [fF] (I1 t0) hB)
theorem dvJ (B : Nat) (hB : B ≤ 5) (j u : Nat) (f : tP) : aj Try.prog ((aT [1,1,1,1,1,1,1,1,1] (ak Try.f27))) Try.f27.ntmps B 5 6 (aQ [(5, ZA 2), (8, sL 4 u)]) (hpL [(2, ZB), (4, Zj u f)]) (pP .ret [(4, sL 4 u), (5, ZA 2)] [(2, ZDq), (4, ZY u f)]) := kU [] trivial hB
theorem rhA (B : Nat) (hB : B ≤ 2) (n j : Nat) (E : tE) : aj Try.prog ((aT [0] (ak Try.f25))) Try.f25.ntmps B 2 3 ZEs (ZEi n E) (pP .normal [(0, ZA 0), (2, .aX), (3, ZA 2)] [(0, Zx n), (1, Zn n E), (2, VQ)]) := kU [] trivial hB
theorem rhB (B : Nat) (hB : B ≤ 3) (n j : Nat) (E : tE) : aj Try.prog ((aT [1,0] (ak Try.f25))) Try.f25.ntmps B 3 3 (aQ [(0, ZA 0), (2, .aX), (3, ZA 2)]) (hpL (ZFB n E)) (pP .normal (uw 0 0 3 2) [(0, Zx n), (1, Zn n E), (2, l9)]) := kU [] trivial hB
theorem rhC (B : Nat) (hB : B ≤ 3) (n j : Nat) (E : tE) (x0 : (Rn n n (Cont.row (.fn fun j => bI (E j))))) (x1 : (-9223372036854775808 ≤ (↑(jE (ND E n)) : Int) + (↑(jE (BR E n)) : Int))) (x2 : ((↑(jE (ND E n)) : Int) + (↑(jE (BR E n)) : Int) ≤ 9223372036854775807)) (x3 : (0 ≤ (↑(jE (ND E n)) : Int) + (↑(jE (BR E n)) : Int))) (x4 : ((↑(jE (ND E n)) : Int) + (↑(jE (BR E n)) : Int) ≤ (↑(jE (ND E n)) : Int) + (↑(jE (BR E n)) : Int))) (x5 : ((16 : Int) * ((↑(jE (ND E n)) : Int) + (↑(jE (BR E n)) : Int)) ≤ (140737488355328 : Int))) (x6 : ((↑(jE (ND E n)) : Int) + (↑(jE (BR E n)) : Int) ≤ 9223372036854775807)) : aj Try.prog ((aT [1,1,0] (ak Try.f25))) Try.f25.ntmps B 3 6 (aQ (uw 0 0 3 2)) (hpL (ZFB n E)) (pP .normal [(0, ZA 0), (3, ZA 2), (4, sL 5 (jE (ND E n) + jE (BR E n)))] [(0, Zx n), (1, Zn n E), (2, l9), (5, .cells true 1 (Int.toNat ((↑(jE (ND E n)) : Int) + (↑(jE (BR E n)) : Int))) (.fn fun x => [.dD false 0 0]))]) := kU [] (I4 x0 x0 (ai x1 x2) (ai x3 (ai x4 (ai x5 x6)))) hB
theorem rhD (B : Nat) (hB : B ≤ 4) (n j u : Nat) (E : tE) (f : tP) (x0 : (Rn n n (Cont.row (.fn fun j => bI (E j))))) : aj Try.prog ((aT [1,1,1,0] (ak Try.f25))) Try.f25.ntmps B 4 5 (aQ [(0, ZA 0), (3, ZA 2), (4, sL 3 u)]) (hpL [(0, ZN n), (1, ZF n E), (2, ZB), (3, Zj u f)]) (pP .normal [(0, ZA 0), (3, ZA 2), (4, sL 3 u), (5, iT (↑(jE (ND E n)) : Int))] [(0, Zx n), (1, Zn n E), (2, l9), (3, ZY u f)]) := kU [] (I1 x0) hB
theorem rhE (B : Nat) (hB : B ≤ 4) (n j u : Nat) (E : tE) (f : tP) (br : Int) (x0 : (n * 104 ≤ 140737488355328)) (x1 : (n ≤ 9223372036854775807)) : aj Try.prog ((aT [1,1,1,1,0] (ak Try.f25))) Try.f25.ntmps B 4 5 (aQ [(0, ZA 0), (3, ZA 2), (4, sL 3 u), (5, iT br)]) (hpL [(0, ZN n), (1, ZF n E), (2, ZB), (3, Zj u f)]) (pP .normal [(0, ZA 0), (3, ZA 2), (4, sL 3 u), (5, iT br), (6, sL 4 n)] [(0, Zx n), (1, Zn n E), (2, l9), (3, ZY u f), (4, ZCe n E)]) := kU [] (I2 (show 0 + n ≤ n by omega) (ai x0 x1)) hB
theorem rhF (B : Nat) (hB : B ≤ 5) (n u : Nat) (br : Int) : aj Try.prog ((aT [1,1,1,1,1,0,0] (ak Try.f25))) Try.f25.ntmps B 5 5 (aQ [(0, ZA 0), (3, ZA 2), (4, sL 3 u), (5, iT br), (6, sL 4 n)]) (hpL []) (pP .normal [(0, ZA 0), (3, ZA 2), (4, sL 3 u), (5, iT br), (6, sL 4 n), (7, ZC 0)] []) := kU [] trivial hB
noncomputable abbrev ZD6 (v0 : Nat) (v1 : Int) (v2 v3 : Nat) := ([(0, ZA 0), (3, ZA 2), (4, sL 3 v0), (5, iT v1), (6, sL 4 v2), (7, iT (↑v3 : Int))] : tF)
noncomputable abbrev ZEF (v0 : Nat) (v1 : Int) (v2 v3 : Nat) := aQ [(0, ZA 0), (3, ZA 2), (4, sL 3 v0), (5, iT v1), (6, sL 4 v2), (7, iT (v3 : Int))]
theorem rhG (B : Nat) (hB : B ≤ 5) (n i u : Nat) (br : Int) : aj Try.prog ((aT [1,1,1,1,1,0,1,0,0,0] (ak Try.f25))) Try.f25.ntmps B 5 5 (ZEF u br n i) (hpL []) fun e fr' H' => (cond (decide ((↑i : Int) < (↑n : Int))) (pP .normal (ZD6 u br n i) [] e fr' H') (pP (.exit 0) (ZD6 u br n i) [] e fr' H')) := cD (fun q0 t0 => kU [tT] (I1 t0) hB) (fun q0 t0 => kU [fF] (I1 t0) hB)
theorem rhH (B : Nat) (hB : B ≤ 5) (n i j u : Nat) (E : tE) (br : Int) (x0 : ((↑i : Int) < (↑n : Int))) (x1 : (0 + i < n)) (x2 : (El.v (E (0 + i)) < 18446744073709551616)) : aj Try.prog ((aT [1,1,1,1,1,0,1,0,0,1,0,0,0] (ak Try.f25))) Try.f25.ntmps B 5 5 (ZEF u br n i) (hpL [(4, ZD n E)]) (pP .normal [(0, ZA 0), (3, ZA 2), (4, sL 3 u), (5, iT br), (6, sL 4 n), (7, iT (↑i : Int)), (8, .dD true (Jp (El.k (E (0 + i))) (El.n (E (0 + i))) (El.a (E (0 + i))) (El.b (E (0 + i))) (El.c (E (0 + i))) (El.d (E (0 + i))) (El.v (E (0 + i))) (El.ph (E (0 + i)))) (Jq (El.k (E (0 + i))) (El.n (E (0 + i))) (El.a (E (0 + i))) (El.b (E (0 + i))) (El.c (E (0 + i))) (El.d (E (0 + i))) (El.v (E (0 + i))) (El.ph (E (0 + i))))), (9, iT (JH (El.k (E (0 + i))) (El.n (E (0 + i))) (El.a (E (0 + i))) (El.b (E (0 + i))) (El.c (E (0 + i))) (El.d (E (0 + i))) (El.v (E (0 + i))) (El.ph (E (0 + i)))))] [(4, Zg n E)]) := kU [] (I4 (ai (show 0 ≤ (↑i : Int) by omega) x0) x1 (show 8 ≤ 8 by omega) x2) hB
noncomputable abbrev ZFF (v0 : Nat) (v1 : tE) := ([(0, ZN v0), (1, ZF v0 v1), (4, ZD v0 v1)] : tH)
theorem rhI (B : Nat) (hB : B ≤ 5) (n i j u : Nat) (E : tE) (er br : Int) (s0 s1 : Nat) (x0 : ((↑i : Int) < (↑n : Int))) (x1 : (0 + i < n)) (x2 : (Rn n n (Cont.row (.fn fun j => bI (E j))))) : aj Try.prog ((aT [1,1,1,1,1,0,1,0,0,1,0,0,1,0] (ak Try.f25))) Try.f25.ntmps B 5 5 (aQ [(0, ZA 0), (3, ZA 2), (4, sL 3 u), (5, iT br), (6, sL 4 n), (7, iT (i : Int)), (8, qZ s0 s1), (9, iT er)]) (hpL (ZFF n E)) (pP .normal [(0, ZA 0), (3, ZA 2), (4, sL 3 u), (5, iT br), (6, sL 4 n), (7, iT (↑i : Int)), (8, qZ s0 s1), (9, iT er), (10, iT (JU (El.a (E (0 + i))) (ND E n))), (11, .aP (Gl (El.a (E (0 + i))) (ND E n)))] [(0, Zx n), (1, Zn n E), (4, Zg n E)]) := kU [] (I3 (ai (show 0 ≤ (↑i : Int) by omega) x0) x1 x2) hB
theorem rhJ (B : Nat) (hB : B ≤ 5) (n i j u : Nat) (E : tE) (t : Bool) (pa er br : Int) (s0 s1 : Nat) (x0 : ((↑i : Int) < (↑n : Int))) (x1 : (0 + i < n)) (x2 : (Rn n n (Cont.row (.fn fun j => bI (E j))))) : aj Try.prog ((aT [1,1,1,1,1,0,1,0,0,1,0,0,1,1,0] (ak Try.f25))) Try.f25.ntmps B 5 5 (aQ [(0, ZA 0), (3, ZA 2), (4, sL 3 u), (5, iT br), (6, sL 4 n), (7, iT (i : Int)), (8, qZ s0 s1), (9, iT er), (10, iT pa), (11, .aP t)]) (hpL (ZFF n E)) (pP .normal [(0, ZA 0), (3, ZA 2), (4, sL 3 u), (5, iT br), (6, sL 4 n), (7, iT (↑i : Int)), (8, qZ s0 s1), (9, iT er), (10, iT pa), (11, .aP t), (12, iT (JU (El.b (E (0 + i))) (ND E n))), (13, .aP (Gl (El.b (E (0 + i))) (ND E n)))] [(0, Zx n), (1, Zn n E), (4, Zg n E)]) := kU [] (I3 (ai (show 0 ≤ (↑i : Int) by omega) x0) x1 x2) hB
theorem rhK (B : Nat) (hB : B ≤ 5) (n i j u : Nat) (E : tE) (t tb : Bool) (pa pb er br : Int) (s0 s1 : Nat) (x0 : ((↑i : Int) < (↑n : Int))) (x1 : (0 + i < n)) : aj Try.prog ((aT [1,1,1,1,1,0,1,0,0,1,0,0,1,1,1,0,0] (ak Try.f25))) Try.f25.ntmps B 5 5 (aQ [(0, ZA 0), (3, ZA 2), (4, sL 3 u), (5, iT br), (6, sL 4 n), (7, iT (i : Int)), (8, qZ s0 s1), (9, iT er), (10, iT pa), (11, .aP t), (12, iT pb), (13, .aP tb)]) (hpL [(4, ZD n E)]) fun e fr' H' => (cond (decide (El.k (E (0 + i)) = (4 : Int))) (pP .normal [(0, ZA 0), (3, ZA 2), (4, sL 3 u), (5, iT br), (6, sL 4 n), (7, iT (↑i : Int)), (8, qZ s0 s1), (9, iT er), (10, iT pa), (11, .aP t), (12, iT pb), (13, .aP tb), (68, .aP (decide (er = (0 : Int))))] [(4, Zg n E)] e fr' H') (pP .normal [(0, ZA 0), (3, ZA 2), (4, sL 3 u), (5, iT br), (6, sL 4 n), (7, iT (↑i : Int)), (8, qZ s0 s1), (9, iT er), (10, iT pa), (11, .aP t), (12, iT pb), (13, .aP tb), (68, .bool false)] [(4, Zg n E)] e fr' H')) := cD (fun q0 t0 => kU [tT] (I3 (ai (show 0 ≤ (↑i : Int) by omega) x0) x1 t0) hB) (fun q0 t0 => kU [fF] (I3 (ai (show 0 ≤ (↑i : Int) by omega) x0) x1 t0) hB)
theorem rhL (B : Nat) (hB : B ≤ 5) (n i j u : Nat) (f : tP) (t tb : Bool) (pa pb er br : Int) (s0 s1 : Nat) (x0 : ((t) = true → ((0 : Int) ≤ pa))) (x1 : ((t) = true → (pa < (↑u : Int)))) (x2 : ((t) = true → (0 + Int.toNat pa < u))) : aj Try.prog ((aT [1,1,1,1,1,0,1,0,0,1,0,0,1,1,1,0,1,0,0] (ak Try.f25))) Try.f25.ntmps B 5 5 (aQ [(0, ZA 0), (3, ZA 2), (4, sL 3 u), (5, iT br), (6, sL 4 n), (7, iT (i : Int)), (8, qZ s0 s1), (9, iT er), (10, iT pa), (11, .aP t), (12, iT pb), (13, .aP tb)]) (hpL [(3, Zj u f)]) fun e fr' H' => (cond (t) (pP .normal [(0, ZA 0), (3, ZA 2), (4, sL 3 u), (5, iT br), (6, sL 4 n), (7, iT (↑i : Int)), (8, qZ s0 s1), (9, iT er), (12, iT pb), (13, .aP tb)] [(3, .cells true 1 u (.fn fun j => bif Nat.beq j (0 + Int.toNat pa) then [.dD true (jo (Prod.fst (f (0 + Int.toNat pa))) s0) (jo (Prod.snd (f (0 + Int.toNat pa))) s1)] else [ZEP f j]))] e fr' H') (pP .normal [(0, ZA 0), (3, ZA 2), (4, sL 3 u), (5, iT br), (6, sL 4 n), (7, iT (↑i : Int)), (8, qZ s0 s1), (9, iT er), (12, iT pb), (13, .aP tb)] [(3, ZY u f)] e fr' H')) := cI (fun t0 => kU [tT] (I6 t0 (ai (x0 t0) (x1 t0)) (x2 t0) (ai (x0 t0) (x1 t0)) (x2 t0) (show 1 ≤ 1 by omega)) hB) (fun t0 => kU [fF] (I1 t0) hB)
theorem rhM (B : Nat) (hB : B ≤ 5) (n i j u : Nat) (f : tP) (tb : Bool) (pb er br : Int) (s0 s1 : Nat) (x0 : ((tb) = true → ((0 : Int) ≤ pb))) (x1 : ((tb) = true → (pb < (↑u : Int)))) (x2 : ((tb) = true → (0 + Int.toNat pb < u))) : aj Try.prog ((aT [1,1,1,1,1,0,1,0,0,1,0,0,1,1,1,0,1,0,1] (ak Try.f25))) Try.f25.ntmps B 5 5 (aQ [(0, ZA 0), (3, ZA 2), (4, sL 3 u), (5, iT br), (6, sL 4 n), (7, iT (i : Int)), (8, qZ s0 s1), (9, iT er), (12, iT pb), (13, .aP tb)]) (hpL [(3, Zj u f)]) fun e fr' H' => (cond (tb) (pP .normal [(0, ZA 0), (3, ZA 2), (4, sL 3 u), (5, iT br), (6, sL 4 n), (7, iT (↑i : Int)), (8, qZ s0 s1), (9, iT er)] [(3, .cells true 1 u (.fn fun j => bif Nat.beq j (0 + Int.toNat pb) then [.dD true (jG (Prod.fst (f (0 + Int.toNat pb))) s0) (jG (Prod.snd (f (0 + Int.toNat pb))) s1)] else [ZEP f j]))] e fr' H') (pP .normal [(0, ZA 0), (3, ZA 2), (4, sL 3 u), (5, iT br), (6, sL 4 n), (7, iT (↑i : Int)), (8, qZ s0 s1), (9, iT er)] [(3, ZY u f)] e fr' H')) := cI (fun t0 => kU [tT] (I6 t0 (ai (x0 t0) (x1 t0)) (x2 t0) (ai (x0 t0) (x1 t0)) (x2 t0) (show 1 ≤ 1 by omega)) hB) (fun t0 => kU [fF] (I1 t0) hB)
noncomputable abbrev ZCd := aT [1,1,1,1,1,0,1,0,0,1,0,0,1,1,1,1,0] (ak Try.f25)
theorem rhN (B : Nat) (hB : B ≤ 5) (n i j u : Nat) (E : tE) (f : tP) (er br : Int) (s0 s1 : Nat) (x0 : ((↑i : Int) < (↑n : Int))) (x1 : (0 + i < n)) (x2 : ((decide (El.k (E (0 + i)) = (5 : Int))) = true → ((decide (er = (0 : Int))) = true → ((0 : Int) ≤ br)))) (x3 : ((decide (El.k (E (0 + i)) = (5 : Int))) = true → ((decide (er = (0 : Int))) = true → (br < (↑u : Int))))) (x4 : ((decide (El.k (E (0 + i)) = (5 : Int))) = true → ((decide (er = (0 : Int))) = true → (0 + Int.toNat br < u)))) : aj Try.prog (ZCd) Try.f25.ntmps B 5 5 (aQ [(0, ZA 0), (3, ZA 2), (4, sL 3 u), (5, iT br), (6, sL 4 n), (7, iT (i : Int)), (8, qZ s0 s1), (9, iT er)]) (hpL [(3, Zj u f), (4, ZD n E)]) fun e fr' H' => (cond (decide (El.k (E (0 + i)) = (5 : Int))) (cond (decide (er = (0 : Int))) (pP .normal (ZD6 u br n i) [(3, .cells true 1 u (.fn fun j => bif Nat.beq j (0 + Int.toNat br) then [qZ s0 s1] else [ZEP f j])), (4, Zg n E)] e fr' H') (pP .normal (ZD6 u br n i) [(3, ZY u f), (4, Zg n E)] e fr' H')) (pP .normal (ZD6 u br n i) [(3, ZY u f), (4, Zg n E)] e fr' H')) := cD (fun q0 t0 => cD (fun q1 t1 => kU [tT, tT] (I7 (ai (show 0 ≤ (↑i : Int) by omega) x0) x1 t0 t1 (ai (x2 t0 t1) (x3 t0 t1)) (x4 t0 t1) (show 1 ≤ 1 by omega)) hB) (fun q1 t1 => kU [tT, fF] (I4 (ai (show 0 ≤ (↑i : Int) by omega) x0) x1 t0 t1) hB)) (fun q0 t0 => kU [fF] (I3 (ai (show 0 ≤ (↑i : Int) by omega) x0) x1 t0) hB)
noncomputable abbrev ZC2 := aT [1,1,1,1,1,0,1,0,0,1,0,0,1,1,1,1,1,0] (ak Try.f25)
theorem rhO (B : Nat) (hB : B ≤ 5) (n i j u : Nat) (E : tE) (br : Int) (x0 : ((↑i : Int) < (↑n : Int))) (x1 : (0 + i < n)) (x2 : ((-9223372036854775808 : Int) ≤ br + (1 : Int))) (x3 : (br + (1 : Int) ≤ 9223372036854775807)) : aj Try.prog (ZC2) Try.f25.ntmps B 5 5 (ZEF u br n i) (hpL [(4, ZD n E)]) fun e fr' H' => (cond (decide (El.k (E (0 + i)) = (5 : Int))) (pP .normal [(0, ZA 0), (3, ZA 2), (4, sL 3 u), (5, iT (br + (1 : Int))), (6, sL 4 n), (7, iT (↑i : Int))] [(4, Zg n E)] e fr' H') (cond (decide (El.k (E (0 + i)) = (7 : Int))) (pP .normal [(0, ZA 0), (3, ZA 2), (4, sL 3 u), (5, iT (br + (1 : Int))), (6, sL 4 n), (7, iT (↑i : Int))] [(4, Zg n E)] e fr' H') (pP .normal (ZD6 u br n i) [(4, Zg n E)] e fr' H'))) := cD (fun q0 t0 => kU [tT] (I4 (ai (show 0 ≤ (↑i : Int) by omega) x0) x1 t0 (ai x2 x3)) hB) (fun q0 t0 => cD (fun q1 t1 => kU [fF, tT] (I7 (ai (show 0 ≤ (↑i : Int) by omega) x0) x1 t0 (ai (show 0 ≤ (↑i : Int) by omega) x0) x1 t1 (ai x2 x3)) hB) (fun q1 t1 => kU [fF, fF] (I6 (ai (show 0 ≤ (↑i : Int) by omega) x0) x1 t0 (ai (show 0 ≤ (↑i : Int) by omega) x0) x1 t1) hB))
noncomputable abbrev ZC0 := aT [1,1,1,1,1,0,1,0,0,1,0,0,1,1,1,1,1,1,0] (ak Try.f25)
theorem rhP (B : Nat) (hB : B ≤ 5) (n i u : Nat) (br : Int) : aj Try.prog (ZC0) Try.f25.ntmps B 5 5 (ZEF u br n i) (hpL []) (pP .normal [(0, ZA 0), (3, ZA 2), (4, sL 3 u), (5, iT br), (6, sL 4 n), (7, iT (↑i : Int)), (14, ZC 0)] []) := kU [] trivial hB
noncomputable abbrev ZB4 := aT [1,1,1,1,1,0,1,0,0,1,0,0,1,1,1,1,1,1,1,0,0] (ak Try.f25)
theorem rhQ (B : Nat) (hB : B ≤ 5) (n i j u : Nat) (f : tP) (br : Int) (x0 : ((decide ((↑j : Int) < (↑u : Int))) = true → ((vP (jo (Prod.fst (f (0 + j))) (Prod.fst (f (0 + j)))) 0) = true → ((vP (jo (Prod.snd (f (0 + j))) (Prod.snd (f (0 + j)))) 0) = true → ((↑j : Int) + 1 ≤ (9223372036854775807 : Int)))))) : aj Try.prog (ZB4) Try.f25.ntmps B 5 5 (aQ [(0, ZA 0), (3, ZA 2), (4, sL 3 u), (5, iT br), (6, sL 4 n), (7, iT (i : Int)), (14, iT (j : Int))]) (hpL [(2, ZB), (3, Zj u f)]) fun e fr' H' => (cond (decide ((↑j : Int) < (↑u : Int))) (cond (vP (jo (Prod.fst (f (0 + j))) (Prod.fst (f (0 + j)))) 0) (cond (vP (jo (Prod.snd (f (0 + j))) (Prod.snd (f (0 + j)))) 0) (pP .normal [(0, ZA 0), (3, ZA 2), (4, sL 3 u), (5, iT br), (6, sL 4 n), (7, iT (↑i : Int)), (14, Ap j)] [(2, l9), (3, ZY u f)] e fr' H') (pP .ret [(0, ZA 0), (2, .aX), (3, ZA 2), (4, sL 3 u), (5, iT br), (6, sL 4 n), (7, iT (↑i : Int)), (14, iT (↑j : Int))] [(2, ZD2 i 6), (3, ZY u f)] e fr' H')) (pP .ret [(0, ZA 0), (2, .aX), (3, ZA 2), (4, sL 3 u), (5, iT br), (6, sL 4 n), (7, iT (↑i : Int)), (14, iT (↑j : Int))] [(2, ZD2 i 6), (3, ZY u f)] e fr' H')) (pP (.exit 2) [(0, ZA 0), (3, ZA 2), (4, sL 3 u), (5, iT br), (6, sL 4 n), (7, iT (↑i : Int)), (14, iT (↑j : Int))] [(2, l9), (3, ZY u f)] e fr' H')) := cD (fun q0 t0 => cI (fun t1 => cI (fun t2 => kU [tT, tT, fF] (I6 t0 (ai (show 0 ≤ (↑j : Int) by omega) (show (↑j : Int) < (↑u : Int) by omega)) (show 0 + j < u by omega) t1 (nt t2) (ai (show -9223372036854775808 ≤ (↑j : Int) + 1 by omega) (x0 t0 t1 t2))) hB) (fun t2 => kU [tT, tT, tT] (I5 t0 (ai (show 0 ≤ (↑j : Int) by omega) (show (↑j : Int) < (↑u : Int) by omega)) (show 0 + j < u by omega) t1 (nf t2)) hB)) (fun t1 => kU [tT, fF] (I4 t0 (ai (show 0 ≤ (↑j : Int) by omega) (show (↑j : Int) < (↑u : Int) by omega)) (show 0 + j < u by omega) t1) hB)) (fun q0 t0 => kU [fF] (I1 t0) hB)
theorem rhR (B : Nat) (hB : B ≤ 5) (n i u : Nat) (br : Int) (x0 : ((↑i : Int) + 1 ≤ (9223372036854775807 : Int))) : aj Try.prog ((aT [1,1,1,1,1,0,1,0,0,1,1] (ak Try.f25))) Try.f25.ntmps B 5 5 (ZEF u br n i) (hpL []) (pP .normal [(0, ZA 0), (3, ZA 2), (4, sL 3 u), (5, iT br), (6, sL 4 n), (7, Ap i)] []) := kU [] (I1 (ai (show -9223372036854775808 ≤ (↑i : Int) + 1 by omega) x0)) hB
theorem rhS (B : Nat) (hB : B ≤ 5) (j u : Nat) (f : tP) : aj Try.prog ((aT [1,1,1,1,1,1] (ak Try.f25))) Try.f25.ntmps B 5 5 (aQ [(3, ZA 2), (4, sL 3 u)]) (hpL [(2, ZB), (3, Zj u f)]) (pP .ret [(2, sL 3 u), (3, ZA 2)] [(2, ZDq), (3, ZY u f)]) := kU [] trivial hB
theorem UA {K g n : Nat} {l : tH} (h : g < K) (h1 : 1 < K) (hl : jy K l) : jy K ((g, ZN n) :: l) := ⟨⟨h, fun j hj v hv => by
 rcases List.mem_cons.1 hv with rfl | hv
 ·exact Nat.ble_eq_true_of_le h1
 ·rw [List.mem_singleton.1 hv]; rfl⟩, hl⟩
theorem sO {K g n : Nat} {o : Bool} {E : tE} {l : tH} (h : g < K) (hl : jy K l) : jy K ((g, .cells o 8 n (.fn fun j => bI (E j))) :: l) := ⟨⟨h, fun j hj v hv => List.all_eq_true.1 (jY K _) v hv⟩, hl⟩
theorem nU {K g : Nat} {o s s' : Bool} {a b : Int} {l : tH} (h : g < K) (hl : jy K l) : jy K ((g, .cells o 2 1 (.fn fun _ => [.int s .i64 a, .int s' .i64 b])) :: l) := ⟨⟨h, fun j hj v hv => by
 rcases List.mem_cons.1 hv with rfl | hv
 ·rfl
 ·rw [List.mem_singleton.1 hv]; rfl⟩, hl⟩
theorem rD {K g n : Nat} {o : Bool} {f : tP} {l : tH} (h : g < K) (hl : jy K l) : jy K ((g, .cells o 1 n (.fn (dU f))) :: l) := ⟨⟨h, fun j hj v hv => by rw [List.mem_singleton.1 hv]; rfl⟩, hl⟩
/-- what put makes, by places -/
theorem jR (op : Nat × Nat → Nat × Nat → Nat × Nat) (x : Tx) (nodes : List Tx) (f : tP) (s : Nat × Nat) : dK op x (aB 0 nodes) f s = bif jq x nodes then (sN f (jF x nodes) (op (f (jF x nodes)) s), kS (op (f (jF x nodes)) s).1 (op (f (jF x nodes)) s).2) else (f, true) := by
 unfold dK jq jF
 rw [qY]
 cases pos x nodes with
 | none => rfl
 | some m => simp
theorem kH (x : Tx) (l : List Tx) : l7 x l = (jF x l : Int) := rfl
theorem BO {x : Tx} {l : List Tx} (h : jq x l = true) : jF x l < l.length := by
 unfold jq at h
 unfold jF
 cases e : pos x l with
 | none => rw [e] at h; cases h
 | some m => exact (tK e).1
noncomputable def dvE (nodes : List Tx) (z : El) : Nat → Nat × Nat := (dK fU z.b (aB 0 nodes) (dK gI z.a (aB 0 nodes) (fun _ => (0, 0)) (4607182418800017408, 0)).1 (4607182418800017408, 0)).1
def PN (s : Tx) (E : tE) (n : Nat) : Bool := jq s (NM E n) && decide ((E (jF s (NM E n))).k = 8)
noncomputable def He : Tx → (Nat → El) → Nat → Bool := Classical.choose (⟨PN, rfl⟩ : ∃ f, f = PN)
theorem JX : He = PN := Classical.choose_spec (⟨PN, rfl⟩ : ∃ f, f = PN)
noncomputable def dvI (s : Tx) (E : tE) (n : Nat) : Nat → Nat × Nat := dvE (ND E n) (E (jF s (NM E n)))
noncomputable def LX : Tx → (Nat → El) → Nat → Nat → Nat × Nat := Classical.choose (⟨dvI, rfl⟩ : ∃ f, f = dvI)
theorem OM : LX = dvI := Classical.choose_spec (⟨dvI, rfl⟩ : ∃ f, f = dvI)
noncomputable abbrev ZBT (v0) (v1 : tE) (v2 : Tx) (v3 : Nat) := (.cells v0 8 1 (.fn fun _ => bI (v1 (jF v2 (NM v1 v3)))) : aF)
noncomputable abbrev ZBg (v0) (v1 : tE) (v2 : Nat) (v3 : Tx) := (.cells v0 1 (aS v1 v2) (.fn (dU (dvE (ND v1 v2) (v1 (jF v3 (NM v1 v2)))))) : aF)
noncomputable abbrev ZB8 (v0 : Nat) (v1) := (.cells false 2 1 (.fn fun _ => [sL 1 v0, .bool v1]) : aF)
noncomputable abbrev ZCY (v0) (v1 : tE) (v2 : Nat) (v3 : Tx) := (.cells v0 1 (aS v1 v2) (.fn (dU (dK gI (v1 (jF v3 (NM v1 v2))).a (aB 0 (ND v1 v2)) (fun _ => (0, 0)) (4607182418800017408, 0)).1)) : aF)
noncomputable abbrev BL (v0) := (.cells v0 2 1 (.fn fun _ => [ZC 0, ZC 0]) : aF)
noncomputable abbrev SX (v0) := (.cells v0 2 1 (.fn fun _ => [ZC 10, Z7]) : aF)
theorem RI (n : Nat) (E : tE) (s : Tx) (hn : n ≤ 256) (hv : ∀ j, j < n → (E j).v < 18446744073709551616) : aj Try.prog (ak Try.f27) Try.f27.ntmps 2 2 12 (bJ [ZA 0, .str true s] 0 .e) (hpL (AO n E)) (fun e fr' H' => e = .ret ∧ ((PN s E n = true ∧ fr' = aQ [(4, Z6 E n 4), (5, ZA 2)] ∧ H' = hpL [(2, BL true), (4, ZBg true E n s)]) ∨ (PN s E n = false ∧ fr' = aQ [(4, .aX), (5, ZA 2)] ∧ H' = hpL [(2, SX true)]))) := by
 have hb := xk E n hn
 have hc := mV E n
 have e1 : jE (ND E n) = (ND E n).length := oU _
 have e2 : jE (BR E n) = (BR E n).length := oU _
 have eu : aS E n = (ND E n).length + (BR E n).length := rfl
 have ps : Gl = jq := qQ
 have np : WW = jF := vN
 have pl : JU = l7 := vM
 rw [show (ak Try.f27) = .seq (aT [0] (ak Try.f27)) (.seq (aT [1,0] (ak Try.f27)) (.seq (aT [1,1,0] (ak Try.f27)) (.seq (aT [1,1,1,0] (ak Try.f27)) (.seq (aT [1,1,1,1,0] (ak Try.f27)) (.seq (aT [1,1,1,1,1,0] (ak Try.f27)) (.seq (aT [1,1,1,1,1,1,0] (ak Try.f27)) (.seq (aT [1,1,1,1,1,1,1,0] (ak Try.f27)) (.seq (aT [1,1,1,1,1,1,1,1,0] (ak Try.f27)) ((aT [1,1,1,1,1,1,1,1,1] (ak Try.f27))))))))))) by kernel_rfl]
 refine aj.aV (K1 := 3) (F1 := [(0, ZA 0), (1, .str true s), (4, .aX), (5, ZA 2)]) (H1 := [(0, ZB8 n true), (1, ZF n E), (2, BL true)]) (aj.toN (dvA 2 (by omega) n 0 E s) (dJ rfl) ⟨hs rfl, hs rfl, jI rfl rfl, trivial⟩) (by omega) ?_
 refine aj.aV (K1 := 3) (dvB 2 (by omega) n 0 E s) (by omega) ?_
 have hC := dvC 2 (by omega) n 0 E s ⟨hn, rfl, fun j _ => ay _ rfl, hv⟩
 by_cases h1 : jq s (NM E n) = true
 case neg =>
  have h1 : jq s (NM E n) = false := by cases q : jq s (NM E n) with | true => exact absurd q h1 | false => rfl
  refine aj.aV (K1 := 4) (F1 := [(0, ZA 0), (4, .aX), (5, ZA 2), (6, ZA 3), (7, .bool false)]) (H1 := [(0, ZB8 n true), (1, ZF n E), (2, BL true)]) (aj.toN (hC.mono fun e fr' H' h => by rw [ps, h1, cond_false] at h; exact h) (dJ rfl) (fG rfl)) (by omega) ?_
  refine aj.seq (K1 := 4) (by omega) ((dvN 2 (by omega) n 0 E).post fun e fr' H' h => ?_)
  obtain ⟨rfl, rfl, rfl⟩ := h
  exact ⟨[(4, .aX), (5, ZA 2)], [(2, SX true)], (dJ rfl), ⟨⟨_, rfl, ⟨rfl, rfl, rfl, zO (p := fun j => _ = _) rfl⟩⟩, trivial⟩, rfl, .inr ⟨by unfold PN; rw [h1]; rfl, rfl, rfl⟩⟩
 refine aj.aV (K1 := 4) (F1 := [(0, ZA 0), (4, .aX), (5, ZA 2), (6, ZA 3), (7, .bool true)]) (H1 := [(0, ZB8 n true), (1, ZF n E), (2, BL true), (3, ZBT true E s n)]) (aj.toN (hC.mono fun e fr' H' h => by rw [ps, h1, cond_true, np] at h; exact h) (dJ rfl) ⟨hs rfl, hs rfl, hs rfl, jI rfl rfl, trivial⟩) (by omega) ?_
 have hD := dvD 2 (by omega) n 0 E (E (jF s (NM E n)))
 by_cases h2 : (E (jF s (NM E n))).k = 8
 case neg =>
  refine aj.seq (K1 := 4) (by omega) (hD.post fun e fr' H' h => ?_)
  rw [decide_eq_false h2, cond_false] at h
  obtain ⟨rfl, rfl, rfl⟩ := h
  exact ⟨[(4, .aX), (5, ZA 2)], [(2, SX true)], (dJ rfl), ⟨⟨_, rfl, ⟨rfl, rfl, rfl, zO (p := fun j => _ = _) rfl⟩⟩, trivial⟩, rfl, .inr ⟨by unfold PN; rw [h1, decide_eq_false h2]; rfl, rfl, rfl⟩⟩
 refine aj.aV (K1 := 4) (F1 := [(0, ZA 0), (5, ZA 2), (6, ZA 3)]) (H1 := [(0, ZB8 n true), (1, ZF n E), (2, BL true), (3, ZBT true E s n)]) (aj.toN (hD.mono fun e fr' H' h => by rw [decide_eq_true h2, cond_true] at h; exact h) (dJ rfl) (fG rfl)) (by omega) ?_
 have hE := aiL 2 (by omega) n 0 E (E (jF s (NM E n))) ⟨hn, rfl, fun j _ => ay _ rfl, hv⟩ (by omega) (by omega) (by omega) (by omega) (by omega) (by omega)
 rw [e1, e2, ← eu, show Int.toNat ((((ND E n).length : Nat) : Int) + (((BR E n).length : Nat) : Int)) = aS E n by rw [eu]; omega] at hE
 refine aj.aV (K1 := 5) (F1 := [(0, ZA 0), (5, ZA 2), (6, ZA 3), (8, Z6 E n 4)]) (H1 := [(0, ZB8 n true), (1, ZF n E), (2, BL true), (3, ZBT true E s n), (4, .cells true 1 (aS E n) (.fn fun _ => [.dD false 0 0]))]) (hE.renG fun e fr' H' h => ?_) (by omega) ?_
 ·obtain ⟨rfl, rfl, rfl⟩ := h
  exact ⟨sg 4 6, [(0, ZA 0), (5, ZA 2), (6, ZA 3), (8, Z6 E n 4)], [(0, ZB8 n true), (1, ZF n E), (2, BL true), (3, ZBT true E s n), (4, .cells true 1 (aS E n) (.fn fun _ => [.dD false 0 0]))], qc (by omega), (vk rfl), ⟨jk rfl rfl rfl (by omega), fD rfl rfl (fun j _ => rfl) (fun j _ => rfl) (by omega), jk rfl rfl rfl (by omega), jk rfl rfl rfl (by omega), fD rfl rfl (fun j _ => rfl) (fun j _ => rfl) (by omega), trivial⟩, pY (by omega), rfl, rfl, rfl⟩
 refine aj.jh (fl := [(0, ZA 0), (5, ZA 2), (6, ZA 3), (8, Z6 E n 4)]) (bl := [(0, ZB8 n true), (1, ZF n E), (2, BL true), (3, ZBT true E s n), (4, .cells true 1 (aS E n) (.fn (dU (fun _ => (0, 0)))))]) (dJ rfl) ⟨⟨_, rfl, rfl, rfl, rfl, fun j hj => ay _ rfl⟩, ⟨_, rfl, rfl, rfl, rfl, fun j hj => ay _ rfl⟩, ⟨_, rfl, rfl, rfl, rfl, fun j hj => ay _ rfl⟩, ⟨_, rfl, rfl, rfl, rfl, fun j hj => ay _ rfl⟩, ⟨_, rfl, rfl, rfl, rfl, fun j hj => ⟨AV.ge.SI _ _ rfl rfl, rfl, trivial⟩⟩, trivial⟩ ?_
 have hF := dvF 2 (by omega) n 0 (aS E n) E (E (jF s (NM E n))) (fun _ => (0, 0)) ⟨hn, rfl, fun j _ => ay _ rfl, hv⟩
 refine aj.aV (K1 := 5) (aj.toN (F' := [(0, ZA 0), (5, ZA 2), (6, ZA 3), (8, Z6 E n 4), (9, iT (JU (E (jF s (NM E n))).a (ND E n))), (10, .aP (Gl (E (jF s (NM E n))).a (ND E n)))]) (YN := [(0, ZB8 n true), (1, ZF n E), (2, BL true), (3, ZBT true E s n), (4, .cells true 1 (aS E n) (.fn (dU (fun _ => (0, 0)))))]) hF (dJ rfl) (fG rfl)) (by omega) ?_
 have hG := dvG 2 (by omega) n 0 (aS E n) E (E (jF s (NM E n))) (fun _ => (0, 0)) (Gl (E (jF s (NM E n))).a (ND E n)) (JU (E (jF s (NM E n))).a (ND E n)) ⟨hn, rfl, fun j _ => ay _ rfl, hv⟩
 rw [ps, pl] at hG ⊢
 refine aj.aV (K1 := 5) (F1 := [(5, ZA 2), (8, Z6 E n 4), (9, iT (l7 (E (jF s (NM E n))).a (ND E n))), (10, .aP (jq (E (jF s (NM E n))).a (ND E n))), (11, iT (l7 (E (jF s (NM E n))).b (ND E n))), (12, .aP (jq (E (jF s (NM E n))).b (ND E n)))]) (H1 := [(2, BL true), (4, .cells true 1 (aS E n) (.fn (dU (fun _ => (0, 0)))))]) (aj.toN hG (dJ rfl) (fG rfl)) (by omega) ?_
 have la : jq (E (jF s (NM E n))).a (ND E n) = true → jF (E (jF s (NM E n))).a (ND E n) < aS E n := fun h => by have := BO h; omega
 have lb : jq (E (jF s (NM E n))).b (ND E n) = true → jF (E (jF s (NM E n))).b (ND E n) < aS E n := fun h => by have := BO h; omega
 refine aj.aV (K1 := 5) (F1 := [(5, ZA 2), (8, Z6 E n 4), (11, iT (l7 (E (jF s (NM E n))).b (ND E n))), (12, .aP (jq (E (jF s (NM E n))).b (ND E n)))]) (H1 := [(2, BL true), (4, ZCY true E n s)]) ((dvH 2 (by omega) 0 (aS E n) (fun _ => (0, 0)) (jq (E (jF s (NM E n))).a (ND E n)) (jq (E (jF s (NM E n))).b (ND E n)) (l7 (E (jF s (NM E n))).a (ND E n)) (l7 (E (jF s (NM E n))).b (ND E n)) (fun h => by rw [kH]; omega) (fun h => by rw [kH]; have := la h; omega) (fun h => by rw [kH]; have := la h; omega)).post fun e fr' H' h => ?_) (by omega) ?_
 ·refine bD h (fun t h => ?_) (fun t h => ?_)
  ·obtain ⟨rfl, rfl, rfl⟩ := h
   refine ⟨[(5, ZA 2), (8, Z6 E n 4), (11, iT (l7 (E (jF s (NM E n))).b (ND E n))), (12, .aP (jq (E (jF s (NM E n))).b (ND E n)))], [(2, BL true), (4, ZCY true E n s)], (dJ rfl), ⟨hs rfl, ⟨_, rfl, ⟨rfl, rfl, rfl, fun j hj => ?_⟩⟩, trivial⟩, rfl, rfl, rfl⟩
   rw [jR, t, cond_true, kH, Int.toNat_natCast, Nat.zero_add]
   exact qG (fun _ => (0, 0)) _ j (gI (0, 0) (4607182418800017408, 0))
  ·obtain ⟨rfl, rfl, rfl⟩ := h
   refine ⟨[(5, ZA 2), (8, Z6 E n 4), (11, iT (l7 (E (jF s (NM E n))).b (ND E n))), (12, .aP (jq (E (jF s (NM E n))).b (ND E n)))], [(2, BL true), (4, ZCY true E n s)], (dJ rfl), ⟨hs rfl, ⟨_, rfl, ⟨rfl, rfl, rfl, fun j hj => ?_⟩⟩, trivial⟩, rfl, rfl, rfl⟩
   rw [jR, t]; rfl
 refine aj.aV (K1 := 5) (F1 := [(5, ZA 2), (8, Z6 E n 4)]) (H1 := [(2, BL true), (4, ZBg true E n s)]) ((aiM 2 (by omega) 0 (aS E n) (dK gI (E (jF s (NM E n))).a (aB 0 (ND E n)) (fun _ => (0, 0)) (4607182418800017408, 0)).1 (jq (E (jF s (NM E n))).b (ND E n)) (l7 (E (jF s (NM E n))).b (ND E n)) (fun h => by rw [kH]; omega) (fun h => by rw [kH]; have := lb h; omega) (fun h => by rw [kH]; have := lb h; omega)).post fun e fr' H' h => ?_) (by omega) ?_
 ·refine bD h (fun t h => ?_) (fun t h => ?_)
  ·obtain ⟨rfl, rfl, rfl⟩ := h
   refine ⟨[(5, ZA 2), (8, Z6 E n 4)], [(2, BL true), (4, ZBg true E n s)], (dJ rfl), ⟨hs rfl, ⟨_, rfl, ⟨rfl, rfl, rfl, fun j hj => ?_⟩⟩, trivial⟩, rfl, rfl, rfl⟩
   unfold dvE
   rw [jR fU, t, cond_true, kH, Int.toNat_natCast, Nat.zero_add]
   exact qG _ _ j (fU _ (4607182418800017408, 0))
  ·obtain ⟨rfl, rfl, rfl⟩ := h
   refine ⟨[(5, ZA 2), (8, Z6 E n 4)], [(2, BL true), (4, ZBg true E n s)], (dJ rfl), ⟨hs rfl, ⟨_, rfl, ⟨rfl, rfl, rfl, fun j hj => ?_⟩⟩, trivial⟩, rfl, rfl, rfl⟩
   unfold dvE
   rw [jR fU, t]; rfl
 refine ((dvJ 2 (by omega) 0 (aS E n) (dvE (ND E n) (E (jF s (NM E n))))).up (by omega)).post fun e fr' H' h => ?_
 obtain ⟨rfl, rfl, rfl⟩ := h
 exact ⟨[(4, Z6 E n 4), (5, ZA 2)], [(2, BL true), (4, ZBg true E n s)], (dJ rfl), ⟨⟨_, rfl, ⟨rfl, rfl, rfl, zO (p := fun j => _ = _) rfl⟩⟩, hs rfl, trivial⟩, rfl, .inl ⟨by unfold PN; rw [h1, decide_eq_true h2]; rfl, rfl, rfl⟩⟩


noncomputable def XE : List AV → M AV
 | [.ptr a, .str sb s] => (M.dn (kT a)).andThen fun _ => (Gj a.g).andThen fun y => (M.dec (He s y.2 y.1.n)).andThen fun d => bif d then (newS 1 (aS y.2 y.1.n) (dU (LX s y.2 y.1.n))).andThen fun v => M.ret (.iD [v, .agg [ZC 0, ZC 0]]) else M.ret (.iD [.aX, .agg [ZC 10, Z7]])
 | _ => M.no
theorem XF : ∀ args, aC (XE args) := by
 intro args
 unfold XE
 split
 ·exact (aC.dn _).andThen fun _ => (qg _).andThen fun _ => (aC.dec _).andThen fun d => aC.cond ((aC.newS _ _ _).andThen fun _ => aC.ret _) (aC.ret _)
 ·exact aC.no
theorem aa7 : ∀ args v g g', XE args g = .done v g' → bf Try.prog 27 args v g g' := by
 intro args v g g' h
 unfold XE at h
 split at h
 case h_2 => exact (aY h).elim
 rename_i a sb s
 obtain ⟨_, g0, a0, h0⟩ := au h
 clear h
 obtain ⟨q0, rfl⟩ := aU a0
 obtain ⟨⟨w, E⟩, g1, a1, h1⟩ := au h0
 obtain ⟨qv, kv, fv⟩ := ni a1
 dsimp only at h1 fv
 obtain ⟨d, g2, a2, h2⟩ := au h1
 have kk := kv.trans (jc a2)
 have hA : ∀ M μ (cs : List Value), aI M μ [.ptr a, .str sb s] cs → aI 2 (μ.via (H6 a.g w)) [uz false 0, .str true s] cs := fun M μ cs hcs => by
  simp only [aI] at hcs ⊢
  obtain ⟨v1, r1, rfl, i1, v2, r2, rfl, i2, rfl⟩ := hcs
  exact ⟨v1, _, rfl, jS i1 (dX q0).1 (dX q0).2 (by omega) rfl, v2, _, rfl, by simpa only [Rep] using i2, rfl⟩
 cases d with
 | true =>
  rw [cond_true] at h2
  obtain ⟨v0, g3, a3, h3⟩ := au h2
  obtain ⟨rfl, rfl⟩ := aA h3
  obtain ⟨rfl, e1, e2, e3⟩ := oZ a3
  rw [kk.1, kk.2.1] at e1
  rw [kk.2.1] at e2 ⊢
  refine nK (c := (ak Try.f27)) Try.func27 (by kernel_rfl) (by kernel_rfl) (dY := [uz false 0, .str true s]) (fun hc => kk.2.2 (by rw [← e3]; exact hc)) (fun hp => fv hp.1) (K' := 12) (fun hp => hA) (bs := [.cells true 1 (aS E w.n) (.fn (dU (LX s E w.n)))]) (nms := [4]) rfl (by simp) (by simp) e1 (by rw [e2]; rfl) (fun b hb => ?_) ?_ ?_ (fun hp => ?_)
  ·rw [List.mem_singleton.1 hb]
   exact ⟨rfl, fun K j hj v hv => by rw [List.mem_singleton.1 hv]; rfl, fun S j hj o v hv => by
    match o, hv with
    | 0, hv => cases hv; trivial⟩
  ·simp only [AV.low, jw, Bool.and_true]
   exact Nat.ble_eq_true_of_le (show Nat.succ g.nx ≤ g.nx + 1 by omega)
  ·simp only [AV.ji, jg]
   exact ⟨⟨Nat.le_refl _, Nat.lt_succ_self _⟩, ⟨trivial, trivial, trivial⟩, trivial⟩
  ·refine (RI w.n E s (fv hp.1).n256 (fv hp.1).v64).mono fun e fr' H' h => ?_
   have hd := hp.2
   rw [JX] at hd
   obtain ⟨rfl, ⟨hi, rfl, rfl⟩ | ⟨hi, rfl, rfl⟩⟩ := h
   ·refine ⟨.inl rfl, [sL 4 (aS E w.n), .agg [NJ false, NJ false]], _, rfl, trivial, ?_, fun j b hb => ?_⟩
    ·simp only [AV.ren, lD, AA.ren, mZ]
     exact AV.ge.refl _
    ·match j, hb with
     | 0, hb => cases hb; exact ⟨_, rfl, ⟨rfl, rfl, rfl, fun j hj => by rw [OM]; rfl⟩⟩
   ·rw [hi] at hd; cases hd
 | false =>
  rw [cond_false] at h2
  obtain ⟨rfl, rfl⟩ := aA h2
  refine nK (c := (ak Try.f27)) Try.func27 (by kernel_rfl) (by kernel_rfl) (dY := [uz false 0, .str true s]) kk.2.2 (fun hp => fv hp.1) (K' := 12) (fun hp => hA) (bs := []) (nms := []) rfl (by simp) (by simp) (show g2.H = g.H from kk.1) (show g2.nx = g.nx from kk.2.1) (fun b hb => (by cases hb)) (by simp [AV.low, jw]) (by simp [AV.ji, jg]) (fun hp => ?_)
  refine (RI w.n E s (fv hp.1).n256 (fv hp.1).v64).mono fun e fr' H' h => ?_
  have hd := hp.2
  rw [JX] at hd
  obtain ⟨rfl, ⟨hi, rfl, rfl⟩ | ⟨hi, rfl, rfl⟩⟩ := h
  ·rw [hi] at hd; cases hd
  ·exact ⟨.inl rfl, [.aX, .agg [.int false .i64 10, .int false .i64 (-1)]], _, rfl, trivial, AV.ge.refl _, fun j b hb => (by cases hb)⟩


theorem RJ {x : Tx} {m : List Tx} : ∀ {l : List Tx} {i : Nat}, pos x l = some i → pos x (l ++ m) = some i
 | [], i, h => by cases h
 | y :: l, i, h => by
  show (bif x == y then some 0 else (pos x (l ++ m)).map (· + 1)) = some i
  have h : (bif x == y then some 0 else (pos x l).map (· + 1)) = some i := h
  cases e : x == y <;> rw [e] at h
  ·cases q : pos x l with
   | none => rw [q] at h; cases h
   | some j =>
    rw [q] at h
    rw [RJ q]
    exact h
  ·exact h
theorem RN {x : Tx} : ∀ {l : List Tx}, pos x l = none → pos x (l ++ [x]) = some l.length
 | [], h => by show (bif x == x then some 0 else none) = some 0; rw [beq_self_eq_true]; rfl
 | y :: l, h => by
  show (bif x == y then some 0 else (pos x (l ++ [x])).map (· + 1)) = some (l.length + 1)
  have h : (bif x == y then some 0 else (pos x l).map (· + 1)) = none := h
  cases e : x == y <;> rw [e] at h
  ·cases q : pos x l with
   | none => rw [RN q]; rfl
   | some j => rw [q] at h; cases h
  ·cases h
theorem XG {E : tE} {i : Nat} (hb : iY (E i) = true) : ∀ {n : Nat}, (∀ j, j < n → pos (E j).n (NM E j) = none) → i < n → pos (E i).n (BR E n) = some (BR E i).length
 | n + 1, hu, hi => by
  rw [show BR E (n + 1) = bif iY (E n) then BR E n ++ [(E n).n] else BR E n from rfl]
  by_cases c : i < n
  ·have := XG hb (n := n) (fun j hj => hu j (by omega)) c
   cases iY (E n)
   ·exact this
   ·exact RJ this
  ·obtain rfl : i = n := by omega
   rw [hb, cond_true]
   exact RN (VL E (hu i (by omega)))
theorem XH {E : tE} {j : Nat} (h : eU bU E j = 0) : bU (E j) = 0 ∧ pos (E j).n (NM E j) = none := by
 unfold eU at h
 by_cases c : bU (E j) = 0
 ·rw [decide_eq_true c, cond_true] at h
  refine ⟨c, ?_⟩
  cases q : pos (E j).n (NM E j) with
  | none => rfl
  | some m => rw [q] at h; exact absurd (show (9 : Int) = 0 from h) (by decide)
 ·rw [decide_eq_false c, cond_false] at h; exact absurd h c
noncomputable def okF (u : Nat) (f : tP) : Prop := ∀ j, j < u → kS (f j).1 (f j).2 = true
theorem Jo (f : tP) (y : Nat × Nat) {i j : Nat} (h : j ≠ i) : sN f i y j = f j := by
 unfold sN
 rw [Jh, decide_eq_false h]; rfl
theorem FK {u m : Nat} {f : tP} {y : Nat × Nat} (h : okF u f) (hy : kS y.1 y.2 = true) : okF u (sN f m y) := fun j hj => by
 by_cases c : j = m
 ·subst c; rw [wC]; exact hy
 ·rw [Jo f y c]; exact h j hj
theorem RP {u m : Nat} {f : tP} {y : Nat × Nat} (h : okF u (sN f m y)) (hm : m < u) : kS y.1 y.2 = true := by
 have := h m hm
 rwa [wC] at this
theorem agH {x y : Tx} {l : List Tx} (hx : jq x l = true) (hy : jq y l = true) (h : x ≠ y) : jF x l ≠ jF y l := by
 unfold jq at hx hy
 unfold jF
 cases a : pos x l with
 | none => rw [a] at hx; cases hx
 | some i =>
  cases b : pos y l with
  | none => rw [b] at hy; cases hy
  | some j =>
   intro c
   have c : i = j := c
   subst c
   exact h ((tK a).2.symm.trans (tK b).2)
theorem XI {nodes brs : List Tx} {z : El} {f : tP} {u : Nat} (hu : nodes.length ≤ u) (hm : z.k = 5 → nodes.length + (pos z.n brs).getD 0 < u) (hab : z.a ≠ z.b) (h : okF u f) : (lX nodes brs z f).2 = true ↔ okF u (lX nodes brs z f).1 := by
 unfold lX
 by_cases hp : gW z = 0
 ·rw [decide_eq_true hp, cond_true]
  by_cases h5 : z.k = 5
  ·rw [decide_eq_true h5, cond_true]
   exact ⟨fun q => FK h q, fun q => RP q (hm h5)⟩
  ·rw [decide_eq_false h5, cond_false, jR fU, jR gI]
   cases a : jq z.a nodes with
   | false =>
    simp only [cond_false]
    cases b : jq z.b nodes with
    | false => exact ⟨fun _ => h, fun _ => rfl⟩
    | true =>
     have lb := BO b
     simp only [cond_true, Bool.and_true]
     exact ⟨fun q => FK h q, fun q => RP q (by omega)⟩
   | true =>
    have la := BO a
    simp only [cond_true]
    cases b : jq z.b nodes with
    | false =>
     simp only [cond_false, Bool.true_and]
     exact ⟨fun q => FK h q, fun q => RP q (by omega)⟩
    | true =>
     have lb := BO b
     have ne := agH a b hab
     simp only [cond_true, Bool.and_eq_true]
     constructor
     ·rintro ⟨q1, q2⟩
      exact FK (FK h q2) q1
     ·intro q
      refine ⟨RP q (by omega), ?_⟩
      have := q (jF z.a nodes) (by omega)
      rwa [Jo _ _ ne, wC] at this
 ·rw [decide_eq_false hp, cond_false]
  exact ⟨fun _ => h, fun _ => rfl⟩


theorem Ua {P : Program} {n B K : Nat} {fr : Fr} {H : T aF} {Post : Po} (h : Post .normal fr H) : aj P .skip n B K K fr H Post := fun μ w a hg hf Q hQ => wp_skip (hQ .normal fr H a w h ⟨⟨μ, hg, ⟨.refl _ _, rfl, rfl, rfl, Nat.le_refl _, fun _ _ _ => rfl, fun _ _ h => h⟩, hf, rfl⟩⟩)
theorem aeA {z : El} (h : gW z = 0) : z.k = 4 ∨ z.k = 5 := by
 unfold gW JH at h
 by_cases c : gJ z.k z.n z.a z.b z.c z.d z.v z.ph = 0
 ·rw [decide_eq_true c, cond_true] at h
  by_cases c4 : z.k = 4
  ·exact .inl c4
  ·rw [decide_eq_false c4, cond_false] at h
   by_cases c5 : z.k = 5
   ·exact .inr c5
   ·rw [decide_eq_false c5, cond_false] at h
    exact absurd h (by decide)
 ·rw [decide_eq_false c, cond_false] at h; exact absurd h c
theorem XJ (n i : Nat) (E : tE) (hn : n ≤ 256) (hv : ∀ j, j < n → (E j).v < 18446744073709551616) (hi : i < n) (hg : ∀ j, j < n → eU bU E j = 0) (hb : iY (E i) = true) : (pos (E i).n (BR E n)).getD 0 = (BR E i).length ∧ (BR E i).length < (BR E n).length := by
 have h := XG hb (n := n) (fun j hj => (XH (hg j hj)).2) hi
 rw [h]
 exact ⟨rfl, (tK h).1⟩
theorem aeB {E : tE} {n i : Nat} : (RF E n (i + 1)) = (lX (ND E n) (BR E n) (E i) (RF E n i)).1 := rfl
/-- currents -/
noncomputable abbrev Zi (v0 : tE) (v1 v2 : Nat) := iT ((((ND v0 v1).length + (BR v0 v2).length : Nat)) : Int)
noncomputable abbrev Z3 (v0 : tE) (v1 v2 : Nat) := (.cells true 1 (aS v0 v1) (.fn (dU (bif (decide ((v0 v2).k = 4) && decide (gW (v0 v2) = 0)) then (dK gI (v0 v2).b (aB 0 (ND v0 v1)) ((dK fU (v0 v2).a (aB 0 (ND v0 v1)) (RF v0 v1 v2) (fE (v0 v2))).1) (fE (v0 v2))).1 else (RF v0 v1 v2)))) : aF)
noncomputable abbrev ZBM (v0 : tE) (v1 v2 : Nat) := (.cells true 1 (aS v0 v1) (.fn (dU (dK fU (v0 v2).a (aB 0 (ND v0 v1)) (RF v0 v1 v2) (fE (v0 v2))).1)) : aF)
noncomputable abbrev ZBW (v0 : tE) (v1 v2 : Nat) := ([(3, .cells true 1 (aS v0 v1) (.fn (dU (dK gI (v0 v2).b (aB 0 (ND v0 v1)) ((dK fU (v0 v2).a (aB 0 (ND v0 v1)) (RF v0 v1 v2) (fE (v0 v2))).1) (fE (v0 v2))).1)))] : tH)
noncomputable abbrev ZCm (v0 : tE) (v1 v2 : Nat) := iT (l7 (v0 v1).b (ND v0 v2))
noncomputable abbrev ZDE (v0 : tE) (v1 v2 : Nat) := iT (l7 (v0 v1).a (ND v0 v2))
noncomputable abbrev ZDJ (v0 : tE) (v1 v2 : Nat) := ([(0, ZA 0), (3, ZA 2), (4, Z6 v0 v1 3), (5, Zi v0 v1 v2), (6, sL 4 v1), (7, ZS v2), (8, .dD true (fE (v0 v2)).1 (fE (v0 v2)).2), (9, ZCt v0 v2)] : tF)
noncomputable abbrev ZDj (v0 : tE) (v1 v2 : Nat) := aQ [(0, ZA 0), (3, ZA 2), (4, Z6 v0 v1 3), (5, Zi v0 v1 v2), (6, sL 4 v1), (7, ZS v2), (8, .dD true (fE (v0 v2)).1 (fE (v0 v2)).2), (9, ZCt v0 v2), (10, ZDE v0 v2 v1), (11, .aP (jq (v0 v2).a (ND v0 v1))), (12, ZCm v0 v2 v1), (13, .aP (jq (v0 v2).b (ND v0 v1)))]
noncomputable abbrev ZEh (v0 : Nat) (v1 : tE) (v2 : Nat) := ([(0, ZN v0), (1, ZF v0 v1), (2, ZB), (3, Zp v1 v0 v2), (4, ZD v0 v1)] : tH)
theorem aeC (n i : Nat) (E : tE) (hn : n ≤ 256) (hv : ∀ j, j < n → (E j).v < 18446744073709551616) (hi : i < n) (hg : ∀ j, j < n → eU bU E j = 0) : aj Try.prog (aT [1,1,1,1,1,0,1,0,0,1,0,0,1,1,1,0] (ak Try.f25)) Try.f25.ntmps 2 5 5 (aQ [(0, .ptr ⟨false, 0, 0, 0⟩), (3, .ptr ⟨false, 2, 0, 0⟩), (4, sL 3 (aS E n)), (5, iT ((((ND E n).length + (BR E i).length : Nat)) : Int)), (6, sL 4 n), (7, iT ((i : Nat) : Int)), (8, .dD true (fE (E i)).1 (fE (E i)).2), (9, iT (gW (E i))), (10, iT (l7 (E i).a (ND E n))), (11, .aP (jq (E i).a (ND E n))), (12, iT (l7 (E i).b (ND E n))), (13, .aP (jq (E i).b (ND E n)))]) (hpL [(0, .cells false 2 1 (.fn fun _ => [sL 1 n, .bool true])), (1, .cells false 8 n (.fn fun j => bI (E j))), (2, .cells true 2 1 (.fn fun _ => [.int false .i64 0, .int false .i64 0])), (3, .cells true 1 (aS E n) (.fn (dU (RF E n i)))), (4, .cells true 8 n (.fn fun j => bI (E j)))]) (Nm [(0, .ptr ⟨false, 0, 0, 0⟩), (3, .ptr ⟨false, 2, 0, 0⟩), (4, sL 3 (aS E n)), (5, iT ((((ND E n).length + (BR E i).length : Nat)) : Int)), (6, sL 4 n), (7, iT ((i : Nat) : Int)), (8, .dD true (fE (E i)).1 (fE (E i)).2), (9, iT (gW (E i)))] [(0, .cells false 2 1 (.fn fun _ => [sL 1 n, .bool true])), (1, .cells false 8 n (.fn fun j => bI (E j))), (2, .cells true 2 1 (.fn fun _ => [.int false .i64 0, .int false .i64 0])), (3, .cells true 1 (aS E n) (.fn (dU (bif (decide ((E i).k = 4) && decide (gW (E i) = 0)) then (dK gI (E i).b (aB 0 (ND E n)) ((dK fU (E i).a (aB 0 (ND E n)) (RF E n i) (fE (E i))).1) (fE (E i))).1 else (RF E n i))))), (4, .cells true 8 n (.fn fun j => bI (E j)))]) := by
 have hb := xk E n hn
 have hc := mV E n
 have eu : aS E n = (ND E n).length + (BR E n).length := rfl
 have ps : Gl = jq := qQ
 have np : WW = jF := vN
 have pl : JU = l7 := vM
 have la : (jq (E i).a (ND E n)) = true → jF (E i).a (ND E n) < aS E n := fun h => by have := BO h; omega
 have lb : (jq (E i).b (ND E n)) = true → jF (E i).b (ND E n) < aS E n := fun h => by have := BO h; omega
 have h_rhL : aj Try.prog (aT [1,1,1,1,1,0,1,0,0,1,0,0,1,1,1,0,1,0,0] (ak Try.f25)) Try.f25.ntmps 5 5 5 (aQ [(0, .ptr ⟨false, 0, 0, 0⟩), (3, .ptr ⟨false, 2, 0, 0⟩), (4, sL 3 (aS E n)), (5, iT ((((ND E n).length + (BR E i).length : Nat)) : Int)), (6, sL 4 n), (7, iT ((i : Nat) : Int)), (8, .dD true (fE (E i)).1 (fE (E i)).2), (9, iT (gW (E i))), (10, iT (l7 (E i).a (ND E n))), (11, .aP (jq (E i).a (ND E n))), (12, iT (l7 (E i).b (ND E n))), (13, .aP (jq (E i).b (ND E n)))]) (hpL [(3, .cells true 1 (aS E n) (.fn (dU (RF E n i))))]) (Nm [(0, .ptr ⟨false, 0, 0, 0⟩), (3, .ptr ⟨false, 2, 0, 0⟩), (4, sL 3 (aS E n)), (5, iT ((((ND E n).length + (BR E i).length : Nat)) : Int)), (6, sL 4 n), (7, iT ((i : Nat) : Int)), (8, .dD true (fE (E i)).1 (fE (E i)).2), (9, iT (gW (E i))), (12, iT (l7 (E i).b (ND E n))), (13, .aP (jq (E i).b (ND E n)))] [(3, .cells true 1 (aS E n) (.fn (dU (dK fU (E i).a (aB 0 (ND E n)) (RF E n i) (fE (E i))).1)))]) := by
  refine (rhL 5 (by omega) n i 0 (aS E n) (RF E n i) (jq (E i).a (ND E n)) (jq (E i).b (ND E n)) (l7 (E i).a (ND E n)) (l7 (E i).b (ND E n)) (gW (E i)) ((((ND E n).length + (BR E i).length : Nat)) : Int) (fE (E i)).1 (fE (E i)).2 (fun h => by rw [kH]; omega) (fun h => by rw [kH]; have := la h; omega) (fun h => by rw [kH]; have := la h; omega)).post fun e fr' H' h => ?_
  refine bD h (fun t h => ?_) (fun t h => ?_)
  ·obtain ⟨rfl, rfl, rfl⟩ := h
   refine ⟨[(0, .ptr ⟨false, 0, 0, 0⟩), (3, .ptr ⟨false, 2, 0, 0⟩), (4, sL 3 (aS E n)), (5, iT ((((ND E n).length + (BR E i).length : Nat)) : Int)), (6, sL 4 n), (7, iT ((i : Nat) : Int)), (8, .dD true (fE (E i)).1 (fE (E i)).2), (9, iT (gW (E i))), (12, iT (l7 (E i).b (ND E n))), (13, .aP (jq (E i).b (ND E n)))], [(3, .cells true 1 (aS E n) (.fn (dU (dK fU (E i).a (aB 0 (ND E n)) (RF E n i) (fE (E i))).1)))], (dJ rfl), ⟨⟨_, rfl, ⟨rfl, rfl, rfl, fun j hj => ?_⟩⟩, trivial⟩, rfl, rfl, rfl⟩
   rw [jR fU, t, cond_true, kH, Int.toNat_natCast, Nat.zero_add]
   exact qG _ _ j (fU _ (fE (E i)))
  ·obtain ⟨rfl, rfl, rfl⟩ := h
   refine ⟨[(0, .ptr ⟨false, 0, 0, 0⟩), (3, .ptr ⟨false, 2, 0, 0⟩), (4, sL 3 (aS E n)), (5, iT ((((ND E n).length + (BR E i).length : Nat)) : Int)), (6, sL 4 n), (7, iT ((i : Nat) : Int)), (8, .dD true (fE (E i)).1 (fE (E i)).2), (9, iT (gW (E i))), (12, iT (l7 (E i).b (ND E n))), (13, .aP (jq (E i).b (ND E n)))], [(3, .cells true 1 (aS E n) (.fn (dU (dK fU (E i).a (aB 0 (ND E n)) (RF E n i) (fE (E i))).1)))], (dJ rfl), ⟨⟨_, rfl, ⟨rfl, rfl, rfl, fun j hj => ?_⟩⟩, trivial⟩, rfl, rfl, rfl⟩
   rw [jR fU, t]; rfl
 have h_rhM : aj Try.prog (aT [1,1,1,1,1,0,1,0,0,1,0,0,1,1,1,0,1,0,1] (ak Try.f25)) Try.f25.ntmps 5 5 5 (aQ [(0, .ptr ⟨false, 0, 0, 0⟩), (3, .ptr ⟨false, 2, 0, 0⟩), (4, sL 3 (aS E n)), (5, iT ((((ND E n).length + (BR E i).length : Nat)) : Int)), (6, sL 4 n), (7, iT ((i : Nat) : Int)), (8, .dD true (fE (E i)).1 (fE (E i)).2), (9, iT (gW (E i))), (12, iT (l7 (E i).b (ND E n))), (13, .aP (jq (E i).b (ND E n)))]) (hpL [(3, .cells true 1 (aS E n) (.fn (dU (dK fU (E i).a (aB 0 (ND E n)) (RF E n i) (fE (E i))).1)))]) (Nm [(0, .ptr ⟨false, 0, 0, 0⟩), (3, .ptr ⟨false, 2, 0, 0⟩), (4, sL 3 (aS E n)), (5, iT ((((ND E n).length + (BR E i).length : Nat)) : Int)), (6, sL 4 n), (7, iT ((i : Nat) : Int)), (8, .dD true (fE (E i)).1 (fE (E i)).2), (9, iT (gW (E i)))] [(3, .cells true 1 (aS E n) (.fn (dU (dK gI (E i).b (aB 0 (ND E n)) ((dK fU (E i).a (aB 0 (ND E n)) (RF E n i) (fE (E i))).1) (fE (E i))).1)))]) := by
  refine (rhM 5 (by omega) n i 0 (aS E n) ((dK fU (E i).a (aB 0 (ND E n)) (RF E n i) (fE (E i))).1) (jq (E i).b (ND E n)) (l7 (E i).b (ND E n)) (gW (E i)) ((((ND E n).length + (BR E i).length : Nat)) : Int) (fE (E i)).1 (fE (E i)).2 (fun h => by rw [kH]; omega) (fun h => by rw [kH]; have := lb h; omega) (fun h => by rw [kH]; have := lb h; omega)).post fun e fr' H' h => ?_
  refine bD h (fun t h => ?_) (fun t h => ?_)
  ·obtain ⟨rfl, rfl, rfl⟩ := h
   refine ⟨[(0, .ptr ⟨false, 0, 0, 0⟩), (3, .ptr ⟨false, 2, 0, 0⟩), (4, sL 3 (aS E n)), (5, iT ((((ND E n).length + (BR E i).length : Nat)) : Int)), (6, sL 4 n), (7, iT ((i : Nat) : Int)), (8, .dD true (fE (E i)).1 (fE (E i)).2), (9, iT (gW (E i)))], [(3, .cells true 1 (aS E n) (.fn (dU (dK gI (E i).b (aB 0 (ND E n)) ((dK fU (E i).a (aB 0 (ND E n)) (RF E n i) (fE (E i))).1) (fE (E i))).1)))], (dJ rfl), ⟨⟨_, rfl, ⟨rfl, rfl, rfl, fun j hj => ?_⟩⟩, trivial⟩, rfl, rfl, rfl⟩
   rw [jR gI, t, cond_true, kH, Int.toNat_natCast, Nat.zero_add]
   exact qG _ _ j (gI _ (fE (E i)))
  ·obtain ⟨rfl, rfl, rfl⟩ := h
   refine ⟨[(0, .ptr ⟨false, 0, 0, 0⟩), (3, .ptr ⟨false, 2, 0, 0⟩), (4, sL 3 (aS E n)), (5, iT ((((ND E n).length + (BR E i).length : Nat)) : Int)), (6, sL 4 n), (7, iT ((i : Nat) : Int)), (8, .dD true (fE (E i)).1 (fE (E i)).2), (9, iT (gW (E i)))], [(3, .cells true 1 (aS E n) (.fn (dU (dK gI (E i).b (aB 0 (ND E n)) ((dK fU (E i).a (aB 0 (ND E n)) (RF E n i) (fE (E i))).1) (fE (E i))).1)))], (dJ rfl), ⟨⟨_, rfl, ⟨rfl, rfl, rfl, fun j hj => ?_⟩⟩, trivial⟩, rfl, rfl, rfl⟩
   rw [jR gI, t]; rfl
 rw [show (aT [1,1,1,1,1,0,1,0,0,1,0,0,1,1,1,0] (ak Try.f25)) = .seq (aT [1,1,1,1,1,0,1,0,0,1,0,0,1,1,1,0,0] (ak Try.f25)) (.cond (.tmp 68) (.seq (aT [1,1,1,1,1,0,1,0,0,1,0,0,1,1,1,0,1,0,0] (ak Try.f25)) (aT [1,1,1,1,1,0,1,0,0,1,0,0,1,1,1,0,1,0,1] (ak Try.f25))) .skip) by kernel_rfl]
 have hK : aj Try.prog (aT [1,1,1,1,1,0,1,0,0,1,0,0,1,1,1,0,0] (ak Try.f25)) Try.f25.ntmps 5 5 5 (aQ [(0, .ptr ⟨false, 0, 0, 0⟩), (3, .ptr ⟨false, 2, 0, 0⟩), (4, sL 3 (aS E n)), (5, iT ((((ND E n).length + (BR E i).length : Nat)) : Int)), (6, sL 4 n), (7, iT ((i : Nat) : Int)), (8, .dD true (fE (E i)).1 (fE (E i)).2), (9, iT (gW (E i))), (10, iT (l7 (E i).a (ND E n))), (11, .aP (jq (E i).a (ND E n))), (12, iT (l7 (E i).b (ND E n))), (13, .aP (jq (E i).b (ND E n)))]) (hpL [(4, .cells true 8 n (.fn fun j => bI (E j)))]) (Nm [(0, .ptr ⟨false, 0, 0, 0⟩), (3, .ptr ⟨false, 2, 0, 0⟩), (4, sL 3 (aS E n)), (5, iT ((((ND E n).length + (BR E i).length : Nat)) : Int)), (6, sL 4 n), (7, iT ((i : Nat) : Int)), (8, .dD true (fE (E i)).1 (fE (E i)).2), (9, iT (gW (E i))), (10, iT (l7 (E i).a (ND E n))), (11, .aP (jq (E i).a (ND E n))), (12, iT (l7 (E i).b (ND E n))), (13, .aP (jq (E i).b (ND E n))), (68, .aP (decide ((E i).k = 4) && decide (gW (E i) = 0)))] [(4, .cells true 8 n (.fn fun j => bI (E j)))]) := by
  refine (rhK 5 (by omega) n i 0 (aS E n) E (jq (E i).a (ND E n)) (jq (E i).b (ND E n)) (l7 (E i).a (ND E n)) (l7 (E i).b (ND E n)) (gW (E i)) ((((ND E n).length + (BR E i).length : Nat)) : Int) (fE (E i)).1 (fE (E i)).2 (by omega) (by omega)).post fun e fr' H' h => ?_
  refine bD h (fun t h => ?_) (fun t h => ?_)
  ·obtain ⟨rfl, rfl, rfl⟩ := h
   rw [Nat.zero_add] at t
   exact ⟨[(0, .ptr ⟨false, 0, 0, 0⟩), (3, .ptr ⟨false, 2, 0, 0⟩), (4, sL 3 (aS E n)), (5, iT ((((ND E n).length + (BR E i).length : Nat)) : Int)), (6, sL 4 n), (7, iT ((i : Nat) : Int)), (8, .dD true (fE (E i)).1 (fE (E i)).2), (9, iT (gW (E i))), (10, iT (l7 (E i).a (ND E n))), (11, .aP (jq (E i).a (ND E n))), (12, iT (l7 (E i).b (ND E n))), (13, .aP (jq (E i).b (ND E n))), (68, .aP (decide ((E i).k = 4) && decide (gW (E i) = 0)))], [(4, .cells true 8 n (.fn fun j => bI (E j)))], ⟨re rfl, re rfl, re rfl, re rfl, re rfl, re rfl, re rfl, re rfl, re rfl, re rfl, re rfl, re rfl, ⟨_, rfl, AV.ge.ou (by rw [t, Bool.true_and])⟩, trivial⟩, ⟨hs rfl, trivial⟩, rfl, rfl, rfl⟩
  ·obtain ⟨rfl, rfl, rfl⟩ := h
   rw [Nat.zero_add] at t
   exact ⟨[(0, .ptr ⟨false, 0, 0, 0⟩), (3, .ptr ⟨false, 2, 0, 0⟩), (4, sL 3 (aS E n)), (5, iT ((((ND E n).length + (BR E i).length : Nat)) : Int)), (6, sL 4 n), (7, iT ((i : Nat) : Int)), (8, .dD true (fE (E i)).1 (fE (E i)).2), (9, iT (gW (E i))), (10, iT (l7 (E i).a (ND E n))), (11, .aP (jq (E i).a (ND E n))), (12, iT (l7 (E i).b (ND E n))), (13, .aP (jq (E i).b (ND E n))), (68, .aP (decide ((E i).k = 4) && decide (gW (E i) = 0)))], [(4, .cells true 8 n (.fn fun j => bI (E j)))], ⟨re rfl, re rfl, re rfl, re rfl, re rfl, re rfl, re rfl, re rfl, re rfl, re rfl, re rfl, re rfl, ⟨_, rfl, AV.ge.bool' (by rw [t]; rfl)⟩, trivial⟩, ⟨hs rfl, trivial⟩, rfl, rfl, rfl⟩
 refine aj.aV (K1 := 5) (F1 := [(0, .ptr ⟨false, 0, 0, 0⟩), (3, .ptr ⟨false, 2, 0, 0⟩), (4, sL 3 (aS E n)), (5, iT ((((ND E n).length + (BR E i).length : Nat)) : Int)), (6, sL 4 n), (7, iT ((i : Nat) : Int)), (8, .dD true (fE (E i)).1 (fE (E i)).2), (9, iT (gW (E i))), (10, iT (l7 (E i).a (ND E n))), (11, .aP (jq (E i).a (ND E n))), (12, iT (l7 (E i).b (ND E n))), (13, .aP (jq (E i).b (ND E n))), (68, .aP (decide ((E i).k = 4) && decide (gW (E i) = 0)))]) (H1 := [(0, .cells false 2 1 (.fn fun _ => [sL 1 n, .bool true])), (1, .cells false 8 n (.fn fun j => bI (E j))), (2, .cells true 2 1 (.fn fun _ => [.int false .i64 0, .int false .i64 0])), (3, .cells true 1 (aS E n) (.fn (dU (RF E n i)))), (4, .cells true 8 n (.fn fun j => bI (E j)))]) (aj.toN (aj.lower (aj.dB (bl := [(4, .cells true 8 n (.fn fun j => bI (E j)))]) (iL := [(4, .cells true 8 n (.fn fun j => bI (E j)))]) (xl := [(0, .cells false 2 1 (.fn fun _ => [sL 1 n, .bool true])), (1, .cells false 8 n (.fn fun j => bI (E j))), (2, .cells true 2 1 (.fn fun _ => [.int false .i64 0, .int false .i64 0])), (3, .cells true 1 (aS E n) (.fn (dU (RF E n i))))]) hK (by omega) (UA (by omega) (by omega) (sO (by omega) (nU (by omega) (rD (by omega) trivial)))) rfl rfl ⟨.inl rfl, trivial⟩) (by omega)) (dJ rfl) (fG rfl)) (by omega) ?_
 refine aj.cond (s := true) (b := (decide ((E i).k = 4) && decide (gW (E i) = 0))) rfl (fun t => ?_) (fun t => ?_)
 ·rw [t, cond_true]
  refine aj.dW (fl := [(0, .ptr ⟨false, 0, 0, 0⟩), (3, .ptr ⟨false, 2, 0, 0⟩), (4, sL 3 (aS E n)), (5, iT ((((ND E n).length + (BR E i).length : Nat)) : Int)), (6, sL 4 n), (7, iT ((i : Nat) : Int)), (8, .dD true (fE (E i)).1 (fE (E i)).2), (9, iT (gW (E i))), (10, iT (l7 (E i).a (ND E n))), (11, .aP (jq (E i).a (ND E n))), (12, iT (l7 (E i).b (ND E n))), (13, .aP (jq (E i).b (ND E n)))]) (bl := [(3, .cells true 1 (aS E n) (.fn (dU (RF E n i)))), (0, .cells false 2 1 (.fn fun _ => [sL 1 n, .bool true])), (1, .cells false 8 n (.fn fun j => bI (E j))), (2, .cells true 2 1 (.fn fun _ => [.int false .i64 0, .int false .i64 0])), (4, .cells true 8 n (.fn fun j => bI (E j)))]) (dJ rfl) (fG rfl) ?_
  refine aj.aV (K1 := 5) (F1 := [(0, .ptr ⟨false, 0, 0, 0⟩), (3, .ptr ⟨false, 2, 0, 0⟩), (4, sL 3 (aS E n)), (5, iT ((((ND E n).length + (BR E i).length : Nat)) : Int)), (6, sL 4 n), (7, iT ((i : Nat) : Int)), (8, .dD true (fE (E i)).1 (fE (E i)).2), (9, iT (gW (E i))), (12, iT (l7 (E i).b (ND E n))), (13, .aP (jq (E i).b (ND E n)))]) (H1 := [(3, .cells true 1 (aS E n) (.fn (dU (dK fU (E i).a (aB 0 (ND E n)) (RF E n i) (fE (E i))).1))), (0, .cells false 2 1 (.fn fun _ => [sL 1 n, .bool true])), (1, .cells false 8 n (.fn fun j => bI (E j))), (2, .cells true 2 1 (.fn fun _ => [.int false .i64 0, .int false .i64 0])), (4, .cells true 8 n (.fn fun j => bI (E j)))]) (aj.toN (aj.lower (aj.dB (bl := [(3, .cells true 1 (aS E n) (.fn (dU (RF E n i))))]) (iL := [(3, .cells true 1 (aS E n) (.fn (dU (dK fU (E i).a (aB 0 (ND E n)) (RF E n i) (fE (E i))).1)))]) (xl := [(0, .cells false 2 1 (.fn fun _ => [sL 1 n, .bool true])), (1, .cells false 8 n (.fn fun j => bI (E j))), (2, .cells true 2 1 (.fn fun _ => [.int false .i64 0, .int false .i64 0])), (4, .cells true 8 n (.fn fun j => bI (E j)))]) h_rhL (by omega) (UA (by omega) (by omega) (sO (by omega) (nU (by omega) (sO (by omega) trivial)))) rfl rfl ⟨.inl rfl, trivial⟩) (by omega)) (dJ rfl) (fG rfl)) (by omega) ?_
  exact aj.toN (aj.lower (aj.dB (bl := [(3, .cells true 1 (aS E n) (.fn (dU (dK fU (E i).a (aB 0 (ND E n)) (RF E n i) (fE (E i))).1)))]) (iL := [(3, .cells true 1 (aS E n) (.fn (dU (dK gI (E i).b (aB 0 (ND E n)) ((dK fU (E i).a (aB 0 (ND E n)) (RF E n i) (fE (E i))).1) (fE (E i))).1)))]) (xl := [(0, .cells false 2 1 (.fn fun _ => [sL 1 n, .bool true])), (1, .cells false 8 n (.fn fun j => bI (E j))), (2, .cells true 2 1 (.fn fun _ => [.int false .i64 0, .int false .i64 0])), (4, .cells true 8 n (.fn fun j => bI (E j)))]) h_rhM (by omega) (UA (by omega) (by omega) (sO (by omega) (nU (by omega) (sO (by omega) trivial)))) rfl rfl ⟨.inl rfl, trivial⟩) (by omega)) (dJ rfl) (fG rfl)
 ·rw [t, cond_false]
  refine aj.dW (fl := [(0, .ptr ⟨false, 0, 0, 0⟩), (3, .ptr ⟨false, 2, 0, 0⟩), (4, sL 3 (aS E n)), (5, iT ((((ND E n).length + (BR E i).length : Nat)) : Int)), (6, sL 4 n), (7, iT ((i : Nat) : Int)), (8, .dD true (fE (E i)).1 (fE (E i)).2), (9, iT (gW (E i)))]) (bl := [(0, .cells false 2 1 (.fn fun _ => [sL 1 n, .bool true])), (1, .cells false 8 n (.fn fun j => bI (E j))), (2, .cells true 2 1 (.fn fun _ => [.int false .i64 0, .int false .i64 0])), (3, .cells true 1 (aS E n) (.fn (dU (RF E n i)))), (4, .cells true 8 n (.fn fun j => bI (E j)))]) (dJ rfl) (fG rfl) ?_
  exact Ua ⟨rfl, rfl, rfl⟩
/-- voltages -/
noncomputable abbrev ZDf (v0 : tE) (v1 v2 : Nat) := ([(0, ZA 0), (3, ZA 2), (4, Z6 v0 v1 3), (5, Zi v0 v1 v2), (6, sL 4 v1), (7, ZS v2)] : tF)
noncomputable abbrev ZFA (v0 : Nat) (v1 : tE) (v2 : Nat) := ([(0, ZN v0), (1, ZF v0 v1), (2, ZB), (3, Zr v1 v0 v2), (4, ZD v0 v1)] : tH)
theorem aeD (n i : Nat) (E : tE) (hn : n ≤ 256) (hv : ∀ j, j < n → (E j).v < 18446744073709551616) (hi : i < n) (hg : ∀ j, j < n → eU bU E j = 0) : aj Try.prog ZCd Try.f25.ntmps 2 5 5 (aQ (ZDJ E n i)) (hpL [(0, ZN n), (1, ZF n E), (2, ZB), (3, Z3 E n i), (4, ZD n E)]) (Nm (ZDf E n i) (ZFA n E i)) := by
 have hb := xk E n hn
 have hc := mV E n
 have eu : aS E n = (ND E n).length + (BR E n).length := rfl
 have ps : Gl = jq := qQ
 have np : WW = jF := vN
 have pl : JU = l7 := vM
 have hN : aj Try.prog ZCd Try.f25.ntmps 5 5 5 (aQ (ZDJ E n i)) (hpL [(3, Z3 E n i), (4, ZD n E)]) (Nm (ZDf E n i) [(3, Zr E n i), (4, ZD n E)]) := by
  have hl : (E i).k = 5 → (ND E n).length + (BR E i).length < aS E n := fun h5 => by have := (XJ n i E hn hv hi hg (EU (decide_eq_true h5))).2; omega
  refine (rhN 5 (by omega) n i 0 (aS E n) E (bif (decide ((E i).k = 4) && decide (gW (E i) = 0)) then (dK gI (E i).b (aB 0 (ND E n)) ((dK fU (E i).a (aB 0 (ND E n)) (RF E n i) (fE (E i))).1) (fE (E i))).1 else (RF E n i)) (gW (E i)) ((((ND E n).length + (BR E i).length : Nat)) : Int) (fE (E i)).1 (fE (E i)).2 (by omega) (by omega) (fun h _ => by omega) (fun h _ => by rw [Nat.zero_add] at h; have := hl (of_decide_eq_true h); omega) (fun h _ => by rw [Nat.zero_add] at h; have := hl (of_decide_eq_true h); omega)).post fun e fr' H' h => ?_
  rw [Nat.zero_add] at h
  by_cases h5 : (E i).k = 5
  ·have c4 : (decide ((E i).k = 4) && decide (gW (E i) = 0)) = false := by rw [decide_eq_false (show ¬ (E i).k = 4 by omega)]; rfl
   rw [decide_eq_true h5, cond_true, c4, cond_false] at h
   have hp := (XJ n i E hn hv hi hg (EU (decide_eq_true h5))).1
   by_cases h0 : gW (E i) = 0
   ·rw [decide_eq_true h0, cond_true] at h
    obtain ⟨rfl, rfl, rfl⟩ := h
    refine ⟨(ZDf E n i), [(3, Zr E n i), (4, ZD n E)], (dJ rfl), ⟨⟨_, rfl, ⟨rfl, rfl, rfl, fun j hj => ?_⟩⟩, hs rfl, trivial⟩, rfl, rfl, rfl⟩
    rw [aeB, lX, decide_eq_true h0, cond_true, decide_eq_true h5, cond_true, hp, Int.toNat_natCast, Nat.zero_add]
    exact qG (RF E n i) _ j (fE (E i))
   ·rw [decide_eq_false h0, cond_false] at h
    obtain ⟨rfl, rfl, rfl⟩ := h
    refine ⟨(ZDf E n i), [(3, Zr E n i), (4, ZD n E)], (dJ rfl), ⟨⟨_, rfl, ⟨rfl, rfl, rfl, fun j hj => ?_⟩⟩, hs rfl, trivial⟩, rfl, rfl, rfl⟩
    rw [aeB, lX, decide_eq_false h0]; rfl
  ·rw [decide_eq_false h5, cond_false] at h
   obtain ⟨rfl, rfl, rfl⟩ := h
   refine ⟨(ZDf E n i), [(3, Zr E n i), (4, ZD n E)], (dJ rfl), ⟨⟨_, rfl, ⟨rfl, rfl, rfl, fun j hj => ?_⟩⟩, hs rfl, trivial⟩, rfl, rfl, rfl⟩
   rw [aeB, lX]
   by_cases h0 : gW (E i) = 0
   ·have h4 : (E i).k = 4 := (aeA h0).resolve_right h5
    rw [decide_eq_true h0, decide_eq_true h4, decide_eq_false h5]; rfl
   ·rw [decide_eq_false h0, Bool.and_false]; rfl
 refine aj.dW (fl := (ZDJ E n i)) (bl := [(3, Z3 E n i), (4, ZD n E), (0, ZN n), (1, ZF n E), (2, ZB)]) (dJ rfl) (fG rfl) ?_
 exact aj.toN (aj.lower (aj.dB (bl := [(3, Z3 E n i), (4, ZD n E)]) (iL := [(3, Zr E n i), (4, ZD n E)]) (xl := (ZFB n E)) hN (by omega) (UA (by omega) (by omega) (sO (by omega) (nU (by omega) trivial))) rfl rfl ⟨.inl rfl, .inl rfl, trivial⟩) (by omega)) (dJ rfl) (fG rfl)
/-- an element's round up to the test of all numbers -/
noncomputable abbrev Zw (v0 : tE) (v1 v2 : Nat) := iT ((((ND v0 v1).length + (BR v0 (v2 + 1)).length : Nat)) : Int)
noncomputable abbrev ZDg (v0 : tE) (v1 v2 : Nat) := ([(0, ZA 0), (3, ZA 2), (4, Z6 v0 v1 3), (5, Zw v0 v1 v2), (6, sL 4 v1), (7, ZS v2)] : tF)
noncomputable abbrev ZE6 (v0 : tE) (v1 v2 : Nat) := ([(0, ZA 0), (3, ZA 2), (4, Z6 v0 v1 3), (5, Zw v0 v1 v2), (6, sL 4 v1), (7, ZS v2), (14, Zc 0)] : tF)
theorem aeE (n i : Nat) (E : tE) (hn : n ≤ 256) (hv : ∀ j, j < n → (E j).v < 18446744073709551616) (hi : i < n) (hg : ∀ j, j < n → eU bU E j = 0) {K' : Nat} {Post : Po} (hK : 5 ≤ K') (k : aj Try.prog (.block 2 (.loop ZB4)) Try.f25.ntmps 2 5 K' (aQ (ZE6 E n i)) (hpL (ZFA n E i)) Post) : aj Try.prog (.seq (aT [1,1,1,1,1,0,1,0,0,1,0,0,0] (ak Try.f25)) (.seq (aT [1,1,1,1,1,0,1,0,0,1,0,0,1,0] (ak Try.f25)) (.seq (aT [1,1,1,1,1,0,1,0,0,1,0,0,1,1,0] (ak Try.f25)) (.seq (aT [1,1,1,1,1,0,1,0,0,1,0,0,1,1,1,0] (ak Try.f25)) (.seq ZCd (.seq ZC2 (.seq ZC0 (.block 2 (.loop ZB4))))))))) Try.f25.ntmps 2 5 K' (aQ (ZDf E n i)) (hpL (ZEh n E i)) Post := by
 have hb := xk E n hn
 have hc := mV E n
 have eu : aS E n = (ND E n).length + (BR E n).length := rfl
 have ps : Gl = jq := qQ
 have np : WW = jF := vN
 have pl : JU = l7 := vM
 refine aj.dW (fl := (ZDf E n i)) (bl := [(4, ZD n E), (0, ZN n), (1, ZF n E), (2, ZB), (3, Zp E n i)]) (dJ rfl) (fG rfl) ?_
 refine aj.aV (K1 := 5) (F1 := (ZDJ E n i)) (H1 := [(0, ZN n), (1, ZF n E), (4, ZD n E), (2, ZB), (3, Zp E n i)]) (aj.toN (aj.lower (aj.dB (bl := [(4, ZD n E)]) (iL := [(4, ZD n E)]) (xl := [(0, ZN n), (1, ZF n E), (2, ZB), (3, Zp E n i)]) (rhH 5 (by omega) n i 0 (aS E n) E ((((ND E n).length + (BR E i).length : Nat)) : Int) (by omega) (by omega) (by rw [Nat.zero_add]; exact hv i hi)) (by omega) (UA (by omega) (by omega) (sO (by omega) (nU (by omega) (rD (by omega) trivial)))) rfl rfl ⟨.inl rfl, trivial⟩) (by omega)) ⟨re rfl, re rfl, re rfl, re rfl, re rfl, re rfl, ⟨_, rfl, AV.ge.SI _ _ (by rw [Nat.zero_add]; rfl) (by rw [Nat.zero_add]; rfl)⟩, ⟨_, rfl, AV.ge.int' _ _ _ (by rw [Nat.zero_add]; rfl)⟩, trivial⟩ (fG rfl)) (by omega) ?_
 refine aj.aV (K1 := 5) (F1 := [(0, ZA 0), (3, ZA 2), (4, Z6 E n 3), (5, Zi E n i), (6, sL 4 n), (7, ZS i), (8, .dD true (fE (E i)).1 (fE (E i)).2), (9, ZCt E i), (10, ZDE E i n), (11, .aP (jq (E i).a (ND E n)))]) (H1 := [(0, ZN n), (1, ZF n E), (4, ZD n E), (2, ZB), (3, Zp E n i)]) (aj.toN (aj.lower (aj.dB (bl := (ZFF n E)) (iL := (ZFF n E)) (xl := [(2, ZB), (3, Zp E n i)]) (rhI 5 (by omega) n i 0 (aS E n) E (gW (E i)) ((((ND E n).length + (BR E i).length : Nat)) : Int) (fE (E i)).1 (fE (E i)).2 (by omega) (by omega) ⟨hn, rfl, fun j _ => ay _ rfl, hv⟩) (by omega) (nU (by omega) (rD (by omega) trivial)) rfl rfl ⟨.inr ⟨by omega, _, rfl, fun _ h => h⟩, .inr ⟨by omega, _, rfl, fun _ h => h⟩, .inl rfl, trivial⟩) (by omega)) ⟨re rfl, re rfl, re rfl, re rfl, re rfl, re rfl, re rfl, re rfl, ⟨_, rfl, AV.ge.int' _ _ _ (by rw [Nat.zero_add, pl])⟩, ⟨_, rfl, AV.ge.ou (by rw [Nat.zero_add, ps])⟩, trivial⟩ (fG rfl)) (by omega) ?_
 refine aj.aV (K1 := 5) (F1 := [(0, ZA 0), (3, ZA 2), (4, Z6 E n 3), (5, Zi E n i), (6, sL 4 n), (7, ZS i), (8, .dD true (fE (E i)).1 (fE (E i)).2), (9, ZCt E i), (10, ZDE E i n), (11, .aP (jq (E i).a (ND E n))), (12, ZCm E i n), (13, .aP (jq (E i).b (ND E n)))]) (H1 := (ZEh n E i)) (aj.toN (aj.lower (aj.dB (bl := (ZFF n E)) (iL := (ZFF n E)) (xl := [(2, ZB), (3, Zp E n i)]) (rhJ 5 (by omega) n i 0 (aS E n) E (jq (E i).a (ND E n)) (l7 (E i).a (ND E n)) (gW (E i)) ((((ND E n).length + (BR E i).length : Nat)) : Int) (fE (E i)).1 (fE (E i)).2 (by omega) (by omega) ⟨hn, rfl, fun j _ => ay _ rfl, hv⟩) (by omega) (nU (by omega) (rD (by omega) trivial)) rfl rfl ⟨.inr ⟨by omega, _, rfl, fun _ h => h⟩, .inr ⟨by omega, _, rfl, fun _ h => h⟩, .inl rfl, trivial⟩) (by omega)) ⟨re rfl, re rfl, re rfl, re rfl, re rfl, re rfl, re rfl, re rfl, re rfl, re rfl, ⟨_, rfl, AV.ge.int' _ _ _ (by rw [Nat.zero_add, pl])⟩, ⟨_, rfl, AV.ge.ou (by rw [Nat.zero_add, ps])⟩, trivial⟩ (fG rfl)) (by omega) ?_
 refine aj.aV (K1 := 5) (aeC n i E hn hv hi hg) (by omega) ?_
 refine aj.aV (K1 := 5) (aeD n i E hn hv hi hg) (by omega) ?_
 have hO : aj Try.prog ZC2 Try.f25.ntmps 5 5 5 (aQ (ZDf E n i)) (hpL [(4, ZD n E)]) (Nm (ZDg E n i) [(4, ZD n E)]) := by
  have e1 : BR E (i + 1) = bif iY (E i) then BR E i ++ [(E i).n] else BR E i := rfl
  refine (rhO 5 (by omega) n i 0 (aS E n) E ((((ND E n).length + (BR E i).length : Nat)) : Int) (by omega) (by omega) (by omega) (by have := mV E i; omega)).post fun e fr' H' h => ?_
  rw [Nat.zero_add] at h
  refine bD h (fun t h => ?_) (fun t h => ?_)
  ·obtain ⟨rfl, rfl, rfl⟩ := h
   exact ⟨(ZDg E n i), [(4, ZD n E)], ⟨re rfl, re rfl, re rfl, ⟨_, rfl, AV.ge.int' _ _ _ (by rw [e1, show iY (E i) = true by unfold iY; rw [t]; rfl, cond_true, List.length_append]; simp; omega)⟩, dJ rfl⟩, ⟨hs rfl, trivial⟩, rfl, rfl, rfl⟩
  ·refine bD h (fun u h => ?_) (fun u h => ?_)
   ·obtain ⟨rfl, rfl, rfl⟩ := h
    exact ⟨(ZDg E n i), [(4, ZD n E)], ⟨re rfl, re rfl, re rfl, ⟨_, rfl, AV.ge.int' _ _ _ (by rw [e1, show iY (E i) = true by unfold iY; rw [t, u]; rfl, cond_true, List.length_append]; simp; omega)⟩, dJ rfl⟩, ⟨hs rfl, trivial⟩, rfl, rfl, rfl⟩
   ·obtain ⟨rfl, rfl, rfl⟩ := h
    exact ⟨(ZDg E n i), [(4, ZD n E)], ⟨re rfl, re rfl, re rfl, ⟨_, rfl, AV.ge.int' _ _ _ (by rw [e1, show iY (E i) = false by unfold iY; rw [t, u]; rfl, cond_false])⟩, dJ rfl⟩, ⟨hs rfl, trivial⟩, rfl, rfl, rfl⟩
 refine aj.dW (fl := (ZDf E n i)) (bl := [(4, ZD n E), (0, ZN n), (1, ZF n E), (2, ZB), (3, Zr E n i)]) (dJ rfl) (fG rfl) ?_
 refine aj.aV (K1 := 5) (F1 := (ZDg E n i)) (H1 := (ZFA n E i)) (aj.toN (aj.lower (aj.dB (bl := [(4, ZD n E)]) (iL := [(4, ZD n E)]) (xl := [(0, ZN n), (1, ZF n E), (2, ZB), (3, Zr E n i)]) hO (by omega) (UA (by omega) (by omega) (sO (by omega) (nU (by omega) (rD (by omega) trivial)))) rfl rfl ⟨.inl rfl, trivial⟩) (by omega)) (dJ rfl) (fG rfl)) (by omega) ?_
 have hP : aj Try.prog ZC0 Try.f25.ntmps 5 5 5 (aQ (ZDg E n i)) (hpL []) (Nm (ZE6 E n i) []) := aj.toN (rhP 5 (by omega) n i (aS E n) ((((ND E n).length + (BR E (i + 1)).length : Nat)) : Int)) ⟨re rfl, re rfl, re rfl, re rfl, re rfl, re rfl, ⟨_, rfl, AV.ge.int _ _ _ _⟩, trivial⟩ trivial
 exact aj.aV (K1 := 5) (aj.lower (aj.fP (xl := (ZFA n E i)) hP (by omega) (UA (by omega) (by omega) (sO (by omega) (nU (by omega) (rD (by omega) (sO (by omega) trivial)))))) (by omega)) hK k


theorem cz0 {b : Bool} {x y : Int} (hx : x ≠ 0) (hy : y ≠ 0) : (bif b then x else y) ≠ 0 := by cases b <;> assumption
theorem aeF {z : El} (h : bU z = 0) : z.a ≠ z.b := by
 intro e
 refine absurd h ?_
 unfold bU gJ
 have : (z.a == z.b) = true := by rw [e]; exact beq_self_eq_true _
 simp only [this, cond_true]
 repeat' (first | decide | apply cz0)
/-- the test of all numbers -/
noncomputable abbrev ZET (v0 : Nat) (w0 w1) := ([(w0, .cells true 2 1 (.fn fun _ => [ZC w1, ZS v0]))] : tH)
theorem agI (n i : Nat) (E : tE) (hn : n ≤ 256) : aj Try.prog (.block 2 (.loop ZB4)) Try.f25.ntmps 5 5 5 (aQ (ZE6 E n i)) (hpL [(2, ZB), (3, Zr E n i)]) (fun e fr' H' => (okF (aS E n) (RF E n (i + 1)) ∧ e = .normal ∧ fr' = aQ (ZDg E n i) ∧ H' = hpL [(2, ZB), (3, Zr E n i)]) ∨ (¬ okF (aS E n) (RF E n (i + 1)) ∧ e = .ret ∧ fr' = aQ [(2, .aX), (3, ZA 2)] ∧ H' = hpL (ZET i 2 6))) := by
 have hb := xk E n hn
 have hc := mV E n
 have eu : aS E n = (ND E n).length + (BR E n).length := rfl
 have ps : Gl = jq := qQ
 have np : WW = jF := vN
 have pl : JU = l7 := vM
 refine (aj.count (aS E n) (fun j => [(0, ZA 0), (3, ZA 2), (4, Z6 E n 3), (5, Zw E n i), (6, sL 4 n), (7, ZS i), (14, iT ((j : Nat) : Int))]) (fun _ => [(2, ZB), (3, Zr E n i)]) (ZDg E n i) [(2, ZB), (3, Zr E n i)] (fun j => ∀ x, x < j → kS ((RF E n (i + 1)) x).1 ((RF E n (i + 1)) x).2 = true) (fun fr' H' => ¬ okF (aS E n) (RF E n (i + 1)) ∧ fr' = aQ [(2, .aX), (3, ZA 2)] ∧ H' = hpL (ZET i 2 6)) (fun x hx => absurd hx (Nat.not_lt_zero x)) (fun j hj hI => ?_)).mono fun e fr' H' h => ?_
 ·refine (rhQ 5 (by omega) n i j (aS E n) (RF E n (i + 1)) ((((ND E n).length + (BR E (i + 1)).length : Nat)) : Int) (fun _ _ _ => by omega)).post fun e fr' H' h => ?_
  refine bD h (fun t h => ?_) (fun t h => ?_)
  ·have hlt : j < (aS E n) := by have := of_decide_eq_true t; omega
   have bad : kS ((RF E n (i + 1)) j).1 ((RF E n (i + 1)) j).2 = false → ¬ okF (aS E n) (RF E n (i + 1)) := fun q k => by rw [k j hlt] at q; cases q
   have ret : ∀ {e : Ex} {fr' : Fr} {H' : T aF}, kS ((RF E n (i + 1)) j).1 ((RF E n (i + 1)) j).2 = false → e = .ret → (e = .ret ∧ ¬ okF (aS E n) (RF E n (i + 1)) ∧ aQ [(2, .aX), (3, ZA 2)] = aQ [(2, .aX), (3, ZA 2)] ∧ hpL (ZET i 2 6) = hpL (ZET i 2 6)) := fun q e => ⟨e, bad q, rfl, rfl⟩
   refine bD h (fun u h => ?_) (fun u h => ?_)
   ·rw [Nat.zero_add] at u h
    refine bD h (fun w h => ?_) (fun w h => ?_)
    ·obtain ⟨rfl, rfl, rfl⟩ := h
     refine ⟨[(0, ZA 0), (3, ZA 2), (4, Z6 E n 3), (5, Zw E n i), (6, sL 4 n), (7, ZS i), (14, iT (((j + 1) : Nat) : Int))], [(2, ZB), (3, Zr E n i)], ⟨re rfl, re rfl, re rfl, re rfl, re rfl, re rfl, ⟨_, rfl, AV.ge.int' _ _ _ (by omega)⟩, trivial⟩, (fG rfl), .inl ⟨rfl, hlt, fun x hx => ?_, rfl, rfl⟩⟩
     by_cases c : x < j
     ·exact hI x c
     ·obtain rfl : x = j := by omega
      unfold kS; rw [u, w]; rfl
    ·obtain ⟨rfl, rfl, rfl⟩ := h
     exact ⟨[(2, .aX), (3, ZA 2)], (ZET i 2 6), (dJ rfl), ⟨⟨_, rfl, ⟨rfl, rfl, rfl, zO (p := fun j => _ = _) rfl⟩⟩, trivial⟩, .inr (.inr ⟨rfl, bad (by unfold kS; rw [u, w]; rfl), rfl, rfl⟩)⟩
   ·rw [Nat.zero_add] at u
    obtain ⟨rfl, rfl, rfl⟩ := h
    exact ⟨[(2, .aX), (3, ZA 2)], (ZET i 2 6), (dJ rfl), ⟨⟨_, rfl, ⟨rfl, rfl, rfl, zO (p := fun j => _ = _) rfl⟩⟩, trivial⟩, .inr (.inr ⟨rfl, bad (by unfold kS; rw [u]; rfl), rfl, rfl⟩)⟩
  ·have e0 : j = (aS E n) := by have := of_decide_eq_false t; omega
   obtain ⟨rfl, rfl, rfl⟩ := h
   exact ⟨(ZDg E n i), [(2, ZB), (3, Zr E n i)], (dJ rfl), (fG rfl), .inr (.inl ⟨rfl, e0 ▸ hI, rfl, rfl⟩)⟩
 ·rcases h with ⟨rfl, hI, rfl, rfl⟩ | ⟨rfl, h1, rfl, rfl⟩
  ·exact .inl ⟨hI, rfl, rfl, rfl⟩
  ·exact .inr ⟨h1, rfl, rfl, rfl⟩
noncomputable abbrev ZEN (v0) (v1 : Nat) (v2) := (.cells v0 2 1 (.fn fun _ => [sL 1 v1, .bool v2]) : aF)
noncomputable abbrev ZFD (v0) (v1 : tE) (v2 v3 : Nat) := (.cells v0 1 (aS v1 v2) (.fn (dU (RF v1 v2 (v3 + 1)))) : aF)
noncomputable abbrev Z5 (v0) (v1 : Nat) (v2) (v3 : tE) (v4 : Nat) := ([(0, ZEN v0 v1 v2), (1, .cells v0 8 v1 (.fn fun j => bI (v3 j))), (2, .cells v2 2 1 (.fn fun _ => [.int v0 .i64 0, .int v0 .i64 0])), (3, ZFD v2 v3 v1 v4), (4, .cells v2 8 v1 (.fn fun j => bI (v3 j)))] : tH)
noncomputable abbrev RQ (v0) (v1 : Nat) (v2 : tE) := (.cells v0 8 v1 (.fn fun j => bI (v2 j)) : aF)
noncomputable abbrev ZEd (v0 v1) := (.cells v0 2 1 (.fn fun _ => [NJ v1, NJ v1]) : aF)
theorem abb (n i : Nat) (E : tE) (hn : n ≤ 256) (hv : ∀ j, j < n → (E j).v < 18446744073709551616) (hi : i < n) (hg : ∀ j, j < n → eU bU E j = 0) (hok : okF (aS E n) (RF E n i)) : aj Try.prog (aT [1,1,1,1,1,0,1,0,0] (ak Try.f25)) Try.f25.ntmps 2 5 5 (aQ [(0, uz false 0), (3, uz false 2), (4, Z6 E n 3), (5, Zi E n i), (6, sL 4 n), (7, ZS i)]) (hpL [(0, ZEN false n true), (1, RQ false n E), (2, ZEd true false), (3, .cells true 1 (aS E n) (.fn (dU (RF E n i)))), (4, RQ true n E)]) (fun e fr' H' => (RB E n i = true ∧ okF (aS E n) (RF E n (i + 1)) ∧ e = .normal ∧ fr' = aQ [(0, uz false 0), (3, uz false 2), (4, Z6 E n 3), (5, Zw E n i), (6, sL 4 n), (7, WM i)] ∧ H' = hpL (Z5 false n true E i)) ∨ (RB E n i = false ∧ e = .ret ∧ fr' = aQ [(2, .aX), (3, uz false 2)] ∧ H' = hpL [(2, .cells true 2 1 (.fn fun _ => [.int false .i64 6, ZS i])), (0, ZEN false n true), (1, RQ false n E), (4, RQ true n E)])) := by
 have hb := xk E n hn
 have hc := mV E n
 have eu : aS E n = (ND E n).length + (BR E n).length := rfl
 have ps : Gl = jq := qQ
 have np : WW = jF := vN
 have pl : JU = l7 := vM
 have hst : RB E n i = true ↔ okF (aS E n) (RF E n (i + 1)) := XI (by omega) (fun h5 => by have := XJ n i E hn hv hi hg (EU (decide_eq_true h5)); omega) (fun c => aeF (XH (hg i hi)).1 c) hok
 rw [show (aT [1,1,1,1,1,0,1,0,0] (ak Try.f25)) = .seq (aT [1,1,1,1,1,0,1,0,0,0] (ak Try.f25)) (.seq (.block 1 (.seq (aT [1,1,1,1,1,0,1,0,0,1,0,0,0] (ak Try.f25)) (.seq (aT [1,1,1,1,1,0,1,0,0,1,0,0,1,0] (ak Try.f25)) (.seq (aT [1,1,1,1,1,0,1,0,0,1,0,0,1,1,0] (ak Try.f25)) (.seq (aT [1,1,1,1,1,0,1,0,0,1,0,0,1,1,1,0] (ak Try.f25)) (.seq (aT [1,1,1,1,1,0,1,0,0,1,0,0,1,1,1,1,0] (ak Try.f25)) (.seq (aT [1,1,1,1,1,0,1,0,0,1,0,0,1,1,1,1,1,0] (ak Try.f25)) (.seq (aT [1,1,1,1,1,0,1,0,0,1,0,0,1,1,1,1,1,1,0] (ak Try.f25)) (.block 2 (.loop (aT [1,1,1,1,1,0,1,0,0,1,0,0,1,1,1,1,1,1,1,0,0] (ak Try.f25)))))))))))) (aT [1,1,1,1,1,0,1,0,0,1,1] (ak Try.f25))) by kernel_rfl]
 have hG : aj Try.prog (aT [1,1,1,1,1,0,1,0,0,0] (ak Try.f25)) Try.f25.ntmps 5 5 5 (aQ [(0, uz false 0), (3, uz false 2), (4, Z6 E n 3), (5, Zi E n i), (6, sL 4 n), (7, ZS i)]) (hpL []) (Nm [(0, uz false 0), (3, uz false 2), (4, Z6 E n 3), (5, Zi E n i), (6, sL 4 n), (7, ZS i)] []) := aj.toN ((rhG 5 (by omega) n i (aS E n) ((((ND E n).length + (BR E i).length : Nat)) : Int)).mono fun e fr' H' h => by rw [decide_eq_true (by omega), cond_true] at h; exact h) (dJ rfl) trivial
 refine aj.aV (K1 := 5) (aj.lower (aj.fP (xl := [(0, ZEN false n true), (1, RQ false n E), (2, ZEd true false), (3, .cells true 1 (aS E n) (.fn (dU (RF E n i)))), (4, RQ true n E)]) hG (by omega) (UA (by omega) (by omega) (sO (by omega) (nU (by omega) (rD (by omega) (sO (by omega) trivial)))))) (by omega)) (by omega) ?_
 have hin : aj Try.prog (.block 2 (.loop ZB4)) Try.f25.ntmps 2 5 5 (aQ [(0, uz false 0), (3, uz false 2), (4, Z6 E n 3), (5, Zw E n i), (6, sL 4 n), (7, ZS i), (14, Zc 0)]) (hpL (Z5 false n true E i)) (fun e fr' H' => (okF (aS E n) (RF E n (i + 1)) ∧ e = .normal ∧ fr' = aQ [(0, uz false 0), (3, uz false 2), (4, Z6 E n 3), (5, Zw E n i), (6, sL 4 n), (7, ZS i)] ∧ H' = hpL [(2, ZEd true false), (3, ZFD true E n i), (0, ZEN false n true), (1, RQ false n E), (4, RQ true n E)]) ∨ (¬ okF (aS E n) (RF E n (i + 1)) ∧ e = .ret ∧ fr' = aQ [(2, .aX), (3, uz false 2)] ∧ H' = hpL [(2, .cells true 2 1 (.fn fun _ => [.int false .i64 6, ZS i])), (0, ZEN false n true), (1, RQ false n E), (4, RQ true n E)])) := by
  refine aj.dW (fl := [(0, uz false 0), (3, uz false 2), (4, Z6 E n 3), (5, Zw E n i), (6, sL 4 n), (7, ZS i), (14, Zc 0)]) (bl := [(2, ZEd true false), (3, ZFD true E n i), (0, ZEN false n true), (1, RQ false n E), (4, RQ true n E)]) (dJ rfl) (fG rfl) ?_
  exact aj.lower (aj.xR (bl := [(2, ZEd true false), (3, ZFD true E n i)]) (xl := [(0, ZEN false n true), (1, RQ false n E), (4, RQ true n E)]) (agI n i E hn) (by omega) (UA (by omega) (by omega) (sO (by omega) (sO (by omega) trivial))) rfl (fun e fr' H' h => by
   rcases h with ⟨h1, rfl, rfl, rfl⟩ | ⟨h1, rfl, rfl, rfl⟩
   ·exact ⟨[(2, ZEd true false), (3, ZFD true E n i)], rfl, rfl, ⟨.inl rfl, .inl rfl, trivial⟩, .inl ⟨h1, rfl, rfl, rfl⟩⟩
   ·exact ⟨[(2, .cells true 2 1 (.fn fun _ => [.int false .i64 6, ZS i]))], rfl, rfl, ⟨.inl rfl, trivial⟩, .inr ⟨h1, rfl, rfl, rfl⟩⟩)) (by omega)
 have hR : aj Try.prog (aT [1,1,1,1,1,0,1,0,0,1,1] (ak Try.f25)) Try.f25.ntmps 5 5 5 (aQ [(0, uz false 0), (3, uz false 2), (4, Z6 E n 3), (5, Zw E n i), (6, sL 4 n), (7, ZS i)]) (hpL []) (Nm [(0, uz false 0), (3, uz false 2), (4, Z6 E n 3), (5, Zw E n i), (6, sL 4 n), (7, WM i)] []) := aj.toN (rhR 5 (by omega) n i (aS E n) ((((ND E n).length + (BR E (i + 1)).length : Nat)) : Int) (by omega)) ⟨re rfl, re rfl, re rfl, re rfl, re rfl, ⟨_, rfl, AV.ge.int' _ _ _ (by omega)⟩, trivial⟩ trivial
 refine aj.seq (K1 := 5) (by omega) (aj.block ((aeE n i E hn hv hi hg (by omega) hin).mono fun e fr' H' h => ?_))
 rcases h with ⟨h1, rfl, rfl, rfl⟩ | ⟨h1, rfl, rfl, rfl⟩
 ·refine aj.dW (fl := [(0, uz false 0), (3, uz false 2), (4, Z6 E n 3), (5, Zw E n i), (6, sL 4 n), (7, ZS i)]) (bl := (Z5 false n true E i)) (dJ rfl) (fG rfl) ?_
  refine (aj.lower (aj.fP (xl := (Z5 false n true E i)) hR (by omega) (UA (by omega) (by omega) (sO (by omega) (nU (by omega) (rD (by omega) (sO (by omega) trivial)))))) (by omega)).mono fun e fr' H' h => ?_
  obtain ⟨rfl, rfl, rfl⟩ := h
  exact .inl ⟨hst.2 h1, h1, rfl, rfl, rfl⟩
 ·refine .inr ⟨?_, rfl, rfl, rfl⟩
  cases q : RB E n i with
  | true => exact absurd (hst.1 q) h1
  | false => rfl
noncomputable abbrev ZCV (v0 : tE) (v1 : Nat) := iT ((((ND v0 v1).length + (BR v0 0).length : Nat)) : Int)
noncomputable abbrev ZCn (v0 : tE) (v1 : Nat) := iT ((((ND v0 v1).length + (BR v0 v1).length : Nat)) : Int)
noncomputable abbrev ZEo (v0) (v1 : Nat) (v2 : tE) := ([(2, .cells true 2 1 (.fn fun _ => [ZC 6, iT ((v0 : Nat) : Int)])), (0, ZN v1), (1, ZF v1 v2), (4, ZD v1 v2)] : tH)
noncomputable abbrev ZEv (v0 : tE) (v1 : Nat) := ([(0, ZA 0), (3, ZA 2), (4, Z6 v0 v1 3), (5, ZCn v0 v1), (6, sL 4 v1)] : tF)
theorem RS (n : Nat) (E : tE) (hn : n ≤ 256) (hv : ∀ j, j < n → (E j).v < 18446744073709551616) (hg : ∀ j, j < n → eU bU E j = 0) : aj Try.prog (ak Try.f25) Try.f25.ntmps 2 2 6 ZEs (hpL (AO n E)) (fun e fr' H' => e = .ret ∧ ((∃ k, k < n ∧ (∀ j, j < k → RB E n j = true) ∧ RB E n k = false ∧ fr' = aQ [(2, .aX), (3, ZA 2)] ∧ H' = hpL (ZEo k n E)) ∨ ((∀ j, j < n → RB E n j = true) ∧ fr' = aQ [(2, Z6 E n 3), (3, ZA 2)] ∧ H' = hpL [(2, ZB), (3, Zy E n)]))) := by
 have hb := xk E n hn
 have hc := mV E n
 have eu : aS E n = (ND E n).length + (BR E n).length := rfl
 have ps : Gl = jq := qQ
 have np : WW = jF := vN
 have pl : JU = l7 := vM
 have e1 : jE (ND E n) = (ND E n).length := oU _
 have e2 : jE (BR E n) = (BR E n).length := oU _
 rw [show (ak Try.f25) = .seq (aT [0] (ak Try.f25)) (.seq (aT [1,0] (ak Try.f25)) (.seq (aT [1,1,0] (ak Try.f25)) (.seq (aT [1,1,1,0] (ak Try.f25)) (.seq (aT [1,1,1,1,0] (ak Try.f25)) (.seq (.seq (aT [1,1,1,1,1,0,0] (ak Try.f25)) (.block 0 (.loop (aT [1,1,1,1,1,0,1,0,0] (ak Try.f25))))) (aT [1,1,1,1,1,1] (ak Try.f25))))))) by kernel_rfl]
 refine aj.aV (K1 := 3) (F1 := [(0, ZA 0), (2, .aX), (3, ZA 2)]) (H1 := (ZFB n E)) (aj.toN (rhA 2 (by omega) n 0 E) (dJ rfl) ⟨hs rfl, hs rfl, jI rfl rfl, trivial⟩) (by omega) ?_
 refine aj.aV (K1 := 3) (rhB 2 (by omega) n 0 E) (by omega) ?_
 have hC := rhC 2 (by omega) n 0 E ⟨hn, rfl, fun j _ => ay _ rfl, hv⟩ (by omega) (by omega) (by omega) (by omega) (by omega) (by omega)
 rw [e1, e2, ← eu, show Int.toNat ((((ND E n).length : Nat) : Int) + (((BR E n).length : Nat) : Int)) = aS E n by rw [eu]; omega] at hC
 refine aj.aV (K1 := 4) (F1 := (ZFI E n 0 2 3)) (H1 := [(0, ZN n), (1, ZF n E), (2, ZB), (3, .cells true 1 (aS E n) (.fn fun _ => [.dD false 0 0]))]) (hC.renG fun e fr' H' h => ?_) (by omega) ?_
 ·obtain ⟨rfl, rfl, rfl⟩ := h
  exact ⟨sg 3 5, (ZFI E n 0 2 3), [(0, ZN n), (1, ZF n E), (2, ZB), (3, .cells true 1 (aS E n) (.fn fun _ => [.dD false 0 0]))], qc (by omega), (vk rfl), ⟨jk rfl rfl rfl (by omega), fD rfl rfl (fun j _ => rfl) (fun j _ => rfl) (by omega), jk rfl rfl rfl (by omega), fD rfl rfl (fun j _ => rfl) (fun j _ => rfl) (by omega), trivial⟩, pY (by omega), rfl, rfl, rfl⟩
 refine aj.jh (fl := (ZFI E n 0 2 3)) (bl := [(0, ZN n), (1, ZF n E), (2, ZB), (3, ZCF E n)]) (dJ rfl) ⟨⟨_, rfl, rfl, rfl, rfl, fun j hj => ay _ rfl⟩, ⟨_, rfl, rfl, rfl, rfl, fun j hj => ay _ rfl⟩, ⟨_, rfl, rfl, rfl, rfl, fun j hj => ay _ rfl⟩, ⟨_, rfl, rfl, rfl, rfl, fun j hj => ⟨AV.ge.SI _ _ rfl rfl, rfl, trivial⟩⟩, trivial⟩ ?_
 have hD := rhD 2 (by omega) n 0 (aS E n) E (RF E n 0) ⟨hn, rfl, fun j _ => ay _ rfl, hv⟩
 refine aj.aV (K1 := 4) (aj.toN (K' := 4) (F' := [(0, ZA 0), (3, ZA 2), (4, Z6 E n 3), (5, ZCV E n)]) (YN := [(0, ZN n), (1, ZF n E), (2, ZB), (3, ZCF E n)]) (hD.renG (Post' := Nm [(0, ZA 0), (3, ZA 2), (4, Z6 E n 3), (5, ZCV E n)] [(0, ZN n), (1, ZF n E), (2, ZB), (3, ZCF E n)]) fun e fr' H' h => ?_) (dJ rfl) (fG rfl)) (by omega) ?_
 ·obtain ⟨rfl, rfl, rfl⟩ := h
  exact ⟨id, [(0, ZA 0), (3, ZA 2), (4, Z6 E n 3), (5, ZCV E n)], [(0, ZN n), (1, ZF n E), (2, ZB), (3, ZCF E n)], fun g hg => rfl, ⟨⟨_, rfl, AV.ge.refl _, rfl⟩, ⟨_, rfl, AV.ge.refl _, rfl⟩, ⟨_, rfl, AV.ge.refl _, rfl⟩, ⟨_, rfl, AV.ge.int' _ _ _ (by rw [e1]; rfl), rfl⟩, trivial⟩, ⟨jk rfl rfl rfl (by omega), fD rfl rfl (fun j _ => rfl) (fun j _ => rfl) (by omega), jk rfl rfl rfl (by omega), fD rfl rfl (fun j _ => rfl) (fun j _ => rfl) (by omega), trivial⟩, fun i j _ _ h => h, rfl, rfl, rfl⟩
 refine aj.aV (K1 := 5) (F1 := [(0, ZA 0), (3, ZA 2), (4, Z6 E n 3), (5, ZCV E n), (6, sL 4 n)]) (H1 := [(0, ZN n), (1, ZF n E), (2, ZB), (3, ZCF E n), (4, ZD n E)]) (aj.toN (rhE 2 (by omega) n 0 (aS E n) E (RF E n 0) ((((ND E n).length + (BR E 0).length : Nat)) : Int) (by omega) (by omega)) (dJ rfl) ⟨hs rfl, hs rfl, hs rfl, hs rfl, ⟨_, rfl, ⟨rfl, rfl, rfl, fun j hj => by simp only [Cont.row, Nat.zero_add]⟩⟩, trivial⟩) (by omega) ?_
 refine aj.seq (K1 := 5) (by omega) ?_
 refine (show aj Try.prog _ Try.f25.ntmps 2 5 5 _ _ (fun e fr' H' => (e = .ret ∧ ∃ k, k < n ∧ (∀ j, j < k → RB E n j = true) ∧ RB E n k = false ∧ fr' = aQ [(2, .aX), (3, ZA 2)] ∧ H' = hpL (ZEo k n E)) ∨ (e = .normal ∧ (∀ j, j < n → RB E n j = true) ∧ fr' = aQ (ZEv E n) ∧ H' = hpL [(0, ZN n), (1, ZF n E), (2, ZB), (3, Zy E n), (4, ZD n E)])) from ?_).mono fun e fr' H' h => ?_
 ·have hF : aj Try.prog (aT [1,1,1,1,1,0,0] (ak Try.f25)) Try.f25.ntmps 5 5 5 (aQ [(0, ZA 0), (3, ZA 2), (4, Z6 E n 3), (5, ZCV E n), (6, sL 4 n)]) (hpL []) (Nm [(0, ZA 0), (3, ZA 2), (4, Z6 E n 3), (5, ZCV E n), (6, sL 4 n), (7, Zc 0)] []) := aj.toN (rhF 5 (by omega) n (aS E n) ((((ND E n).length + (BR E 0).length : Nat)) : Int)) ⟨re rfl, re rfl, re rfl, re rfl, re rfl, ⟨_, rfl, AV.ge.int _ _ _ _⟩, trivial⟩ trivial
  refine aj.aV (K1 := 5) (aj.lower (aj.fP (xl := [(0, ZN n), (1, ZF n E), (2, ZB), (3, ZCF E n), (4, ZD n E)]) hF (by omega) (UA (by omega) (by omega) (sO (by omega) (nU (by omega) (rD (by omega) (sO (by omega) trivial)))))) (by omega)) (by omega) ?_
  have ok0 : okF (aS E n) (RF E n 0) := fun j _ => by show kS 0 0 = true; kernel_rfl
  refine (aj.count n (fun i => [(0, ZA 0), (3, ZA 2), (4, Z6 E n 3), (5, iT ((((ND E n).length + (BR E i).length : Nat)) : Int)), (6, sL 4 n), (7, iT ((i : Nat) : Int))]) (fun i => [(0, ZN n), (1, ZF n E), (2, ZB), (3, .cells true 1 (aS E n) (.fn (dU (RF E n i)))), (4, ZD n E)]) (ZEv E n) [(0, ZN n), (1, ZF n E), (2, ZB), (3, Zy E n), (4, ZD n E)] (fun i => (∀ j, j < i → RB E n j = true) ∧ okF (aS E n) (RF E n i)) (fun fr' H' => ∃ k, k < n ∧ (∀ j, j < k → RB E n j = true) ∧ RB E n k = false ∧ fr' = aQ [(2, .aX), (3, ZA 2)] ∧ H' = hpL (ZEo k n E)) ⟨fun j hj => absurd hj (Nat.not_lt_zero j), ok0⟩ (fun i hi hI => ?_)).mono fun e fr' H' h => ?_
  ·by_cases c : i < n
   ·refine (abb n i E hn hv c hg hI.2).mono fun e fr' H' h => ?_
    rcases h with ⟨h1, h2, rfl, rfl, rfl⟩ | ⟨h1, rfl, rfl, rfl⟩
    ·refine .inl ⟨rfl, c, ⟨fun j hj => ?_, h2⟩, rfl, rfl⟩
     by_cases d : j < i
     ·exact hI.1 j d
     ·obtain rfl : j = i := by omega
      exact h1
    ·exact .inr (.inr ⟨rfl, i, c, hI.1, h1, rfl, rfl⟩)
   ·obtain rfl : n = i := by omega
    rw [show (aT [1,1,1,1,1,0,1,0,0] (ak Try.f25)) = .seq (aT [1,1,1,1,1,0,1,0,0,0] (ak Try.f25)) (.seq (.block 1 (.seq (aT [1,1,1,1,1,0,1,0,0,1,0,0,0] (ak Try.f25)) (.seq (aT [1,1,1,1,1,0,1,0,0,1,0,0,1,0] (ak Try.f25)) (.seq (aT [1,1,1,1,1,0,1,0,0,1,0,0,1,1,0] (ak Try.f25)) (.seq (aT [1,1,1,1,1,0,1,0,0,1,0,0,1,1,1,0] (ak Try.f25)) (.seq (aT [1,1,1,1,1,0,1,0,0,1,0,0,1,1,1,1,0] (ak Try.f25)) (.seq (aT [1,1,1,1,1,0,1,0,0,1,0,0,1,1,1,1,1,0] (ak Try.f25)) (.seq (aT [1,1,1,1,1,0,1,0,0,1,0,0,1,1,1,1,1,1,0] (ak Try.f25)) (.block 2 (.loop (aT [1,1,1,1,1,0,1,0,0,1,0,0,1,1,1,1,1,1,1,0,0] (ak Try.f25)))))))))))) (aT [1,1,1,1,1,0,1,0,0,1,1] (ak Try.f25))) by kernel_rfl]
    have hG : aj Try.prog (aT [1,1,1,1,1,0,1,0,0,0] (ak Try.f25)) Try.f25.ntmps 5 5 5 (aQ [(0, ZA 0), (3, ZA 2), (4, Z6 E n 3), (5, ZCn E n), (6, sL 4 n), (7, ZS n)]) (hpL []) (Xm 0 (ZEv E n) []) := (rhG 5 (by omega) n n (aS E n) ((((ND E n).length + (BR E n).length : Nat)) : Int)).post fun e fr' H' h => by
     rw [decide_eq_false (by omega), cond_false] at h
     obtain ⟨rfl, rfl, rfl⟩ := h
     exact ⟨(ZEv E n), [], (dJ rfl), trivial, rfl, rfl, rfl⟩
    refine aj.seq (K1 := 5) (by omega) ((aj.lower (aj.LU (xl := [(0, ZN n), (1, ZF n E), (2, ZB), (3, Zy E n), (4, ZD n E)]) hG (by omega) (UA (by omega) (by omega) (sO (by omega) (nU (by omega) (rD (by omega) (sO (by omega) trivial)))))) (by omega)).mono fun e fr' H' h => ?_)
    obtain ⟨rfl, rfl, rfl⟩ := h
    exact .inr (.inl ⟨rfl, hI, rfl, rfl⟩)
  ·rcases h with ⟨rfl, hI, rfl, rfl⟩ | ⟨rfl, hx⟩
   ·exact .inr ⟨rfl, hI.1, rfl, rfl⟩
   ·exact .inl ⟨rfl, hx⟩
 ·rcases h with ⟨rfl, hx⟩ | ⟨rfl, hall, rfl, rfl⟩
  ·exact ⟨rfl, .inl hx⟩
  ·refine aj.dW (fl := [(3, ZA 2), (4, Z6 E n 3)]) (bl := [(2, ZB), (3, Zy E n)]) (dJ rfl) (fG rfl) ?_
   refine ((rhS 2 (by omega) 0 (aS E n) (RF E n n)).up (by omega)).post fun e fr' H' h => ?_
   obtain ⟨rfl, rfl, rfl⟩ := h
   exact ⟨[(2, Z6 E n 3), (3, ZA 2)], [(2, ZB), (3, Zy E n)], (dJ rfl), ⟨⟨_, rfl, ⟨rfl, rfl, rfl, zO (p := fun j => _ = _) rfl⟩⟩, hs rfl, trivial⟩, rfl, .inr ⟨hall, rfl, rfl⟩⟩


noncomputable def GdQ (n : Nat) (E : tE) : Prop := ∀ j, j < n → eU bU E j = 0
noncomputable def XK : List AV → M AV
 | [.ptr a] => (M.dn (kT a)).andThen fun _ => (Gj a.g).andThen fun y => (M.req (GdQ y.1.n y.2)).andThen fun _ => (M.dec (decide (qX (RB y.2 y.1.n) 0 y.1.n = y.1.n))).andThen fun d => bif d then (newS 1 (aS y.2 y.1.n) (dU (RF y.2 y.1.n y.1.n))).andThen fun v => M.ret (.iD [v, .agg [ZC 0, ZC 0]]) else M.ret (.iD [.aX, .agg [ZC 6, iT ((qX (RB y.2 y.1.n) 0 y.1.n : Nat) : Int)]])
 | _ => M.no
theorem XL : ∀ args, aC (XK args) := by
 intro args
 unfold XK
 split
 ·exact (aC.dn _).andThen fun _ => (qg _).andThen fun _ => (aC.req _).andThen fun _ => (aC.dec _).andThen fun d => aC.cond ((aC.newS _ _ _).andThen fun _ => aC.ret _) (aC.ret _)
 ·exact aC.no
theorem abd : ∀ args v g g', XK args g = .done v g' → bf Try.prog 25 args v g g' := by
 intro args v g g' h
 unfold XK at h
 split at h
 case h_2 => exact (aY h).elim
 rename_i a
 obtain ⟨_, g0, a0, h0⟩ := au h
 clear h
 obtain ⟨q0, rfl⟩ := aU a0
 obtain ⟨⟨w, E⟩, g1, a1, h1⟩ := au h0
 obtain ⟨qv, kv, fv⟩ := ni a1
 dsimp only at h1 fv
 obtain ⟨_, g1b, a1b, h1b⟩ := au h1
 have kb := kv.trans (dR a1b)
 obtain ⟨d, g2, a2, h2⟩ := au h1b
 have kk := kb.trans (jc a2)
 have hA : ∀ M μ (cs : List Value), aI M μ [.ptr a] cs → aI 2 (μ.via (H6 a.g w)) [uz false 0] cs := fun M μ cs hcs => by
  simp only [aI] at hcs ⊢
  obtain ⟨v1, r1, rfl, i1, rfl⟩ := hcs
  exact ⟨v1, _, rfl, jS i1 (dX q0).1 (dX q0).2 (by omega) rfl, rfl⟩
 cases d with
 | true =>
  rw [cond_true] at h2
  obtain ⟨v0, g3, a3, h3⟩ := au h2
  obtain ⟨rfl, rfl⟩ := aA h3
  obtain ⟨rfl, e1, e2, e3⟩ := oZ a3
  rw [kk.1, kk.2.1] at e1
  rw [kk.2.1] at e2 ⊢
  refine nK (c := (ak Try.f25)) Try.func25 (by kernel_rfl) (by kernel_rfl) (dY := [uz false 0]) (fun hc => kk.2.2 (by rw [← e3]; exact hc)) (fun hp => fv hp.1.1) (K' := 6) (fun hp => hA) (bs := [.cells true 1 (aS E w.n) (.fn (dU (RF E w.n w.n)))]) (nms := [3]) rfl (by simp) (by simp) e1 (by rw [e2]; rfl) (fun b hb => ?_) ?_ ?_ (fun hp => ?_)
  ·rw [List.mem_singleton.1 hb]
   exact ⟨rfl, fun K j hj v hv => by rw [List.mem_singleton.1 hv]; rfl, fun S j hj o v hv => by
    match o, hv with
    | 0, hv => cases hv; trivial⟩
  ·simp only [AV.low, jw, Bool.and_true]
   exact Nat.ble_eq_true_of_le (show Nat.succ g.nx ≤ g.nx + 1 by omega)
  ·simp only [AV.ji, jg]
   exact ⟨⟨Nat.le_refl _, Nat.lt_succ_self _⟩, ⟨trivial, trivial, trivial⟩, trivial⟩
  ·refine (RS w.n E (fv hp.1.1).n256 (fv hp.1.1).v64 hp.1.2).mono fun e fr' H' h => ?_
   have hd := hp.2
   have hd := of_decide_eq_true hd
   obtain ⟨rfl, ⟨k, hk, ha, hb, rfl, rfl⟩ | ⟨ha, rfl, rfl⟩⟩ := h
   ·have e1 : qX (RB E w.n) 0 w.n = k := Fj hb w.n 0 (by omega) (by omega) fun j _ hj => ha j hj
    omega
   ·refine ⟨.inl rfl, [sL 3 (aS E w.n), .agg [NJ false, NJ false]], _, rfl, trivial, ?_, fun j b hb => ?_⟩
    ·simp only [AV.ren, lD, AA.ren, mZ]
     exact AV.ge.refl _
    ·match j, hb with
     | 0, hb => cases hb; exact ⟨_, rfl, ⟨rfl, rfl, rfl, fun j hj => rfl⟩⟩
 | false =>
  rw [cond_false] at h2
  obtain ⟨rfl, rfl⟩ := aA h2
  refine nK (c := (ak Try.f25)) Try.func25 (by kernel_rfl) (by kernel_rfl) (dY := [uz false 0]) kk.2.2 (fun hp => fv hp.1.1) (K' := 6) (fun hp => hA) (bs := []) (nms := []) rfl (by simp) (by simp) (show g2.H = g.H from kk.1) (show g2.nx = g.nx from kk.2.1) (fun b hb => (by cases hb)) (by simp [AV.low, jw]) (by simp [AV.ji, jg]) (fun hp => ?_)
  refine (RS w.n E (fv hp.1.1).n256 (fv hp.1.1).v64 hp.1.2).mono fun e fr' H' h => ?_
  have hd := hp.2
  have hd := of_decide_eq_false hd
  obtain ⟨rfl, ⟨k, hk, ha, hb, rfl, rfl⟩ | ⟨ha, rfl, rfl⟩⟩ := h
  ·have e1 : qX (RB E w.n) 0 w.n = k := Fj hb w.n 0 (by omega) (by omega) fun j _ hj => ha j hj
   refine ⟨.inl rfl, [.aX, .agg [.int false .i64 6, iT ((k : Nat) : Int)]], _, rfl, trivial, ?_, fun j b hb => (by cases hb)⟩
   rw [e1]
   exact AV.ge.refl _
  ·have e1 : qX (RB E w.n) 0 w.n = w.n := by rw [CQ w.n 0 fun j _ hj => ha j (by omega), Nat.zero_add]
   exact absurd e1 hd


theorem oqA (B : Nat) (hB : B ≤ 1) (n : Nat) (E : tE) : aj Try.prog ((aT [0] (ak Try.f24))) Try.f24.ntmps B 1 2 (bJ [ZG n] 0 .e) (hpL [(0, ZF n E)]) (pP .normal [(0, ZG n), (2, .bG), (3, ZA 1)] [(0, Zn n E), (1, VQ)]) := kU [] trivial hB
noncomputable abbrev ZEH (v0 : Nat) (v1 : tE) := ([(0, ZF v0 v1), (1, ZB)] : tH)
theorem oqB (B : Nat) (hB : B ≤ 2) (n : Nat) (E : tE) : aj Try.prog ((aT [1,0] (ak Try.f24))) Try.f24.ntmps B 2 2 (aQ [(0, ZG n), (2, .bG), (3, ZA 1)]) (hpL (ZEH n E)) fun e fr' H' => (cond (decide (256 < (↑n : Int))) (pP .ret [(0, ZG n), (2, .bG), (3, ZA 1)] [(0, Zn n E), (1, Yk 3)] e fr' H') (pP .normal [(0, ZG n), (2, .bG), (3, ZA 1)] [(0, Zn n E), (1, l9)] e fr' H')) := cD (fun q0 t0 => kU [tT] (I1 t0) hB) (fun q0 t0 => kU [fF] (I1 t0) hB)
theorem oqC (B : Nat) (hB : B ≤ 2) (n : Nat) : aj Try.prog ((aT [1,1,0,0] (ak Try.f24))) Try.f24.ntmps B 2 2 (aQ (ZEY n)) (hpL []) (pP .normal [(0, ZG n), (3, ZA 1), (4, ZC 0)] []) := kU [] trivial hB
noncomputable abbrev ZDw (v0 v1 : Nat) := ([(0, ZG v0), (3, ZA 1), (4, ZS v1)] : tF)
theorem oqD (B : Nat) (hB : B ≤ 2) (n i : Nat) : aj Try.prog ((aT [1,1,0,1,0,0,0] (ak Try.f24))) Try.f24.ntmps B 2 2 (aQ (ZDw n i)) (hpL []) fun e fr' H' => (cond (decide ((↑i : Int) < (↑n : Int))) (pP .normal [(0, ZG n), (3, ZA 1), (4, iT (↑i : Int))] [] e fr' H') (pP (.exit 0) [(0, ZG n), (3, ZA 1), (4, iT (↑i : Int))] [] e fr' H')) := cD (fun q0 t0 => kU [tT] (I1 t0) hB) (fun q0 t0 => kU [fF] (I1 t0) hB)
theorem oqE (B : Nat) (hB : B ≤ 2) (n i : Nat) (E : tE) (x0 : ((↑i : Int) < (↑n : Int))) (x1 : (0 + i < n)) (x2 : (El.v (E (0 + i)) < 18446744073709551616)) : aj Try.prog ((aT [1,1,0,1,0,0,1,0,0,0] (ak Try.f24))) Try.f24.ntmps B 2 2 (aQ (ZDw n i)) (hpL [(0, ZF n E)]) (pP .normal [(0, ZG n), (3, ZA 1), (4, iT (↑i : Int)), (5, iT (gJ (El.k (E (0 + i))) (El.n (E (0 + i))) (El.a (E (0 + i))) (El.b (E (0 + i))) (El.c (E (0 + i))) (El.d (E (0 + i))) (El.v (E (0 + i))) (El.ph (E (0 + i)))))] [(0, Zn n E)]) := kU [] (I4 (ai (show 0 ≤ (↑i : Int) by omega) x0) x1 (show 8 ≤ 8 by omega) x2) hB
theorem oqF (B : Nat) (hB : B ≤ 2) (n i : Nat) (er : Int) : aj Try.prog ((aT [1,1,0,1,0,0,1,0,0,1,0] (ak Try.f24))) Try.f24.ntmps B 2 2 (aQ [(0, ZG n), (3, ZA 1), (4, ZS i), (5, iT er)]) (hpL [(1, ZB)]) fun e fr' H' => (cond (decide (er = (0 : Int))) (pP .normal [(0, ZG n), (3, ZA 1), (4, iT (↑i : Int))] [(1, l9)] e fr' H') (pP .ret [(0, ZG n), (2, .bG), (3, ZA 1), (4, iT (↑i : Int))] [(1, .cells true 2 1 (.fn fun j => bif Nat.beq j 0 then [iT er, iT (↑i : Int)] else [ZC 0, ZC 0]))] e fr' H')) := cD (fun q0 t0 => kU [fF] (I1 (nt t0)) hB) (fun q0 t0 => kU [tT] (I1 (nf t0)) hB)
theorem oqG (B : Nat) (hB : B ≤ 2) (n i : Nat) : aj Try.prog ((aT [1,1,0,1,0,0,1,0,0,1,1,0] (ak Try.f24))) Try.f24.ntmps B 2 2 (aQ (ZDw n i)) (hpL []) (pP .normal [(0, ZG n), (3, ZA 1), (4, iT (↑i : Int)), (6, ZC 0)] []) := kU [] trivial hB
noncomputable abbrev ZDB := aT [1,1,0,1,0,0,1,0,0,1,1,1,0,0] (ak Try.f24)
theorem oqH (B : Nat) (hB : B ≤ 2) (n i k : Nat) (E : tE) (x0 : ((decide ((↑k : Int) < (↑i : Int))) = true → ((↑k : Int) < (↑n : Int)))) (x1 : ((decide ((↑k : Int) < (↑i : Int))) = true → (0 + k < n))) (x2 : ((decide ((↑k : Int) < (↑i : Int))) = true → ((↑i : Int) < (↑n : Int)))) (x3 : ((decide ((↑k : Int) < (↑i : Int))) = true → (0 + i < n))) (x4 : ((decide ((↑k : Int) < (↑i : Int))) = true → ((El.n (E (0 + k)) == El.n (E (0 + i))) = false → ((↑k : Int) + 1 ≤ (9223372036854775807 : Int))))) : aj Try.prog (ZDB) Try.f24.ntmps B 2 2 (aQ [(0, ZG n), (3, ZA 1), (4, ZS i), (6, ZS k)]) (hpL (ZEH n E)) fun e fr' H' => (cond (decide ((↑k : Int) < (↑i : Int))) (cond (El.n (E (0 + k)) == El.n (E (0 + i))) (pP .ret [(0, ZG n), (2, .bG), (3, ZA 1), (4, iT (↑i : Int)), (6, iT (↑k : Int))] [(0, Zn n E), (1, ZD2 i 9)] e fr' H') (pP .normal [(0, ZG n), (3, ZA 1), (4, iT (↑i : Int)), (6, Ap k)] [(0, Zn n E), (1, l9)] e fr' H')) (pP (.exit 2) [(0, ZG n), (3, ZA 1), (4, iT (↑i : Int)), (6, iT (↑k : Int))] [(0, Zn n E), (1, l9)] e fr' H')) := cD (fun q0 t0 => cI (fun t1 => kU [tT, tT] (I6 t0 (ai (show 0 ≤ (↑k : Int) by omega) (x0 t0)) (x1 t0) (ai (show 0 ≤ (↑i : Int) by omega) (x2 t0)) (x3 t0) t1) hB) (fun t1 => kU [tT, fF] (I7 t0 (ai (show 0 ≤ (↑k : Int) by omega) (x0 t0)) (x1 t0) (ai (show 0 ≤ (↑i : Int) by omega) (x2 t0)) (x3 t0) t1 (ai (show -9223372036854775808 ≤ (↑k : Int) + 1 by omega) (x4 t0 t1))) hB)) (fun q0 t0 => kU [fF] (I1 t0) hB)
theorem oqI (B : Nat) (hB : B ≤ 2) (n i : Nat) (x0 : ((↑i : Int) + 1 ≤ (9223372036854775807 : Int))) : aj Try.prog ((aT [1,1,0,1,0,0,1,1] (ak Try.f24))) Try.f24.ntmps B 2 2 (aQ (ZDw n i)) (hpL []) (pP .normal [(0, ZG n), (3, ZA 1), (4, Ap i)] []) := kU [] (I1 (ai (show -9223372036854775808 ≤ (↑i : Int) + 1 by omega) x0)) hB
theorem oqJ (B : Nat) (hB : B ≤ 2) (n : Nat) : aj Try.prog ((aT [1,1,1,0] (ak Try.f24))) Try.f24.ntmps B 2 2 (aQ (ZEY n)) (hpL []) (pP .normal [(0, ZG n), (3, ZA 1), (7, .aX)] []) := kU [] trivial hB
theorem oqK (B : Nat) (hB : B ≤ 2) (n : Nat) (E : tE) (x0 : (n * 104 ≤ 140737488355328)) (x1 : (n ≤ 9223372036854775807)) : aj Try.prog ((aT [1,1,1,1,0] (ak Try.f24))) Try.f24.ntmps B 2 4 (aQ [(0, ZG n), (3, ZA 1), (7, .aX)]) (hpL [(0, ZF n E)]) (pP .normal (uw 3 1 8 3) [(2, ZCe n E), (3, .cells true 2 1 (.lit [] (.n .e (some [sL 2 n, .bool true]) .e)))]) := kU [] (I2 (show 0 + n ≤ n by omega) (ai x0 x1)) hB
noncomputable abbrev ZR (v0 : Nat) (w0) := (.cells true 2 1 (.fn fun _ => [sL w0 v0, .bool true]) : aF)
noncomputable abbrev ZCX (v0 : Nat) (w0) := (.cells true 2 1 (.fn fun x => [sL w0 v0, .bool true]) : aF)
theorem oqL (B : Nat) (hB : B ≤ 4) (n : Nat) (E : tE) (x0 : (Rn n n (Cont.row (.fn fun j => bI (E j))))) : aj Try.prog ((aT [1,1,1,1,1,0] (ak Try.f24))) Try.f24.ntmps B 4 8 (aQ (uw 3 1 8 3)) (hpL [(1, ZB), (2, ZD n E), (3, ZR n 2)]) fun e fr' H' => (cond (decide (32 < (↑(jE (ND E n)) : Int))) (pP .ret [(2, .bG), (3, ZA 1), (8, ZA 3)] [(1, Yk 3), (2, Zg n E), (3, ZCX n 2)] e fr' H') (cond (decide (64 < (↑(jE (ND E n)) : Int) + (↑(jE (BR E n)) : Int))) (pP .ret [(2, .bG), (3, ZA 1), (8, ZA 3)] [(1, Yk 3), (2, Zg n E), (3, ZCX n 2)] e fr' H') (pP .normal (uw 3 1 8 3) [(1, l9), (2, Zg n E), (3, ZCX n 2)] e fr' H'))) := cD (fun q0 t0 => kU [tT] (I2 x0 t0) hB) (fun q0 t0 => cD (fun q1 t1 => kU [fF, tT] (I4 x0 t0 x0 t1) hB) (fun q1 t1 => kU [fF, fF] (I4 x0 t0 x0 t1) hB))
theorem oqM (B : Nat) (hB : B ≤ 4) : aj Try.prog ((aT [1,1,1,1,1,1] (ak Try.f24))) Try.f24.ntmps B 4 4 (aQ (uw 3 1 8 3)) (hpL [(1, ZB)]) (pP .ret (uw 2 3 3 1) [(1, ZDq)]) := kU [] trivial hB
theorem abe {E : tE} {i k : Nat} (hk : k < i) (h : (E k).n = (E i).n) : (pos (E i).n (NM E i)).isSome = true := by
 have hm : (E i).n ∈ NM E i := by
  have e := AB E hk
  rw [← h, ← e]
  have := MW (l := NM E i) (i := k) (by rw [yj]; exact hk)
  exact this
 obtain ⟨j, hj⟩ := MB hm
 rw [hj]; rfl
theorem abf {E : tE} {i : Nat} (h : ∀ k, k < i → (E k).n ≠ (E i).n) : (pos (E i).n (NM E i)).isSome = false := by
 rw [Pm (fun k hk => ?_)]
 ·rfl
 ·rw [yj] at hk
  show (NM E i).getD k [] ≠ _
  rw [AB E hk]; exact h k hk
noncomputable abbrev ZCS (v0) (v1 : tE) (v2 : Nat) (v3) := ([(1, .cells true 2 1 (.fn fun _ => [.int v0 .i64 (eU bU v1 v2), .int v3 .i64 ((v2 : Nat) : Int)]))] : tH)
theorem agM (n i : Nat) (E : tE) (hn : n ≤ 256) (hv : ∀ j, j < n → (E j).v < 18446744073709551616) (hi : i < n) (hc : bU (E i) = 0) : aj Try.prog (.block 2 (.loop ZDB)) Try.f24.ntmps 1 2 2 (aQ [(0, .slc true false ⟨false, 0, 0, 0⟩ n), (3, .ptr ⟨false, 1, 0, 0⟩), (4, iT ((i : Nat) : Int)), (6, iT ((0 : Nat) : Int))]) (hpL [(0, .cells false 8 n (.fn fun j => bI (E j))), (1, .cells true 2 1 (.fn fun _ => [.int false .i64 0, .int false .i64 0]))]) (fun e fr' H' => (eU bU E i = 0 ∧ e = .normal ∧ fr' = aQ [(0, .slc true false ⟨false, 0, 0, 0⟩ n), (3, .ptr ⟨false, 1, 0, 0⟩), (4, iT ((i : Nat) : Int))] ∧ H' = hpL [(0, .cells false 8 n (.fn fun j => bI (E j))), (1, .cells true 2 1 (.fn fun _ => [.int false .i64 0, .int false .i64 0]))]) ∨ (eU bU E i ≠ 0 ∧ e = .ret ∧ ∃ s s', fr' = aQ [(2, .bG), (3, .ptr ⟨false, 1, 0, 0⟩)] ∧ H' = hpL [(1, .cells true 2 1 (.fn fun _ => [.int s .i64 (eU bU E i), .int s' .i64 ((i : Nat) : Int)]))])) := by
 have hbad : eU bU E i = bif (pos (E i).n (NM E i)).isSome then 9 else 0 := by unfold eU; rw [decide_eq_true hc]; rfl
 refine (aj.count i (fun k => [(0, .slc true false ⟨false, 0, 0, 0⟩ n), (3, .ptr ⟨false, 1, 0, 0⟩), (4, iT ((i : Nat) : Int)), (6, iT ((k : Nat) : Int))]) (fun _ => [(0, .cells false 8 n (.fn fun j => bI (E j))), (1, .cells true 2 1 (.fn fun _ => [.int false .i64 0, .int false .i64 0]))]) [(0, .slc true false ⟨false, 0, 0, 0⟩ n), (3, .ptr ⟨false, 1, 0, 0⟩), (4, iT ((i : Nat) : Int))] [(0, .cells false 8 n (.fn fun j => bI (E j))), (1, .cells true 2 1 (.fn fun _ => [.int false .i64 0, .int false .i64 0]))] (fun k => ∀ x, x < k → (E x).n ≠ (E i).n) (fun fr' H' => eU bU E i ≠ 0 ∧ ∃ s s', fr' = aQ [(2, .bG), (3, .ptr ⟨false, 1, 0, 0⟩)] ∧ H' = hpL [(1, .cells true 2 1 (.fn fun _ => [.int s .i64 (eU bU E i), .int s' .i64 ((i : Nat) : Int)]))]) (fun x hx => absurd hx (Nat.not_lt_zero x)) (fun k hk hI => ?_)).mono fun e fr' H' h => ?_
 ·refine (oqH 1 (by omega) n i k E (fun _ => by omega) (fun h => by have := of_decide_eq_true h; omega) (fun _ => by omega) (fun _ => by omega) (fun _ _ => by omega)).post fun e fr' H' h => ?_
  refine bD h (fun t h => ?_) (fun t h => ?_)
  ·have hlt : k < i := by have := of_decide_eq_true t; omega
   refine bD h (fun u h => ?_) (fun u h => ?_)
   ·obtain ⟨rfl, rfl, rfl⟩ := h
    rw [Nat.zero_add, Nat.zero_add] at u
    have e9 : eU bU E i = 9 := by rw [hbad, abe hlt (eq_of_beq u)]; rfl
    refine ⟨[(2, .bG), (3, .ptr ⟨false, 1, 0, 0⟩)], [(1, .cells true 2 1 (.fn fun _ => [.int false .i64 9, iT ((i : Nat) : Int)]))], (dJ rfl), ⟨⟨_, rfl, ⟨rfl, rfl, rfl, zO (p := fun j => _ = _) rfl⟩⟩, trivial⟩, .inr (.inr ⟨rfl, by rw [e9]; decide, false, true, rfl, by rw [e9]⟩)⟩
   ·obtain ⟨rfl, rfl, rfl⟩ := h
    rw [Nat.zero_add, Nat.zero_add] at u
    refine ⟨[(0, .slc true false ⟨false, 0, 0, 0⟩ n), (3, .ptr ⟨false, 1, 0, 0⟩), (4, iT ((i : Nat) : Int)), (6, iT (((k + 1) : Nat) : Int))], [(0, .cells false 8 n (.fn fun j => bI (E j))), (1, .cells true 2 1 (.fn fun _ => [.int false .i64 0, .int false .i64 0]))], ⟨re rfl, re rfl, re rfl, ⟨_, rfl, AV.ge.int' _ _ _ (by omega)⟩, trivial⟩, (fG rfl), .inl ⟨rfl, hlt, fun x hx => ?_, rfl, rfl⟩⟩
    by_cases c : x < k
    ·exact hI x c
    ·obtain rfl : x = k := by omega
     exact fun c => by rw [c, beq_self_eq_true] at u; cases u
  ·have e0 : k = i := by have := of_decide_eq_false t; omega
   obtain ⟨rfl, rfl, rfl⟩ := h
   exact ⟨[(0, .slc true false ⟨false, 0, 0, 0⟩ n), (3, .ptr ⟨false, 1, 0, 0⟩), (4, iT ((i : Nat) : Int))], [(0, .cells false 8 n (.fn fun j => bI (E j))), (1, .cells true 2 1 (.fn fun _ => [.int false .i64 0, .int false .i64 0]))], (dJ rfl), (fG rfl), .inr (.inl ⟨rfl, e0 ▸ hI, rfl, rfl⟩)⟩
 ·rcases h with ⟨rfl, hI, rfl, rfl⟩ | ⟨rfl, hx⟩
  ·exact .inl ⟨by rw [hbad, abf hI]; rfl, rfl, rfl, rfl⟩
  ·exact .inr ⟨hx.1, rfl, hx.2⟩
theorem abg (n i : Nat) (E : tE) (hn : n ≤ 256) (hv : ∀ j, j < n → (E j).v < 18446744073709551616) (hi : i < n) : aj Try.prog (aT [1,1,0,1,0,0] (ak Try.f24)) Try.f24.ntmps 1 2 2 (aQ [(0, .slc true false ⟨false, 0, 0, 0⟩ n), (3, .ptr ⟨false, 1, 0, 0⟩), (4, iT ((i : Nat) : Int))]) (hpL [(0, .cells false 8 n (.fn fun j => bI (E j))), (1, .cells true 2 1 (.fn fun _ => [.int false .i64 0, .int false .i64 0]))]) (fun e fr' H' => (eU bU E i = 0 ∧ e = .normal ∧ fr' = aQ [(0, .slc true false ⟨false, 0, 0, 0⟩ n), (3, .ptr ⟨false, 1, 0, 0⟩), (4, iT (((i + 1) : Nat) : Int))] ∧ H' = hpL [(0, .cells false 8 n (.fn fun j => bI (E j))), (1, .cells true 2 1 (.fn fun _ => [.int false .i64 0, .int false .i64 0]))]) ∨ (eU bU E i ≠ 0 ∧ e = .ret ∧ ∃ s s', fr' = aQ [(2, .bG), (3, .ptr ⟨false, 1, 0, 0⟩)] ∧ H' = hpL [(1, .cells true 2 1 (.fn fun _ => [.int s .i64 (eU bU E i), .int s' .i64 ((i : Nat) : Int)]))])) := by
 rw [show (aT [1,1,0,1,0,0] (ak Try.f24)) = .seq (aT [1,1,0,1,0,0,0] (ak Try.f24)) (.seq (.block 1 (.seq (aT [1,1,0,1,0,0,1,0,0,0] (ak Try.f24)) (.seq (aT [1,1,0,1,0,0,1,0,0,1,0] (ak Try.f24)) (.seq (aT [1,1,0,1,0,0,1,0,0,1,1,0] (ak Try.f24)) (.block 2 (.loop ZDB)))))) (aT [1,1,0,1,0,0,1,1] (ak Try.f24))) by kernel_rfl]
 have hD : aj Try.prog (aT [1,1,0,1,0,0,0] (ak Try.f24)) Try.f24.ntmps 2 2 2 (aQ [(0, .slc true false ⟨false, 0, 0, 0⟩ n), (3, .ptr ⟨false, 1, 0, 0⟩), (4, iT ((i : Nat) : Int))]) (hpL []) (Nm [(0, .slc true false ⟨false, 0, 0, 0⟩ n), (3, .ptr ⟨false, 1, 0, 0⟩), (4, iT ((i : Nat) : Int))] []) := aj.toN ((oqD 2 (by omega) n i).mono fun e fr' H' h => by rw [decide_eq_true (by omega), cond_true] at h; exact h) (dJ rfl) trivial
 refine aj.aV (K1 := 2) (aj.lower (aj.fP (xl := [(0, .cells false 8 n (.fn fun j => bI (E j))), (1, .cells true 2 1 (.fn fun _ => [.int false .i64 0, .int false .i64 0]))]) hD (by omega) (sO (by omega) (nU (by omega) trivial))) (by omega)) (by omega) ?_
 have hI : aj Try.prog (aT [1,1,0,1,0,0,1,1] (ak Try.f24)) Try.f24.ntmps 2 2 2 (aQ [(0, .slc true false ⟨false, 0, 0, 0⟩ n), (3, .ptr ⟨false, 1, 0, 0⟩), (4, iT ((i : Nat) : Int))]) (hpL []) (Nm [(0, .slc true false ⟨false, 0, 0, 0⟩ n), (3, .ptr ⟨false, 1, 0, 0⟩), (4, iT (((i + 1) : Nat) : Int))] []) := aj.toN (oqI 2 (by omega) n i (by omega)) ⟨re rfl, re rfl, ⟨_, rfl, AV.ge.int' _ _ _ (by omega)⟩, trivial⟩ trivial
 have main : aj Try.prog (.seq (aT [1,1,0,1,0,0,1,0,0,0] (ak Try.f24)) (.seq (aT [1,1,0,1,0,0,1,0,0,1,0] (ak Try.f24)) (.seq (aT [1,1,0,1,0,0,1,0,0,1,1,0] (ak Try.f24)) (.block 2 (.loop ZDB))))) Try.f24.ntmps 1 2 2 (aQ [(0, .slc true false ⟨false, 0, 0, 0⟩ n), (3, .ptr ⟨false, 1, 0, 0⟩), (4, iT ((i : Nat) : Int))]) (hpL [(0, .cells false 8 n (.fn fun j => bI (E j))), (1, .cells true 2 1 (.fn fun _ => [.int false .i64 0, .int false .i64 0]))]) (fun e fr' H' => (eU bU E i = 0 ∧ e = .normal ∧ fr' = aQ [(0, .slc true false ⟨false, 0, 0, 0⟩ n), (3, .ptr ⟨false, 1, 0, 0⟩), (4, iT ((i : Nat) : Int))] ∧ H' = hpL [(0, .cells false 8 n (.fn fun j => bI (E j))), (1, .cells true 2 1 (.fn fun _ => [.int false .i64 0, .int false .i64 0]))]) ∨ (eU bU E i ≠ 0 ∧ e = .ret ∧ ∃ s s', fr' = aQ [(2, .bG), (3, .ptr ⟨false, 1, 0, 0⟩)] ∧ H' = hpL [(1, .cells true 2 1 (.fn fun _ => [.int s .i64 (eU bU E i), .int s' .i64 ((i : Nat) : Int)]))])) := by
  have hE : aj Try.prog (aT [1,1,0,1,0,0,1,0,0,0] (ak Try.f24)) Try.f24.ntmps 2 2 2 (aQ [(0, .slc true false ⟨false, 0, 0, 0⟩ n), (3, .ptr ⟨false, 1, 0, 0⟩), (4, iT ((i : Nat) : Int))]) (hpL [(0, .cells false 8 n (.fn fun j => bI (E j)))]) (Nm [(0, .slc true false ⟨false, 0, 0, 0⟩ n), (3, .ptr ⟨false, 1, 0, 0⟩), (4, iT ((i : Nat) : Int)), (5, iT (bU (E i)))] [(0, .cells false 8 n (.fn fun j => bI (E j)))]) := aj.toN (oqE 2 (by omega) n i E (by omega) (by omega) (by rw [Nat.zero_add]; exact hv i hi)) ⟨re rfl, re rfl, re rfl, ⟨_, rfl, AV.ge.int' _ _ _ (by rw [Nat.zero_add]; rfl)⟩, trivial⟩ ⟨hs rfl, trivial⟩
  refine aj.aV (K1 := 2) (aj.lower (aj.dB (bl := [(0, .cells false 8 n (.fn fun j => bI (E j)))]) (iL := [(0, .cells false 8 n (.fn fun j => bI (E j)))]) (xl := [(1, .cells true 2 1 (.fn fun _ => [.int false .i64 0, .int false .i64 0]))]) hE (by omega) (nU (by omega) trivial) rfl rfl ⟨.inr ⟨by omega, _, rfl, fun _ h => h⟩, trivial⟩) (by omega)) (by omega) ?_
  have hF := oqF 2 (by omega) n i (bU (E i))
  by_cases hc : bU (E i) = 0
  ·have hF2 : aj Try.prog (aT [1,1,0,1,0,0,1,0,0,1,0] (ak Try.f24)) Try.f24.ntmps 2 2 2 (aQ [(0, .slc true false ⟨false, 0, 0, 0⟩ n), (3, .ptr ⟨false, 1, 0, 0⟩), (4, iT ((i : Nat) : Int)), (5, iT (bU (E i)))]) (hpL [(1, .cells true 2 1 (.fn fun _ => [.int false .i64 0, .int false .i64 0]))]) (Nm [(0, .slc true false ⟨false, 0, 0, 0⟩ n), (3, .ptr ⟨false, 1, 0, 0⟩), (4, iT ((i : Nat) : Int))] [(1, .cells true 2 1 (.fn fun _ => [.int false .i64 0, .int false .i64 0]))]) := aj.toN (hF.mono fun e fr' H' h => by rw [decide_eq_true hc, cond_true] at h; exact h) (dJ rfl) ⟨hs rfl, trivial⟩
   refine aj.dW (fl := [(0, .slc true false ⟨false, 0, 0, 0⟩ n), (3, .ptr ⟨false, 1, 0, 0⟩), (4, iT ((i : Nat) : Int)), (5, iT (bU (E i)))]) (bl := [(1, .cells true 2 1 (.fn fun _ => [.int false .i64 0, .int false .i64 0])), (0, .cells false 8 n (.fn fun j => bI (E j)))]) (dJ rfl) (fG rfl) ?_
   refine aj.aV (K1 := 2) (aj.lower (aj.dB (bl := [(1, .cells true 2 1 (.fn fun _ => [.int false .i64 0, .int false .i64 0]))]) (iL := [(1, .cells true 2 1 (.fn fun _ => [.int false .i64 0, .int false .i64 0]))]) (xl := [(0, .cells false 8 n (.fn fun j => bI (E j)))]) hF2 (by omega) (sO (by omega) trivial) rfl rfl ⟨.inl rfl, trivial⟩) (by omega)) (by omega) ?_
   refine aj.dW (fl := [(0, .slc true false ⟨false, 0, 0, 0⟩ n), (3, .ptr ⟨false, 1, 0, 0⟩), (4, iT ((i : Nat) : Int))]) (bl := [(0, .cells false 8 n (.fn fun j => bI (E j))), (1, .cells true 2 1 (.fn fun _ => [.int false .i64 0, .int false .i64 0]))]) (dJ rfl) (fG rfl) ?_
   have hG : aj Try.prog (aT [1,1,0,1,0,0,1,0,0,1,1,0] (ak Try.f24)) Try.f24.ntmps 2 2 2 (aQ [(0, .slc true false ⟨false, 0, 0, 0⟩ n), (3, .ptr ⟨false, 1, 0, 0⟩), (4, iT ((i : Nat) : Int))]) (hpL []) (Nm [(0, .slc true false ⟨false, 0, 0, 0⟩ n), (3, .ptr ⟨false, 1, 0, 0⟩), (4, iT ((i : Nat) : Int)), (6, iT ((0 : Nat) : Int))] []) := aj.toN (oqG 2 (by omega) n i) ⟨re rfl, re rfl, re rfl, ⟨_, rfl, AV.ge.int _ _ _ _⟩, trivial⟩ trivial
   refine aj.aV (K1 := 2) (aj.lower (aj.fP (xl := [(0, .cells false 8 n (.fn fun j => bI (E j))), (1, .cells true 2 1 (.fn fun _ => [.int false .i64 0, .int false .i64 0]))]) hG (by omega) (sO (by omega) (nU (by omega) trivial))) (by omega)) (by omega) ?_
   exact agM n i E hn hv hi hc
  ·have hb : eU bU E i = bU (E i) := by unfold eU; rw [decide_eq_false hc]; rfl
   refine aj.dW (fl := [(0, .slc true false ⟨false, 0, 0, 0⟩ n), (3, .ptr ⟨false, 1, 0, 0⟩), (4, iT ((i : Nat) : Int)), (5, iT (bU (E i)))]) (bl := [(1, .cells true 2 1 (.fn fun _ => [.int false .i64 0, .int false .i64 0]))]) (dJ rfl) ⟨hs rfl, trivial⟩ ?_
   refine aj.seq (K1 := 2) (by omega) ((hF.lower (by omega)).post fun e fr' H' h => ?_)
   rw [decide_eq_false hc, cond_false] at h
   obtain ⟨rfl, rfl, rfl⟩ := h
   refine ⟨[(2, .bG), (3, .ptr ⟨false, 1, 0, 0⟩)], [(1, .cells true 2 1 (.fn fun _ => [iT (bU (E i)), iT ((i : Nat) : Int)]))], (dJ rfl), ⟨⟨_, rfl, ⟨rfl, rfl, rfl, zO (p := fun j => _ = _) rfl⟩⟩, trivial⟩, .inr ⟨by rw [hb]; exact hc, rfl, true, true, rfl, by rw [hb]⟩⟩
 refine aj.seq (K1 := 2) (by omega) (aj.block (main.mono fun e fr' H' h => ?_))
 rcases h with ⟨h1, rfl, rfl, rfl⟩ | ⟨h1, rfl, hx⟩
 ·exact ((aj.lower (aj.fP (xl := [(0, .cells false 8 n (.fn fun j => bI (E j))), (1, .cells true 2 1 (.fn fun _ => [.int false .i64 0, .int false .i64 0]))]) hI (by omega) (sO (by omega) (nU (by omega) trivial))) (by omega))).mono fun e fr' H' h => .inl ⟨h1, h⟩
 ·exact .inr ⟨h1, rfl, hx⟩
theorem VF (n i : Nat) (E : tE) (hn : n ≤ 256) (hi : i < n) (hb : eU bU E i ≠ 0) (ha : ∀ j, j < i → eU bU E j = 0) : (ofR bU E n) = (eU bU E i, ((i : Nat) : Int)) := by
 unfold ofR
 rw [decide_eq_false (by omega), cond_false]
 exact QU hi hb (n - i) (by omega) (by omega) ha
end Go.Proofs.Ytdagokpedjfepaa
