/- GraphCounts: returns true for every input; no conditions. By the engine's runs, checked by the kernel. -/
import Derived.Test.YtgjdeclenlgaeaaRows
import Derived.ProofKit
import Derived.OpenShut
import Derived.KernelRfl
import Derived.SizedLaws
import Derived.Carry
import Derived.ChangeMaps5
import Derived.Test.YtgjdeclenlgaeaaGraphCountsPC
namespace Go.Proofs.Ytgjdeclenlgaeaa
open Go.ChangeShapes Go.WideShapes Go.ChangeAt Go.RowKit Go.Sx
set_option linter.unusedVariables false
set_option linter.unusedSimpArgs false
set_option maxRecDepth 100000

theorem own : ownKnob Try.prog.godebug = none := by kernel_rfl
theorem laidOut : laidOutB Try.prog = true := by kernel_rfl
theorem V9 (m : Nat) (u : Nat → Nat) (nm : tX) (zl : tM) (hm : m ≤ 4096) (hu : ∀ j, u j ≤ j) :
  aj Try.prog (.block 0 (.loop ZCG)) Try.f17.ntmps 9 17 17 (aV [(3, ZA 11), (4, .mp 12), (5, sL 13 0), (19, sL 16 m), (20, iT (m : Int)), (21, FC)]) (hpL [(9, ZL m u), (10, .aJ true zl), (11, ZI m 10 9), (12, .iY true []), (13, ZCL), (16, ZY m nm)]) (Nm [(5, ZC3 u nm m)] [(13, .cells true 1 (bH u nm m).rs.length (.fn fun j => [.iw ((bH u nm m).pc j).length (aA ((bH u nm m).pc j))]))]) := by
 have h := bI.rounds (P := Try.prog) (n := Try.f17.ntmps) (B := 9) (K := 17) (id := 0) m (PtI m u nm zl) (Z := PtI m u nm zl m) (fun i hi fr H π h => Wh m i u nm zl hi hm hu fr H π h) (fun fr H π h => aar m u nm zl fr H π h) (fr := aV [(3, ZA 11), (4, .mp 12), (5, sL 13 0), (19, sL 16 m), (20, iT (m : Int)), (21, FC)]) (H := hpL [(9, ZL m u), (10, .aJ true zl), (11, ZI m 10 9), (12, .iY true []), (13, .cells true 1 0 (.fn fun j => [.hdr (Pool.none.hb j) (Pool.none.len j) (Pool.none.hc j)])), (16, ZY m nm)]) (π := .none) ⟨rfl, rfl, fun j => ⟨fun h => h.elim, fun h => absurd h (Nat.not_lt_zero _)⟩, fun j hj => absurd hj (Nat.not_lt_zero _)⟩
 refine h.freeze (mO.hp rfl) (by omega) fun e fr' H' π' h => ?_
 obtain ⟨rfl, rfl, rfl, hq⟩ := h
 refine ⟨[(5, ZC3 u nm m)], [(13, .cells true 1 (bH u nm m).rs.length (.fn fun j => [.iw ((bH u nm m).pc j).length (aA ((bH u nm m).pc j))]))], ⟨⟨_, rfl, .inl (AV.ge.refl _)⟩, trivial⟩, ⟨⟨_, rfl, rfl, rfl, rfl, fun j hj => ?_⟩, trivial⟩, rfl, rfl, rfl⟩
 obtain ⟨q1, q2⟩ := hq.2 j hj
 refine ⟨.inr ⟨j, aA ((bH u nm m).pc j), (hq.1 j).2 hj, rfl, by rw [q1], fun x hx => ⟨true, q2 x (by omega)⟩⟩, rfl, trivial⟩
theorem Tt (l : List Tx) (q : Nat) (hq : q = l.length) (j : Nat) (hj : j < 1 + q) : dQ (bif decide (j < 1) then [AV.str false [48]] else bif Nat.beq q 1 then [AV.str true (aA l 0)] else [AV.str true (aA l (0 + (0 + (j - 1))))]) (aU (aA (g0 :: l)) j) := by
 show dQ _ [AV.str true ((g0 :: l).getD j [])]
 cases j with
 | zero => exact ⟨AV.ge.str' _ _ rfl, rfl, trivial⟩
 | succ j =>
  rw [decide_eq_false (by omega), cond_false, Nat.zero_add, Nat.zero_add]
  show dQ _ [AV.str true (l.getD j [])]
  cases e : Nat.beq q 1 with
  | false => exact aQ _ rfl
  | true =>
   have := Nat.eq_of_beq_eq_true e
   obtain rfl : j = 0 := by omega
   exact aQ _ rfl
noncomputable abbrev ZBI (v0 : tE) (v1 : Nat) := (.cells true 1 (bH (bP v0 v1) (aA (g0 :: ND v0 v1)) ((ND v0 v1).length + 1)).rs.length (.fn fun j => [.iw ((bH (bP v0 v1) (aA (g0 :: ND v0 v1)) ((ND v0 v1).length + 1)).pc j).length (aA ((bH (bP v0 v1) (aA (g0 :: ND v0 v1)) ((ND v0 v1).length + 1)).pc j))]) : aF)
noncomputable abbrev ZBY (v0 : tE) (v1 : Nat) := (.cells true 1 ((ND v0 v1).length + 1) (.fn fun k => [iT (((bP v0 v1) k : Nat) : Int)]) : aF)
noncomputable abbrev ZDA (v0 : tE) (v1 : Nat) := sL 13 (bH (bP v0 v1) (aA (g0 :: ND v0 v1)) ((ND v0 v1).length + 1)).rs.length
noncomputable abbrev ZEU (v0 : tE) (v1 : Nat) := ([(13, ZBI v0 v1), (2, ZD v1 v0), (3, ZM v0 v1), (4, ZN v0 v1), (5, ZO v0 v1), (6, ZC v1 v0), (7, ZG v0 v1), (8, ZH v0 v1)] : tH)
theorem Wi (n : Nat) (E : tE) (hn : n ≤ 256) :
  aj Try.prog (ak Try.f17) Try.f17.ntmps 9 9 17 JI (hpL (ZB n E)) (fun e fr' H' => e = .ret ∧ fr' = aV [(2, ZDA E n)] ∧ H' = hpL (ZEU E n)) := by
 have hq := AU n E hn
 have ln := uK E n
 have hu : ∀ j, bP E n j ≤ j := by rw [vJ]; exact AX _ _
 rw [adi]
 refine aj.bn (K1 := 9) (ypA 9 (by omega) n (ND E n).length (BR E n).length 0 E (aA (ND E n)) (aA (BR E n)) (aA (g0 :: ND E n)) (fun _ => []) (ay 0 (NM E n)) (ay 0 (ND E n)) (ay 0 (BR E n)) (ay 0 (g0 :: ND E n)) []) (by omega) ?_
 refine aj.bn (K1 := 9) (F1 := [(0, ZA 2)]) (H1 := (ZB n E)) (aj.toN (ypB 9 (by omega) n (ND E n).length (BR E n).length 0 E (aA (ND E n)) (aA (BR E n)) (aA (g0 :: ND E n)) (fun _ => []) (ay 0 (NM E n)) (ay 0 (ND E n)) (ay 0 (BR E n)) (ay 0 (g0 :: ND E n)) [] hq) ⟨re rfl, trivial⟩ (gq rfl)) (by omega) ?_
 refine aj.bn (K1 := 12) (F1 := (sQ 0 2 3 11)) (H1 := [(9, ZBY E n), (10, G7 E n), (11, Ze E n 10 9), (2, ZD n E), (3, ZM E n), (4, ZN E n), (5, ZO E n), (6, ZC n E), (7, ZG E n), (8, ZH E n)]) (aj.toN (ypC 9 (by omega) n (ND E n).length (BR E n).length 0 0 E (aA (ND E n)) (aA (BR E n)) (aA (g0 :: ND E n)) (fun _ => []) (ay 0 (NM E n)) (ay 0 (ND E n)) (ay 0 (BR E n)) (ay 0 (g0 :: ND E n)) [] hq) (iD rfl) (gq rfl)) (by omega) ?_
 refine aj.seq (K1 := 13) (by omega) ((aj.toN (ypD 9 (by omega) n ((ND E n).length + 1) (ND E n).length (BR E n).length 0 0 (bP E n) E (aA (ND E n)) (aA (BR E n)) (aA (g0 :: ND E n)) (fun _ => []) (ay 0 (NM E n)) (ay 0 (ND E n)) (ay 0 (BR E n)) (ay 0 (g0 :: ND E n)) []) (F' := [(0, ZA 2), (3, ZA 11), (4, .mp 12)]) (Vf := [(9, ZBY E n), (10, G7 E n), (11, Ze E n 10 9), (12, .iY false []), (2, ZD n E), (3, ZM E n), (4, ZN E n), (5, ZO E n), (6, ZC n E), (7, ZG E n), (8, ZH E n)]) (iD rfl) (gq rfl)).mono fun e fr' H' h => ?_)
 obtain ⟨rfl, rfl, rfl⟩ := h
 refine aj.iY (s' := true) 12 rfl ?_
 refine aj.gK (fl := [(0, ZA 2), (3, ZA 11), (4, .mp 12)]) (bl := [(9, ZBY E n), (10, G7 E n), (11, Ze E n 10 9), (12, .iY true []), (2, ZD n E), (3, ZM E n), (4, ZN E n), (5, ZO E n), (6, ZC n E), (7, ZG E n), (8, ZH E n)]) (iD rfl) (gq rfl) ?_
 refine aj.bn (K1 := 13) (F1 := [(0, ZA 2), (3, ZA 11), (4, .mp 12), (5, .dL)]) (H1 := [(9, ZBY E n), (10, G7 E n), (11, Ze E n 10 9), (12, .iY true []), (2, ZD n E), (3, ZM E n), (4, ZN E n), (5, ZO E n), (6, ZC n E), (7, ZG E n), (8, ZH E n)]) (aj.toN (ypE 9 (by omega) n ((ND E n).length + 1) (ND E n).length (BR E n).length 0 0 (bP E n) E (aA (ND E n)) (aA (BR E n)) (aA (g0 :: ND E n)) (fun _ => []) (ay 0 (NM E n)) (ay 0 (ND E n)) (ay 0 (BR E n)) (ay 0 (g0 :: ND E n)) []) (iD rfl) (gq rfl)) (by omega) ?_
 refine aj.phantom 5 1 (fun j => [.hdr 0 0 0]) rfl (by omega) (by omega) ?_
 refine aj.gK (fl := [(0, ZA 2), (3, ZA 11), (4, .mp 12), (5, sL 13 0)]) (bl := [(9, ZBY E n), (10, G7 E n), (11, Ze E n 10 9), (12, .iY true []), (13, ZCL), (2, ZD n E), (3, ZM E n), (4, ZN E n), (5, ZO E n), (6, ZC n E), (7, ZG E n), (8, ZH E n)]) (iD rfl) (gq rfl) ?_
 refine aj.bn (K1 := 17) (F1 := [(5, ZDA E n)]) (H1 := (ZEU E n)) (aj.seq (K1 := 17) (by omega) ((ypF 9 (by omega) n ((ND E n).length + 1) (ND E n).length (BR E n).length 0 0 0 (bP E n) (fun _ => 0) (fun _ => 0) (fun _ => 0) E (aA (ND E n)) (aA (BR E n)) (aA (g0 :: ND E n)) (fun _ => []) (ay 0 (NM E n)) (ay 0 (ND E n)) (ay 0 (BR E n)) (ay 0 (g0 :: ND E n)) [] (by omega) (by omega) (by omega) (by omega)).mono fun e fr' H' h => ?_)) (by omega) ?_
 ·obtain ⟨rfl, rfl, rfl⟩ := h
  refine aj.D6 (fl := [(3, ZA 11), (4, .mp 12), (5, sL 13 0), (19, sL 16 ((ND E n).length + 1)), (20, iT (((ND E n).length + 1) : Int)), (21, FC)]) (bl := [(9, ZBY E n), (10, G7 E n), (11, Ze E n 10 9), (12, .iY true []), (13, ZCL), (16, .cells true 1 ((ND E n).length + 1) (.fn (aU (aA (g0 :: ND E n))))), (2, ZD n E), (3, ZM E n), (4, ZN E n), (5, ZO E n), (6, ZC n E), (7, ZG E n), (8, ZH E n)]) ⟨re rfl, re rfl, re rfl, ⟨_, rfl, AV.ge.slc _ _ _ (by omega)⟩, ⟨_, rfl, AV.ge.int' _ _ _ (by omega)⟩, ⟨_, rfl, AV.ge.int _ _ _ _⟩, trivial⟩ ⟨⟨_, rfl, .inl ⟨rfl, rfl, rfl, fun j _ => aQ _ rfl⟩⟩, ⟨_, rfl, .inr ⟨_, _, _, rfl, rfl⟩⟩, ⟨_, rfl, .inl ⟨rfl, rfl, rfl, fun j _ => aQ _ rfl⟩⟩, ⟨_, rfl, .inl rfl⟩, ⟨_, rfl, .inl ⟨rfl, rfl, rfl, fun j _ => aQ _ rfl⟩⟩, ⟨_, rfl, .inl ⟨rfl, rfl, by omega, fun j hj => Tt (ND E n) (ND E n).length rfl j (by omega)⟩⟩, ⟨_, rfl, .inl ⟨rfl, rfl, rfl, fun j _ => aQ _ rfl⟩⟩, ⟨_, rfl, .inr ⟨_, _, _, rfl, rfl⟩⟩, ⟨_, rfl, .inr ⟨_, _, _, rfl, rfl⟩⟩, ⟨_, rfl, .inr ⟨_, _, _, rfl, rfl⟩⟩, ⟨_, rfl, .inl ⟨rfl, rfl, rfl, fun j _ => aQ _ rfl⟩⟩, ⟨_, rfl, .inl ⟨rfl, rfl, rfl, fun j _ => aQ _ rfl⟩⟩, ⟨_, rfl, .inl ⟨rfl, rfl, rfl, fun j _ => aQ _ rfl⟩⟩, trivial⟩ ?_
  exact (V9 ((ND E n).length + 1) (bP E n) (aA (g0 :: ND E n)) (ay 0 (g0 :: ND E n)) (by omega) hu).jR (xl := (ZB n E)) (by omega) ⟨⟨by omega, fun j hj v hv => List.all_eq_true.1 (show (bQ 6 7 8 n (ND E n).length (BR E n).length).all (fun v => v.low 9) = true from rfl) v hv⟩, ⟨by omega, trivial⟩, ⟨by omega, trivial⟩, ⟨by omega, trivial⟩, ⟨by omega, fun j hj v hv => List.all_eq_true.1 (show (aP (E j)).all (fun v => v.low 9) = true from rfl) v hv⟩, ⟨by omega, fun j hj v hv => List.all_eq_true.1 (show (aU (aA (ND E n)) j).all (fun v => v.low 9) = true from rfl) v hv⟩, ⟨by omega, fun j hj v hv => List.all_eq_true.1 (show (aU (aA (BR E n)) j).all (fun v => v.low 9) = true from rfl) v hv⟩, trivial⟩ rfl rfl ⟨.inl rfl, trivial⟩
 ·refine aj.gK (fl := [(5, ZDA E n)]) (bl := (ZEU E n)) ⟨re rfl, trivial⟩ (gq rfl) ?_
  exact (ypN 9 (by omega) (bH (bP E n) (aA (g0 :: ND E n)) ((ND E n).length + 1)).rs.length (fun j => ((bH (bP E n) (aA (g0 :: ND E n)) ((ND E n).length + 1)).pc j).length) (fun j => aA ((bH (bP E n) (aA (g0 :: ND E n)) ((ND E n).length + 1)).pc j))).lM (xl := (ZB n E)) (by omega) ⟨⟨by omega, fun j hj v hv => List.all_eq_true.1 (show (bQ 6 7 8 n (ND E n).length (BR E n).length).all (fun v => v.low 9) = true from rfl) v hv⟩, ⟨by omega, trivial⟩, ⟨by omega, trivial⟩, ⟨by omega, trivial⟩, ⟨by omega, fun j hj v hv => List.all_eq_true.1 (show (aP (E j)).all (fun v => v.low 9) = true from rfl) v hv⟩, ⟨by omega, fun j hj v hv => List.all_eq_true.1 (show (aU (aA (ND E n)) j).all (fun v => v.low 9) = true from rfl) v hv⟩, ⟨by omega, fun j hj v hv => List.all_eq_true.1 (show (aU (aA (BR E n)) j).all (fun v => v.low 9) = true from rfl) v hv⟩, trivial⟩ rfl (fun e fr' H0' h => by
   obtain ⟨rfl, rfl, rfl⟩ := h
   exact ⟨_, rfl, rfl, ⟨.inl rfl, trivial⟩, rfl, rfl, rfl⟩)


noncomputable abbrev Zp (v0 : Nat) (v1 : Nat → Nat) (v2 : Nat → Nat → List UInt8) := ([(0, .cells false 1 v0 (.fn fun j => [.iw (v1 j) (v2 j)]))] : tH)
theorem yqA (B : Nat) (hB : B ≤ 1) (n : Nat) (x : List UInt8) (ln : Nat → Nat) (lf : Nat → Nat → List UInt8) : aj Try.prog ((aT [0] (ak Try.f31))) Try.f31.ntmps B 1 1 (bJ [ZE n, .str true x] 0 .e) (hpL (Zp n ln lf)) (pP .normal [(0, ZE n), (1, .str true x)] (Zp n ln lf)) := yR [] trivial hB
theorem yqB (B : Nat) (hB : B ≤ 1) (n : Nat) (x : List UInt8) (ln : Nat → Nat) (lf : Nat → Nat → List UInt8) : aj Try.prog ((aT [1,0] (ak Try.f31))) Try.f31.ntmps B 1 1 (aV [(0, ZE n), (1, .str true x)]) (hpL (Zp n ln lf)) (pP .normal [(0, ZE n), (1, .str true x), (5, .int false .i64 (-1 : Int))] (Zp n ln lf)) := yR [] trivial hB
theorem yqC (B : Nat) (hB : B ≤ 1) (n : Nat) (x : List UInt8) (at_ : Int) (ln : Nat → Nat) (lf : Nat → Nat → List UInt8) : aj Try.prog ((aT [1,1,0,0] (ak Try.f31))) Try.f31.ntmps B 1 1 (aV [(0, ZE n), (1, .str true x), (5, iT at_)]) (hpL (Zp n ln lf)) (pP .normal [(0, ZE n), (1, .str true x), (5, iT at_), (6, Zg)] (Zp n ln lf)) := yR [] trivial hB
theorem yqD (B : Nat) (hB : B ≤ 1) (n i : Nat) (x : List UInt8) (at_ : Int) (ln : Nat → Nat) (lf : Nat → Nat → List UInt8) : aj Try.prog ((aT [1,1,0,1,0,0,0] (ak Try.f31))) Try.f31.ntmps B 1 1 (aV [(0, ZE n), (1, .str true x), (5, iT at_), (6, iT (i : Int))]) (hpL (Zp n ln lf)) fun e fr' H' => (cond (decide ((↑i : Int) < (↑n : Int))) (pP .normal [(0, ZE n), (1, .str true x), (5, iT at_), (6, iT (↑i : Int))] (Zp n ln lf) e fr' H') (pP (.exit 0) [(0, ZE n), (1, .str true x), (5, iT at_), (6, iT (↑i : Int))] (Zp n ln lf) e fr' H')) := cD (fun q0 t0 => yR [tT] (I1 t0) hB) (fun q0 t0 => yR [fF] (I1 t0) hB)
theorem yqE (B : Nat) (hB : B ≤ 1) (n i : Nat) (x : List UInt8) (at_ : Int) (ln : Nat → Nat) (lf : Nat → Nat → List UInt8) : aj Try.prog ((aT [1,1,0,1,0,0,1,0,0,0] (ak Try.f31))) Try.f31.ntmps B 1 1 (aV [(0, ZE n), (1, .str true x), (5, iT at_), (6, iT (i : Int))]) (hpL (Zp n ln lf)) (pP .normal [(0, ZE n), (1, .str true x), (5, iT at_), (6, iT (↑i : Int)), (7, Zg)] (Zp n ln lf)) := yR [] trivial hB
theorem yqF (B : Nat) (hB : B ≤ 1) (n i k : Nat) (x : List UInt8) (at_ : Int) (ln : Nat → Nat) (lf : Nat → Nat → List UInt8) (x0 : ((↑i : Int) < (↑n : Int))) (x1 : (0 + i < n)) : aj Try.prog ((aT [1,1,0,1,0,0,1,0,0,1,0,0,0] (ak Try.f31))) Try.f31.ntmps B 1 1 (aV [(0, ZE n), (1, .str true x), (5, iT at_), (6, iT (i : Int)), (7, iT (k : Int))]) (hpL (Zp n ln lf)) fun e fr' H' => (cond (decide ((↑k : Int) < (↑(ln (0 + i)) : Int))) (pP .normal [(0, ZE n), (1, .str true x), (5, iT at_), (6, iT (↑i : Int)), (7, iT (↑k : Int))] (Zp n ln lf) e fr' H') (pP (.exit 2) [(0, ZE n), (1, .str true x), (5, iT at_), (6, iT (↑i : Int)), (7, iT (↑k : Int))] (Zp n ln lf) e fr' H')) := cD (fun q0 t0 => yR [tT] (I3 (ai (show 0 ≤ (↑i : Int) by omega) x0) x1 t0) hB) (fun q0 t0 => yR [fF] (I3 (ai (show 0 ≤ (↑i : Int) by omega) x0) x1 t0) hB)
theorem yqG (B : Nat) (hB : B ≤ 1) (n i k : Nat) (x : List UInt8) (at_ : Int) (ln : Nat → Nat) (lf : Nat → Nat → List UInt8) (x0 : ((↑i : Int) < (↑n : Int))) (x1 : (0 + i < n)) (x2 : ((↑k : Int) < (↑(ln (0 + i)) : Int))) : aj Try.prog ((aT [1,1,0,1,0,0,1,0,0,1,0,0,1,0] (ak Try.f31))) Try.f31.ntmps B 1 1 (aV [(0, ZE n), (1, .str true x), (5, iT at_), (6, iT (i : Int)), (7, iT (k : Int))]) (hpL (Zp n ln lf)) fun e fr' H' => (cond (lf (0 + i) k == x) (pP .normal [(0, ZE n), (1, .str true x), (5, iT (↑i : Int)), (6, iT (↑i : Int)), (7, iT (↑k : Int))] (Zp n ln lf) e fr' H') (pP .normal [(0, ZE n), (1, .str true x), (5, iT at_), (6, iT (↑i : Int)), (7, iT (↑k : Int))] (Zp n ln lf) e fr' H')) := cI (fun t0 => yR [tT] (I4 (ai (show 0 ≤ (↑i : Int) by omega) x0) x1 (ai (show 0 ≤ (↑k : Int) by omega) x2) t0) hB) (fun t0 => yR [fF] (I4 (ai (show 0 ≤ (↑i : Int) by omega) x0) x1 (ai (show 0 ≤ (↑k : Int) by omega) x2) t0) hB)
theorem yqH (B : Nat) (hB : B ≤ 1) (n i k : Nat) (x : List UInt8) (at_ : Int) (ln : Nat → Nat) (lf : Nat → Nat → List UInt8) (x0 : ((↑k : Int) + 1 ≤ (9223372036854775807 : Int))) : aj Try.prog ((aT [1,1,0,1,0,0,1,0,0,1,0,0,1,1] (ak Try.f31))) Try.f31.ntmps B 1 1 (aV [(0, ZE n), (1, .str true x), (5, iT at_), (6, iT (i : Int)), (7, iT (k : Int))]) (hpL (Zp n ln lf)) (pP .normal [(0, ZE n), (1, .str true x), (5, iT at_), (6, iT (↑i : Int)), (7, JJ k)] (Zp n ln lf)) := yR [] (I1 (ai (show -9223372036854775808 ≤ (↑k : Int) + 1 by omega) x0)) hB
theorem yqI (B : Nat) (hB : B ≤ 1) (n i : Nat) (x : List UInt8) (at_ : Int) (ln : Nat → Nat) (lf : Nat → Nat → List UInt8) (x0 : ((↑i : Int) + 1 ≤ (9223372036854775807 : Int))) : aj Try.prog ((aT [1,1,0,1,0,0,1,1] (ak Try.f31))) Try.f31.ntmps B 1 1 (aV [(0, ZE n), (1, .str true x), (5, iT at_), (6, iT (i : Int))]) (hpL (Zp n ln lf)) (pP .normal [(0, ZE n), (1, .str true x), (5, iT at_), (6, JJ i)] (Zp n ln lf)) := yR [] (I1 (ai (show -9223372036854775808 ≤ (↑i : Int) + 1 by omega) x0)) hB
theorem yqJ (B : Nat) (hB : B ≤ 1) (n : Nat) (at_ : Int) (ln : Nat → Nat) (lf : Nat → Nat → List UInt8) : aj Try.prog ((aT [1,1,1] (ak Try.f31))) Try.f31.ntmps B 1 1 (aV [(5, iT at_)]) (hpL (Zp n ln lf)) (pP .ret [(4, iT at_)] (Zp n ln lf)) := yR [] trivial hB
/-- in which part a name is: the last one, or what was told ahead -/
def N8 (f : tX) (x : Tx) (i : Nat) (a : Int) : Nat → Int
 | 0 => a
 | k + 1 => bif f k == x then (i : Int) else N8 f x i a k
def rZ (ln : Nat → Nat) (lf : Nat → Nat → Tx) (x : Tx) : Nat → Int
 | 0 => -1
 | i + 1 => N8 (lf i) x i (rZ ln lf x i) (ln i)
theorem Yo : (aT [1,1,0,1,0,0,1,0,0,1,0,0] (ak Try.f31)) = .seq (aT [1,1,0,1,0,0,1,0,0,1,0,0,0] (ak Try.f31)) (.seq (aT [1,1,0,1,0,0,1,0,0,1,0,0,1,0] (ak Try.f31)) (aT [1,1,0,1,0,0,1,0,0,1,0,0,1,1] (ak Try.f31))) := by kernel_rfl
theorem afT : (aT [1,1,0,1,0,0,1,0,0] (ak Try.f31)) = .seq (aT [1,1,0,1,0,0,1,0,0,0] (ak Try.f31)) (.block 2 (.loop (aT [1,1,0,1,0,0,1,0,0,1,0,0] (ak Try.f31)))) := by kernel_rfl
theorem adk : (aT [1,1,0,1,0,0] (ak Try.f31)) = .seq (aT [1,1,0,1,0,0,0] (ak Try.f31)) (.seq (.block 1 (aT [1,1,0,1,0,0,1,0,0] (ak Try.f31))) (aT [1,1,0,1,0,0,1,1] (ak Try.f31))) := by kernel_rfl
theorem adl : (ak Try.f31) = .seq (aT [0] (ak Try.f31)) (.seq (aT [1,0] (ak Try.f31)) (.seq (.seq (aT [1,1,0,0] (ak Try.f31)) (.block 0 (.loop (aT [1,1,0,1,0,0] (ak Try.f31))))) (aT [1,1,1] (ak Try.f31)))) := by kernel_rfl
noncomputable abbrev Qd (v0 : Nat) (v1 : Nat → Nat) (v2 : Nat → Nat → Tx) := ([(0, .cells false 1 v0 (.fn fun j => [.iw (v1 j) (v2 j)]))] : tH)
theorem Tv (n i : Nat) (x : Tx) (a : Int) (ln : Nat → Nat) (lf : Nat → Nat → Tx) (hn : n ≤ 4096) (hl : ∀ j, j < n → ln j ≤ 4096) (hi : i < n) :
  aj Try.prog (aT [1,1,0,1,0,0,1,0,0] (ak Try.f31)) Try.f31.ntmps 1 1 1 (aV [(0, ZE n), (1, .str true x), (5, iT a), (6, iT (i : Int))]) (hpL (Qd n ln lf)) (Nm [(0, ZE n), (1, .str true x), (5, iT (N8 (lf i) x i a (ln i))), (6, iT (i : Int)), (7, iT ((ln i) : Int))] (Qd n ln lf)) := by
 rw [afT]
 refine aj.bn (K1 := 1) (F1 := [(0, ZE n), (1, .str true x), (5, iT (N8 (lf i) x i a 0)), (6, iT (i : Int)), (7, FC)]) (H1 := (Qd n ln lf)) (aj.toN (yqE 1 (by omega) n i x a ln lf) ⟨re rfl, re rfl, re rfl, re rfl, ⟨_, rfl, AV.ge.int _ _ _ _⟩, trivial⟩ ⟨hs rfl, trivial⟩) (by omega) ?_
 refine aj.rounds (P := Try.prog) (n := Try.f31.ntmps) (B := 1) (K := 1) (id := 2) (ln i) (fun k => [(0, ZE n), (1, .str true x), (5, iT (N8 (lf i) x i a k)), (6, iT (i : Int)), (7, iT ((k : Nat) : Int))]) (fun _ => (Qd n ln lf)) (fun k hk => ?_) ?_
 ·have hli := hl i hi
  rw [Yo]
  refine aj.bn (K1 := 1) ((yqF 1 (by omega) n i k x (N8 (lf i) x i a k) ln lf (by omega) (by omega)).mono fun e fr' H' h => ?_) (by omega) (aj.bn (K1 := 1) (F1 := [(0, ZE n), (1, .str true x), (5, iT (N8 (lf i) x i a (k + 1))), (6, iT (i : Int)), (7, iT ((k : Nat) : Int))]) (H1 := (Qd n ln lf)) ((yqG 1 (by omega) n i k x (N8 (lf i) x i a k) ln lf (by omega) (by omega) (by rw [Nat.zero_add]; omega)).mono fun e fr' H' h => ?_) (by omega) (aj.toN (yqH 1 (by omega) n i k x (N8 (lf i) x i a (k + 1)) ln lf (by omega)) ⟨re rfl, re rfl, re rfl, re rfl, ⟨_, rfl, AV.ge.int' _ _ _ (by omega)⟩, trivial⟩ ⟨hs rfl, trivial⟩))
  ·rw [decide_eq_true (by rw [Nat.zero_add]; omega), cond_true] at h
   exact h
  ·rw [Nat.zero_add] at h
   show e = .normal ∧ fr' = aV [(0, ZE n), (1, .str true x), (5, iT (bif lf i k == x then (i : Int) else (N8 (lf i) x i a k))), (6, iT (i : Int)), (7, iT ((k : Nat) : Int))] ∧ H' = hpL (Qd n ln lf)
   cases q : lf i k == x with
   | true => rw [q, cond_true] at h; exact h
   | false => rw [q, cond_false] at h; exact h
 ·rw [Yo]
  refine aj.DY (K1 := 1) ((yqF 1 (by omega) n i (ln i) x (N8 (lf i) x i a (ln i)) ln lf (by omega) (by omega)).mono fun e fr' H' h => ?_) (by omega)
  rw [decide_eq_false (by rw [Nat.zero_add]; omega), cond_false] at h
  exact h
theorem Wj (n : Nat) (x : Tx) (ln : Nat → Nat) (lf : Nat → Nat → Tx) (hn : n ≤ 4096) (hl : ∀ j, j < n → ln j ≤ 4096) :
  aj Try.prog (ak Try.f31) Try.f31.ntmps 1 1 1 (bJ [ZE n, .str true x] 0 .e) (hpL (Qd n ln lf)) (fun e fr' H' => e = .ret ∧ fr' = aV [(4, iT (rZ ln lf x n))]) := by
 rw [adl]
 refine aj.bn (K1 := 1) (yqA 1 (by omega) n x ln lf) (by omega) ?_
 refine aj.bn (K1 := 1) (F1 := [(0, ZE n), (1, .str true x), (5, iT (rZ ln lf x 0))]) (H1 := (Qd n ln lf)) (aj.toN (yqB 1 (by omega) n x ln lf) ⟨re rfl, re rfl, ⟨_, rfl, AV.ge.int _ _ _ _⟩, trivial⟩ ⟨hs rfl, trivial⟩) (by omega) ?_
 refine aj.bn (K1 := 1) (F1 := [(0, ZE n), (1, .str true x), (5, iT (rZ ln lf x n)), (6, iT (n : Int))]) (H1 := (Qd n ln lf)) (aj.bn (K1 := 1) (F1 := [(0, ZE n), (1, .str true x), (5, iT (rZ ln lf x 0)), (6, FC)]) (H1 := (Qd n ln lf)) (aj.toN (yqC 1 (by omega) n x (rZ ln lf x 0) ln lf) ⟨re rfl, re rfl, re rfl, ⟨_, rfl, AV.ge.int _ _ _ _⟩, trivial⟩ ⟨hs rfl, trivial⟩) (by omega) ?_) (by omega) ?_
 ·refine aj.rounds (P := Try.prog) (n := Try.f31.ntmps) (B := 1) (K := 1) (id := 0) n (fun i => [(0, ZE n), (1, .str true x), (5, iT (rZ ln lf x i)), (6, iT ((i : Nat) : Int))]) (fun _ => (Qd n ln lf)) (fun i hi => ?_) ?_
  ·rw [adk]
   refine aj.bn (K1 := 1) ((yqD 1 (by omega) n i x (rZ ln lf x i) ln lf).mono fun e fr' H' h => ?_) (by omega) (aj.bn (K1 := 1) (F1 := [(0, ZE n), (1, .str true x), (5, iT (rZ ln lf x (i + 1))), (6, iT (i : Int))]) (H1 := (Qd n ln lf)) (aj.nV (aj.toN (Tv n i x (rZ ln lf x i) ln lf hn hl hi) (iD rfl) ⟨hs rfl, trivial⟩)) (by omega) (aj.toN (yqI 1 (by omega) n i x (rZ ln lf x (i + 1)) ln lf (by omega)) ⟨re rfl, re rfl, re rfl, ⟨_, rfl, AV.ge.int' _ _ _ (by omega)⟩, trivial⟩ ⟨hs rfl, trivial⟩))
   rw [decide_eq_true (by omega), cond_true] at h
   exact h
  ·rw [adk]
   refine aj.DY (K1 := 1) ((yqD 1 (by omega) n n x (rZ ln lf x n) ln lf).mono fun e fr' H' h => ?_) (by omega)
   rw [decide_eq_false (by omega), cond_false] at h
   exact h
 ·refine aj.gK (fl := [(5, iT (rZ ln lf x n))]) (bl := (Qd n ln lf)) ⟨re rfl, trivial⟩ ⟨hs rfl, trivial⟩ ?_
  refine (yqJ 1 (by omega) n (rZ ln lf x n) ln lf).mono fun e fr' H' h => ?_
  exact ⟨h.1, h.2.1⟩


def tN (c : Nat → List AV) (j : Nat) : Nat := match c j with | [.iw k _] => k | _ => 0
def tF (c : Nat → List AV) (j : Nat) : Nat → Tx := match c j with | [.iw _ f] => f | _ => fun _ => []
def IQ (n m : Nat) (c : Nat → List AV) : Prop := n ≤ m ∧ n ≤ 4096 ∧ ∀ j, j < n → dQ (c j) [.iw (tN c j) (tF c j)] ∧ tN c j ≤ 4096
noncomputable def iy : List AV → M AV
 | [.slc _ _ a len, .str _ x] => (jk a.g).andThen fun b => (M.dh (Nat.beq a.i 0 && Nat.beq a.o 0 && Nat.beq b.2.1 1)).andThen fun _ => (M.req (IQ len b.2.2.1 b.2.2.2.row)).andThen fun _ => M.ret (iT (rZ (tN b.2.2.2.row) (tF b.2.2.2.row) x len))
 | _ => M.no
theorem Wn : ∀ args, aC (iy args) := by
 intro args
 unfold iy
 split
 ·exact (aC.jk _).andThen fun _ => (aC.dh _).andThen fun _ => (aC.req _).andThen fun _ => aC.ret _
 ·exact aC.no
theorem aas : ∀ args v g g', iy args g = .done v g' → bZ Try.prog 31 args v g g' := by
 intro args v g g' h
 unfold iy at h
 split at h
 case h_2 => exact (bC h).elim
 rename_i s own a len s' x
 obtain ⟨⟨ob, zb, mb, cb⟩, g1, a1, h1⟩ := au h
 clear h
 obtain ⟨t1, rfl⟩ := eu a1
 dsimp only at h1 t1
 obtain ⟨_, g3, a3, h3⟩ := au h1
 clear h1
 obtain ⟨hq, rfl⟩ := aS a3
 simp only [Bool.and_eq_true] at hq
 obtain ⟨⟨q1, q2⟩, q3⟩ := hq
 replace q1 := Nat.eq_of_beq_eq_true q1
 replace q2 := Nat.eq_of_beq_eq_true q2
 obtain rfl := Nat.eq_of_beq_eq_true q3
 obtain ⟨_, g4, a4, h4⟩ := au h3
 have kk := iZ a4
 obtain ⟨rfl, rfl⟩ := aB h4
 refine zQ (c := (ak Try.f31)) Try.func31 (by kernel_rfl) (by kernel_rfl) (gG := [.slc true false ⟨false, 0, 0, 0⟩ len, .str true x]) (bl := [(0, .cells false 1 len (.fn fun j => [.iw (tN cb.row j) (tF cb.row j)]))]) (mM := []) (B0 := 1) (K0 := 1) (K' := 1) (p := _) (fun hc => kk.2.2 hc) kk.2.1 (fun i => a.g) ?_ ?_ ?_ ?_ rfl ?_
 ·intro hp N μ cs hr
  simp only [aO] at hr ⊢
  obtain ⟨c1, r, rfl, h1, c2, r', rfl, h2, h3⟩ := hr
  refine ⟨c1, _, rfl, ?_, c2, _, rfl, ?_, h3⟩
  ·simp only [Rep, tZ] at h1 ⊢
   obtain ⟨hg, A, C, rfl, hl, k1, k2, k3⟩ := h1
   exact ⟨by omega, A, C, rfl, hl, fun h0 => (k1 h0).trans (by simp only [MM.addr, MM.via, q1, q2]), fun h => (by cases h), fun h => (by cases h)⟩
  ·simpa only [Rep] using h2
 ·intro hp i b hbb
  have hm := aY hbb
  simp only [List.mem_cons, List.not_mem_nil, or_false] at hm
  cases hm
  exact ⟨by omega, fun i0 _ v hv => by rw [List.mem_singleton.1 hv]; rfl, _, t1, fun N μ hpp k => N9 k hp.1 (fun j hj => (hp.2.2 j hj).1), fun h => (by cases h), fun μ j hr => by
    rcases hr with hr | hr
    ·exact .inl (by have := hp.1; omega)
    ·cases hr.1⟩
 ·intro hp i j b b' hi hj e
  have hm := aY hi
  have hm' := aY hj
  simp only [List.mem_cons, List.not_mem_nil, or_false] at hm hm'
  cases hm; cases hm'; rfl
 ·intro hp
  refine (Wj len x (tN cb.row) (tF cb.row) hp.2.1 (fun j hj => (hp.2.2 j hj).2)).mono fun e fr' H' h => ?_
  obtain ⟨rfl, rfl⟩ := h
  exact ⟨.inl rfl, _, _, res1 (t := 4) (by kernel_rfl) rfl, trivial, AV.ge.refl _, trivial⟩
 ·intro hp i b hi
  refine .inl ⟨by rw [← kk.1]; exact hi, fun j bj hj ho => ?_⟩
  have hm := aY hj
  simp only [List.mem_cons, List.not_mem_nil, or_false] at hm
  cases hm; cases ho
noncomputable def aat : Known := kc 71 ofBits (kc 74 toBits (kc 72 jw (kc 61 nM (kc 58 jT (kc 73 KP (kc 59 pq (kc 60 pz (kc 35 yS (kc 12 mP (kc 29 zT (kc 46 mQ (kc 44 qO (kc 41 sS (kc 39 uM (kc 40 Tz (kc 15 wE (kc 45 qH (kc 19 su (kc 18 AY (kc 43 MB (kc 25 Qe (kc 31 iy (kc 9 D7 (kn))))))))))))))))))))))))
theorem Oa : fK Try.prog aat := aH ((fQ Try.prog).fE Try.func71 (by kernel_rfl) (by kernel_rfl) (by kernel_rfl) (by kernel_rfl)) (aH ((fP Try.prog).fE Try.func74 (by kernel_rfl) (by kernel_rfl) (by kernel_rfl) (by kernel_rfl)) (aH gI (aH iK (aH gU (aH nX (aH jy (aH jA (aH nC (aH jL (aH oG (aH jM (aH lQ (aH nN (aH pF (aH xk (aH qP (aH oI (aH qQ (aH yT (aH G8 (aH Ob (aH aas (aH Qg (qj))))))))))))))))))))))))
theorem JK : gY aat := aG aC.ofBits (aG aC.toBits (aG fJ (aG gJ (aG fZ (aG kH (aG iL (aG iM (aG ku (aG iR (aG lS (aG iU (aG jO (aG kY (aG mV (aG sD (aG oJ (aG mW (aG pG (aG vK (aG D8 (aG JL (aG Wn (aG MC (lJ))))))))))))))))))))))))
noncomputable def Oc : Calls' := Sx.runN Try.prog aat (bK Try.prog) 1000 50
theorem JM : dw Try.prog Oc := iQ Oa JK (by kernel_rfl) (by kernel_rfl) 1000 50
theorem Qh (n : Nat) : eF Try.prog (bK Try.prog Oc n) n := eX Oa JK (by kernel_rfl) (by kernel_rfl) 1000 50 n
noncomputable abbrev kT (f : Func) (c : Code) (fr : Fr) (H : T aF) (K : Nat) (path : List Bool) : Aa (Ex × Fr) :=
 bV Try.prog Oc (bK Try.prog Oc f.ntmps) jH f.ntmps 1000 c fr ⟨H, K, [], path, True⟩


theorem rcQ {fn : Func} {K K' B : Nat} {e : Ex} {F : jU} {Hl : tH} {c : Code} {fr : Fr} {H : T aF} {path : List Bool} (h : cO K' e F Hl (kT fn c fr H K path)) (hB : B ≤ K) : aj Try.prog c fn.ntmps B K K' fr H fun e' fr' H' => e' = e ∧ fr' = aV F ∧ H' = hpL Hl := aj.runN JM (Qh _) (gu.none _ _ _) h hB
theorem sG {fn : Func} {K K' B : Nat} {e : Ex} {F : jU} {Hl : tH} {c : Code} {fr : Fr} {H : T aF} (path : List Bool) {q : Prop} (hq : q) (hB : B ≤ K) (h : jg K' e F Hl (kT fn c fr H K path) = (e = e ∧ ql F ∧ qm Hl ∧ true = true ∧ q) := by kernel_rfl) : aj Try.prog c fn.ntmps B K K' fr H fun e' fr' H' => e' = e ∧ fr' = aV F ∧ H' = hpL Hl := rcQ (eqn h hq) hB
theorem zcA (B : Nat) (hB : B ≤ 1) (n : Nat) (G : tE) (lf : Nat → Nat → List UInt8) (M1 M2 M3 : List (List UInt8 × Int)) (nd br h : Nat → List UInt8) : aj Try.prog ((aT [0] (ak Try.f6))) Try.f6.ntmps B 1 1 (bJ [ZE n] 0 .e) (hpL [(0, Zz n G)]) (pP .normal [(0, ZE n)] [(0, Zd n G)]) := sG [] trivial hB
theorem zcB (B : Nat) (hB : B ≤ 1) (n : Nat) (G : tE) (lf : Nat → Nat → List UInt8) (M1 M2 M3 : List (List UInt8 × Int)) (nd br h : Nat → List UInt8) : aj Try.prog ((aT [1,0] (ak Try.f6))) Try.f6.ntmps B 1 1 (aV [(0, ZE n)]) (hpL [(0, Zz n G)]) (pP .normal [(0, ZE n), (3, .bool true)] [(0, Zd n G)]) := sG [] trivial hB
noncomputable abbrev ZEf := ([(3, .bool true), (4, ZA 8), (5, ZA 9)] : jU)
theorem zcC (B : Nat) (hB : B ≤ 1) (n : Nat) (G : tE) (lf : Nat → Nat → List UInt8) (M1 M2 M3 : List (List UInt8 × Int)) (nd br h : Nat → List UInt8) (x0 : (n * 104 ≤ 140737488355328)) (x1 : (∀ (j : Nat), j < n → dQ (zR (G (0 + j))) (zR (qp (rowsOf ⟨false, 0, 0, 0⟩ 8 8 (.fn fun j => zR (G j))) j)) ∧ El.v (G (0 + j)) < 18446744073709551616)) (x2 : (∀ (j : Nat), j < n → ∀ (u : AV), u ∈ zR (G (0 + j)) → AV.low 0 u = true)) (x3 : (PEQ n fun j => (aP (G (0 + (0 + j)))))) : aj Try.prog ((aT [1,1,0] (ak Try.f6))) Try.f6.ntmps B 1 10 (aV [(0, ZE n), (3, .bool true)]) (hpL [(0, Zz n G)]) fun e fr' H' => (cond (decide (Prod.fst (yU (aK fun j => (aP (G (0 + (0 + j))))) n) = (0 : Int))) (pP .normal ZEf [(2, aF.aJ true (ay 0 (NM (aK (rowsOf ⟨false, 1, 0, 0⟩ 8 8 (.fn fun j => aP (qp (rowsOf ⟨false, 0, 0, 0⟩ 8 8 (.fn fun j => zR (G j))) j)))) n))), (3, aF.aJ true (ay 0 (ND (aK (rowsOf ⟨false, 1, 0, 0⟩ 8 8 (.fn fun j => aP (qp (rowsOf ⟨false, 0, 0, 0⟩ 8 8 (.fn fun j => zR (G j))) j)))) n))), (4, aF.aJ true (ay 0 (BR (aK (rowsOf ⟨false, 1, 0, 0⟩ 8 8 (.fn fun j => aP (qp (rowsOf ⟨false, 0, 0, 0⟩ 8 8 (.fn fun j => zR (G j))) j)))) n))), (5, .cells true 8 n (.fn fun j => (aP (G (0 + (0 + j)))))), (6, .cells true 1 (List.length (ND (aK fun j => (aP (G (0 + (0 + j))))) n)) (.fn fun j => [.str true (aA (ND (aK fun j => (aP (G (0 + (0 + j))))) n) j)])), (7, .cells true 1 (List.length (BR (aK fun j => (aP (G (0 + (0 + j))))) n)) (.fn fun j => [.str true (aA (BR (aK fun j => (aP (G (0 + (0 + j))))) n) j)])), (8, .cells true 7 1 (.fn fun x => [.bool true, sL 5 n, AV.mp 2, sL 6 (List.length (ND (aK fun j => (aP (G (0 + (0 + j))))) n)), AV.mp 3, sL 7 (List.length (BR (aK fun j => (aP (G (0 + (0 + j))))) n)), AV.mp 4])), (9, ZEc)] e fr' H') (pP .normal [(3, .bool true), (4, .iW), (5, ZA 2)] [(2, .cells true 2 1 (.lit [] (.n .e (some [iT (Prod.fst (yU (aK (rowsOf ⟨false, 1, 0, 0⟩ 8 8 (.fn fun j => aP (qp (rowsOf ⟨false, 0, 0, 0⟩ 8 8 (.fn fun j => zR (G j))) j)))) n)), iT (Prod.snd (yU (aK (rowsOf ⟨false, 1, 0, 0⟩ 8 8 (.fn fun j => aP (qp (rowsOf ⟨false, 0, 0, 0⟩ 8 8 (.fn fun j => zR (G j))) j)))) n))]) .e)))] e fr' H')) := cD (fun q0 t0 => sG [tT] (I5 (show 0 + n ≤ n by omega) (ai (ai x0 x1) x2) (show 0 + n ≤ n by omega) x3 t0) hB) (fun q0 t0 => sG [fF] (I5 (show 0 + n ≤ n by omega) (ai (ai x0 x1) x2) (show 0 + n ≤ n by omega) x3 t0) hB)
noncomputable abbrev Yp (w0) := ([(3, .bool true), (4, ZA w0)] : jU)
noncomputable abbrev ZE9 := (.cells true 2 1 (.fn fun _ => [Zg, Zg]) : aF)
theorem zcD (B : Nat) (hB : B ≤ 10) (lf : Nat → Nat → List UInt8) (M1 M2 M3 : List (List UInt8 × Int)) (nd br h : Nat → List UInt8) : aj Try.prog ((aT [1,1,1,0] (ak Try.f6))) Try.f6.ntmps B 10 10 (aV ZEf) (hpL [(9, ZE9)]) (pP .normal (Yp 8) []) := sG [] trivial hB
theorem afU (B : Nat) (hB : B ≤ 10) (lf : Nat → Nat → List UInt8) (M1 M2 M3 : List (List UInt8 × Int)) (nd br h : Nat → List UInt8) (er fa : Int) : aj Try.prog ((aT [1,1,1,0] (ak Try.f6))) Try.f6.ntmps B 10 10 (aV [(3, .bool true), (4, .iW), (5, ZA 2)]) (hpL [(2, TA er fa)]) fun e fr' H' => (cond (decide (er = (0 : Int)) && (decide (fa = (0 : Int)) && true)) (pP .ret [(2, .bool true), (3, .bool true), (4, .iW)] [] e fr' H') (pP .ret [(2, .bool true), (3, .bool true), (4, .iW)] [] e fr' H')) := cI (fun t0 => sG [fF] (I1 (nt t0)) hB) (fun t0 => sG [tT] (I1 (nf t0)) hB)
noncomputable abbrev ZCi := aT [1,1,1,1,0] (ak Try.f6)
theorem aau (n q r : Nat) (E : tE) (M1 M2 M3 : List (List UInt8 × Int)) (nd br : Nat → List UInt8) : cO 9 (Ex.normal) [(3, .bool true), (4, ZA 2), (32, ZA 2)] [(2, Za n q r), (3, Zb M1), (4, Zb M2), (5, Zb M3), (6, ZS n E), (7, ZK q nd), (8, ZK r br)] (kT Try.f6 ((wZ 1 ZCi)) (aV (Yp 2)) (D9 n q r M1 M2 M3 E nd br) 9 []) := eN trivial
theorem Wp (n q r s : Nat) (E : tE) (ln : Nat → Nat) (lf : Nat → Nat → List UInt8) (M1 M2 M3 : List (List UInt8 × Int)) (nd br : Nat → List UInt8) : cO 17 (Ex.normal) [(3, .bool true), (4, ZA 2), (6, sL 13 s)] [(2, Za n q r), (3, Zb M1), (4, Zb M2), (5, Zb M3), (6, ZS n E), (7, ZK q nd), (8, ZK r br), (13, Zx s ln lf)] (kT Try.f6 ((rY 2 ZCi)) (aV [(33, sL 13 s), (3, .bool true), (4, ZA 2)]) (hpL [(13, Zx s ln lf), (2, ZV n q r), (3, .aJ true M1), (4, .aJ true M2), (5, .aJ true M3), (6, ZC n E), (7, ZK q nd), (8, ZK r br)]) 17 []) := eN trivial
noncomputable abbrev ZEp (v0 v1 : Nat) := ([(3, .bool true), (4, ZA 2), (6, sL 9 v0), (7, sL 10 v1)] : jU)
theorem zcG (B : Nat) (hB : B ≤ 10) (n q r s : Nat) (E : tE) (lf : Nat → Nat → List UInt8) (M1 M2 M3 : List (List UInt8 × Int)) (nd br h : Nat → List UInt8) (x0 : (q * 16 ≤ 140737488355328)) (x1 : (q ≤ 9223372036854775807)) : aj Try.prog ((aT [1,1,1,1,1,0] (ak Try.f6))) Try.f6.ntmps B 10 11 (aV [(3, .bool true), (4, ZA 2), (6, sL 9 s)]) (D9 n q r M1 M2 M3 E nd br) (pP .normal (ZEp s q) [(2, Za n q r), (3, Zb M1), (4, Zb M2), (5, Zb M3), (6, ZS n E), (7, ZK q nd), (8, ZK r br), (10, .cells true 1 q (.fn fun j => [.str true (nd (0 + j))]))]) := sG [] (I2 (show 0 + q ≤ q by omega) (ai x0 x1)) hB
theorem zcH (B : Nat) (hB : B ≤ 11) (q s : Nat) (lf : Nat → Nat → List UInt8) (M1 M2 M3 : List (List UInt8 × Int)) (nd br h : Nat → List UInt8) : aj Try.prog ((aT [1,1,1,1,1,1,0] (ak Try.f6))) Try.f6.ntmps B 11 11 (aV (ZEp s q)) (hpL []) (pP .normal [(3, .bool true), (4, ZA 2), (6, sL 9 s), (7, sL 10 q), (8, Zg)] []) := sG [] trivial hB
theorem zcI (B : Nat) (hB : B ≤ 11) (q s : Nat) (lf : Nat → Nat → List UInt8) (M1 M2 M3 : List (List UInt8 × Int)) (nd br h : Nat → List UInt8) (al : Int) : aj Try.prog ((aT [1,1,1,1,1,1,1,0,0] (ak Try.f6))) Try.f6.ntmps B 11 11 (aV [(3, .bool true), (4, ZA 2), (6, sL 9 s), (7, sL 10 q), (8, iT al)]) (hpL []) (pP .normal [(3, .bool true), (4, ZA 2), (6, sL 9 s), (7, sL 10 q), (8, iT al), (9, Zg)] []) := sG [] trivial hB
noncomputable abbrev ZEk (v0 v1 : Nat) (v2 : Int) (v3 : Nat) := aV [(3, .bool true), (4, ZA 2), (6, sL 9 v0), (7, sL 10 v1), (8, iT v2), (9, iT (v3 : Int))]
theorem zcJ (B : Nat) (hB : B ≤ 11) (q s i : Nat) (lf : Nat → Nat → List UInt8) (M1 M2 M3 : List (List UInt8 × Int)) (nd br h : Nat → List UInt8) (al : Int) : aj Try.prog ((aT [1,1,1,1,1,1,1,0,1,0,0,0] (ak Try.f6))) Try.f6.ntmps B 11 11 (ZEk s q al i) (hpL []) fun e fr' H' => (cond (decide ((↑i : Int) < (↑s : Int))) (pP .normal [(3, .bool true), (4, ZA 2), (6, sL 9 s), (7, sL 10 q), (8, iT al), (9, iT (↑i : Int))] [] e fr' H') (pP (.exit 0) [(3, .bool true), (4, ZA 2), (6, sL 9 s), (7, sL 10 q), (8, iT al), (9, iT (↑i : Int))] [] e fr' H')) := cD (fun q0 t0 => sG [tT] (I1 t0) hB) (fun q0 t0 => sG [fF] (I1 t0) hB)
theorem zcK (B : Nat) (hB : B ≤ 11) (q s i : Nat) (ln : Nat → Nat) (lf : Nat → Nat → List UInt8) (M1 M2 M3 : List (List UInt8 × Int)) (nd br h : Nat → List UInt8) (al : Int) (x0 : ((↑i : Int) < (↑s : Int))) (x1 : (0 + i < s)) (x2 : ((-9223372036854775808 : Int) ≤ al + (↑(ln (0 + i)) : Int))) (x3 : (al + (↑(ln (0 + i)) : Int) ≤ 9223372036854775807)) : aj Try.prog ((aT [1,1,1,1,1,1,1,0,1,0,0,1,0,0] (ak Try.f6))) Try.f6.ntmps B 11 11 (ZEk s q al i) (hpL [(9, Zx s ln lf)]) fun e fr' H' => (cond (decide ((↑(ln (0 + i)) : Int) = 0)) (pP .ret [(2, .bool false), (3, .bool true), (4, ZA 2), (6, sL 9 s), (7, sL 10 q), (8, iT (al + (↑(ln (0 + i)) : Int))), (9, iT (↑i : Int))] [(9, Zx s ln lf)] e fr' H') (pP .normal [(3, .bool true), (4, ZA 2), (6, sL 9 s), (7, sL 10 q), (8, iT (al + (↑(ln (0 + i)) : Int))), (9, iT (↑i : Int))] [(9, Zx s ln lf)] e fr' H')) := cD (fun q0 t0 => sG [tT] (I6 (ai (show 0 ≤ (↑i : Int) by omega) x0) x1 (ai x2 x3) (ai (show 0 ≤ (↑i : Int) by omega) x0) x1 t0) hB) (fun q0 t0 => sG [fF] (I6 (ai (show 0 ≤ (↑i : Int) by omega) x0) x1 (ai x2 x3) (ai (show 0 ≤ (↑i : Int) by omega) x0) x1 t0) hB)
theorem zcL (B : Nat) (hB : B ≤ 11) (q s i : Nat) (lf : Nat → Nat → List UInt8) (M1 M2 M3 : List (List UInt8 × Int)) (nd br h : Nat → List UInt8) (al : Int) (x0 : ((↑i : Int) + 1 ≤ (9223372036854775807 : Int))) : aj Try.prog ((aT [1,1,1,1,1,1,1,0,1,0,0,1,1] (ak Try.f6))) Try.f6.ntmps B 11 11 (ZEk s q al i) (hpL []) (pP .normal [(3, .bool true), (4, ZA 2), (6, sL 9 s), (7, sL 10 q), (8, iT al), (9, JJ i)] []) := sG [] (I1 (ai (show -9223372036854775808 ≤ (↑i : Int) + 1 by omega) x0)) hB
noncomputable abbrev ZEx (v0 v1 : Nat) := ([(2, .bool false), (3, .bool true), (4, ZA 2), (6, sL 9 v0), (7, sL 10 v1)] : jU)
theorem zcM (B : Nat) (hB : B ≤ 11) (q s : Nat) (ln : Nat → Nat) (lf : Nat → Nat → List UInt8) (M1 M2 M3 : List (List UInt8 × Int)) (nd br h : Nat → List UInt8) (al : Int) (x0 : ((↑q : Int) + 1 ≤ (9223372036854775807 : Int))) (x1 : ((decide (al = (↑q : Int) + 1)) = true → (s ≤ 4096))) (x2 : ((decide (al = (↑q : Int) + 1)) = true → (∀ (j : Nat), j < s → dQ [.iw (ln j) (lf j)] [.iw (tN (Cont.row (.fn fun j => [.iw (ln j) (lf j)])) j) (tF (Cont.row (.fn fun j => [.iw (ln j) (lf j)])) j)] ∧ tN (Cont.row (.fn fun j => [.iw (ln j) (lf j)])) j ≤ 4096))) (x3 : ((decide (al = (↑q : Int) + 1)) = true → ((decide (rZ (tN (Cont.row (.fn fun j => [.iw (ln j) (lf j)]))) (tF (Cont.row (.fn fun j => [.iw (ln j) (lf j)]))) [(48 : UInt8)] s = (0 : Int))) = true → (0 < (↑s : Int))))) (x4 : ((decide (al = (↑q : Int) + 1)) = true → ((decide (rZ (tN (Cont.row (.fn fun j => [.iw (ln j) (lf j)]))) (tF (Cont.row (.fn fun j => [.iw (ln j) (lf j)]))) [(48 : UInt8)] s = (0 : Int))) = true → (0 < s)))) (x5 : ((decide (al = (↑q : Int) + 1)) = true → ((decide (rZ (tN (Cont.row (.fn fun j => [.iw (ln j) (lf j)]))) (tF (Cont.row (.fn fun j => [.iw (ln j) (lf j)]))) [(48 : UInt8)] s = (0 : Int))) = true → (0 < (↑(ln 0) : Int))))) : aj Try.prog ((aT [1,1,1,1,1,1,1,1,0] (ak Try.f6))) Try.f6.ntmps B 11 11 (aV [(3, .bool true), (4, ZA 2), (6, sL 9 s), (7, sL 10 q), (8, iT al)]) (hpL [(9, Zx s ln lf)]) fun e fr' H' => (cond (decide (al = (↑q : Int) + 1)) (cond (decide (rZ (tN (Cont.row (.fn fun j => [.iw (ln j) (lf j)]))) (tF (Cont.row (.fn fun j => [.iw (ln j) (lf j)]))) [(48 : UInt8)] s = (0 : Int))) (cond (lf 0 0 == [(48 : UInt8)]) (pP .normal (ZEp s q) [(9, Zx s ln lf)] e fr' H') (pP .ret (ZEx s q) [(9, Zx s ln lf)] e fr' H')) (pP .ret (ZEx s q) [(9, Zx s ln lf)] e fr' H')) (pP .ret (ZEx s q) [(9, Zx s ln lf)] e fr' H')) := cD (fun q0 t0 => cD (fun q1 t1 => cI (fun t2 => sG [fF, fF, fF] (I8 (ai (show -9223372036854775808 ≤ (↑q : Int) + 1 by omega) x0) (nt t0) (ai (show s ≤ s by omega) (ai (x1 t0) (x2 t0))) (nt t1) (ai (show (0 : Int) ≤ 0 by omega) (x3 t0 t1)) (x4 t0 t1) (ai (show (0 : Int) ≤ 0 by omega) (x5 t0 t1)) (nt t2)) hB) (fun t2 => sG [fF, fF, tT] (I8 (ai (show -9223372036854775808 ≤ (↑q : Int) + 1 by omega) x0) (nt t0) (ai (show s ≤ s by omega) (ai (x1 t0) (x2 t0))) (nt t1) (ai (show (0 : Int) ≤ 0 by omega) (x3 t0 t1)) (x4 t0 t1) (ai (show (0 : Int) ≤ 0 by omega) (x5 t0 t1)) (nf t2)) hB)) (fun q1 t1 => sG [fF, tT] (I4 (ai (show -9223372036854775808 ≤ (↑q : Int) + 1 by omega) x0) (nt t0) (ai (show s ≤ s by omega) (ai (x1 t0) (x2 t0))) (nf t1)) hB)) (fun q0 t0 => sG [tT] (I2 (ai (show -9223372036854775808 ≤ (↑q : Int) + 1 by omega) x0) (nf t0)) hB)
theorem zcN (B : Nat) (hB : B ≤ 11) (q s : Nat) (lf : Nat → Nat → List UInt8) (M1 M2 M3 : List (List UInt8 × Int)) (nd br h : Nat → List UInt8) : aj Try.prog ((aT [1,1,1,1,1,1,1,1,1,0] (ak Try.f6))) Try.f6.ntmps B 11 12 (aV (ZEp s q)) (hpL []) (pP .normal [(3, .bool true), (4, ZA 2), (6, sL 9 s), (7, sL 10 q), (10, ZA 11)] [(11, ZEc)]) := sG [] trivial hB
theorem zcO (B : Nat) (hB : B ≤ 12) (q s : Nat) (lf : Nat → Nat → List UInt8) (M1 M2 M3 : List (List UInt8 × Int)) (nd br h : Nat → List UInt8) : aj Try.prog ((aT [1,1,1,1,1,1,1,1,1,1,0,0] (ak Try.f6))) Try.f6.ntmps B 12 12 (aV [(3, .bool true), (4, ZA 2), (6, sL 9 s), (7, sL 10 q), (10, ZA 11)]) (hpL []) (pP .normal [(3, .bool true), (4, ZA 2), (6, sL 9 s), (7, sL 10 q), (10, ZA 11), (11, Zg)] []) := sG [] trivial hB
noncomputable abbrev ZD1 (v0 v1 v2 : Nat) := ([(3, .bool true), (4, ZA 2), (6, sL 9 v0), (7, sL 10 v1), (10, ZA 11), (11, EM v2)] : jU)
noncomputable abbrev ZEb (v0 v1 v2 : Nat) := aV [(3, .bool true), (4, ZA 2), (6, sL 9 v0), (7, sL 10 v1), (10, ZA 11), (11, iT (v2 : Int))]
theorem zcP (B : Nat) (hB : B ≤ 12) (q s i : Nat) (lf : Nat → Nat → List UInt8) (M1 M2 M3 : List (List UInt8 × Int)) (nd br h : Nat → List UInt8) : aj Try.prog ((aT [1,1,1,1,1,1,1,1,1,1,0,1,0,0,0] (ak Try.f6))) Try.f6.ntmps B 12 12 (ZEb s q i) (hpL []) fun e fr' H' => (cond (decide ((↑i : Int) < (↑q : Int))) (pP .normal (ZD1 s q i) [] e fr' H') (pP (.exit 2) (ZD1 s q i) [] e fr' H')) := cD (fun q0 t0 => sG [tT] (I1 t0) hB) (fun q0 t0 => sG [fF] (I1 t0) hB)
noncomputable abbrev ZC0 := aT [1,1,1,1,1,1,1,1,1,1,0,1,0,0,1,0,0] (ak Try.f6)
theorem zcQ (B : Nat) (hB : B ≤ 12) (q s i : Nat) (ln : Nat → Nat) (lf : Nat → Nat → List UInt8) (M1 M2 M3 : List (List UInt8 × Int)) (nd br h : Nat → List UInt8) (er fa : Int) (x0 : ((↑i : Int) < (↑q : Int))) (x1 : (0 + i < q)) (x2 : (s ≤ 4096)) (x3 : (∀ (j : Nat), j < s → dQ [.iw (ln j) (lf j)] [.iw (tN (Cont.row (.fn fun j => [.iw (ln j) (lf j)])) j) (tF (Cont.row (.fn fun j => [.iw (ln j) (lf j)])) j)] ∧ tN (Cont.row (.fn fun j => [.iw (ln j) (lf j)])) j ≤ 4096)) : aj Try.prog (ZC0) Try.f6.ntmps B 12 12 (ZEb s q i) (hpL [(9, Zx s ln lf), (10, ZT q nd), (11, TA er fa)]) fun e fr' H' => (cond (decide (rZ (tN (Cont.row (.fn fun j => [.iw (ln j) (lf j)]))) (tF (Cont.row (.fn fun j => [.iw (ln j) (lf j)]))) (nd (0 + i)) s < (0 : Int))) (pP .ret [(2, .bool false), (3, .bool true), (4, ZA 2), (6, sL 9 s), (7, sL 10 q), (10, ZA 11), (11, iT (↑i : Int))] [(9, Zx s ln lf), (10, ZT q nd), (11, Vg er fa)] e fr' H') (cond (decide ((0 : Int) < rZ (tN (Cont.row (.fn fun j => [.iw (ln j) (lf j)]))) (tF (Cont.row (.fn fun j => [.iw (ln j) (lf j)]))) (nd (0 + i)) s)) (cond (decide (er = (0 : Int)) && (decide (fa = (0 : Int)) && true)) (pP .normal (ZD1 s q i) [(9, Zx s ln lf), (10, ZT q nd), (11, .cells true 2 1 (.fn fun j => bif Nat.beq j 0 then [.int false .i64 11, iT (↑i : Int)] else [iT er, iT fa]))] e fr' H') (pP .normal (ZD1 s q i) [(9, Zx s ln lf), (10, ZT q nd), (11, Vg er fa)] e fr' H')) (pP .normal (ZD1 s q i) [(9, Zx s ln lf), (10, ZT q nd), (11, Vg er fa)] e fr' H'))) := cD (fun q0 t0 => sG [tT] (I4 (ai (show 0 ≤ (↑i : Int) by omega) x0) x1 (ai (show s ≤ s by omega) (ai x2 x3)) t0) hB) (fun q0 t0 => cD (fun q1 t1 => cI (fun t2 => sG [fF, tT, tT] (I6 (ai (show 0 ≤ (↑i : Int) by omega) x0) x1 (ai (show s ≤ s by omega) (ai x2 x3)) t0 t1 t2) hB) (fun t2 => sG [fF, tT, fF] (I6 (ai (show 0 ≤ (↑i : Int) by omega) x0) x1 (ai (show s ≤ s by omega) (ai x2 x3)) t0 t1 t2) hB)) (fun q1 t1 => sG [fF, fF] (I5 (ai (show 0 ≤ (↑i : Int) by omega) x0) x1 (ai (show s ≤ s by omega) (ai x2 x3)) t0 t1) hB))
theorem zcR (B : Nat) (hB : B ≤ 12) (q s i : Nat) (lf : Nat → Nat → List UInt8) (M1 M2 M3 : List (List UInt8 × Int)) (nd br h : Nat → List UInt8) (x0 : ((↑i : Int) + 1 ≤ (9223372036854775807 : Int))) : aj Try.prog ((aT [1,1,1,1,1,1,1,1,1,1,0,1,0,0,1,1] (ak Try.f6))) Try.f6.ntmps B 12 12 (ZEb s q i) (hpL []) (pP .normal [(3, .bool true), (4, ZA 2), (6, sL 9 s), (7, sL 10 q), (10, ZA 11), (11, JJ i)] []) := sG [] (I1 (ai (show -9223372036854775808 ≤ (↑i : Int) + 1 by omega) x0)) hB
theorem zcS (B : Nat) (hB : B ≤ 12) (n q r s : Nat) (E : tE) (lf : Nat → Nat → List UInt8) (M1 M2 M3 : List (List UInt8 × Int)) (nd br h : Nat → List UInt8) (x0 : (n * 104 ≤ 140737488355328)) (x1 : (n ≤ 9223372036854775807)) : aj Try.prog ((aT [1,1,1,1,1,1,1,1,1,1,1,0] (ak Try.f6))) Try.f6.ntmps B 12 13 (aV [(3, .bool true), (4, ZA 2), (6, sL 9 s), (7, sL 10 q), (10, ZA 11)]) (D9 n q r M1 M2 M3 E nd br) (pP .normal [(3, .bool true), (4, ZA 2), (6, sL 9 s), (7, sL 10 q), (10, ZA 11), (13, sL 12 n)] [(2, Za n q r), (3, Zb M1), (4, Zb M2), (5, Zb M3), (6, ZS n E), (7, ZK q nd), (8, ZK r br), (12, .cells true 8 n (.fn fun j => (aP (E (0 + j)))))]) := sG [] (I2 (show 0 + n ≤ n by omega) (ai x0 x1)) hB
theorem zcT (B : Nat) (hB : B ≤ 13) (n q s : Nat) (lf : Nat → Nat → List UInt8) (M1 M2 M3 : List (List UInt8 × Int)) (nd br h : Nat → List UInt8) : aj Try.prog ((aT [1,1,1,1,1,1,1,1,1,1,1,1,0] (ak Try.f6))) Try.f6.ntmps B 13 13 (aV [(3, .bool true), (4, ZA 2), (6, sL 9 s), (7, sL 10 q), (10, ZA 11), (13, sL 12 n)]) (hpL []) (pP .normal [(3, .bool true), (4, ZA 2), (6, sL 9 s), (7, sL 10 q), (10, ZA 11), (13, sL 12 n), (14, Zg)] []) := sG [] trivial hB
theorem zcU (B : Nat) (hB : B ≤ 13) (n q s : Nat) (lf : Nat → Nat → List UInt8) (M1 M2 M3 : List (List UInt8 × Int)) (nd br h : Nat → List UInt8) (mn : Int) : aj Try.prog ((aT [1,1,1,1,1,1,1,1,1,1,1,1,1,0,0] (ak Try.f6))) Try.f6.ntmps B 13 13 (aV [(3, .bool true), (4, ZA 2), (6, sL 9 s), (7, sL 10 q), (10, ZA 11), (13, sL 12 n), (14, iT mn)]) (hpL []) (pP .normal [(3, .bool true), (4, ZA 2), (6, sL 9 s), (7, sL 10 q), (10, ZA 11), (13, sL 12 n), (14, iT mn), (15, Zg)] []) := sG [] trivial hB
noncomputable abbrev ZD7 (v0 v1 v2 : Nat) (v3 : Int) (v4 : Nat) := ([(3, .bool true), (4, ZA 2), (6, sL 9 v0), (7, sL 10 v1), (10, ZA 11), (13, sL 12 v2), (14, iT v3), (15, EM v4)] : jU)
noncomputable abbrev ZES (v0 v1 v2 : Nat) (v3 : Int) (v4 : Nat) := aV [(3, .bool true), (4, ZA 2), (6, sL 9 v0), (7, sL 10 v1), (10, ZA 11), (13, sL 12 v2), (14, iT v3), (15, iT (v4 : Int))]
theorem zcV (B : Nat) (hB : B ≤ 13) (n q s i : Nat) (lf : Nat → Nat → List UInt8) (M1 M2 M3 : List (List UInt8 × Int)) (nd br h : Nat → List UInt8) (mn : Int) : aj Try.prog ((aT [1,1,1,1,1,1,1,1,1,1,1,1,1,0,1,0,0,0] (ak Try.f6))) Try.f6.ntmps B 13 13 (ZES s q n mn i) (hpL []) fun e fr' H' => (cond (decide ((↑i : Int) < (↑n : Int))) (pP .normal (ZD7 s q n mn i) [] e fr' H') (pP (.exit 4) (ZD7 s q n mn i) [] e fr' H')) := cD (fun q0 t0 => sG [tT] (I1 t0) hB) (fun q0 t0 => sG [fF] (I1 t0) hB)
noncomputable abbrev ZB4 := aT [1,1,1,1,1,1,1,1,1,1,1,1,1,0,1,0,0,1,0,0] (ak Try.f6)
theorem zcW (B : Nat) (hB : B ≤ 13) (n q s i : Nat) (E : tE) (ln : Nat → Nat) (lf : Nat → Nat → List UInt8) (M1 M2 M3 : List (List UInt8 × Int)) (nd br h : Nat → List UInt8) (mn : Int) (x0 : ((↑i : Int) < (↑n : Int))) (x1 : (0 + i < n)) (x2 : ((decide (El.k (E (0 + i)) = (4 : Int))) = false → ((decide (El.k (E (0 + i)) = (6 : Int))) = false → ((-9223372036854775808 : Int) ≤ mn + (1 : Int))))) (x3 : ((decide (El.k (E (0 + i)) = (4 : Int))) = false → ((decide (El.k (E (0 + i)) = (6 : Int))) = false → (mn + (1 : Int) ≤ 9223372036854775807)))) (x4 : ((decide (El.k (E (0 + i)) = (4 : Int))) = false → ((decide (El.k (E (0 + i)) = (6 : Int))) = false → (0 + i < n)))) (x5 : ((decide (El.k (E (0 + i)) = (4 : Int))) = false → ((decide (El.k (E (0 + i)) = (6 : Int))) = false → (s ≤ 4096)))) (x6 : ((decide (El.k (E (0 + i)) = (4 : Int))) = false → ((decide (El.k (E (0 + i)) = (6 : Int))) = false → (∀ (j : Nat), j < s → dQ [.iw (ln j) (lf j)] [.iw (tN (Cont.row (.fn fun j => [.iw (ln j) (lf j)])) j) (tF (Cont.row (.fn fun j => [.iw (ln j) (lf j)])) j)] ∧ tN (Cont.row (.fn fun j => [.iw (ln j) (lf j)])) j ≤ 4096)))) : aj Try.prog (ZB4) Try.f6.ntmps B 13 14 (ZES s q n mn i) (hpL [(9, Zx s ln lf), (12, ZF n E)]) fun e fr' H' => (cond (decide (El.k (E (0 + i)) = (4 : Int))) (pP .normal (ZD7 s q n mn i) [(9, Zx s ln lf), (12, ZQ n E)] e fr' H') (cond (decide (El.k (E (0 + i)) = (6 : Int))) (pP .normal (ZD7 s q n mn i) [(9, Zx s ln lf), (12, ZQ n E)] e fr' H') (cond (decide (rZ (tN (Cont.row (.fn fun j => [.iw (ln j) (lf j)]))) (tF (Cont.row (.fn fun j => [.iw (ln j) (lf j)]))) (El.a (E (0 + i))) s = rZ (tN (Cont.row (.fn fun j => [.iw (ln j) (lf j)]))) (tF (Cont.row (.fn fun j => [.iw (ln j) (lf j)]))) (El.b (E (0 + i))) s)) (pP .normal [(3, .bool true), (4, ZA 2), (6, sL 9 s), (7, sL 10 q), (10, ZA 11), (13, sL 12 n), (14, iT (mn + (1 : Int))), (15, iT (↑i : Int))] [(9, Zx s ln lf), (12, ZQ n E)] e fr' H') (pP .ret [(2, .bool false), (3, .bool true), (4, ZA 2), (6, sL 9 s), (7, sL 10 q), (10, ZA 11), (13, sL 12 n), (14, iT (mn + (1 : Int))), (15, iT (↑i : Int))] [(9, Zx s ln lf), (12, ZQ n E)] e fr' H')))) := cD (fun q0 t0 => sG [fF] (I4 (ai (show 0 ≤ (↑i : Int) by omega) x0) x1 (show 8 ≤ 8 by omega) (nt t0)) hB) (fun q0 t0 => cD (fun q1 t1 => sG [tT, fF] (I5 (ai (show 0 ≤ (↑i : Int) by omega) x0) x1 (show 8 ≤ 8 by omega) (nf t0) (nt t1)) hB) (fun q1 t1 => cD (fun q2 t2 => sG [tT, tT, fF] (I13 (ai (show 0 ≤ (↑i : Int) by omega) x0) x1 (show 8 ≤ 8 by omega) (nf t0) (nf t1) (ai (x2 t0 t1) (x3 t0 t1)) (ai (show 0 ≤ (↑i : Int) by omega) x0) (x4 t0 t1) (ai (show s ≤ s by omega) (ai (x5 t0 t1) (x6 t0 t1))) (ai (show 0 ≤ (↑i : Int) by omega) x0) (x4 t0 t1) (ai (show s ≤ s by omega) (ai (x5 t0 t1) (x6 t0 t1))) (nt t2)) hB) (fun q2 t2 => sG [tT, tT, tT] (I13 (ai (show 0 ≤ (↑i : Int) by omega) x0) x1 (show 8 ≤ 8 by omega) (nf t0) (nf t1) (ai (x2 t0 t1) (x3 t0 t1)) (ai (show 0 ≤ (↑i : Int) by omega) x0) (x4 t0 t1) (ai (show s ≤ s by omega) (ai (x5 t0 t1) (x6 t0 t1))) (ai (show 0 ≤ (↑i : Int) by omega) x0) (x4 t0 t1) (ai (show s ≤ s by omega) (ai (x5 t0 t1) (x6 t0 t1))) (nf t2)) hB)))
theorem zcX (B : Nat) (hB : B ≤ 13) (n q s i : Nat) (lf : Nat → Nat → List UInt8) (M1 M2 M3 : List (List UInt8 × Int)) (nd br h : Nat → List UInt8) (mn : Int) (x0 : ((↑i : Int) + 1 ≤ (9223372036854775807 : Int))) : aj Try.prog ((aT [1,1,1,1,1,1,1,1,1,1,1,1,1,0,1,0,0,1,1] (ak Try.f6))) Try.f6.ntmps B 13 13 (ZES s q n mn i) (hpL []) (pP .normal [(3, .bool true), (4, ZA 2), (6, sL 9 s), (7, sL 10 q), (10, ZA 11), (13, sL 12 n), (14, iT mn), (15, JJ i)] []) := sG [] (I1 (ai (show -9223372036854775808 ≤ (↑i : Int) + 1 by omega) x0)) hB
theorem zcY (B : Nat) (hB : B ≤ 13) (n q r s : Nat) (E : tE) (lf : Nat → Nat → List UInt8) (M1 M2 M3 : List (List UInt8 × Int)) (nd br h : Nat → List UInt8) (mn : Int) (x0 : (qI n q r n q r M1 M2 M3 (Cont.row (.fn fun j => aP (E j))) (Cont.row (.fn (aU nd))) (Cont.row (.fn (aU br))))) : aj Try.prog ((aT [1,1,1,1,1,1,1,1,1,1,1,1,1,1,0] (ak Try.f6))) Try.f6.ntmps B 13 14 (aV [(3, .bool true), (4, ZA 2), (6, sL 9 s), (7, sL 10 q), (10, ZA 11), (14, iT mn)]) (D9 n q r M1 M2 M3 E nd br) (pP .normal [(3, .bool true), (4, ZA 2), (6, sL 9 s), (7, sL 10 q), (10, ZA 11), (14, iT mn), (16, sL 13 (List.length (aW (aK (Cont.row (.fn fun j => aP (E j)))) n)))] [(2, Za n q r), (3, Zt E n), (4, Zu E n), (5, Zv E n), (6, ZS n E), (7, ZK q nd), (8, ZK r br), (13, .cells true 1 (List.length (aW (aK (Cont.row (.fn fun j => aP (E j)))) n)) (.fn fun j => [.str true (kC (bG (aW (aK (Cont.row (.fn fun j => aP (E j)))) n)) j)]))]) := sG [] (I1 x0) hB
noncomputable abbrev ZCM := aT [1,1,1,1,1,1,1,1,1,1,1,1,1,1,1] (ak Try.f6)
noncomputable abbrev ZEB (v0 v1 : Nat) (v2 : Int) (v3 : Nat) := aV [(3, .bool true), (4, ZA 2), (6, sL 9 v0), (7, sL 10 v1), (10, ZA 11), (14, iT v2), (16, sL 13 v3)]
theorem aav (n q r s t : Nat) (E : tE) (M1 M2 M3 : List (List UInt8 × Int)) (nd br : Nat → List UInt8) (er fa mn : Int) (c0 : qI n q r n q r M1 M2 M3 (Cont.row (.fn fun j => aP (E j))) (Cont.row (.fn (aU nd))) (Cont.row (.fn (aU br)))) (c1 : (decide (er = gE (jP (bP (aK (Cont.row (.fn fun j => aP (E j)))) n) (List.length (ND (aK (Cont.row (.fn fun j => aP (E j)))) n)))) && (decide (fa = gA (jP (bP (aK (Cont.row (.fn fun j => aP (E j)))) n) (List.length (ND (aK (Cont.row (.fn fun j => aP (E j)))) n)))) && true)) = true) (c2 : -9223372036854775808 ≤ (↑q : Int) + 1) (c3 : (↑q : Int) + 1 ≤ (9223372036854775807 : Int)) (c4 : -9223372036854775808 ≤ (↑q : Int) + 1 - (↑s : Int)) (c5 : (↑q : Int) + 1 - (↑s : Int) ≤ 9223372036854775807) (c6 : decide ((↑t : Int) = (↑q : Int) + 1 - (↑s : Int)) = true) (c7 : qI n q r n q r (ay 0 (NM (aK (Cont.row (.fn fun j => aP (E j)))) n)) (ay 0 (ND (aK (Cont.row (.fn fun j => aP (E j)))) n)) (ay 0 (BR (aK (Cont.row (.fn fun j => aP (E j)))) n)) (Cont.row (.fn fun j => aP (E j))) (Cont.row (.fn (aU nd))) (Cont.row (.fn (aU br)))) (c8 : (-9223372036854775808 : Int) ≤ mn - (↑t : Int)) (c9 : mn - (↑t : Int) ≤ 9223372036854775807) : cO 15 (Ex.ret) [(2, .bD (decide ((↑(List.length (fB (aK (Cont.row (.fn fun j => aP (E j)))) n)) : Int) = mn - (↑t : Int))))] [] (kT Try.f6 (ZCM) (ZEB s q mn t) (hpL [(2, ZV n q r), (3, .aJ true M1), (4, .aJ true M2), (5, .aJ true M3), (6, ZC n E), (7, ZK q nd), (8, ZK r br), (11, TA er fa)]) 14 [true, true]) := eN (I7 c0 c1 (ai c2 c3) (ai c4 c5) c6 c7 (ai c8 c9))
theorem aaw (n q r s t : Nat) (E : tE) (M1 M2 M3 : List (List UInt8 × Int)) (nd br : Nat → List UInt8) (er fa mn : Int) (c0 : qI n q r n q r M1 M2 M3 (Cont.row (.fn fun j => aP (E j))) (Cont.row (.fn (aU nd))) (Cont.row (.fn (aU br)))) (c1 : (decide (er = gE (jP (bP (aK (Cont.row (.fn fun j => aP (E j)))) n) (List.length (ND (aK (Cont.row (.fn fun j => aP (E j)))) n)))) && (decide (fa = gA (jP (bP (aK (Cont.row (.fn fun j => aP (E j)))) n) (List.length (ND (aK (Cont.row (.fn fun j => aP (E j)))) n)))) && true)) = true) (c2 : -9223372036854775808 ≤ (↑q : Int) + 1) (c3 : (↑q : Int) + 1 ≤ (9223372036854775807 : Int)) (c4 : -9223372036854775808 ≤ (↑q : Int) + 1 - (↑s : Int)) (c5 : (↑q : Int) + 1 - (↑s : Int) ≤ 9223372036854775807) (c6 : decide ((↑t : Int) = (↑q : Int) + 1 - (↑s : Int)) = false) : cO 15 (Ex.ret) [(2, .bool false)] [] (kT Try.f6 (ZCM) (ZEB s q mn t) (hpL [(2, ZV n q r), (3, .aJ true M1), (4, .aJ true M2), (5, .aJ true M3), (6, ZC n E), (7, ZK q nd), (8, ZK r br), (11, TA er fa)]) 14 [true, false]) := eN (I5 c0 c1 (ai c2 c3) (ai c4 c5) c6)
theorem aax (n q r s t : Nat) (E : tE) (M1 M2 M3 : List (List UInt8 × Int)) (nd br : Nat → List UInt8) (er fa mn : Int) (c0 : qI n q r n q r M1 M2 M3 (Cont.row (.fn fun j => aP (E j))) (Cont.row (.fn (aU nd))) (Cont.row (.fn (aU br)))) (c1 : (decide (er = gE (jP (bP (aK (Cont.row (.fn fun j => aP (E j)))) n) (List.length (ND (aK (Cont.row (.fn fun j => aP (E j)))) n)))) && (decide (fa = gA (jP (bP (aK (Cont.row (.fn fun j => aP (E j)))) n) (List.length (ND (aK (Cont.row (.fn fun j => aP (E j)))) n)))) && true)) = false) : cO 15 (Ex.ret) [(2, .bool false)] [] (kT Try.f6 (ZCM) (ZEB s q mn t) (hpL [(2, ZV n q r), (3, .aJ true M1), (4, .aJ true M2), (5, .aJ true M3), (6, ZC n E), (7, ZK q nd), (8, ZK r br), (11, TA er fa)]) 14 [false]) := eN (I2 c0 c1)
theorem zcZ (B : Nat) (hB : B ≤ 14) (n q r s t : Nat) (E : tE) (lf : Nat → Nat → List UInt8) (M1 M2 M3 : List (List UInt8 × Int)) (nd br h : Nat → List UInt8) (er fa mn : Int) (x0 : (qI n q r n q r M1 M2 M3 (Cont.row (.fn fun j => aP (E j))) (Cont.row (.fn (aU nd))) (Cont.row (.fn (aU br))))) (x1 : ((decide (er = gE (jP (bP (aK (Cont.row (.fn fun j => aP (E j)))) n) (List.length (ND (aK (Cont.row (.fn fun j => aP (E j)))) n)))) && (decide (fa = gA (jP (bP (aK (Cont.row (.fn fun j => aP (E j)))) n) (List.length (ND (aK (Cont.row (.fn fun j => aP (E j)))) n)))) && true)) = true → ((↑q : Int) + 1 ≤ (9223372036854775807 : Int)))) (x2 : ((decide (er = gE (jP (bP (aK (Cont.row (.fn fun j => aP (E j)))) n) (List.length (ND (aK (Cont.row (.fn fun j => aP (E j)))) n)))) && (decide (fa = gA (jP (bP (aK (Cont.row (.fn fun j => aP (E j)))) n) (List.length (ND (aK (Cont.row (.fn fun j => aP (E j)))) n)))) && true)) = true → ((↑q : Int) + 1 - (↑s : Int) ≤ 9223372036854775807))) (x3 : ((decide (er = gE (jP (bP (aK (Cont.row (.fn fun j => aP (E j)))) n) (List.length (ND (aK (Cont.row (.fn fun j => aP (E j)))) n)))) && (decide (fa = gA (jP (bP (aK (Cont.row (.fn fun j => aP (E j)))) n) (List.length (ND (aK (Cont.row (.fn fun j => aP (E j)))) n)))) && true)) = true → ((decide ((↑t : Int) = (↑q : Int) + 1 - (↑s : Int))) = true → (qI n q r n q r (ay 0 (NM (aK (Cont.row (.fn fun j => aP (E j)))) n)) (ay 0 (ND (aK (Cont.row (.fn fun j => aP (E j)))) n)) (ay 0 (BR (aK (Cont.row (.fn fun j => aP (E j)))) n)) (Cont.row (.fn fun j => aP (E j))) (Cont.row (.fn (aU nd))) (Cont.row (.fn (aU br))))))) (x4 : ((decide (er = gE (jP (bP (aK (Cont.row (.fn fun j => aP (E j)))) n) (List.length (ND (aK (Cont.row (.fn fun j => aP (E j)))) n)))) && (decide (fa = gA (jP (bP (aK (Cont.row (.fn fun j => aP (E j)))) n) (List.length (ND (aK (Cont.row (.fn fun j => aP (E j)))) n)))) && true)) = true → ((decide ((↑t : Int) = (↑q : Int) + 1 - (↑s : Int))) = true → ((-9223372036854775808 : Int) ≤ mn - (↑t : Int))))) (x5 : ((decide (er = gE (jP (bP (aK (Cont.row (.fn fun j => aP (E j)))) n) (List.length (ND (aK (Cont.row (.fn fun j => aP (E j)))) n)))) && (decide (fa = gA (jP (bP (aK (Cont.row (.fn fun j => aP (E j)))) n) (List.length (ND (aK (Cont.row (.fn fun j => aP (E j)))) n)))) && true)) = true → ((decide ((↑t : Int) = (↑q : Int) + 1 - (↑s : Int))) = true → (mn - (↑t : Int) ≤ 9223372036854775807)))) (x6 : ((decide (er = gE (jP (bP (aK (Cont.row (.fn fun j => aP (E j)))) n) (List.length (ND (aK (Cont.row (.fn fun j => aP (E j)))) n)))) && (decide (fa = gA (jP (bP (aK (Cont.row (.fn fun j => aP (E j)))) n) (List.length (ND (aK (Cont.row (.fn fun j => aP (E j)))) n)))) && true)) = true → ((decide ((↑t : Int) = (↑q : Int) + 1 - (↑s : Int))) = false → (-9223372036854775808 ≤ (↑q : Int) + 1 - (↑s : Int))))) : aj Try.prog (ZCM) Try.f6.ntmps B 14 15 (ZEB s q mn t) (hpL [(2, ZV n q r), (3, .aJ true M1), (4, .aJ true M2), (5, .aJ true M3), (6, ZC n E), (7, ZK q nd), (8, ZK r br), (11, TA er fa)]) fun e fr' H' => (cond (decide (er = gE (jP (bP (aK (Cont.row (.fn fun j => aP (E j)))) n) (List.length (ND (aK (Cont.row (.fn fun j => aP (E j)))) n)))) && (decide (fa = gA (jP (bP (aK (Cont.row (.fn fun j => aP (E j)))) n) (List.length (ND (aK (Cont.row (.fn fun j => aP (E j)))) n)))) && true)) (cond (decide ((↑t : Int) = (↑q : Int) + 1 - (↑s : Int))) (e = .ret ∧ fr' = aV [(2, .bD (decide ((↑(List.length (fB (aK (Cont.row (.fn fun j => aP (E j)))) n)) : Int) = mn - (↑t : Int))))] ∧ H' = hpL []) (e = .ret ∧ fr' = aV [(2, .bool false)] ∧ H' = hpL [])) (e = .ret ∧ fr' = aV [(2, .bool false)] ∧ H' = hpL [])) := by
 cases t0 : decide (er = gE (jP (bP (aK (Cont.row (.fn fun j => aP (E j)))) n) (List.length (ND (aK (Cont.row (.fn fun j => aP (E j)))) n)))) && (decide (fa = gA (jP (bP (aK (Cont.row (.fn fun j => aP (E j)))) n) (List.length (ND (aK (Cont.row (.fn fun j => aP (E j)))) n)))) && true) with
 | true =>
  cases t1 : decide ((↑t : Int) = (↑q : Int) + 1 - (↑s : Int)) with
  | true =>
   exact (rcQ (aav n q r s t E M1 M2 M3 nd br er fa mn (x0) t0 (by first | decide | ((try simp only [decide_eq_true_eq, decide_eq_false_iff_not] at t0 t1); (try simp only [List.length_take, List.length_drop]); omega)) (x1 t0) (by first | decide | ((try simp only [decide_eq_true_eq, decide_eq_false_iff_not] at t0 t1); (try simp only [List.length_take, List.length_drop]); omega)) (x2 t0) t1 (x3 t0 t1) (x4 t0 t1) (x5 t0 t1)) hB).mono fun e fr' H' h => by first | (simp only [t0, t1, cond_true, cond_false]; exact h) | (simp only [t0, t1, cond_true, cond_false] at h ⊢; exact h)
  | false =>
   exact (rcQ (aaw n q r s t E M1 M2 M3 nd br er fa mn (x0) t0 (by first | decide | ((try simp only [decide_eq_true_eq, decide_eq_false_iff_not] at t0 t1); (try simp only [List.length_take, List.length_drop]); omega)) (x1 t0) (x6 t0 t1) (x2 t0) t1) hB).mono fun e fr' H' h => by first | (simp only [t0, t1, cond_true, cond_false]; exact h) | (simp only [t0, t1, cond_true, cond_false] at h ⊢; exact h)
 | false =>
  exact (rcQ (aax n q r s t E M1 M2 M3 nd br er fa mn (x0) t0) hB).mono fun e fr' H' h => by first | (simp only [t0, cond_true, cond_false]; exact h) | (simp only [t0, cond_true, cond_false] at h ⊢; exact h)


/-! ### parts, plainly -/
section
variable {u : Nat → Nat} {nm : tX}
theorem zU : ∀ {i p : Nat}, p < i → root u p ∈ (bH u nm i).rs
 | i + 1, p, h => by
  show root u p ∈ (if root u i ∈ (bH u nm i).rs then (bH u nm i).rs else (bH u nm i).rs ++ [root u i])
  by_cases c : p = i
  ·subst c
   split
   ·assumption
   ·simp
  ·have := zU (i := i) (p := p) (by omega)
   split
   ·exact this
   ·exact List.mem_append_left _ this
theorem Ea {i p : Nat} (h : p < i) : (bH u nm (i + 1)).rs.idxOf (root u p) = (bH u nm i).rs.idxOf (root u p) := by
 show (if root u i ∈ (bH u nm i).rs then (bH u nm i).rs else (bH u nm i).rs ++ [root u i]).idxOf (root u p) = _
 split
 ·rfl
 ·rw [List.idxOf_append, if_pos (zU h)]
theorem Oe (i : Nat) : (bH u nm (i + 1)).rs.idxOf (root u i) = (bH u nm i).rs.idxOf (root u i) := by
 show (if root u i ∈ (bH u nm i).rs then (bH u nm i).rs else (bH u nm i).rs ++ [root u i]).idxOf (root u i) = _
 split
 ·rfl
 ·rename_i c
  rw [List.idxOf_append, if_neg c, List.idxOf_eq_length c, List.idxOf_cons_self, Nat.zero_add]
theorem Yq : ∀ {i j : Nat} {y : Tx}, y ∈ (bH u nm i).pc j ↔ ∃ p, p < i ∧ (bH u nm i).rs.idxOf (root u p) = j ∧ nm p = y
 | 0, j, y => ⟨fun h => (by cases h), fun ⟨p, h, _⟩ => absurd h (Nat.not_lt_zero _)⟩
 | i + 1, j, y => by
  have ih := Yq (i := i) (j := j) (y := y)
  show y ∈ gy (bH u nm i).pc ((bH u nm i).rs.idxOf (root u i)) ((bH u nm i).pc ((bH u nm i).rs.idxOf (root u i)) ++ [nm i]) j ↔ _
  by_cases c : j = (bH u nm i).rs.idxOf (root u i)
  ·subst c
   rw [dO, List.mem_append, ih, List.mem_singleton]
   constructor
   ·rintro (⟨p, h1, h2, h3⟩ | rfl)
    ·exact ⟨p, by omega, by rw [Ea h1]; exact h2, h3⟩
    ·exact ⟨i, Nat.lt_succ_self i, Oe i, rfl⟩
   ·rintro ⟨p, h1, h2, h3⟩
    by_cases d : p = i
    ·exact .inr (by rw [← h3, d])
    ·exact .inl ⟨p, by omega, by rw [← Ea (by omega)]; exact h2, h3⟩
  ·rw [eY _ _ c, ih]
   constructor
   ·rintro ⟨p, h1, h2, h3⟩
    exact ⟨p, by omega, by rw [Ea h1]; exact h2, h3⟩
   ·rintro ⟨p, h1, h2, h3⟩
    have d : p ≠ i := fun e => by rw [e, Oe] at h2; exact c h2.symm
    exact ⟨p, by omega, by rw [← Ea (by omega)]; exact h2, h3⟩
theorem MF : ∀ {i j : Nat}, j < (bH u nm i).rs.length → 0 < ((bH u nm i).pc j).length
 | 0, j, h => absurd h (Nat.not_lt_zero _)
 | i + 1, j, h => by
  have h' : j < (if root u i ∈ (bH u nm i).rs then (bH u nm i).rs else (bH u nm i).rs ++ [root u i]).length := h
  show 0 < (gy (bH u nm i).pc ((bH u nm i).rs.idxOf (root u i)) ((bH u nm i).pc ((bH u nm i).rs.idxOf (root u i)) ++ [nm i]) j).length
  by_cases c : j = (bH u nm i).rs.idxOf (root u i)
  ·subst c
   rw [dO, List.length_append]
   exact Nat.lt_of_lt_of_le Nat.one_pos (Nat.le_add_left _ _)
  ·rw [eY _ _ c]
   refine MF ?_
   split at h'
   ·exact h'
   ·rename_i d
    rw [List.idxOf_eq_length d] at c
    rw [List.length_append, List.length_singleton] at h'
    omega
/-- so many names in the first so many parts -/
def jc (f : Nat → Nat) : Nat → Nat
 | 0 => 0
 | j + 1 => jc f j + f j
theorem xq {f g : Nat → Nat} : ∀ {s : Nat}, (∀ j, j < s → f j = g j) → jc f s = jc g s
 | 0, _ => rfl
 | s + 1, h => by
  unfold jc
  rw [xq fun j hj => h j (by omega), h s (Nat.lt_succ_self s)]
theorem JO {f : Nat → Nat} {k x : Nat} : ∀ {s : Nat}, k < s → jc (gy f k x) s + f k = jc f s + x
 | s + 1, h => by
  unfold jc
  by_cases c : s = k
  ·subst c
   rw [dO, xq (g := f) fun j hj => eY _ _ (by omega)]
   omega
  ·rw [eY _ _ c]
   have := JO (f := f) (k := k) (x := x) (s := s) (by omega)
   omega
theorem TB {f : Nat → Nat} {k x : Nat} {s : Nat} (h : s ≤ k) : jc (gy f k x) s = jc f s := xq fun j hj => eY _ _ (by omega)
theorem Og {f : Nat → Nat} : ∀ {s t : Nat}, s ≤ t → jc f s ≤ jc f t
 | s, 0, h => by
  obtain rfl : s = 0 := by omega
  exact Nat.le_refl _
 | s, t + 1, h => by
  by_cases c : s = t + 1
  ·rw [c]; exact Nat.le_refl _
  ·exact Nat.le_trans (Og (t := t) (by omega)) (Nat.le_add_right _ _)
theorem TD : ∀ i, jc (fun j => ((bH u nm i).pc j).length) (bH u nm i).rs.length = i
 | 0 => rfl
 | i + 1 => by
  have ih := TD i
  have e : (fun j => ((bH u nm (i + 1)).pc j).length) = gy (fun j => ((bH u nm i).pc j).length) ((bH u nm i).rs.idxOf (root u i)) (((bH u nm i).pc ((bH u nm i).rs.idxOf (root u i))).length + 1) := funext fun j => by
   show (gy (bH u nm i).pc _ _ j).length = _
   by_cases c : j = (bH u nm i).rs.idxOf (root u i)
   ·subst c; rw [dO, dO, List.length_append]; rfl
   ·rw [eY _ _ c, eY _ _ c]
  rw [e]
  show jc _ (if root u i ∈ (bH u nm i).rs then (bH u nm i).rs else (bH u nm i).rs ++ [root u i]).length = i + 1
  split
  ·rename_i c
   have := JO (f := fun j => ((bH u nm i).pc j).length) (x := ((bH u nm i).pc ((bH u nm i).rs.idxOf (root u i))).length + 1) (List.idxOf_lt_length_of_mem c)
   omega
  ·rename_i c
   rw [List.length_append, List.length_singleton, List.idxOf_eq_length c, MG u nm i _ (Nat.le_refl _)]
   show jc _ _ + gy _ _ _ _ = _
   rw [dO, TB (Nat.le_refl _), ih]
   rfl
/-- the first part begins with the first node -/
theorem Oh : ∀ i, (bH u nm (i + 1)).rs.idxOf (root u 0) = 0 ∧ aA ((bH u nm (i + 1)).pc 0) 0 = nm 0 ∧ 0 < (bH u nm (i + 1)).rs.length
 | 0 => by
  have e : (bH u nm (0 + 1)).rs = [root u 0] := by
   show (if root u 0 ∈ ([] : List Nat) then [] else [] ++ [root u 0]) = [root u 0]
   rw [if_neg (by simp)]
   rfl
  rw [e, List.idxOf_cons_self]
  exact ⟨rfl, rfl, Nat.one_pos⟩
 | i + 1 => by
  obtain ⟨h1, h2, h3⟩ := Oh i
  refine ⟨by rw [Ea (by omega)]; exact h1, ?_, ?_⟩
  ·have hp := MF (u := u) (nm := nm) h3
   show aA (gy (bH u nm (i + 1)).pc _ _ 0) 0 = nm 0
   by_cases c : 0 = (bH u nm (i + 1)).rs.idxOf (root u (i + 1))
   ·rw [← c, dO]
    unfold aA at h2 ⊢
    rw [List.getD_eq_getElem?_getD, List.getElem?_append_left hp, ← List.getD_eq_getElem?_getD]
    exact h2
   ·rw [eY _ _ c]; exact h2
  ·show 0 < (if root u (i + 1) ∈ (bH u nm (i + 1)).rs then (bH u nm (i + 1)).rs else (bH u nm (i + 1)).rs ++ [root u (i + 1)]).length
   split
   ·exact h3
   ·rw [List.length_append]; omega
/-- how many are their own roots -/
def fx (u : Nat → Nat) : Nat → Nat
 | 0 => 0
 | k + 1 => fx u k + (if u k = k then 1 else 0)
theorem Yr (hu : ∀ j, u j ≤ j) : ∀ i, (bH u nm i).rs.length = fx u i ∧ ∀ r ∈ (bH u nm i).rs, ∃ p, p < i ∧ root u p = r
 | 0 => ⟨rfl, fun r h => by cases h⟩
 | i + 1 => by
  obtain ⟨h1, h2⟩ := Yr hu i
  constructor
  ·show (if root u i ∈ (bH u nm i).rs then (bH u nm i).rs else (bH u nm i).rs ++ [root u i]).length = fx u i + _
   by_cases c : u i = i
   ·have hr : root u i = i := kZ c
    rw [if_neg (fun h => ?_), if_pos c, List.length_append, List.length_singleton, h1]
    obtain ⟨p, hp, e⟩ := h2 _ h
    have := sH hu p
    omega
   ·have hr : root u i ≠ i := fun e => c (by have := pI hu i; rw [e] at this; exact this)
    have hl := sH hu i
    have : root u i ∈ (bH u nm i).rs := by
     have := zU (u := u) (nm := nm) (i := i) (p := root u i) (by omega)
     rwa [kZ (pI hu i)] at this
    rw [if_pos this, if_neg c, h1]
    rfl
  ·intro r h
   have h : r ∈ (if root u i ∈ (bH u nm i).rs then (bH u nm i).rs else (bH u nm i).rs ++ [root u i]) := h
   have : r ∈ (bH u nm i).rs ∨ r = root u i := by
    split at h
    ·exact .inl h
    ·rcases List.mem_append.1 h with h | h
     ·exact .inl h
     ·exact .inr (List.mem_singleton.1 h)
   rcases this with h | h
   ·obtain ⟨p, hp, e⟩ := h2 r h; exact ⟨p, by omega, e⟩
   ·exact ⟨i, by omega, h.symm⟩
theorem JR {v : Nat → Nat} : ∀ {m : Nat}, (∀ j, j < m → u j = v j) → fx u m = fx v m
 | 0, _ => rfl
 | m + 1, h => by
  unfold fx
  rw [JR fun j hj => h j (by omega), h m (by omega)]
theorem Yt (hu : ∀ j, u j ≤ j) {x y : Nat} (hne : root u x ≠ root u y) : ∀ m, max (root u x) (root u y) < m → fx (jn u x y) m + 1 = fx u m
 | m + 1, h => by
  have rx := pI hu x
  have ry := pI hu y
  unfold fx
  by_cases c : m = max (root u x) (root u y)
  ·have e1 : jn u x y m ≠ m := by
    unfold jn
    rw [if_pos c]
    omega
   have e2 : u m = m := by
    rw [c]
    rcases Nat.le_total (root u x) (root u y) with q | q
    ·rw [Nat.max_eq_right q]; exact ry
    ·rw [Nat.max_eq_left q]; exact rx
   rw [if_neg e1, if_pos e2, JR (v := u) fun j hj => by unfold jn; rw [if_neg (by omega)]]
  ·have := Yt hu hne m (by omega)
   have e : jn u x y m = u m := by unfold jn; rw [if_neg c]
   rw [e]
   omega
theorem Wq (hu : ∀ j, u j ≤ j) {x y : Nat} (h : root u x = root u y) : jn u x y = u := funext fun j => by
 unfold jn
 rw [h, Nat.max_self, Nat.min_self]
 split
 ·rename_i e
  rw [e]; exact (pI hu y).symm
 ·rfl
/-! ### in which part -/
theorem MH {f : tX} {x : Tx} {i : Nat} {a : Int} : ∀ k, ((∃ j, j < k ∧ f j = x) → N8 f x i a k = (i : Int)) ∧ ((¬ ∃ j, j < k ∧ f j = x) → N8 f x i a k = a)
 | 0 => ⟨fun ⟨j, h, _⟩ => absurd h (Nat.not_lt_zero _), fun _ => rfl⟩
 | k + 1 => by
  obtain ⟨h1, h2⟩ := MH (f := f) (x := x) (i := i) (a := a) k
  unfold N8
  cases q : f k == x with
  | true =>
   rw [cond_true]
   exact ⟨fun _ => rfl, fun h => absurd ⟨k, Nat.lt_succ_self k, eq_of_beq q⟩ h⟩
  | false =>
   rw [cond_false]
   have hne : f k ≠ x := fun e => by rw [e] at q; simp at q
   have key : (∃ j, j < k + 1 ∧ f j = x) ↔ ∃ j, j < k ∧ f j = x := ⟨fun ⟨j, hj, e⟩ => ⟨j, by
    have : j ≠ k := fun c => hne (c ▸ e)
    omega, e⟩, fun ⟨j, hj, e⟩ => ⟨j, by omega, e⟩⟩
   rw [key]
   exact ⟨h1, h2⟩
theorem TF {ln : Nat → Nat} {lf : Nat → Nat → Tx} {x : Tx} {j0 : Nat} (h : ∀ j, (∃ k, k < ln j ∧ lf j k = x) ↔ j = j0) : ∀ s, rZ ln lf x s = if j0 < s then (j0 : Int) else -1
 | 0 => by rw [if_neg (Nat.not_lt_zero _)]; rfl
 | s + 1 => by
  unfold rZ
  by_cases c : s = j0
  ·subst c
   rw [(MH _).1 ((h s).2 rfl), if_pos (Nat.lt_succ_self s)]
  ·rw [(MH _).2 (fun hx => c ((h s).1 hx)), TF h s]
   by_cases d : j0 < s
   ·rw [if_pos d, if_pos (by omega)]
   ·rw [if_neg d, if_neg (by omega)]
theorem Ws {l : List Tx} {x : Tx} : (∃ k, k < l.length ∧ aA l k = x) ↔ x ∈ l := by
 constructor
 ·rintro ⟨k, hk, e⟩
  unfold aA at e
  rw [List.getD_eq_getElem?_getD, List.getElem?_eq_getElem hk] at e
  rw [← e]
  exact List.getElem_mem hk
 ·intro h
  obtain ⟨k, hk, e⟩ := List.getElem_of_mem h
  refine ⟨k, hk, ?_⟩
  unfold aA
  rw [List.getD_eq_getElem?_getD, List.getElem?_eq_getElem hk]
  exact e
/-- each node is in one part -/
theorem G9 {m : Nat} (hin : ∀ p q, p < m → q < m → nm p = nm q → p = q) {p : Nat} (hp : p < m) : rZ (fun j => ((bH u nm m).pc j).length) (fun j => aA ((bH u nm m).pc j)) (nm p) (bH u nm m).rs.length = (((bH u nm m).rs.idxOf (root u p) : Nat) : Int) := by
 rw [TF (j0 := (bH u nm m).rs.idxOf (root u p)) (fun j => ?_), if_pos (List.idxOf_lt_length_of_mem (zU hp))]
 rw [Ws, Yq]
 constructor
 ·rintro ⟨q, h1, h2, h3⟩
  rw [hin p q hp h1 h3.symm]; exact h2.symm
 ·intro h
  exact ⟨p, hp, h.symm, rfl⟩
theorem Wu {l : List Nat} {a b : Nat} (ha : a ∈ l) (hb : b ∈ l) (h : l.idxOf a = l.idxOf b) : a = b := by
 have h1 := List.getElem_idxOf (List.idxOf_lt_length_of_mem ha)
 have h2 := List.getElem_idxOf (List.idxOf_lt_length_of_mem hb)
 rw [← h1, ← h2]
 simp only [h]
end
/-! ### the net -/
def zV (G : tE) : Nat → Nat
 | 0 => 0
 | i + 1 => zV G i + (bif jd (G i) then 1 else 0)
theorem MI (G : tE) : ∀ i, zV G i ≤ i
 | 0 => Nat.le_refl _
 | i + 1 => by
  have := MI G i
  unfold zV
  cases jd (G i) <;> simp <;> omega
theorem FD (zl : tM) (G : tE) : ∀ i, (gQ zl G i).length + (jf zl G i).length = zV G i
 | 0 => rfl
 | i + 1 => by
  have := FD zl G i
  unfold gQ jf zV
  cases jd (G i) with
  | false => simpa using this
  | true =>
   cases sU zl G i with
   | true =>
    simp only [Bool.true_and, Bool.not_true, cond_false, cond_true, List.length_append, List.length_singleton]
    omega
   | false =>
    simp only [Bool.true_and, Bool.not_false, cond_false, cond_true, List.length_append, List.length_singleton]
    omega
theorem Oi (zl : tM) (G : tE) (m : Nat) (hz : ∀ x, bU zl x < m) : ∀ i, fx (Ul (bU zl) (jl G i)) m + (gQ zl G i).length = m
 | 0 => by
  have : ∀ k, fx id k = k := fun k => by
   induction k with
   | zero => rfl
   | succ k ih => unfold fx; rw [ih, if_pos (show id k = k from rfl)]
  show fx id m + 0 = m
  rw [this]; rfl
 | i + 1 => by
  have ih := Oi zl G m hz i
  have hu := AX (bU zl) (jl G i)
  cases s : jd (G i) with
  | false =>
   rw [aay _ s, Oj _ _ (by rw [s]; rfl)]
   exact ih
  | true =>
   rw [Wv _ s, vM]
   cases e : sU zl G i with
   | true =>
    rw [Oj _ _ (by rw [s, e]; rfl), Wq hu (of_decide_eq_true e)]
    exact ih
   | false =>
    have hne : root (Ul (bU zl) (jl G i)) (bU zl (G i).a) ≠ root (Ul (bU zl) (jl G i)) (bU zl (G i).b) := of_decide_eq_false e
    rw [Yu _ _ (by rw [s, e]; rfl), List.length_append, List.length_singleton]
    have := Yt hu hne m (by
     have q1 := sH hu (bU zl (G i).a)
     have q2 := sH hu (bU zl (G i).b)
     have q3 := hz (G i).a
     have q4 := hz (G i).b
     omega)
    show fx (jn (Ul (bU zl) (jl G i)) (bU zl (G i).a) (bU zl (G i).b)) m + _ = m
    omega
theorem Ol (zl : tM) (G : tE) : ∀ n i, i < n → jd (G i) = true → cls (bU zl) (jl G n) (G i).a = cls (bU zl) (jl G n) (G i).b
 | n + 1, i, hi, hs => by
  by_cases c : i = n
  ·subst c
   rw [Wv _ hs]
   exact JU (bU zl) (jl G i) ((G i).a, (G i).b)
  ·have := Ol zl G n i (by omega) hs
   cases s : jd (G n) with
   | true => rw [Wv _ s]; exact JV _ _ _ this
   | false => rw [aay _ s]; exact this
theorem TG (u : Nat → Nat) (i : Nat) : jP u (i + 1) = match jP u i with | some k => some k | none => if root u (i + 1) = 0 then none else some i := by
 unfold jP
 rw [List.range_succ, List.find?_append]
 cases (List.range i).find? fun i => !decide (root u (i + 1) = 0) with
 | some k => rfl
 | none =>
  rw [Option.none_or]
  show List.find? _ [i] = if root u (i + 1) = 0 then none else some i
  by_cases c : root u (i + 1) = 0
  ·rw [if_pos c, List.find?_cons_of_neg (by rw [decide_eq_true c]; decide)]
   rfl
  ·rw [if_neg c, List.find?_cons_of_pos (by rw [decide_eq_false c]; rfl)]
/-- what GraphCounts says, plainly -/
structure MJ (n : Nat) (G : tE) (S : PtS) : Prop where
 s0 : 0 < S.rs.length
 sn : S.rs.length ≤ 33
 ln : ∀ j, (S.pc j).length ≤ 33
 a : ∀ j, j < S.rs.length → 0 < (S.pc j).length
 b : jc (fun j => (S.pc j).length) S.rs.length = (ND G n).length + 1
 c : rZ (fun j => (S.pc j).length) (fun j => aA (S.pc j)) [48] S.rs.length = 0
 c1 : aA (S.pc 0) 0 = [48]
 d : ∀ i, i < (ND G n).length → 0 ≤ rZ (fun j => (S.pc j).length) (fun j => aA (S.pc j)) (aA (ND G n) i) S.rs.length ∧ (0 < rZ (fun j => (S.pc j).length) (fun j => aA (S.pc j)) (aA (ND G n) i) S.rs.length ↔ root (bP G n) (i + 1) ≠ 0)
 f : ∀ i, i < n → jd (G i) = true → rZ (fun j => (S.pc j).length) (fun j => aA (S.pc j)) (G i).a S.rs.length = rZ (fun j => (S.pc j).length) (fun j => aA (S.pc j)) (G i).b S.rs.length
 g : (aW G n).length + S.rs.length = (ND G n).length + 1
 h : (aW G n).length + (fB G n).length = zV G n
theorem ML {n : Nat} {G : tE} (h : (yU G n).1 = 0) : MJ n G (bH (bP G n) (aA (g0 :: ND G n)) ((ND G n).length + 1)) := by
 have gd := TI h
 have hu : ∀ j, bP G n j ≤ j := by rw [vJ]; exact AX _ _
 have hN : (g0 :: ND G n).Nodup := List.nodup_cons.2 ⟨fun hm => (MN.1 hm).2.2 rfl, JW G n⟩
 have hin : ∀ p q, p < (ND G n).length + 1 → q < (ND G n).length + 1 → aA (g0 :: ND G n) p = aA (g0 :: ND G n) q → p = q := fun p q hp hq e => by
  unfold aA at e
  rw [List.getD_eq_getElem?_getD, List.getD_eq_getElem?_getD, List.getElem?_eq_getElem (by simpa using hp), List.getElem?_eq_getElem (by simpa using hq)] at e
  exact (List.getElem_inj hN).1 e
 obtain ⟨q1, q2, q3⟩ := Oh (u := bP G n) (nm := aA (g0 :: ND G n)) (ND G n).length
 have r0 : root (bP G n) 0 = 0 := by have := sH hu 0; omega
 have hnd := gd.nd
 obtain ⟨e1, _⟩ := Yr (u := bP G n) (nm := aA (g0 :: ND G n)) hu ((ND G n).length + 1)
 have hz : ∀ x, bU (ay 0 (g0 :: ND G n)) x < (ND G n).length + 1 := fun x => by have := He (ND G n) x; unfold bU; omega
 have ft := Oi (ay 0 (g0 :: ND G n)) G ((ND G n).length + 1) hz n
 have hat : ∀ {x : Tx}, x ∈ g0 :: ND G n → rZ (fun j => ((bH (bP G n) (aA (g0 :: ND G n)) ((ND G n).length + 1)).pc j).length) (fun j => aA ((bH (bP G n) (aA (g0 :: ND G n)) ((ND G n).length + 1)).pc j)) x (bH (bP G n) (aA (g0 :: ND G n)) ((ND G n).length + 1)).rs.length = (((bH (bP G n) (aA (g0 :: ND G n)) ((ND G n).length + 1)).rs.idxOf (root (bP G n) (bU (ay 0 (g0 :: ND G n)) x)) : Nat) : Int) := fun {x} hx => by
  have hp := hz x
  have e : aA (g0 :: ND G n) (bU (ay 0 (g0 :: ND G n)) x) = x := by
   rw [aaz]
   cases q : pos x (g0 :: ND G n) with
   | none => exact absurd hx (nO.1 q)
   | some i => exact (MO q).2
  have := G9 (u := bP G n) hin hp
  rw [e] at this
  exact this
 refine ⟨q3, by have := MP (bP G n) (aA (g0 :: ND G n)) ((ND G n).length + 1); omega, fun j => by have := TJ (bP G n) (aA (g0 :: ND G n)) ((ND G n).length + 1) j; omega, fun j hj => MF hj, TD _, ?_, q2, fun i hi => ?_, fun i hi hs => ?_, ?_, ?_⟩
 ·have := G9 (u := bP G n) (nm := aA (g0 :: ND G n)) hin (p := 0) (by omega)
  rw [q1] at this
  exact this
 ·have := G9 (u := bP G n) (nm := aA (g0 :: ND G n)) hin (p := i + 1) (by omega)
  have e : aA (g0 :: ND G n) (i + 1) = aA (ND G n) i := rfl
  rw [e] at this
  rw [this]
  refine ⟨Int.natCast_nonneg _, ?_⟩
  have h1 := zU (u := bP G n) (nm := aA (g0 :: ND G n)) (i := (ND G n).length + 1) (p := i + 1) (by omega)
  have h0 := zU (u := bP G n) (nm := aA (g0 :: ND G n)) (i := (ND G n).length + 1) (p := 0) (by omega)
  constructor
  ·intro hp hr
   rw [hr, ← r0, q1] at hp
   exact absurd hp (by decide)
  ·intro hr
   have : (bH (bP G n) (aA (g0 :: ND G n)) ((ND G n).length + 1)).rs.idxOf (root (bP G n) (i + 1)) ≠ 0 := fun e => hr (by rw [← r0]; exact Wu h1 h0 (e.trans q1.symm))
   omega
 ·obtain ⟨k1, k2, k3, k4, k5⟩ := Qi (aaA (gd.bad i hi)).1
  have mem : ∀ {x : Tx}, iV x = true → (x = (G i).a ∨ x = (G i).b) → x ∈ g0 :: ND G n := fun {x} hx hq => by
   by_cases c : x = [48]
   ·rw [c]; exact List.mem_cons_self ..
   ·exact List.mem_cons_of_mem _ (MN.2 ⟨⟨i, hi, by rcases hq with h | h; exact .inl h; exact .inr (.inl h)⟩, Wx hx, c⟩)
  rw [hat (mem k3 (.inl rfl)), hat (mem k4 (.inr rfl))]
  have := Ol (ay 0 (g0 :: ND G n)) G n i hi hs
  unfold cls at this
  rw [vJ, this]
 ·rw [e1, vJ, pJ]
  show (gQ (ay 0 (g0 :: ND G n)) G n).length + fx (Ul (bU (ay 0 (g0 :: ND G n))) (jl G n)) _ = _
  omega
 ·rw [pJ, yV]
  exact FD _ G n


/-- the same block, or one that is only seen -/
def Wy (b0 b : aF) : Prop := dD b0 b ∨ ∃ own sz m c, b0 = .cells own sz m c ∧ b = .cells false sz m c
theorem Wy.own {b0 b : aF} (h : Wy b0 b) (ho : b.owned = true) : b0.owned = true := by
 rcases h with h | ⟨own, sz, m, c, rfl, rfl⟩
 ·exact h.owned.trans ho
 ·cases ho
theorem Wy.rl {b0 b : aF} (h : Wy b0 b) {μ : MM} {g : Nat} (hr : b.real μ g) : b0.real μ g := by
 rcases h with h | ⟨own, sz, m, c, rfl, rfl⟩
 ·exact (h.real μ g).2 hr
 ·exact hr.elim .inl fun c => by cases c.1
theorem Wy.ok {b0 b : aF} (h : Wy b0 b) {N : Nat} {μ : MM} {hp : Array Obj} {g : Nat} (k : bY N μ hp g b0) : bY N μ hp g b := by
 rcases h with h | ⟨own, sz, m, c, rfl, rfl⟩
 ·exact h.ok k
 ·refine ⟨k.1, k.2.1, fun hr => ?_⟩
  obtain ⟨cur, ty, fz, p1, p2, p3, p4⟩ := k.2.2 (hr.elim .inl fun c => by cases c.1)
  exact ⟨cur, ty, fz, p1, p2, fun h => (by cases h), p4⟩
def VwH (H : T aF) : List (Nat × aF) → Prop
 | [] => True
 | p :: l => (∃ b0, H.get p.1 = some b0 ∧ Wy b0 p.2) ∧ VwH H l
theorem VwH.get {H : T aF} : ∀ {l : tH}, VwH H l → ∀ p ∈ l, ∃ b0, H.get p.1 = some b0 ∧ Wy b0 p.2
 | q :: l, h, p, hp => by
  rcases List.mem_cons.1 hp with rfl | hp
  ·exact h.1
  ·exact VwH.get h.2 p hp
theorem Qj {P : Program} {n B K K' : Nat} {c : Code} {fr : Fr} {H : T aF} {Post Post' : Po} (h : aj P c n B K K' fr H Post) (k : ∀ e fr' H', Post e fr' H' → ∃ bl, VwH H' bl ∧ Post' e fr' (hpL bl)) : aj P c n B K K' fr H Post' :=
 fun μ w a hg hf Q hQ => h μ w a hg hf Q fun e fr' H' a' w' hp ha => by
  obtain ⟨bl, h1, h2⟩ := k _ _ _ hp
  obtain ⟨μ', k1, k2, k3, k4⟩ := ha.of
  have G : ∀ i b, (hpL bl).get i = some b → ∃ b0, H'.get i = some b0 ∧ Wy b0 b := fun i b hb => h1.get _ (aY hb)
  have nU : ∀ b, May μ' (hpL bl) b → May μ' H' b := fun b hm => by
   obtain ⟨i, x, m1, m2, m3, m4⟩ := hm
   obtain ⟨b0, q1, q2⟩ := G i x m1
   exact ⟨i, b0, q1, q2.own m2, q2.rl m3, m4⟩
  refine hQ e fr' _ a' w' h2 ⟨μ', ⟨fun i b hb => ?_, fun i b hb => ?_, fun i b j b' hi hj ho hr hr' he => ?_, fun b o q => ⟨(k1.fz b o q).1, fun hm => (k1.fz b o q).2 (nU b hm)⟩⟩, ⟨k2.names, k2.os, k2.tape, k2.output, k2.size, k2.block, fun b hb hm => k2.may b hb (nU b hm), k2.fz⟩, k3, k4⟩
  ·obtain ⟨b0, q1, q2⟩ := G i b hb
   exact k1.lt _ _ q1
  ·obtain ⟨b0, q1, q2⟩ := G i b hb
   exact q2.ok (k1.ok _ _ q1)
  ·obtain ⟨b0, q1, q2⟩ := G i b hi
   obtain ⟨b1, r1, r2⟩ := G j b' hj
   exact k1.sep _ _ _ _ q1 r1 (q2.own ho) (q2.rl hr) (r2.rl hr') he
theorem TK (a : Nat) (G : tE) : qp (rowsOf ⟨false, a, 0, 0⟩ 8 8 (.fn fun j => zR (G j))) = G := funext fun j => by
 show unZ (zR (G (0 + j))) = G j
 rw [Nat.zero_add]
 rfl
def sgN (i : Nat) : Nat := if i = 2 then 8 else if 3 ≤ i ∧ i ≤ 8 then i - 1 else i
theorem WA : ∀ i j : Nat, sgN i = sgN j → i = j := fun i j h => by
 unfold sgN at h
 split at h <;> split at h <;> (try split at h) <;> (try split at h) <;> omega
noncomputable def WB (n : Nat) (G : tE) : PtS := bH (bP G n) (aA (g0 :: ND G n)) ((ND G n).length + 1)
noncomputable def dV (n : Nat) (G : tE) : Nat := (WB n G).rs.length
noncomputable def dS (n : Nat) (G : tE) (j : Nat) : Nat := ((WB n G).pc j).length
noncomputable def eP (n : Nat) (G : tE) (j : Nat) : Nat → Tx := aA ((WB n G).pc j)
theorem MQ (ln : Nat → Nat) (lf : Nat → Nat → Tx) : tN (Cont.row (.fn fun j => [AV.iw (ln j) (lf j)])) = ln := rfl
theorem MR (ln : Nat → Nat) (lf : Nat → Nat → Tx) : tF (Cont.row (.fn fun j => [AV.iw (ln j) (lf j)])) = lf := rfl
noncomputable def opP : Oper := ((jS ZCi).drop 1).headD ⟨none, .move (.tmp 0), 0, "", #[], none⟩
def clP : Call := ⟨.value (.func 17), #[.tmp 32], #[24]⟩
noncomputable abbrev ZJ (v0 : Nat) (v1 : tE) := (.cells true 1 (dV v0 v1) (.fn fun j => [.iw (dS v0 v1 j) (eP v0 v1 j)]) : aF)
noncomputable abbrev sZ (v0 : Nat) (v1 : tE) := sL 9 (dV v0 v1)
noncomputable abbrev ZD8 (v0 : Nat) (v1 : tE) (w0) := ([(2, ZD v0 v1), (3, ZM v1 v0), (4, ZN v1 v0), (5, ZO v1 v0), (6, ZC v0 v1), (7, ZG v1 v0), (8, ZH v1 v0), (w0, ZJ v0 v1)] : tH)
theorem TL (n : Nat) (G : tE) (hn : n ≤ 256) :
  aj Try.prog ZCi Try.f6.ntmps 1 9 10 (aV (Yp 2)) (hpL (ZB n G)) (Nm [(3, .bool true), (4, ZA 2), (6, sZ n G)] (ZD8 n G 9)) := by
 have h0 : aj Try.prog ZCi Try.f6.ntmps 1 9 17 (aV (Yp 2)) (hpL (ZB n G)) (Nm [(3, .bool true), (4, ZA 2), (6, sL 13 (dV n G))] (ZD8 n G 13)) := by
  refine aj.NZ (o := opP) (cl := clP) (Bg := .func 17) (f := 17) (fn := Try.f17) (body := (ak Try.f17)) (pre := []) (cap := []) (args := [ZA 2]) JM 1 (by kernel_rfl) (by kernel_rfl) (by kernel_rfl) (by kernel_rfl) rfl (d := 33) (by kernel_rfl) (Nat.le_of_ble_eq_true (by kernel_rfl)) (K1 := 9) (K2 := 17) (by omega) (aau n (ND G n).length (BR G n).length G (ay 0 (NM G n)) (ay 0 (ND G n)) (ay 0 (BR G n)) (aA (ND G n)) (aA (BR G n))) Try.func17 (by kernel_rfl) (by kernel_rfl) rfl (B0 := 9) (by omega) (by omega) (by omega) (Yp 2) rfl (iD rfl) rfl
   (V := fun v H' => v = sL 13 (dV n G) ∧ H' = hpL [(13, ZJ n G), (2, ZD n G), (3, ZM G n), (4, ZN G n), (5, ZO G n), (6, ZC n G), (7, ZG G n), (8, ZH G n)]) ?_ (fun v H' hv => by
    obtain ⟨rfl, rfl⟩ := hv
    exact ⟨[], _, _, Wp n (ND G n).length (BR G n).length (dV n G) G (dS n G) (eP n G) (ay 0 (NM G n)) (ay 0 (ND G n)) (ay 0 (BR G n)) (aA (ND G n)) (aA (BR G n)), rfl, rfl, rfl⟩)
  refine aj.gK (fl := [(0, ZA 2)]) (bl := (ZB n G)) ⟨re rfl, trivial⟩ (gq rfl) ?_
  refine aj.mono (Wi n G hn) fun e fr' H0' hh => ?_
  obtain ⟨rfl, rfl, rfl⟩ := hh
  exact ⟨.inl rfl, _, _, res1 (t := 2) (by kernel_rfl) rfl, trivial, _, AV.ge.refl _, rfl, rfl⟩
 exact h0.renG fun e fr' H' hh => by
  obtain ⟨rfl, rfl, rfl⟩ := hh
  exact ⟨sg 9 13, [(3, .bool true), (4, ZA 2), (6, sZ n G)], (ZD8 n G 9), mX (by omega), (yX rfl), ⟨dX rfl rfl (fun j _ => rfl) (fun j _ => rfl) (by omega), lW rfl rfl (by omega), lW rfl rfl (by omega), lW rfl rfl (by omega), dX rfl rfl (fun j _ => rfl) (fun j _ => rfl) (by omega), dX rfl rfl (fun j _ => rfl) (fun j _ => rfl) (by omega), dX rfl rfl (fun j _ => rfl) (fun j _ => rfl) (by omega), dX rfl rfl (fun j _ => rfl) (fun j _ => rfl) (by omega), trivial⟩, mY (by omega), rfl, rfl, rfl⟩
theorem Yv : (aT [1,1,1,1,1,1,1,0,1,0,0] (ak Try.f6)) = .seq (aT [1,1,1,1,1,1,1,0,1,0,0,0] (ak Try.f6)) (.seq (.block 1 (aT [1,1,1,1,1,1,1,0,1,0,0,1,0,0] (ak Try.f6))) (aT [1,1,1,1,1,1,1,0,1,0,0,1,1] (ak Try.f6))) := by kernel_rfl
theorem Yw : (aT [1,1,1,1,1,1,1,1,1,1,0,1,0,0] (ak Try.f6)) = .seq (aT [1,1,1,1,1,1,1,1,1,1,0,1,0,0,0] (ak Try.f6)) (.seq (.block 3 ZC0) (aT [1,1,1,1,1,1,1,1,1,1,0,1,0,0,1,1] (ak Try.f6))) := by kernel_rfl
theorem Yx : (aT [1,1,1,1,1,1,1,1,1,1,1,1,1,0,1,0,0] (ak Try.f6)) = .seq (aT [1,1,1,1,1,1,1,1,1,1,1,1,1,0,1,0,0,0] (ak Try.f6)) (.seq (.block 5 ZB4) (aT [1,1,1,1,1,1,1,1,1,1,1,1,1,0,1,0,0,1,1] (ak Try.f6))) := by kernel_rfl
noncomputable abbrev Z2 (v0 : tE) (v1 : Nat) := sL 10 (ND v0 v1).length
noncomputable abbrev Yy (v0 : Nat) (v1 : tE) := ([(2, ZD v0 v1), (3, ZM v1 v0), (4, ZN v1 v0), (5, ZO v1 v0), (6, ZC v0 v1), (7, ZG v1 v0), (8, ZH v1 v0), (9, ZJ v0 v1), (10, ZR v1 v0)] : tH)
noncomputable abbrev ZDc (v0 : Nat) (v1 : tE) := ([(9, ZJ v0 v1), (2, ZD v0 v1), (3, ZM v1 v0), (4, ZN v1 v0), (5, ZO v1 v0), (6, ZC v0 v1), (7, ZG v1 v0), (8, ZH v1 v0), (10, ZR v1 v0)] : tH)
noncomputable abbrev ZD5 (v0 : Nat) (v1 : tE) := ([(2, ZD v0 v1), (3, ZM v1 v0), (4, ZN v1 v0), (5, ZO v1 v0), (6, ZC v0 v1), (7, ZG v1 v0), (8, ZH v1 v0), (10, ZR v1 v0)] : tH)
theorem TM (n : Nat) (G : tE) (L : MJ n G (WB n G)) (hnd : (ND G n).length ≤ 32) :
  aj Try.prog (.seq (aT [1,1,1,1,1,1,1,0,0] (ak Try.f6)) (.block 0 (.loop (aT [1,1,1,1,1,1,1,0,1,0,0] (ak Try.f6))))) Try.f6.ntmps 11 11 11 (aV [(3, .bool true), (4, ZA 2), (6, sZ n G), (7, Z2 G n), (8, iT ((jc (dS n G) 0 : Nat) : Int))]) (hpL (Yy n G)) (Nm [(3, .bool true), (4, ZA 2), (6, sZ n G), (7, Z2 G n), (8, iT ((jc (dS n G) (dV n G) : Nat) : Int)), (9, iT ((dV n G) : Int))] (Yy n G)) := by
 have hs : jc (dS n G) (dV n G) = (ND G n).length + 1 := L.b
 have hc : dV n G ≤ 33 := L.sn
 refine aj.bn (K1 := 11) (F1 := [(3, .bool true), (4, ZA 2), (6, sZ n G), (7, Z2 G n), (8, iT ((jc (dS n G) 0 : Nat) : Int)), (9, FC)]) (H1 := (Yy n G)) (aj.toN ((zcI 11 (by omega) (ND G n).length (dV n G) (eP n G) (ay 0 (NM G n)) (ay 0 (ND G n)) (ay 0 (BR G n)) (aA (ND G n)) (aA (BR G n)) (kC (bG (aW G n))) ((jc (dS n G) 0 : Nat) : Int)).uF (by omega) ⟨⟨by omega, fun j hj v hv => List.all_eq_true.1 (show (bQ 6 7 8 n (ND G n).length (BR G n).length).all (fun v => v.low 11) = true from rfl) v hv⟩, ⟨by omega, trivial⟩, ⟨by omega, trivial⟩, ⟨by omega, trivial⟩, ⟨by omega, fun j hj v hv => List.all_eq_true.1 (show (aP (G j)).all (fun v => v.low 11) = true from rfl) v hv⟩, ⟨by omega, fun j hj v hv => List.all_eq_true.1 (show ((aU (aA (ND G n))) j).all (fun v => v.low 11) = true from rfl) v hv⟩, ⟨by omega, fun j hj v hv => List.all_eq_true.1 (show ((aU (aA (BR G n))) j).all (fun v => v.low 11) = true from rfl) v hv⟩, ⟨by omega, fun j hj v hv => List.all_eq_true.1 (show ([AV.iw (dS n G j) (eP n G j)]).all (fun v => v.low 11) = true from rfl) v hv⟩, ⟨by omega, fun j hj v hv => List.all_eq_true.1 (show ((aU (aA (ND G n))) j).all (fun v => v.low 11) = true from rfl) v hv⟩, trivial⟩) ⟨re rfl, re rfl, re rfl, re rfl, re rfl, ⟨_, rfl, AV.ge.int _ _ _ _⟩, trivial⟩ (gq rfl)) (by omega) ?_
 refine aj.rounds (P := Try.prog) (n := Try.f6.ntmps) (B := 11) (K := 11) (id := 0) (dV n G) (fun i => [(3, .bool true), (4, ZA 2), (6, sZ n G), (7, Z2 G n), (8, iT ((jc (dS n G) i : Nat) : Int)), (9, iT ((i : Nat) : Int))]) (fun _ => (Yy n G)) (fun i hi => ?_) ?_
 ·have ha : dS n G i ≠ 0 := Nat.pos_iff_ne_zero.1 (L.a i hi)
  have hl : dS n G i ≤ 33 := L.ln i
  have hle : jc (dS n G) i ≤ jc (dS n G) (dV n G) := Og (Nat.le_of_lt hi)
  have hle2 : jc (dS n G) (i + 1) = jc (dS n G) i + dS n G i := rfl
  have hq : (ND G n).length ≤ 32 := hnd
  rw [Yv]
  refine aj.bn (K1 := 11) (F1 := [(3, .bool true), (4, ZA 2), (6, sZ n G), (7, Z2 G n), (8, iT ((jc (dS n G) i : Nat) : Int)), (9, iT (i : Int))]) (H1 := (Yy n G)) (((zcJ 11 (by omega) (ND G n).length (dV n G) i (eP n G) (ay 0 (NM G n)) (ay 0 (ND G n)) (ay 0 (BR G n)) (aA (ND G n)) (aA (BR G n)) (kC (bG (aW G n))) ((jc (dS n G) i : Nat) : Int)).mono fun e fr' H' hh => ?_).uF (by omega) ⟨⟨by omega, fun j hj v hv => List.all_eq_true.1 (show (bQ 6 7 8 n (ND G n).length (BR G n).length).all (fun v => v.low 11) = true from rfl) v hv⟩, ⟨by omega, trivial⟩, ⟨by omega, trivial⟩, ⟨by omega, trivial⟩, ⟨by omega, fun j hj v hv => List.all_eq_true.1 (show (aP (G j)).all (fun v => v.low 11) = true from rfl) v hv⟩, ⟨by omega, fun j hj v hv => List.all_eq_true.1 (show ((aU (aA (ND G n))) j).all (fun v => v.low 11) = true from rfl) v hv⟩, ⟨by omega, fun j hj v hv => List.all_eq_true.1 (show ((aU (aA (BR G n))) j).all (fun v => v.low 11) = true from rfl) v hv⟩, ⟨by omega, fun j hj v hv => List.all_eq_true.1 (show ([AV.iw (dS n G j) (eP n G j)]).all (fun v => v.low 11) = true from rfl) v hv⟩, ⟨by omega, fun j hj v hv => List.all_eq_true.1 (show ((aU (aA (ND G n))) j).all (fun v => v.low 11) = true from rfl) v hv⟩, trivial⟩) (by omega) ?_
  ·rw [decide_eq_true (by omega), cond_true] at hh
   exact hh
  refine aj.bn (K1 := 11) (F1 := [(3, .bool true), (4, ZA 2), (6, sZ n G), (7, Z2 G n), (8, iT ((jc (dS n G) (i + 1) : Nat) : Int)), (9, iT (i : Int))]) (H1 := (Yy n G)) (aj.nV ?_) (by omega) ?_
  ·refine aj.gK (fl := [(3, .bool true), (4, ZA 2), (6, sZ n G), (7, Z2 G n), (8, iT ((jc (dS n G) i : Nat) : Int)), (9, iT (i : Int))]) (bl := (ZDc n G)) (iD rfl) (gq rfl) ?_
   refine aj.toN (F := [(3, .bool true), (4, ZA 2), (6, sZ n G), (7, Z2 G n), (8, iT (((jc (dS n G) i : Nat) : Int) + (dS n G (0 + i) : Int))), (9, iT (i : Int))]) (H1 := (ZDc n G)) (aj.lower (aj.jR (bl := [(9, ZJ n G)]) (mM := [(9, ZJ n G)]) (xl := (ZD5 n G)) ((zcK 11 (by omega) (ND G n).length (dV n G) i (dS n G) (eP n G) (ay 0 (NM G n)) (ay 0 (ND G n)) (ay 0 (BR G n)) (aA (ND G n)) (aA (BR G n)) (kC (bG (aW G n))) ((jc (dS n G) i : Nat) : Int) (by omega) (by omega) (by omega) (by rw [Nat.zero_add]; omega)).mono fun e wX H1 hh => ?_) (by omega) ⟨⟨by omega, fun j hj v hv => List.all_eq_true.1 (show (bQ 6 7 8 n (ND G n).length (BR G n).length).all (fun v => v.low 11) = true from rfl) v hv⟩, ⟨by omega, trivial⟩, ⟨by omega, trivial⟩, ⟨by omega, trivial⟩, ⟨by omega, fun j hj v hv => List.all_eq_true.1 (show (aP (G j)).all (fun v => v.low 11) = true from rfl) v hv⟩, ⟨by omega, fun j hj v hv => List.all_eq_true.1 (show ((aU (aA (ND G n))) j).all (fun v => v.low 11) = true from rfl) v hv⟩, ⟨by omega, fun j hj v hv => List.all_eq_true.1 (show ((aU (aA (BR G n))) j).all (fun v => v.low 11) = true from rfl) v hv⟩, ⟨by omega, fun j hj v hv => List.all_eq_true.1 (show ((aU (aA (ND G n))) j).all (fun v => v.low 11) = true from rfl) v hv⟩, trivial⟩ rfl rfl ⟨.inl rfl, trivial⟩) (by omega)) ⟨re rfl, re rfl, re rfl, re rfl, ⟨_, rfl, AV.ge.int' _ _ _ (by rw [Nat.zero_add, hle2]; omega)⟩, re rfl, trivial⟩ (gq rfl)
   rw [decide_eq_false (show ¬ ((dS n G (0 + i) : Nat) : Int) = 0 by rw [Nat.zero_add]; omega), cond_false] at hh
   exact hh
  exact aj.toN ((zcL 11 (by omega) (ND G n).length (dV n G) i (eP n G) (ay 0 (NM G n)) (ay 0 (ND G n)) (ay 0 (BR G n)) (aA (ND G n)) (aA (BR G n)) (kC (bG (aW G n))) ((jc (dS n G) (i + 1) : Nat) : Int) (by omega)).uF (by omega) ⟨⟨by omega, fun j hj v hv => List.all_eq_true.1 (show (bQ 6 7 8 n (ND G n).length (BR G n).length).all (fun v => v.low 11) = true from rfl) v hv⟩, ⟨by omega, trivial⟩, ⟨by omega, trivial⟩, ⟨by omega, trivial⟩, ⟨by omega, fun j hj v hv => List.all_eq_true.1 (show (aP (G j)).all (fun v => v.low 11) = true from rfl) v hv⟩, ⟨by omega, fun j hj v hv => List.all_eq_true.1 (show ((aU (aA (ND G n))) j).all (fun v => v.low 11) = true from rfl) v hv⟩, ⟨by omega, fun j hj v hv => List.all_eq_true.1 (show ((aU (aA (BR G n))) j).all (fun v => v.low 11) = true from rfl) v hv⟩, ⟨by omega, fun j hj v hv => List.all_eq_true.1 (show ([AV.iw (dS n G j) (eP n G j)]).all (fun v => v.low 11) = true from rfl) v hv⟩, ⟨by omega, fun j hj v hv => List.all_eq_true.1 (show ((aU (aA (ND G n))) j).all (fun v => v.low 11) = true from rfl) v hv⟩, trivial⟩) ⟨re rfl, re rfl, re rfl, re rfl, re rfl, ⟨_, rfl, AV.ge.int' _ _ _ (by omega)⟩, trivial⟩ (gq rfl)
 ·rw [Yv]
  refine aj.DY (K1 := 11) (((zcJ 11 (by omega) (ND G n).length (dV n G) (dV n G) (eP n G) (ay 0 (NM G n)) (ay 0 (ND G n)) (ay 0 (BR G n)) (aA (ND G n)) (aA (BR G n)) (kC (bG (aW G n))) ((jc (dS n G) (dV n G) : Nat) : Int)).mono fun e fr' H' hh => ?_).SY (by omega) ⟨⟨by omega, fun j hj v hv => List.all_eq_true.1 (show (bQ 6 7 8 n (ND G n).length (BR G n).length).all (fun v => v.low 11) = true from rfl) v hv⟩, ⟨by omega, trivial⟩, ⟨by omega, trivial⟩, ⟨by omega, trivial⟩, ⟨by omega, fun j hj v hv => List.all_eq_true.1 (show (aP (G j)).all (fun v => v.low 11) = true from rfl) v hv⟩, ⟨by omega, fun j hj v hv => List.all_eq_true.1 (show ((aU (aA (ND G n))) j).all (fun v => v.low 11) = true from rfl) v hv⟩, ⟨by omega, fun j hj v hv => List.all_eq_true.1 (show ((aU (aA (BR G n))) j).all (fun v => v.low 11) = true from rfl) v hv⟩, ⟨by omega, fun j hj v hv => List.all_eq_true.1 (show ([AV.iw (dS n G j) (eP n G j)]).all (fun v => v.low 11) = true from rfl) v hv⟩, ⟨by omega, fun j hj v hv => List.all_eq_true.1 (show ((aU (aA (ND G n))) j).all (fun v => v.low 11) = true from rfl) v hv⟩, trivial⟩) (by omega)
  rw [decide_eq_false (by omega), cond_false] at hh
  exact hh
noncomputable abbrev ZCu (v0 : tE) (v1 v2 : Nat) := (.cells true 2 1 (.fn fun _ => [iT (gE (jP (bP v0 v1) v2)), iT (gA (jP (bP v0 v1) v2))]) : aF)
noncomputable abbrev ZDp (v0 : Nat) (v1 : tE) (v2 : Nat) := ([(3, .bool true), (4, ZA 2), (6, sZ v0 v1), (7, Z2 v1 v0), (10, ZA 11), (11, iT (v2 : Int))] : jU)
theorem WC (n : Nat) (G : tE) (L : MJ n G (WB n G)) (i : Nat) (hi : i < (ND G n).length) :
  aj Try.prog ZC0 Try.f6.ntmps 12 12 12 (aV [(3, .bool true), (4, .ptr ⟨false, 2, 0, 0⟩), (6, sL 9 (dV n G)), (7, sL 10 (ND G n).length), (10, .ptr ⟨false, 11, 0, 0⟩), (11, iT (i : Int))]) (hpL [(9, .cells true 1 (dV n G) (.fn fun j => [.iw (dS n G j) (eP n G j)])), (10, .cells true 1 (ND G n).length (.fn (aU (aA (ND G n))))), (11, .cells true 2 1 (.fn fun _ => [iT (gE (jP (bP G n) i)), iT (gA (jP (bP G n) i))]))]) (Nm [(3, .bool true), (4, .ptr ⟨false, 2, 0, 0⟩), (6, sL 9 (dV n G)), (7, sL 10 (ND G n).length), (10, .ptr ⟨false, 11, 0, 0⟩), (11, iT (i : Int))] [(9, .cells true 1 (dV n G) (.fn fun j => [.iw (dS n G j) (eP n G j)])), (10, .cells true 1 (ND G n).length (.fn (aU (aA (ND G n))))), (11, .cells true 2 1 (.fn fun _ => [iT (gE (jP (bP G n) (i + 1))), iT (gA (jP (bP G n) (i + 1)))]))]) := by
 have hc : dV n G ≤ 33 := L.sn
 obtain ⟨hv0, hv1⟩ := L.d i hi
 have hv0 : 0 ≤ (rZ (dS n G) (eP n G) (aA (ND G n) i) (dV n G)) := hv0
 have hv1 : 0 < (rZ (dS n G) (eP n G) (aA (ND G n) i) (dV n G)) ↔ root (bP G n) (i + 1) ≠ 0 := hv1
 refine Eb (zcQ 12 (by omega) (ND G n).length (dV n G) i (dS n G) (eP n G) (ay 0 (NM G n)) (ay 0 (ND G n)) (ay 0 (BR G n)) (aA (ND G n)) (aA (BR G n)) (kC (bG (aW G n))) (gE (jP (bP G n) i)) (gA (jP (bP G n) i)) (by omega) (by omega) (by omega) (fun j hj => ⟨aQ _ rfl, Nat.le_trans (L.ln j) (by decide)⟩)) fun e fr' H' hh => ?_
 rw [MQ, MR, Nat.zero_add] at hh
 rw [decide_eq_false (show ¬ (rZ (dS n G) (eP n G) (aA (ND G n) i) (dV n G)) < 0 by omega), cond_false] at hh
 have keep : (jP (bP G n) (i + 1)) = (jP (bP G n) i) → (e = .normal ∧ fr' = aV [(3, .bool true), (4, .ptr ⟨false, 2, 0, 0⟩), (6, sL 9 (dV n G)), (7, sL 10 (ND G n).length), (10, .ptr ⟨false, 11, 0, 0⟩), (11, iT (i : Int))] ∧ H' = hpL [(9, .cells true 1 (dV n G) (.fn fun j => [.iw (dS n G j) (eP n G j)])), (10, .cells true 1 (ND G n).length (.fn (aU (aA (ND G n))))), (11, .cells true 2 1 (.fn fun _ => [iT (gE (jP (bP G n) i)), iT (gA (jP (bP G n) i))]))]) → ∃ fl bl, Ge fr' fl ∧ GeG H' bl ∧ Nm [(3, .bool true), (4, .ptr ⟨false, 2, 0, 0⟩), (6, sL 9 (dV n G)), (7, sL 10 (ND G n).length), (10, .ptr ⟨false, 11, 0, 0⟩), (11, iT (i : Int))] [(9, .cells true 1 (dV n G) (.fn fun j => [.iw (dS n G j) (eP n G j)])), (10, .cells true 1 (ND G n).length (.fn (aU (aA (ND G n))))), (11, .cells true 2 1 (.fn fun _ => [iT (gE (jP (bP G n) (i + 1))), iT (gA (jP (bP G n) (i + 1)))]))] e (aV fl) (hpL bl) := fun eq h => by
  obtain ⟨rfl, rfl, rfl⟩ := h
  rw [eq]
  exact ⟨[(3, .bool true), (4, .ptr ⟨false, 2, 0, 0⟩), (6, sL 9 (dV n G)), (7, sL 10 (ND G n).length), (10, .ptr ⟨false, 11, 0, 0⟩), (11, iT (i : Int))], [(9, .cells true 1 (dV n G) (.fn fun j => [.iw (dS n G j) (eP n G j)])), (10, .cells true 1 (ND G n).length (.fn (aU (aA (ND G n))))), (11, .cells true 2 1 (.fn fun _ => [iT (gE (jP (bP G n) i)), iT (gA (jP (bP G n) i))]))], (iD rfl), ⟨⟨_, rfl, rfl, rfl, rfl, fun j _ => aQ _ rfl⟩, ⟨_, rfl, rfl, rfl, rfl, fun j _ => aQ _ rfl⟩, ⟨_, rfl, rfl, rfl, rfl, fun j _ => aQ _ rfl⟩, trivial⟩, rfl, rfl, rfl⟩
 have st := TG (bP G n) i
 by_cases c : root (bP G n) (i + 1) = 0
 ·rw [decide_eq_false (show ¬ 0 < (rZ (dS n G) (eP n G) (aA (ND G n) i) (dV n G)) from fun h => hv1.1 h c), cond_false] at hh
  refine keep ?_ hh
  rw [st]
  cases (jP (bP G n) i) with
  | some k => rfl
  | none => show (if root (bP G n) (i + 1) = 0 then none else some i) = none; rw [if_pos c]
 ·rw [decide_eq_true (hv1.2 c), cond_true] at hh
  cases q : (jP (bP G n) i) with
  | some k =>
   rw [q] at hh st keep
   exact keep st hh
  | none =>
   rw [q] at hh st
   have st : (jP (bP G n) (i + 1)) = some i := st.trans (if_neg c)
   obtain ⟨rfl, rfl, rfl⟩ := hh
   rw [st]
   refine ⟨[(3, .bool true), (4, .ptr ⟨false, 2, 0, 0⟩), (6, sL 9 (dV n G)), (7, sL 10 (ND G n).length), (10, .ptr ⟨false, 11, 0, 0⟩), (11, iT (i : Int))], [(9, .cells true 1 (dV n G) (.fn fun j => [.iw (dS n G j) (eP n G j)])), (10, .cells true 1 (ND G n).length (.fn (aU (aA (ND G n))))), (11, .cells true 2 1 (.fn fun _ => [iT (gE (some i)), iT (gA (some i))]))], (iD rfl), ⟨⟨_, rfl, rfl, rfl, rfl, fun j _ => aQ _ rfl⟩, ⟨_, rfl, rfl, rfl, rfl, fun j _ => aQ _ rfl⟩, ⟨_, rfl, rfl, rfl, rfl, fun j hj => ?_⟩, trivial⟩, rfl, rfl, rfl⟩
   obtain rfl : j = 0 := by omega
   exact ⟨AV.ge.int _ _ _ _, rfl, AV.ge.int _ _ _ _, rfl, trivial⟩
noncomputable abbrev Vh (v0 : tE) (v1 : Nat) := iT (gE (jP (bP v0 v1) (ND v0 v1).length))
noncomputable abbrev Vj (v0 : tE) (v1 : Nat) := iT (gA (jP (bP v0 v1) (ND v0 v1).length))
noncomputable abbrev ZW (v0 : tE) (v1 : Nat) := (.cells true 2 1 (.fn fun _ => [Vh v0 v1, Vj v0 v1]) : aF)
noncomputable abbrev ZB2 (v0 : tE) (v1 : Nat) (v2) := (.cells true 2 1 (.fn fun _ => [iT (gE (jP (bP v0 v1) v2)), iT (gA (jP (bP v0 v1) v2))]) : aF)
noncomputable abbrev ZCZ (v0 : tE) (v1 : Nat) (v2) := (.cells true 2 1 (.fn fun _ => [iT (gE (jP (bP v0 v1) (v2 + 1))), iT (gA (jP (bP v0 v1) (v2 + 1)))]) : aF)
noncomputable abbrev ZCl (v0 : tE) (v1 : Nat) := (.cells true 2 1 (.fn fun _ => [iT (gE (jP (bP v0 v1) 0)), iT (gA (jP (bP v0 v1) 0))]) : aF)
noncomputable abbrev ZEE (v0 : Nat) (v1 : tE) := ([(2, ZD v0 v1), (3, ZM v1 v0), (4, ZN v1 v0), (5, ZO v1 v0), (6, ZC v0 v1), (7, ZG v1 v0), (8, ZH v1 v0), (9, ZJ v0 v1), (10, ZR v1 v0), (11, ZCl v1 v0)] : tH)
noncomputable abbrev ZEK (v0 : Nat) (v1 : tE) (v2) := ([(3, .bool true), (4, ZA 2), (6, sZ v0 v1), (7, Z2 v1 v0), (10, ZA 11), (11, iT (v2 : Int))] : jU)
theorem TN (n : Nat) (G : tE) (L : MJ n G (WB n G)) (hq : (ND G n).length ≤ 32) :
  aj Try.prog (.seq (aT [1,1,1,1,1,1,1,1,1,1,0,0] (ak Try.f6)) (.block 2 (.loop (aT [1,1,1,1,1,1,1,1,1,1,0,1,0,0] (ak Try.f6))))) Try.f6.ntmps 12 12 12 (aV [(3, .bool true), (4, ZA 2), (6, sZ n G), (7, Z2 G n), (10, ZA 11)]) (hpL (ZEE n G)) (Nm [(3, .bool true), (4, ZA 2), (6, sZ n G), (7, Z2 G n), (10, ZA 11), (11, iT ((ND G n).length : Int))] [(2, ZD n G), (3, ZM G n), (4, ZN G n), (5, ZO G n), (6, ZC n G), (7, ZG G n), (8, ZH G n), (9, ZJ n G), (10, ZR G n), (11, ZW G n)]) := by
 refine aj.bn (K1 := 12) (F1 := [(3, .bool true), (4, ZA 2), (6, sZ n G), (7, Z2 G n), (10, ZA 11), (11, FC)]) (H1 := (ZEE n G)) (aj.toN ((zcO 12 (by omega) (ND G n).length (dV n G) (eP n G) (ay 0 (NM G n)) (ay 0 (ND G n)) (ay 0 (BR G n)) (aA (ND G n)) (aA (BR G n)) (kC (bG (aW G n)))).uF (by omega) ⟨⟨by omega, fun j hj v hv => List.all_eq_true.1 (show (bQ 6 7 8 n (ND G n).length (BR G n).length).all (fun v => v.low 12) = true from rfl) v hv⟩, ⟨by omega, trivial⟩, ⟨by omega, trivial⟩, ⟨by omega, trivial⟩, ⟨by omega, fun j hj v hv => List.all_eq_true.1 (show (aP (G j)).all (fun v => v.low 12) = true from rfl) v hv⟩, ⟨by omega, fun j hj v hv => List.all_eq_true.1 (show ((aU (aA (ND G n))) j).all (fun v => v.low 12) = true from rfl) v hv⟩, ⟨by omega, fun j hj v hv => List.all_eq_true.1 (show ((aU (aA (BR G n))) j).all (fun v => v.low 12) = true from rfl) v hv⟩, ⟨by omega, fun j hj v hv => List.all_eq_true.1 (show ([AV.iw (dS n G j) (eP n G j)]).all (fun v => v.low 12) = true from rfl) v hv⟩, ⟨by omega, fun j hj v hv => List.all_eq_true.1 (show ((aU (aA (ND G n))) j).all (fun v => v.low 12) = true from rfl) v hv⟩, ⟨by omega, fun j hj v hv => List.all_eq_true.1 (show ([iT (gE (jP (bP G n) 0)), iT (gA (jP (bP G n) 0))]).all (fun v => v.low 12) = true from rfl) v hv⟩, trivial⟩) ⟨re rfl, re rfl, re rfl, re rfl, re rfl, ⟨_, rfl, AV.ge.int _ _ _ _⟩, trivial⟩ (gq rfl)) (by omega) ?_
 refine aj.rounds (P := Try.prog) (n := Try.f6.ntmps) (B := 12) (K := 12) (id := 2) (ND G n).length (fun i => [(3, .bool true), (4, ZA 2), (6, sZ n G), (7, Z2 G n), (10, ZA 11), (11, iT ((i : Nat) : Int))]) (fun i => [(2, ZD n G), (3, ZM G n), (4, ZN G n), (5, ZO G n), (6, ZC n G), (7, ZG G n), (8, ZH G n), (9, ZJ n G), (10, ZR G n), (11, ZB2 G n i)]) (fun i hi => ?_) ?_
 ·rw [Yw]
  refine aj.bn (K1 := 12) (F1 := (ZEK n G i)) (H1 := [(2, ZD n G), (3, ZM G n), (4, ZN G n), (5, ZO G n), (6, ZC n G), (7, ZG G n), (8, ZH G n), (9, ZJ n G), (10, ZR G n), (11, ZB2 G n i)]) (((zcP 12 (by omega) (ND G n).length (dV n G) i (eP n G) (ay 0 (NM G n)) (ay 0 (ND G n)) (ay 0 (BR G n)) (aA (ND G n)) (aA (BR G n)) (kC (bG (aW G n)))).mono fun e fr' H' hh => ?_).uF (by omega) ⟨⟨by omega, fun j hj v hv => List.all_eq_true.1 (show (bQ 6 7 8 n (ND G n).length (BR G n).length).all (fun v => v.low 12) = true from rfl) v hv⟩, ⟨by omega, trivial⟩, ⟨by omega, trivial⟩, ⟨by omega, trivial⟩, ⟨by omega, fun j hj v hv => List.all_eq_true.1 (show (aP (G j)).all (fun v => v.low 12) = true from rfl) v hv⟩, ⟨by omega, fun j hj v hv => List.all_eq_true.1 (show ((aU (aA (ND G n))) j).all (fun v => v.low 12) = true from rfl) v hv⟩, ⟨by omega, fun j hj v hv => List.all_eq_true.1 (show ((aU (aA (BR G n))) j).all (fun v => v.low 12) = true from rfl) v hv⟩, ⟨by omega, fun j hj v hv => List.all_eq_true.1 (show ([AV.iw (dS n G j) (eP n G j)]).all (fun v => v.low 12) = true from rfl) v hv⟩, ⟨by omega, fun j hj v hv => List.all_eq_true.1 (show ((aU (aA (ND G n))) j).all (fun v => v.low 12) = true from rfl) v hv⟩, ⟨by omega, fun j hj v hv => List.all_eq_true.1 (show ([iT (gE (jP (bP G n) i)), iT (gA (jP (bP G n) i))]).all (fun v => v.low 12) = true from rfl) v hv⟩, trivial⟩) (by omega) ?_
  ·rw [decide_eq_true (by omega), cond_true] at hh
   exact hh
  refine aj.bn (K1 := 12) (F1 := (ZEK n G i)) (H1 := [(2, ZD n G), (3, ZM G n), (4, ZN G n), (5, ZO G n), (6, ZC n G), (7, ZG G n), (8, ZH G n), (9, ZJ n G), (10, ZR G n), (11, ZCZ G n i)]) (aj.nV ?_) (by omega) (aj.toN ((zcR 12 (by omega) (ND G n).length (dV n G) i (eP n G) (ay 0 (NM G n)) (ay 0 (ND G n)) (ay 0 (BR G n)) (aA (ND G n)) (aA (BR G n)) (kC (bG (aW G n))) (by omega)).uF (by omega) ⟨⟨by omega, fun j hj v hv => List.all_eq_true.1 (show (bQ 6 7 8 n (ND G n).length (BR G n).length).all (fun v => v.low 12) = true from rfl) v hv⟩, ⟨by omega, trivial⟩, ⟨by omega, trivial⟩, ⟨by omega, trivial⟩, ⟨by omega, fun j hj v hv => List.all_eq_true.1 (show (aP (G j)).all (fun v => v.low 12) = true from rfl) v hv⟩, ⟨by omega, fun j hj v hv => List.all_eq_true.1 (show ((aU (aA (ND G n))) j).all (fun v => v.low 12) = true from rfl) v hv⟩, ⟨by omega, fun j hj v hv => List.all_eq_true.1 (show ((aU (aA (BR G n))) j).all (fun v => v.low 12) = true from rfl) v hv⟩, ⟨by omega, fun j hj v hv => List.all_eq_true.1 (show ([AV.iw (dS n G j) (eP n G j)]).all (fun v => v.low 12) = true from rfl) v hv⟩, ⟨by omega, fun j hj v hv => List.all_eq_true.1 (show ((aU (aA (ND G n))) j).all (fun v => v.low 12) = true from rfl) v hv⟩, ⟨by omega, fun j hj v hv => List.all_eq_true.1 (show ([iT (gE (jP (bP G n) (i + 1))), iT (gA (jP (bP G n) (i + 1)))]).all (fun v => v.low 12) = true from rfl) v hv⟩, trivial⟩) ⟨re rfl, re rfl, re rfl, re rfl, re rfl, ⟨_, rfl, AV.ge.int' _ _ _ (by omega)⟩, trivial⟩ (gq rfl))
  refine aj.gK (fl := (ZEK n G i)) (bl := [(9, ZJ n G), (10, ZR G n), (11, ZB2 G n i), (2, ZD n G), (3, ZM G n), (4, ZN G n), (5, ZO G n), (6, ZC n G), (7, ZG G n), (8, ZH G n)]) (iD rfl) (gq rfl) ?_
  exact aj.toN (F := (ZEK n G i)) (H1 := [(9, ZJ n G), (10, ZR G n), (11, ZCZ G n i), (2, ZD n G), (3, ZM G n), (4, ZN G n), (5, ZO G n), (6, ZC n G), (7, ZG G n), (8, ZH G n)]) (aj.jR (bl := [(9, ZJ n G), (10, ZR G n), (11, ZB2 G n i)]) (mM := [(9, ZJ n G), (10, ZR G n), (11, ZCZ G n i)]) (xl := (ZB n G)) (WC n G L i hi) (by omega) ⟨⟨by omega, fun j hj v hv => List.all_eq_true.1 (show (bQ 6 7 8 n (ND G n).length (BR G n).length).all (fun v => v.low 12) = true from rfl) v hv⟩, ⟨by omega, trivial⟩, ⟨by omega, trivial⟩, ⟨by omega, trivial⟩, ⟨by omega, fun j hj v hv => List.all_eq_true.1 (show (aP (G j)).all (fun v => v.low 12) = true from rfl) v hv⟩, ⟨by omega, fun j hj v hv => List.all_eq_true.1 (show ((aU (aA (ND G n))) j).all (fun v => v.low 12) = true from rfl) v hv⟩, ⟨by omega, fun j hj v hv => List.all_eq_true.1 (show ((aU (aA (BR G n))) j).all (fun v => v.low 12) = true from rfl) v hv⟩, trivial⟩ rfl rfl ⟨.inl rfl, .inl rfl, .inl rfl, trivial⟩) (iD rfl) (gq rfl)
 ·rw [Yw]
  refine aj.DY (K1 := 12) (((zcP 12 (by omega) (ND G n).length (dV n G) (ND G n).length (eP n G) (ay 0 (NM G n)) (ay 0 (ND G n)) (ay 0 (BR G n)) (aA (ND G n)) (aA (BR G n)) (kC (bG (aW G n)))).mono fun e fr' H' hh => ?_).SY (by omega) ⟨⟨by omega, fun j hj v hv => List.all_eq_true.1 (show (bQ 6 7 8 n (ND G n).length (BR G n).length).all (fun v => v.low 12) = true from rfl) v hv⟩, ⟨by omega, trivial⟩, ⟨by omega, trivial⟩, ⟨by omega, trivial⟩, ⟨by omega, fun j hj v hv => List.all_eq_true.1 (show (aP (G j)).all (fun v => v.low 12) = true from rfl) v hv⟩, ⟨by omega, fun j hj v hv => List.all_eq_true.1 (show ((aU (aA (ND G n))) j).all (fun v => v.low 12) = true from rfl) v hv⟩, ⟨by omega, fun j hj v hv => List.all_eq_true.1 (show ((aU (aA (BR G n))) j).all (fun v => v.low 12) = true from rfl) v hv⟩, ⟨by omega, fun j hj v hv => List.all_eq_true.1 (show ([AV.iw (dS n G j) (eP n G j)]).all (fun v => v.low 12) = true from rfl) v hv⟩, ⟨by omega, fun j hj v hv => List.all_eq_true.1 (show ((aU (aA (ND G n))) j).all (fun v => v.low 12) = true from rfl) v hv⟩, ⟨by omega, fun j hj v hv => List.all_eq_true.1 (show ([Vh G n, Vj G n]).all (fun v => v.low 12) = true from rfl) v hv⟩, trivial⟩) (by omega)
  rw [decide_eq_false (by omega), cond_false] at hh
  exact hh
noncomputable abbrev ZDN (v0 : tE) (v1 : Nat) := iT ((zV v0 v1 : Nat) : Int)
noncomputable abbrev ZDZ (v0 : Nat) (v1 : tE) (v2 : Nat) := ([(3, .bool true), (4, ZA 2), (6, sZ v0 v1), (7, Z2 v1 v0), (10, ZA 11), (13, sL 12 v0), (14, iT ((zV v1 (v2 + 1) : Nat) : Int)), (15, iT (v2 : Int))] : jU)
noncomputable abbrev ZEP (v0 : Nat) (v1 : tE) (v2 : Nat) := ([(3, .bool true), (4, ZA 2), (6, sZ v0 v1), (7, Z2 v1 v0), (10, ZA 11), (13, sL 12 v0), (14, ZDN v1 v2), (15, iT (v2 : Int))] : jU)
noncomputable abbrev TP (v0 : Nat) (v1 : tE) := ([(9, ZJ v0 v1), (12, ZF v0 v1)] : tH)
theorem WE (n : Nat) (G : tE) (L : MJ n G (WB n G)) (i : Nat) (hi : i < n) (hn : n ≤ 256) :
  aj Try.prog ZB4 Try.f6.ntmps 13 13 13 (aV (ZEP n G i)) (hpL (TP n G)) (Nm (ZDZ n G i) (TP n G)) := by
 have hc : dV n G ≤ 33 := L.sn
 have hm := MI G i
 have h14 : aj Try.prog ZB4 Try.f6.ntmps 13 13 14 (aV (ZEP n G i)) (hpL (TP n G)) (Nm (ZDZ n G i) (TP n G)) := by
  refine (zcW 13 (by omega) n (ND G n).length (dV n G) i G (dS n G) (eP n G) (ay 0 (NM G n)) (ay 0 (ND G n)) (ay 0 (BR G n)) (aA (ND G n)) (aA (BR G n)) (kC (bG (aW G n))) ((zV G i : Nat) : Int) (by omega) (by omega) (fun _ _ => by omega) (fun _ _ => by omega) (fun _ _ => by omega) (fun _ _ => by omega) (fun _ _ => (fun j hj => ⟨aQ _ rfl, Nat.le_trans (L.ln j) (by decide)⟩))).post fun e fr' H' hh => ?_
  rw [MQ, MR, Nat.zero_add] at hh
  have keep : jd (G i) = false → (e = .normal ∧ fr' = aV (ZEP n G i) ∧ H' = hpL (TP n G)) → ∃ fl bl, Ge fr' fl ∧ Ia H' bl ∧ Nm (ZDZ n G i) (TP n G) e (aV fl) (hpL bl) := fun hs h => by
   obtain ⟨rfl, rfl, rfl⟩ := h
   refine ⟨(ZDZ n G i), (TP n G), ⟨re rfl, re rfl, re rfl, re rfl, re rfl, re rfl, ⟨_, rfl, AV.ge.int' _ _ _ ?_⟩, re rfl, trivial⟩, (gq rfl), rfl, rfl, rfl⟩
   conv => rhs; unfold zV
   rw [hs, cond_false]
   omega
  cases q1 : decide ((G i).k = 4) with
  | true =>
   rw [q1, cond_true] at hh
   exact keep (by unfold jd; rw [q1]; rfl) hh
  | false =>
   rw [q1, cond_false] at hh
   cases q2 : decide ((G i).k = 6) with
   | true =>
    rw [q2, cond_true] at hh
    exact keep (by unfold jd; rw [q1, q2]; rfl) hh
   | false =>
    have hs : jd (G i) = true := by unfold jd; rw [q1, q2]; rfl
    have hf : (rZ (dS n G) (eP n G) (G i).a (dV n G)) = (rZ (dS n G) (eP n G) (G i).b (dV n G)) := L.f i hi hs
    rw [q2, cond_false, decide_eq_true hf, cond_true] at hh
    obtain ⟨rfl, rfl, rfl⟩ := hh
    refine ⟨(ZDZ n G i), (TP n G), ⟨re rfl, re rfl, re rfl, re rfl, re rfl, re rfl, ⟨_, rfl, AV.ge.int' _ _ _ ?_⟩, re rfl, trivial⟩, (gq rfl), rfl, rfl, rfl⟩
    conv => rhs; unfold zV
    rw [hs, cond_true]
    omega
 exact h14.renG fun e fr' H' hh => by
  obtain ⟨rfl, rfl, rfl⟩ := hh
  exact ⟨id, (ZDZ n G i), (TP n G), fun g hg => rfl, (yX rfl), ⟨dX rfl rfl (fun j _ => rfl) (fun j _ => rfl) (by omega), dX rfl rfl (fun j _ => rfl) (fun j _ => rfl) (by omega), trivial⟩, fun i j _ _ h => h, rfl, rfl, rfl⟩
noncomputable abbrev WG (v0 : Nat) (v1 : tE) := ([(2, ZD v0 v1), (3, ZM v1 v0), (4, ZN v1 v0), (5, ZO v1 v0), (6, ZC v0 v1), (7, ZG v1 v0), (8, ZH v1 v0), (9, ZJ v0 v1), (10, ZR v1 v0), (11, ZW v1 v0), (12, ZF v0 v1)] : tH)
noncomputable abbrev ZEs (v0 : Nat) (v1 : tE) := ([(9, ZJ v0 v1), (12, ZF v0 v1), (2, ZD v0 v1), (3, ZM v1 v0), (4, ZN v1 v0), (5, ZO v1 v0), (6, ZC v0 v1), (7, ZG v1 v0), (8, ZH v1 v0), (10, ZR v1 v0), (11, ZW v1 v0)] : tH)
theorem TQ (n : Nat) (G : tE) (L : MJ n G (WB n G)) (hn : n ≤ 256) :
  aj Try.prog (.seq (aT [1,1,1,1,1,1,1,1,1,1,1,1,1,0,0] (ak Try.f6)) (.block 4 (.loop (aT [1,1,1,1,1,1,1,1,1,1,1,1,1,0,1,0,0] (ak Try.f6))))) Try.f6.ntmps 13 13 13 (aV [(3, .bool true), (4, ZA 2), (6, sZ n G), (7, Z2 G n), (10, ZA 11), (13, sL 12 n), (14, iT ((zV G 0 : Nat) : Int))]) (hpL (WG n G)) (Nm [(3, .bool true), (4, ZA 2), (6, sZ n G), (7, Z2 G n), (10, ZA 11), (13, sL 12 n), (14, ZDN G n), (15, iT (n : Int))] (WG n G)) := by
 refine aj.bn (K1 := 13) (F1 := [(3, .bool true), (4, ZA 2), (6, sZ n G), (7, Z2 G n), (10, ZA 11), (13, sL 12 n), (14, iT ((zV G 0 : Nat) : Int)), (15, FC)]) (H1 := (WG n G)) (aj.toN ((zcU 13 (by omega) n (ND G n).length (dV n G) (eP n G) (ay 0 (NM G n)) (ay 0 (ND G n)) (ay 0 (BR G n)) (aA (ND G n)) (aA (BR G n)) (kC (bG (aW G n))) ((zV G 0 : Nat) : Int)).uF (by omega) ⟨⟨by omega, fun j hj v hv => List.all_eq_true.1 (show (bQ 6 7 8 n (ND G n).length (BR G n).length).all (fun v => v.low 13) = true from rfl) v hv⟩, ⟨by omega, trivial⟩, ⟨by omega, trivial⟩, ⟨by omega, trivial⟩, ⟨by omega, fun j hj v hv => List.all_eq_true.1 (show (aP (G j)).all (fun v => v.low 13) = true from rfl) v hv⟩, ⟨by omega, fun j hj v hv => List.all_eq_true.1 (show ((aU (aA (ND G n))) j).all (fun v => v.low 13) = true from rfl) v hv⟩, ⟨by omega, fun j hj v hv => List.all_eq_true.1 (show ((aU (aA (BR G n))) j).all (fun v => v.low 13) = true from rfl) v hv⟩, ⟨by omega, fun j hj v hv => List.all_eq_true.1 (show ([AV.iw (dS n G j) (eP n G j)]).all (fun v => v.low 13) = true from rfl) v hv⟩, ⟨by omega, fun j hj v hv => List.all_eq_true.1 (show ((aU (aA (ND G n))) j).all (fun v => v.low 13) = true from rfl) v hv⟩, ⟨by omega, fun j hj v hv => List.all_eq_true.1 (show ([Vh G n, Vj G n]).all (fun v => v.low 13) = true from rfl) v hv⟩, ⟨by omega, fun j hj v hv => List.all_eq_true.1 (show (aP (G j)).all (fun v => v.low 13) = true from rfl) v hv⟩, trivial⟩) ⟨re rfl, re rfl, re rfl, re rfl, re rfl, re rfl, re rfl, ⟨_, rfl, AV.ge.int _ _ _ _⟩, trivial⟩ (gq rfl)) (by omega) ?_
 refine aj.rounds (P := Try.prog) (n := Try.f6.ntmps) (B := 13) (K := 13) (id := 4) n (fun i => [(3, .bool true), (4, ZA 2), (6, sZ n G), (7, Z2 G n), (10, ZA 11), (13, sL 12 n), (14, iT ((zV G i : Nat) : Int)), (15, iT ((i : Nat) : Int))]) (fun _ => (WG n G)) (fun i hi => ?_) ?_
 ·rw [Yx]
  refine aj.bn (K1 := 13) (F1 := [(3, .bool true), (4, ZA 2), (6, sZ n G), (7, Z2 G n), (10, ZA 11), (13, sL 12 n), (14, iT ((zV G i : Nat) : Int)), (15, iT (i : Int))]) (H1 := (WG n G)) (((zcV 13 (by omega) n (ND G n).length (dV n G) i (eP n G) (ay 0 (NM G n)) (ay 0 (ND G n)) (ay 0 (BR G n)) (aA (ND G n)) (aA (BR G n)) (kC (bG (aW G n))) ((zV G i : Nat) : Int)).mono fun e fr' H' hh => ?_).uF (by omega) ⟨⟨by omega, fun j hj v hv => List.all_eq_true.1 (show (bQ 6 7 8 n (ND G n).length (BR G n).length).all (fun v => v.low 13) = true from rfl) v hv⟩, ⟨by omega, trivial⟩, ⟨by omega, trivial⟩, ⟨by omega, trivial⟩, ⟨by omega, fun j hj v hv => List.all_eq_true.1 (show (aP (G j)).all (fun v => v.low 13) = true from rfl) v hv⟩, ⟨by omega, fun j hj v hv => List.all_eq_true.1 (show ((aU (aA (ND G n))) j).all (fun v => v.low 13) = true from rfl) v hv⟩, ⟨by omega, fun j hj v hv => List.all_eq_true.1 (show ((aU (aA (BR G n))) j).all (fun v => v.low 13) = true from rfl) v hv⟩, ⟨by omega, fun j hj v hv => List.all_eq_true.1 (show ([AV.iw (dS n G j) (eP n G j)]).all (fun v => v.low 13) = true from rfl) v hv⟩, ⟨by omega, fun j hj v hv => List.all_eq_true.1 (show ((aU (aA (ND G n))) j).all (fun v => v.low 13) = true from rfl) v hv⟩, ⟨by omega, fun j hj v hv => List.all_eq_true.1 (show ([Vh G n, Vj G n]).all (fun v => v.low 13) = true from rfl) v hv⟩, ⟨by omega, fun j hj v hv => List.all_eq_true.1 (show (aP (G j)).all (fun v => v.low 13) = true from rfl) v hv⟩, trivial⟩) (by omega) ?_
  ·rw [decide_eq_true (by omega), cond_true] at hh
   exact hh
  refine aj.bn (K1 := 13) (F1 := [(3, .bool true), (4, ZA 2), (6, sZ n G), (7, Z2 G n), (10, ZA 11), (13, sL 12 n), (14, iT ((zV G (i + 1) : Nat) : Int)), (15, iT (i : Int))]) (H1 := (WG n G)) (aj.nV ?_) (by omega) (aj.toN ((zcX 13 (by omega) n (ND G n).length (dV n G) i (eP n G) (ay 0 (NM G n)) (ay 0 (ND G n)) (ay 0 (BR G n)) (aA (ND G n)) (aA (BR G n)) (kC (bG (aW G n))) ((zV G (i + 1) : Nat) : Int) (by omega)).uF (by omega) ⟨⟨by omega, fun j hj v hv => List.all_eq_true.1 (show (bQ 6 7 8 n (ND G n).length (BR G n).length).all (fun v => v.low 13) = true from rfl) v hv⟩, ⟨by omega, trivial⟩, ⟨by omega, trivial⟩, ⟨by omega, trivial⟩, ⟨by omega, fun j hj v hv => List.all_eq_true.1 (show (aP (G j)).all (fun v => v.low 13) = true from rfl) v hv⟩, ⟨by omega, fun j hj v hv => List.all_eq_true.1 (show ((aU (aA (ND G n))) j).all (fun v => v.low 13) = true from rfl) v hv⟩, ⟨by omega, fun j hj v hv => List.all_eq_true.1 (show ((aU (aA (BR G n))) j).all (fun v => v.low 13) = true from rfl) v hv⟩, ⟨by omega, fun j hj v hv => List.all_eq_true.1 (show ([AV.iw (dS n G j) (eP n G j)]).all (fun v => v.low 13) = true from rfl) v hv⟩, ⟨by omega, fun j hj v hv => List.all_eq_true.1 (show ((aU (aA (ND G n))) j).all (fun v => v.low 13) = true from rfl) v hv⟩, ⟨by omega, fun j hj v hv => List.all_eq_true.1 (show ([Vh G n, Vj G n]).all (fun v => v.low 13) = true from rfl) v hv⟩, ⟨by omega, fun j hj v hv => List.all_eq_true.1 (show (aP (G j)).all (fun v => v.low 13) = true from rfl) v hv⟩, trivial⟩) ⟨re rfl, re rfl, re rfl, re rfl, re rfl, re rfl, re rfl, ⟨_, rfl, AV.ge.int' _ _ _ (by omega)⟩, trivial⟩ (gq rfl))
  refine aj.gK (fl := [(3, .bool true), (4, ZA 2), (6, sZ n G), (7, Z2 G n), (10, ZA 11), (13, sL 12 n), (14, iT ((zV G i : Nat) : Int)), (15, iT (i : Int))]) (bl := (ZEs n G)) (iD rfl) (gq rfl) ?_
  exact aj.toN (F := [(3, .bool true), (4, ZA 2), (6, sZ n G), (7, Z2 G n), (10, ZA 11), (13, sL 12 n), (14, iT ((zV G (i + 1) : Nat) : Int)), (15, iT (i : Int))]) (H1 := (ZEs n G)) (aj.jR (bl := (TP n G)) (mM := (TP n G)) (xl := [(2, ZD n G), (3, ZM G n), (4, ZN G n), (5, ZO G n), (6, ZC n G), (7, ZG G n), (8, ZH G n), (10, ZR G n), (11, ZW G n)]) (WE n G L i hi hn) (by omega) ⟨⟨by omega, fun j hj v hv => List.all_eq_true.1 (show (bQ 6 7 8 n (ND G n).length (BR G n).length).all (fun v => v.low 13) = true from rfl) v hv⟩, ⟨by omega, trivial⟩, ⟨by omega, trivial⟩, ⟨by omega, trivial⟩, ⟨by omega, fun j hj v hv => List.all_eq_true.1 (show (aP (G j)).all (fun v => v.low 13) = true from rfl) v hv⟩, ⟨by omega, fun j hj v hv => List.all_eq_true.1 (show ((aU (aA (ND G n))) j).all (fun v => v.low 13) = true from rfl) v hv⟩, ⟨by omega, fun j hj v hv => List.all_eq_true.1 (show ((aU (aA (BR G n))) j).all (fun v => v.low 13) = true from rfl) v hv⟩, ⟨by omega, fun j hj v hv => List.all_eq_true.1 (show ((aU (aA (ND G n))) j).all (fun v => v.low 13) = true from rfl) v hv⟩, ⟨by omega, fun j hj v hv => List.all_eq_true.1 (show ([Vh G n, Vj G n]).all (fun v => v.low 13) = true from rfl) v hv⟩, trivial⟩ rfl rfl ⟨.inl rfl, .inl rfl, trivial⟩) (iD rfl) (gq rfl)
 ·rw [Yx]
  refine aj.DY (K1 := 13) (((zcV 13 (by omega) n (ND G n).length (dV n G) n (eP n G) (ay 0 (NM G n)) (ay 0 (ND G n)) (ay 0 (BR G n)) (aA (ND G n)) (aA (BR G n)) (kC (bG (aW G n))) ((zV G n : Nat) : Int)).mono fun e fr' H' hh => ?_).SY (by omega) ⟨⟨by omega, fun j hj v hv => List.all_eq_true.1 (show (bQ 6 7 8 n (ND G n).length (BR G n).length).all (fun v => v.low 13) = true from rfl) v hv⟩, ⟨by omega, trivial⟩, ⟨by omega, trivial⟩, ⟨by omega, trivial⟩, ⟨by omega, fun j hj v hv => List.all_eq_true.1 (show (aP (G j)).all (fun v => v.low 13) = true from rfl) v hv⟩, ⟨by omega, fun j hj v hv => List.all_eq_true.1 (show ((aU (aA (ND G n))) j).all (fun v => v.low 13) = true from rfl) v hv⟩, ⟨by omega, fun j hj v hv => List.all_eq_true.1 (show ((aU (aA (BR G n))) j).all (fun v => v.low 13) = true from rfl) v hv⟩, ⟨by omega, fun j hj v hv => List.all_eq_true.1 (show ([AV.iw (dS n G j) (eP n G j)]).all (fun v => v.low 13) = true from rfl) v hv⟩, ⟨by omega, fun j hj v hv => List.all_eq_true.1 (show ((aU (aA (ND G n))) j).all (fun v => v.low 13) = true from rfl) v hv⟩, ⟨by omega, fun j hj v hv => List.all_eq_true.1 (show ([Vh G n, Vj G n]).all (fun v => v.low 13) = true from rfl) v hv⟩, ⟨by omega, fun j hj v hv => List.all_eq_true.1 (show (aP (G j)).all (fun v => v.low 13) = true from rfl) v hv⟩, trivial⟩) (by omega)
  rw [decide_eq_false (by omega), cond_false] at hh
  exact hh
noncomputable abbrev ZBn (v0 : Nat) (v1 : tE) := (.cells false 7 1 (.fn fun _ => EN 2 3 4 5 6 7 v0 (ND v1 v0).length (BR v1 v0).length) : aF)
noncomputable abbrev ZCA (v0 : tE) (v1 : Nat) := (.cells false 1 ((ND v0 v1).length) (.fn (aU (aA (ND v0 v1)))) : aF)
noncomputable abbrev ZCB (v0 : tE) (v1 : Nat) := (.cells false 1 ((BR v0 v1).length) (.fn (aU (aA (BR v0 v1)))) : aF)
noncomputable abbrev ZC1 (v0 : Nat) (v1 : tE) := (.cells false 8 (v0) (.fn fun j => aP (v1 j)) : aF)
noncomputable abbrev ZEA (v0 : tE) (v1 : Nat) := ([(9, ZE9), (2, ZM v0 v1), (3, ZN v0 v1), (4, ZO v0 v1), (5, ZC1 v1 v0), (6, ZCA v0 v1), (7, ZCB v0 v1), (8, ZBn v1 v0)] : tH)
noncomputable abbrev ZEV (v0 : Nat) (v1 : tE) := ([(3, .bool true), (4, ZA 2), (6, sZ v0 v1), (7, Z2 v1 v0), (10, ZA 11), (14, ZDN v1 v0), (16, ZCW v1 v0 13)] : jU)
noncomputable abbrev ZEt (v0 : Nat) (v1 : tE) := ([(3, .bool true), (4, ZA 2), (6, sZ v0 v1), (7, Z2 v1 v0)] : jU)
theorem TS (n : Nat) (G : tE) (hn : n * 104 ≤ 140737488351232) (hv : ∀ j, j < n → (G j).v < 18446744073709551616) : aj Try.prog (ak Try.f6) Try.f6.ntmps 1 1 15 (bJ [ZE n] 0 .e) (hpL [(0, Zz n G)]) (fun e fr' H' => (e = .ret ∨ e = .normal) ∧ ∃ u, fr'.get 2 = some u ∧ AV.ge u (.bool true)) := by
 rw [show (ak Try.f6) = .seq (aT [0] (ak Try.f6)) (.seq (aT [1,0] (ak Try.f6)) (.seq (aT [1,1,0] (ak Try.f6)) (.seq (aT [1,1,1,0] (ak Try.f6)) (.seq (aT [1,1,1,1,0] (ak Try.f6)) (.seq (aT [1,1,1,1,1,0] (ak Try.f6)) (.seq (aT [1,1,1,1,1,1,0] (ak Try.f6)) (.seq (.seq (aT [1,1,1,1,1,1,1,0,0] (ak Try.f6)) (.block 0 (.loop (aT [1,1,1,1,1,1,1,0,1,0,0] (ak Try.f6))))) (.seq (aT [1,1,1,1,1,1,1,1,0] (ak Try.f6)) (.seq (aT [1,1,1,1,1,1,1,1,1,0] (ak Try.f6)) (.seq (.seq (aT [1,1,1,1,1,1,1,1,1,1,0,0] (ak Try.f6)) (.block 2 (.loop (aT [1,1,1,1,1,1,1,1,1,1,0,1,0,0] (ak Try.f6))))) (.seq (aT [1,1,1,1,1,1,1,1,1,1,1,0] (ak Try.f6)) (.seq (aT [1,1,1,1,1,1,1,1,1,1,1,1,0] (ak Try.f6)) (.seq (.seq (aT [1,1,1,1,1,1,1,1,1,1,1,1,1,0,0] (ak Try.f6)) (.block 4 (.loop (aT [1,1,1,1,1,1,1,1,1,1,1,1,1,0,1,0,0] (ak Try.f6))))) (.seq (aT [1,1,1,1,1,1,1,1,1,1,1,1,1,1,0] (ak Try.f6)) (aT [1,1,1,1,1,1,1,1,1,1,1,1,1,1,1] (ak Try.f6)))))))))))))))) by kernel_rfl]
 refine aj.bn (K1 := 1) (F1 := [(0, ZE n)]) (H1 := [(0, Zz n G)]) (aj.toN (zcA 1 (by omega) n G (eP n G) (ay 0 (NM G n)) (ay 0 (ND G n)) (ay 0 (BR G n)) (aA (ND G n)) (aA (BR G n)) (kC (bG (aW G n)))) ⟨re rfl, trivial⟩ ⟨(Sx.hs rfl), trivial⟩) (by omega) ?_
 refine aj.bn (K1 := 1) (F1 := [(0, ZE n), (3, .bool true)]) (H1 := [(0, Zz n G)]) (aj.toN (zcB 1 (by omega) n G (eP n G) (ay 0 (NM G n)) (ay 0 (ND G n)) (ay 0 (BR G n)) (aA (ND G n)) (aA (BR G n)) (kC (bG (aW G n)))) (iD rfl) ⟨(Sx.hs rfl), trivial⟩) (by omega) ?_
 have hC := zcC 1 (by omega) n G (eP n G) (ay 0 (NM G n)) (ay 0 (ND G n)) (ay 0 (BR G n)) (aA (ND G n)) (aA (BR G n)) (kC (bG (aW G n))) (by omega) (fun j hj => ⟨aQ (zR (G (0 + j))) rfl, by rw [Nat.zero_add]; exact hv j hj⟩) (fun j hj u hu => List.all_eq_true.1 (show (zR (G (0 + j))).all (fun v => v.low 0) = true from rfl) u hu) ⟨⟨fun j hj => aQ _ rfl⟩, fun j hj u hu => List.all_eq_true.1 (sJ 0 _) u hu⟩
 simp only [TK, JX, JY, Nat.zero_add] at hC
 by_cases t : (yU G n).1 = 0
 ·have gd := TI t
  have hn2 := gd.n256
  have hnd := gd.nd
  have L : MJ n G (WB n G) := ML t
  have hq := AU n G hn2
  have hs : jc (dS n G) (dV n G) = (ND G n).length + 1 := L.b
  have hc : dV n G ≤ 33 := L.sn
  have hc0 : 0 < dV n G := L.s0
  have hl0 : 0 < dS n G 0 := L.a 0 hc0
  have hi0 : (rZ (dS n G) (eP n G) [48] (dV n G)) = 0 := L.c
  have hf0 : eP n G 0 0 = [48] := L.c1
  have hg : (aW G n).length + dV n G = (ND G n).length + 1 := L.g
  have hh0 : (aW G n).length + (fB G n).length = zV G n := L.h
  have hmn := MI G n
  have hC2 : aj Try.prog (aT [1,1,0] (ak Try.f6)) Try.f6.ntmps 1 1 10 (aV [(0, ZE n), (3, .bool true)]) (hpL [(0, Zz n G)]) (Nm ZEf [(9, ZE9), (2, ZM G n), (3, ZN G n), (4, ZO G n), (5, Zf n G), (6, Zi G n), (7, Zj G n), (8, .cells true 7 1 (.fn fun _ => EN 2 3 4 5 6 7 n (ND G n).length (BR G n).length))]) := aj.toN (hC.mono fun e fr' H' h => by rw [decide_eq_true t, cond_true] at h; exact h) (iD rfl) ⟨Qk rfl rfl, gq rfl⟩
  refine aj.bn (K1 := 10) (F1 := ZEf) (H1 := (ZEA G n)) (Qj hC2 fun e fr' H' hh => ?_) (by omega) ?_
  ·obtain ⟨rfl, rfl, rfl⟩ := hh
   exact ⟨(ZEA G n), ⟨⟨_, rfl, .inl (dD.refl _)⟩, ⟨_, rfl, .inl (dD.refl _)⟩, ⟨_, rfl, .inl (dD.refl _)⟩, ⟨_, rfl, .inl (dD.refl _)⟩, ⟨_, rfl, .inr ⟨_, _, _, _, rfl, rfl⟩⟩, ⟨_, rfl, .inr ⟨_, _, _, _, rfl, rfl⟩⟩, ⟨_, rfl, .inr ⟨_, _, _, _, rfl, rfl⟩⟩, ⟨_, rfl, .inr ⟨_, _, _, _, rfl, rfl⟩⟩, trivial⟩, rfl, rfl, rfl⟩
  refine aj.bn (K1 := 9) (F1 := (Yp 2)) (H1 := (ZB n G)) ?_ (by omega) ?_
  ·have h0 : aj Try.prog (aT [1,1,1,0] (ak Try.f6)) Try.f6.ntmps 1 10 10 (aV ZEf) (hpL (ZEA G n)) (Nm (Yp 8) [(2, ZM G n), (3, ZN G n), (4, ZO G n), (5, ZC1 n G), (6, ZCA G n), (7, ZCB G n), (8, ZBn n G)]) := (aj.lower (aj.jR (bl := [(9, ZE9)]) (mM := []) (xl := [(2, ZM G n), (3, ZN G n), (4, ZO G n), (5, ZC1 n G), (6, ZCA G n), (7, ZCB G n), (8, ZBn n G)]) (zcD 10 (by omega) (eP n G) (ay 0 (NM G n)) (ay 0 (ND G n)) (ay 0 (BR G n)) (aA (ND G n)) (aA (BR G n)) (kC (bG (aW G n)))) (by omega) ⟨⟨by omega, trivial⟩, ⟨by omega, trivial⟩, ⟨by omega, trivial⟩, ⟨by omega, fun j hj v hv => List.all_eq_true.1 (show (aP (G j)).all (fun v => v.low 10) = true from rfl) v hv⟩, ⟨by omega, fun j hj v hv => List.all_eq_true.1 (show ((aU (aA (ND G n))) j).all (fun v => v.low 10) = true from rfl) v hv⟩, ⟨by omega, fun j hj v hv => List.all_eq_true.1 (show ((aU (aA (BR G n))) j).all (fun v => v.low 10) = true from rfl) v hv⟩, ⟨by omega, fun j hj v hv => List.all_eq_true.1 (show (EN 2 3 4 5 6 7 n (ND G n).length (BR G n).length).all (fun v => v.low 10) = true from rfl) v hv⟩, trivial⟩ rfl rfl trivial) (by omega))
   exact h0.renG fun e fr' H' hh => by
    obtain ⟨rfl, rfl, rfl⟩ := hh
    exact ⟨sgN, (Yp 2), (ZB n G), fun g hg => by (obtain rfl : g = 0 := by omega); rfl, (yX rfl), ⟨JZ rfl rfl rfl (by omega), lW rfl rfl (by omega), lW rfl rfl (by omega), lW rfl rfl (by omega), dX rfl rfl (fun j _ => rfl) (fun j _ => rfl) (by omega), dX rfl rfl (fun j _ => rfl) (fun j _ => rfl) (by omega), dX rfl rfl (fun j _ => rfl) (fun j _ => rfl) (by omega), trivial⟩, fun i j _ _ h => WA i j h, rfl, rfl, rfl⟩
  refine aj.bn (K1 := 10) (F1 := [(3, .bool true), (4, ZA 2), (6, sZ n G)]) (H1 := (ZD8 n G 9)) (TL n G hn2) (by omega) ?_
  refine aj.bn (K1 := 11) (F1 := (ZEt n G)) (H1 := (Yy n G)) (aj.toN (aj.lower (aj.jR (bl := (ZB n G)) (mM := (ZD5 n G)) (xl := [(9, ZJ n G)]) (aj.toN (zcG 10 (by omega) n (ND G n).length (BR G n).length (dV n G) G (eP n G) (ay 0 (NM G n)) (ay 0 (ND G n)) (ay 0 (BR G n)) (aA (ND G n)) (aA (BR G n)) (kC (bG (aW G n))) (by omega) (by omega)) (F' := (ZEt n G)) (Vf := (ZD5 n G)) (iD rfl) ⟨(Sx.hs rfl), (Sx.hs rfl), (Sx.hs rfl), (Sx.hs rfl), (Sx.hs rfl), (Sx.hs rfl), (Sx.hs rfl), ⟨_, rfl, rfl, rfl, rfl, fun j hj => by show [AV.str true (aA (ND G n) (0 + j))] = [AV.str true (aA (ND G n) j)]; rw [Nat.zero_add]⟩, trivial⟩) (by omega) ⟨⟨by omega, fun j hj v hv => List.all_eq_true.1 (show ([AV.iw (dS n G j) (eP n G j)]).all (fun v => v.low 10) = true from rfl) v hv⟩, trivial⟩ rfl rfl ⟨.inr ⟨by omega, _, rfl, fun μ h => h⟩, .inr ⟨by omega, _, rfl, fun μ h => h⟩, .inr ⟨by omega, _, rfl, fun μ h => h⟩, .inr ⟨by omega, _, rfl, fun μ h => h⟩, .inr ⟨by omega, _, rfl, fun μ h => h⟩, .inr ⟨by omega, _, rfl, fun μ h => h⟩, .inr ⟨by omega, _, rfl, fun μ h => h⟩, .inl rfl, trivial⟩) (by omega)) (iD rfl) (gq rfl)) (by omega) ?_
  refine aj.bn (K1 := 11) (F1 := [(3, .bool true), (4, ZA 2), (6, sZ n G), (7, Z2 G n), (8, iT ((jc (dS n G) 0 : Nat) : Int))]) (H1 := (Yy n G)) (aj.lower (aj.toN ((zcH 11 (by omega) (ND G n).length (dV n G) (eP n G) (ay 0 (NM G n)) (ay 0 (ND G n)) (ay 0 (BR G n)) (aA (ND G n)) (aA (BR G n)) (kC (bG (aW G n)))).uF (by omega) ⟨⟨by omega, fun j hj v hv => List.all_eq_true.1 (show (bQ 6 7 8 n (ND G n).length (BR G n).length).all (fun v => v.low 11) = true from rfl) v hv⟩, ⟨by omega, trivial⟩, ⟨by omega, trivial⟩, ⟨by omega, trivial⟩, ⟨by omega, fun j hj v hv => List.all_eq_true.1 (show (aP (G j)).all (fun v => v.low 11) = true from rfl) v hv⟩, ⟨by omega, fun j hj v hv => List.all_eq_true.1 (show ((aU (aA (ND G n))) j).all (fun v => v.low 11) = true from rfl) v hv⟩, ⟨by omega, fun j hj v hv => List.all_eq_true.1 (show ((aU (aA (BR G n))) j).all (fun v => v.low 11) = true from rfl) v hv⟩, ⟨by omega, fun j hj v hv => List.all_eq_true.1 (show ([AV.iw (dS n G j) (eP n G j)]).all (fun v => v.low 11) = true from rfl) v hv⟩, ⟨by omega, fun j hj v hv => List.all_eq_true.1 (show ((aU (aA (ND G n))) j).all (fun v => v.low 11) = true from rfl) v hv⟩, trivial⟩) ⟨re rfl, re rfl, re rfl, re rfl, ⟨_, rfl, AV.ge.int _ _ _ _⟩, trivial⟩ (gq rfl)) (by omega)) (by omega) ?_
  refine aj.bn (K1 := 11) (F1 := [(3, .bool true), (4, ZA 2), (6, sZ n G), (7, Z2 G n), (8, iT ((jc (dS n G) (dV n G) : Nat) : Int))]) (H1 := (ZDc n G)) (aj.lower (aj.toN (TM n G L hnd) (iD rfl) (gq rfl)) (by omega)) (by omega) ?_
  refine aj.bn (K1 := 11) (F1 := (ZEt n G)) (H1 := (ZDc n G)) ?_ (by omega) ?_
  ·refine (aj.lower (aj.jR (bl := [(9, ZJ n G)]) (mM := [(9, ZJ n G)]) (xl := (ZD5 n G)) ((zcM 11 (by omega) (ND G n).length (dV n G) (dS n G) (eP n G) (ay 0 (NM G n)) (ay 0 (ND G n)) (ay 0 (BR G n)) (aA (ND G n)) (aA (BR G n)) (kC (bG (aW G n))) ((jc (dS n G) (dV n G) : Nat) : Int) (by omega) (fun _ => by omega) (fun _ => (fun j hj => ⟨aQ _ rfl, Nat.le_trans (L.ln j) (by decide)⟩)) (fun _ _ => by omega) (fun _ _ => hc0) (fun _ _ => by omega)).mono fun e wX H1 hh => ?_) (by omega) ⟨⟨by omega, fun j hj v hv => List.all_eq_true.1 (show (bQ 6 7 8 n (ND G n).length (BR G n).length).all (fun v => v.low 11) = true from rfl) v hv⟩, ⟨by omega, trivial⟩, ⟨by omega, trivial⟩, ⟨by omega, trivial⟩, ⟨by omega, fun j hj v hv => List.all_eq_true.1 (show (aP (G j)).all (fun v => v.low 11) = true from rfl) v hv⟩, ⟨by omega, fun j hj v hv => List.all_eq_true.1 (show ((aU (aA (ND G n))) j).all (fun v => v.low 11) = true from rfl) v hv⟩, ⟨by omega, fun j hj v hv => List.all_eq_true.1 (show ((aU (aA (BR G n))) j).all (fun v => v.low 11) = true from rfl) v hv⟩, ⟨by omega, fun j hj v hv => List.all_eq_true.1 (show ((aU (aA (ND G n))) j).all (fun v => v.low 11) = true from rfl) v hv⟩, trivial⟩ rfl rfl ⟨.inl rfl, trivial⟩) (by omega))
   rw [MQ, MR, decide_eq_true (show ((jc (dS n G) (dV n G) : Nat) : Int) = ((ND G n).length : Int) + 1 by omega), cond_true, decide_eq_true hi0, cond_true, hf0] at hh
   exact hh
  refine aj.seq (K1 := 12) (by omega) (((aj.lower (aj.jR (bl := []) (mM := [(11, .cells true 2 1 (.lit [] (T.n T.e (Option.some [KQ 0, KQ 0]) T.e)))]) (xl := (ZDc n G)) (zcN 11 (by omega) (ND G n).length (dV n G) (eP n G) (ay 0 (NM G n)) (ay 0 (ND G n)) (ay 0 (BR G n)) (aA (ND G n)) (aA (BR G n)) (kC (bG (aW G n)))) (by omega) ⟨⟨by omega, fun j hj v hv => List.all_eq_true.1 (show ([AV.iw (dS n G j) (eP n G j)]).all (fun v => v.low 11) = true from rfl) v hv⟩, ⟨by omega, fun j hj v hv => List.all_eq_true.1 (show (bQ 6 7 8 n (ND G n).length (BR G n).length).all (fun v => v.low 11) = true from rfl) v hv⟩, ⟨by omega, trivial⟩, ⟨by omega, trivial⟩, ⟨by omega, trivial⟩, ⟨by omega, fun j hj v hv => List.all_eq_true.1 (show (aP (G j)).all (fun v => v.low 11) = true from rfl) v hv⟩, ⟨by omega, fun j hj v hv => List.all_eq_true.1 (show ((aU (aA (ND G n))) j).all (fun v => v.low 11) = true from rfl) v hv⟩, ⟨by omega, fun j hj v hv => List.all_eq_true.1 (show ((aU (aA (BR G n))) j).all (fun v => v.low 11) = true from rfl) v hv⟩, ⟨by omega, fun j hj v hv => List.all_eq_true.1 (show ((aU (aA (ND G n))) j).all (fun v => v.low 11) = true from rfl) v hv⟩, trivial⟩ rfl rfl ⟨.inl rfl, trivial⟩) (by omega)) : aj Try.prog (aT [1,1,1,1,1,1,1,1,1,0] (ak Try.f6)) Try.f6.ntmps 1 11 12 (aV (ZEt n G)) (hpL (ZDc n G)) _).mono fun e fr' H' hh => ?_)
  obtain ⟨rfl, rfl, rfl⟩ := hh
  refine aj.D6 (fl := [(3, .bool true), (4, ZA 2), (6, sZ n G), (7, Z2 G n), (10, ZA 11)]) (bl := (ZEE n G)) (iD rfl) ⟨⟨_, rfl, .inl ⟨rfl, rfl, rfl, fun j _ => aQ _ rfl⟩⟩, ⟨_, rfl, .inr ⟨_, _, _, rfl, rfl⟩⟩, ⟨_, rfl, .inr ⟨_, _, _, rfl, rfl⟩⟩, ⟨_, rfl, .inr ⟨_, _, _, rfl, rfl⟩⟩, ⟨_, rfl, .inl ⟨rfl, rfl, rfl, fun j _ => aQ _ rfl⟩⟩, ⟨_, rfl, .inl ⟨rfl, rfl, rfl, fun j _ => aQ _ rfl⟩⟩, ⟨_, rfl, .inl ⟨rfl, rfl, rfl, fun j _ => aQ _ rfl⟩⟩, ⟨_, rfl, .inl ⟨rfl, rfl, rfl, fun j _ => aQ _ rfl⟩⟩, ⟨_, rfl, .inl ⟨rfl, rfl, rfl, fun j _ => aQ _ rfl⟩⟩, ⟨_, rfl, .inl ⟨rfl, rfl, rfl, fun j hj => by (obtain rfl : j = 0 := by omega); exact ⟨AV.ge.int _ _ _ _, rfl, AV.ge.int _ _ _ _, rfl, trivial⟩⟩⟩, trivial⟩ ?_
  refine aj.bn (K1 := 12) (F1 := [(3, .bool true), (4, ZA 2), (6, sZ n G), (7, Z2 G n), (10, ZA 11)]) (H1 := [(2, ZD n G), (3, ZM G n), (4, ZN G n), (5, ZO G n), (6, ZC n G), (7, ZG G n), (8, ZH G n), (9, ZJ n G), (10, ZR G n), (11, ZW G n)]) (aj.lower (aj.toN (TN n G L hnd) (iD rfl) (gq rfl)) (by omega)) (by omega) ?_
  refine aj.bn (K1 := 13) (F1 := [(3, .bool true), (4, ZA 2), (6, sZ n G), (7, Z2 G n), (10, ZA 11), (13, sL 12 n)]) (H1 := (WG n G)) (aj.toN (aj.lower (aj.jR (bl := (ZB n G)) (mM := [(2, ZD n G), (3, ZM G n), (4, ZN G n), (5, ZO G n), (6, ZC n G), (7, ZG G n), (8, ZH G n), (12, ZF n G)]) (xl := [(9, ZJ n G), (10, ZR G n), (11, ZW G n)]) (aj.toN (zcS 12 (by omega) n (ND G n).length (BR G n).length (dV n G) G (eP n G) (ay 0 (NM G n)) (ay 0 (ND G n)) (ay 0 (BR G n)) (aA (ND G n)) (aA (BR G n)) (kC (bG (aW G n))) (by omega) (by omega)) (F' := [(3, .bool true), (4, ZA 2), (6, sZ n G), (7, Z2 G n), (10, ZA 11), (13, sL 12 n)]) (Vf := [(2, ZD n G), (3, ZM G n), (4, ZN G n), (5, ZO G n), (6, ZC n G), (7, ZG G n), (8, ZH G n), (12, ZF n G)]) (iD rfl) ⟨(Sx.hs rfl), (Sx.hs rfl), (Sx.hs rfl), (Sx.hs rfl), (Sx.hs rfl), (Sx.hs rfl), (Sx.hs rfl), ⟨_, rfl, rfl, rfl, rfl, fun j hj => by show aP (G (0 + j)) = aP (G j); rw [Nat.zero_add]⟩, trivial⟩) (by omega) ⟨⟨by omega, fun j hj v hv => List.all_eq_true.1 (show ([AV.iw (dS n G j) (eP n G j)]).all (fun v => v.low 12) = true from rfl) v hv⟩, ⟨by omega, fun j hj v hv => List.all_eq_true.1 (show ((aU (aA (ND G n))) j).all (fun v => v.low 12) = true from rfl) v hv⟩, ⟨by omega, fun j hj v hv => List.all_eq_true.1 (show ([Vh G n, Vj G n]).all (fun v => v.low 12) = true from rfl) v hv⟩, trivial⟩ rfl rfl ⟨.inr ⟨by omega, _, rfl, fun μ h => h⟩, .inr ⟨by omega, _, rfl, fun μ h => h⟩, .inr ⟨by omega, _, rfl, fun μ h => h⟩, .inr ⟨by omega, _, rfl, fun μ h => h⟩, .inr ⟨by omega, _, rfl, fun μ h => h⟩, .inr ⟨by omega, _, rfl, fun μ h => h⟩, .inr ⟨by omega, _, rfl, fun μ h => h⟩, .inl rfl, trivial⟩) (by omega)) (iD rfl) (gq rfl)) (by omega) ?_
  refine aj.bn (K1 := 13) (F1 := [(3, .bool true), (4, ZA 2), (6, sZ n G), (7, Z2 G n), (10, ZA 11), (13, sL 12 n), (14, iT ((zV G 0 : Nat) : Int))]) (H1 := (WG n G)) (aj.lower (aj.toN ((zcT 13 (by omega) n (ND G n).length (dV n G) (eP n G) (ay 0 (NM G n)) (ay 0 (ND G n)) (ay 0 (BR G n)) (aA (ND G n)) (aA (BR G n)) (kC (bG (aW G n)))).uF (by omega) ⟨⟨by omega, fun j hj v hv => List.all_eq_true.1 (show (bQ 6 7 8 n (ND G n).length (BR G n).length).all (fun v => v.low 13) = true from rfl) v hv⟩, ⟨by omega, trivial⟩, ⟨by omega, trivial⟩, ⟨by omega, trivial⟩, ⟨by omega, fun j hj v hv => List.all_eq_true.1 (show (aP (G j)).all (fun v => v.low 13) = true from rfl) v hv⟩, ⟨by omega, fun j hj v hv => List.all_eq_true.1 (show ((aU (aA (ND G n))) j).all (fun v => v.low 13) = true from rfl) v hv⟩, ⟨by omega, fun j hj v hv => List.all_eq_true.1 (show ((aU (aA (BR G n))) j).all (fun v => v.low 13) = true from rfl) v hv⟩, ⟨by omega, fun j hj v hv => List.all_eq_true.1 (show ([AV.iw (dS n G j) (eP n G j)]).all (fun v => v.low 13) = true from rfl) v hv⟩, ⟨by omega, fun j hj v hv => List.all_eq_true.1 (show ((aU (aA (ND G n))) j).all (fun v => v.low 13) = true from rfl) v hv⟩, ⟨by omega, fun j hj v hv => List.all_eq_true.1 (show ([Vh G n, Vj G n]).all (fun v => v.low 13) = true from rfl) v hv⟩, ⟨by omega, fun j hj v hv => List.all_eq_true.1 (show (aP (G j)).all (fun v => v.low 13) = true from rfl) v hv⟩, trivial⟩) ⟨re rfl, re rfl, re rfl, re rfl, re rfl, re rfl, ⟨_, rfl, AV.ge.int _ _ _ _⟩, trivial⟩ (gq rfl)) (by omega)) (by omega) ?_
  refine aj.bn (K1 := 13) (F1 := [(3, .bool true), (4, ZA 2), (6, sZ n G), (7, Z2 G n), (10, ZA 11), (14, ZDN G n)]) (H1 := (WG n G)) (aj.lower (aj.toN (TQ n G L hn2) (iD rfl) (gq rfl)) (by omega)) (by omega) ?_
  refine aj.bn (K1 := 14) (F1 := (ZEV n G)) (H1 := [(2, ZD n G), (3, ZM G n), (4, ZN G n), (5, ZO G n), (6, ZC n G), (7, ZG G n), (8, ZH G n), (13, ZBk G n), (9, ZJ n G), (10, ZR G n), (11, ZW G n), (12, ZF n G)]) (aj.lower (aj.jR (bl := (ZB n G)) (mM := [(2, ZD n G), (3, ZM G n), (4, ZN G n), (5, ZO G n), (6, ZC n G), (7, ZG G n), (8, ZH G n), (13, ZBk G n)]) (xl := [(9, ZJ n G), (10, ZR G n), (11, ZW G n), (12, ZF n G)]) (aj.toN (zcY 13 (by omega) n (ND G n).length (BR G n).length (dV n G) G (eP n G) (ay 0 (NM G n)) (ay 0 (ND G n)) (ay 0 (BR G n)) (aA (ND G n)) (aA (BR G n)) (kC (bG (aW G n))) ((zV G n : Nat) : Int) hq) (F' := (ZEV n G)) (Vf := [(2, ZD n G), (3, ZM G n), (4, ZN G n), (5, ZO G n), (6, ZC n G), (7, ZG G n), (8, ZH G n), (13, ZBk G n)]) (iD rfl) (gq rfl)) (by omega) ⟨⟨by omega, fun j hj v hv => List.all_eq_true.1 (show ([AV.iw (dS n G j) (eP n G j)]).all (fun v => v.low 13) = true from rfl) v hv⟩, ⟨by omega, fun j hj v hv => List.all_eq_true.1 (show ((aU (aA (ND G n))) j).all (fun v => v.low 13) = true from rfl) v hv⟩, ⟨by omega, fun j hj v hv => List.all_eq_true.1 (show ([Vh G n, Vj G n]).all (fun v => v.low 13) = true from rfl) v hv⟩, ⟨by omega, fun j hj v hv => List.all_eq_true.1 (show (aP (G j)).all (fun v => v.low 13) = true from rfl) v hv⟩, trivial⟩ rfl rfl ⟨.inr ⟨by omega, _, rfl, fun μ h => h⟩, .inr ⟨by omega, _, rfl, fun μ h => h⟩, .inr ⟨by omega, _, rfl, fun μ h => h⟩, .inr ⟨by omega, _, rfl, fun μ h => h⟩, .inr ⟨by omega, _, rfl, fun μ h => h⟩, .inr ⟨by omega, _, rfl, fun μ h => h⟩, .inr ⟨by omega, _, rfl, fun μ h => h⟩, .inl rfl, trivial⟩) (by omega)) (by omega) ?_
  refine aj.gK (fl := (ZEV n G)) (bl := [(2, ZD n G), (3, ZM G n), (4, ZN G n), (5, ZO G n), (6, ZC n G), (7, ZG G n), (8, ZH G n), (11, ZW G n)]) (iD rfl) (gq rfl) ?_
  have hZ := zcZ 1 (by omega) n (ND G n).length (BR G n).length (dV n G) (aW G n).length G (eP n G) (ay 0 (NM G n)) (ay 0 (ND G n)) (ay 0 (BR G n)) (aA (ND G n)) (aA (BR G n)) (kC (bG (aW G n))) (gE (jP (bP G n) (ND G n).length)) (gA (jP (bP G n) (ND G n).length)) ((zV G n : Nat) : Int)
  have eR : aK (Cont.row (.fn fun j => aP (G j))) = G := rfl
  simp only [eR] at hZ
  refine (hZ hq (fun _ => by omega) (fun _ => by omega) (fun _ _ => hq) (fun _ _ => by omega) (fun _ _ => by omega) (fun _ _ => by omega)).mono fun e fr' H' h => ?_
  simp only [decide_true, Bool.and_self, cond_true] at h
  rw [decide_eq_true (show (((aW G n).length : Nat) : Int) = (((ND G n).length : Nat) : Int) + 1 - ((dV n G : Nat) : Int) by omega), cond_true, decide_eq_true (show (((fB G n).length : Nat) : Int) = ((zV G n : Nat) : Int) - (((aW G n).length : Nat) : Int) by omega)] at h
  obtain ⟨rfl, rfl, rfl⟩ := h
  exact ⟨.inl rfl, _, rfl, AV.ge.aaj rfl⟩
 ·refine aj.bn (K1 := 10) (F1 := [(3, .bool true), (4, .iW), (5, ZA 2)]) (H1 := [(2, .cells true 2 1 (.fn fun _ => [iT (yU G n).1, iT (yU G n).2]))]) (aj.toN (hC.mono fun e fr' H' h => by rw [decide_eq_false t, cond_false] at h; exact h) (iD rfl) ⟨Qk rfl rfl, trivial⟩) (by omega) ?_
  refine aj.seq (K1 := 10) (by omega) ((afU 1 (by omega) (eP n G) (ay 0 (NM G n)) (ay 0 (ND G n)) (ay 0 (BR G n)) (aA (ND G n)) (aA (BR G n)) (kC (bG (aW G n))) (yU G n).1 (yU G n).2).mono fun e fr' H' h => ?_)
  revert h
  cases (decide ((yU G n).1 = 0) && (decide ((yU G n).2 = 0) && true)) <;> rintro ⟨rfl, rfl, rfl⟩ <;> exact ⟨.inl rfl, _, rfl, AV.ge.refl _⟩


theorem ads {N : Nat} {μ : MM} {hp : Array Obj} {g sz m : Nat} {c : Cont} {rows : Nat → List AV} (h : bY N μ hp g (.cells false sz m c)) (k : ∀ j, j < m → dQ (c.row j) (rows j)) : bY N μ hp g (.cells false sz m (.fn rows)) := by
 refine ⟨h.1, h.2.1, fun hr => ?_⟩
 obtain ⟨cur, ty, fz, p1, p2, p3, p4⟩ := h.2.2 hr
 exact ⟨cur, ty, fz, p1, p2, p3, fun i hi => fM.ge (p4 i hi) (k i hi)⟩
theorem TT {H : Type} {enc : TypeId × Value → H} {base : Nat} {d0 : DataW H} {p0 : List MemPlace} {wd : World} (v0 : Value) (hv0 : Value.okWide Try.prog wd .any base 42 v0) (h0 : DataW.Trod enc Try.prog wd 0 (fun _ => true) true 42 v0 d0 p0) (z0 : (DataW.weightsEach Try.prog [42] [d0]).all (· ≤ reachBytes) = true) (w' : World) (hw : w' = wd) :
  Calls Try.prog 6 #[v0] wd fun e w' => e = .returned (.bool true) ∧ Below wd.heap.size wd w' := by
 obtain ⟨a0, len0, cap0, rfl⟩ := okWide_slice Try.underlying42 hv0
 obtain ⟨fuel0, hx0⟩ := h0
 obtain ⟨n0, blk0, bs0, c0, hval0, hbk0, hok0, hlen0⟩ := SC (n := 3) (uD := [.int .u8, .str, .str, .str, .str, .str, .int .u64, .int .i64]) (v := .slice a0 len0 cap0) Try.underlying42 (by kernel_rfl) (by kernel_rfl) (by decide) hx0
 have hn0 : n0 * 104 ≤ 140737488351232 := by
  rcases hlen0 with ⟨rfl, _⟩ | ⟨es, sps, e1, e2⟩
  ·omega
  ·dsimp only at e1
   have h := sized_slice z0 (j := 0) (t := 42) (e := 92) (elems := es) (spare := sps) rfl (by rw [← e1]; rfl) Try.underlying42
   rw [show Try.prog.bytesOf 92 = 104 by kernel_rfl, e2] at h
   have hR : reachBytes = 140737488351232 := rfl
   rw [hR] at h
   exact Nat.le_trans (Nat.mul_le_mul_right 104 (Nat.le_add_right n0 sps.length)) h
 have bd : ∀ {x : Value}, (Sh.int .u64).ok x → 0 ≤ Sx.intOf x ∧ Sx.intOf x < 18446744073709551616 := fun {x} h => by
  obtain ⟨n, rfl, hw⟩ := h
  have := bounds_u64 hw
  simp only [Sx.intOf]; omega
 have hg := aak (l := [⟨8, n0, blk0, bs0, fun j => zR ((fun j => (⟨Sx.intOf (c0 j 0), Sx.strOf (c0 j 1), Sx.strOf (c0 j 2), Sx.strOf (c0 j 3), Sx.strOf (c0 j 4), Sx.strOf (c0 j 5), (Sx.intOf (c0 j 6)).toNat, Sx.intOf (c0 j 7)⟩ : El)) j)⟩]) (hp := wd.heap) fun i v hi μ N e1 e2 e3 => by
  match i, hi with
  | 0, hi =>
   cases hi
   refine ads (hbk0 μ 0 N e1 e2 e3) fun j hj => ?_
   have e : (((Sx.intOf (c0 j 6)).toNat : Nat) : Int) = Sx.intOf (c0 j 6) := Int.toNat_of_nonneg (bd (hok0 j hj 6 _ rfl)).1
   show dQ [.int true .u8 (Sx.intOf (c0 j 0)), .str true (Sx.strOf (c0 j 1)), .str true (Sx.strOf (c0 j 2)), .str true (Sx.strOf (c0 j 3)), .str true (Sx.strOf (c0 j 4)), .str true (Sx.strOf (c0 j 5)), .int true .u64 (Sx.intOf (c0 j 6)), iT (Sx.intOf (c0 j 7))] [.int true .u8 (Sx.intOf (c0 j 0)), .str true (Sx.strOf (c0 j 1)), .str true (Sx.strOf (c0 j 2)), .str true (Sx.strOf (c0 j 3)), .str true (Sx.strOf (c0 j 4)), .str true (Sx.strOf (c0 j 5)), .int true .u64 (((Sx.intOf (c0 j 6)).toNat : Nat) : Int), iT (Sx.intOf (c0 j 7))]
   rw [e]
   exact aQ _ rfl
  | i + 1, hi => simp at hi
 exact goes_true Try.func6 rfl (by kernel_rfl) (t := 2) (by kernel_rfl) (TS n0 (fun j => (⟨Sx.intOf (c0 j 0), Sx.strOf (c0 j 1), Sx.strOf (c0 j 2), Sx.strOf (c0 j 3), Sx.strOf (c0 j 4), Sx.strOf (c0 j 5), (Sx.intOf (c0 j 6)).toNat, Sx.intOf (c0 j 7)⟩ : El)) (by omega) (fun j hj => by have := bd (hok0 j hj 6 _ rfl); show (Sx.intOf (c0 j 6)).toNat < 18446744073709551616; omega)) hg (fun B => aal (l := [⟨8, n0, blk0, bs0, fun j => zR ((fun j => (⟨Sx.intOf (c0 j 0), Sx.strOf (c0 j 1), Sx.strOf (c0 j 2), Sx.strOf (c0 j 3), Sx.strOf (c0 j 4), Sx.strOf (c0 j 5), (Sx.intOf (c0 j 6)).toNat, Sx.intOf (c0 j 7)⟩ : El)) j)⟩])) (by simp only [aO]; exact ⟨_, _, rfl, hval0 _ 0 _ (by decide) rfl rfl rfl, rfl⟩)






set_option maxRecDepth 100000 in
theorem law_lifted (os : Os) (started : os.Started) (H : Type) (enc : TypeId × Value → H) :
  ReturnsInHanded {} Try.checked os 6 .any (Rows.graphCountsSpec.pre6 enc Try.prog Try.f6 Rows.graphCountsRow.domain false) (Rows.graphCountsSpec.post enc Try.prog Try.f6 false true false false) := by
 refine returnsInHanded_of_change_sized (C := Try.checked) own started (by kernel_rfl) Try.func6
  (ChangeSpec.witness6 (enc := enc) (C := Try.checked) false ⟨#[], #[.slice none 0 0], []⟩ 8 (by kernel_rfl) (by kernel_rfl) (by kernel_rfl) (by kernel_rfl)) ?_
 intro W base args ds gs before hval0 hW hcnd hsz0 _
 have hval : ∀ (j : Nat) t v, Try.f6.params[j]? = some t → args[j]? = some v → Value.okWide Try.prog W .any base t v := hval0
 have hsz1 : (DataW.weightsEach Try.prog (Try.f6.params.toList ++ Rows.graphCountsSpec.plain.varTypes Try.prog) (ds ++ gs)).all (· ≤ reachBytes) = true := hsz0
 have hsz : (DataW.weightsEach Try.prog [42] (ds ++ gs)).all (· ≤ reachBytes) = true := by
  have e : Try.f6.params.toList ++ Rows.graphCountsSpec.plain.varTypes Try.prog = [42] := by rw [Try.params6]; kernel_rfl
  rw [← e]; exact hsz1
 have hW' := hW
 obtain ⟨p, q, hA0, hV, rfl, hfz, hnd⟩ := hW
 have hA : DataW.TrodAll enc Try.prog W 0 (fun _ => true) true Try.f6.params.toList args.toList ds p := hA0
 rw [Try.params6] at hA hval
 obtain ⟨v0, vs0, d0, ds0, p0, q0, hargs, rfl, rfl, h0, r0⟩ := trodAll_cons hA
 obtain ⟨rfl, rfl, rfl⟩ := trodAll_nil r0
 obtain rfl : args = #[v0] := by cases args; simp_all
 obtain ⟨rfl, rfl⟩ := trodVars_none hV
 rw [List.append_nil] at hsz
 have hk0 := h0
 have hlt0 : ∀ x ∈ p0, x.block < W.heap.size := DataW.TrodAll.lt (trodAll_mk1 h0)
 clear hA0 hval0 hsz0 hsz1
 refine (TT v0 (hval 0 42 v0 rfl rfl) h0 hsz W rfl).mono fun e W' ⟨he, bel⟩ => ?_
 subst he
 exact ⟨_, rfl, _, _, _, [], _, [], hW', trodAll_mk1 (shut_bool Try.underlying4 _), (trodAll_cons_mk (Below.trod laidOut (by kernel_rfl) (of_decide_eq_true (by kernel_rfl)) hk0 bel hlt0) trodAll_mk0), rfl, bel.frame _, fun h => by cases h⟩
theorem TU : Rows.graphCountsRow.holds Try.pinned (OpenSpec.ofChange Rows.graphCountsSpec) :=
 OpenClaim.holds_of_wide 6 Try.f6 rfl rfl rfl rfl rfl rfl rfl ⟨rfl, rfl, rfl, rfl, rfl⟩ rfl rfl rfl rfl rfl (by kernel_rfl) Try.func6 (by kernel_rfl)
  (of_decide_eq_true (by kernel_rfl)) (by unfold Func.isWrapper; first | (rw [if_pos (by decide +kernel)]; kernel_rfl) | (rw [if_neg (by decide +kernel)]; exact ⟨rfl, rfl⟩))
  (fun os started H enc _ => law_lifted os started H enc)
/-- THE STATEMENT -/
theorem graphCounts_proved : Rows.GraphCountsSaid := TU
#print axioms graphCounts_proved
end Go.Proofs.Ytgjdeclenlgaeaa
